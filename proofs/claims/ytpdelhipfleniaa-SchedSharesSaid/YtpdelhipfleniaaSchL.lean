/- Proved: the program computes at all (the scheduler's laws end with this call); no condition. -/
import Derived.Test.YtpdelhipfleniaaSchK
namespace Go.Proofs.Ytpdelhipfleniaa.SchL
open Go.RowKit Go.Maps Go.Proofs.Ytpdelhipfleniaa.Base Go.Proofs.Ytpdelhipfleniaa.SchA Go.Proofs.Ytpdelhipfleniaa.SchB Go.Proofs.Ytpdelhipfleniaa.SchC Go.Proofs.Ytpdelhipfleniaa.SchD Go.Proofs.Ytpdelhipfleniaa.SchE Go.Proofs.Ytpdelhipfleniaa.SchF Go.Proofs.Ytpdelhipfleniaa.SchG Go.Proofs.Ytpdelhipfleniaa.SchH Go.Proofs.Ytpdelhipfleniaa.SchI Go.Proofs.Ytpdelhipfleniaa.SchJ Go.Proofs.Ytpdelhipfleniaa.SchK
set_option linter.unusedVariables false

theorem turns_ticks {base : Nat} {w : World} {S m i : Nat} (h : TurnsAt base w S m i) : Calls Try.prog 15 #[.pointer (some ⟨S, 0, none⟩)] w fun z w' => z = .returned (.int .i64 i) ∧ w' = w := by
  obtain ⟨M, s, e, qv, hs, hd, he⟩ := h
  exact ticks_calls hs

set_option maxHeartbeats 4000000 in
set_option maxRecDepth 100000 in
theorem awake_calls (w : World) : Calls Try.prog 13 #[] w fun z w' => z = .returned (.bool true) ∧ Below w.heap.size w w' := by
  go_enter Try.func13, Try.ntmps13
  go_wp2_with (first
    | (go_at_call 8; refine (setup_new w (fun _ => ⟨0, 1, 0, 0, true, 0⟩)).mono ?_; rintro z w1 ⟨S, rfl, h1, hB1⟩; have H1 := Aside.mk (And.intro h1 hB1); clear h1 hB1)
    | (go_at_call 9; refine (setup_add H1.out.1 H1.out.2.size (by omega) 0 1 (by omega) (by omega) (by omega) (by omega) rfl).mono ?_; rintro z w2 ⟨rfl, h2, hB2⟩; have H2 := Aside.mk (And.intro h2 (H1.out.2.trans hB2)); clear h2 hB2)
    | (go_at_call 10; refine (setup_wake H2.out.1 H2.out.2.size (by omega) rfl).mono ?_; rintro z w3 ⟨rfl, h3, hB3⟩; have H3 := Aside.mk (And.intro (turns_start (m := 0) 1 (by omega) (by omega) (fun k => rfl) h3) (H2.out.2.trans hB3)); clear h3 hB3)
    | (go_at_call 11; refine (turns_tick H3.out.1 H3.out.2.size (by omega) (by omega)).mono ?_; rintro z w4 ⟨rfl, h4, hB4⟩; have H4 := Aside.mk (And.intro h4 (H3.out.2.trans hB4)); clear h4 hB4)
    | (go_at_call 15; refine (turns_ticks H4.out.1).mono ?_; rintro z w5 ⟨rfl, hw5⟩; obtain rfl := hw5.symm)
    | go_in)
  go_goals
  go_ret
  exact ⟨by first | rfl | (simp; done), H4.out.2⟩
end Go.Proofs.Ytpdelhipfleniaa.SchL
