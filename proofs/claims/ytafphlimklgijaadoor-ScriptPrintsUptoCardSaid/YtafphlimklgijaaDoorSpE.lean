/- Proved: an act's line, the document's own function (contracts for the law ScriptPrints). -/
import Derived.Test.YtafphlimklgijaaDoorSpD
namespace Go.Proofs.YtafphlimklgijaaDoor.SpE
open Go.RowKit Go.Shelf Go.Proofs.YtafphlimklgijaaDoor.Base Go.Proofs.YtafphlimklgijaaDoor.TdA Go.Proofs.YtafphlimklgijaaDoor.TdB Go.Proofs.YtafphlimklgijaaDoor.TdC Go.Proofs.YtafphlimklgijaaDoor.SpA Go.Proofs.YtafphlimklgijaaDoor.SpP Go.Proofs.YtafphlimklgijaaDoor.SpB Go.Proofs.YtafphlimklgijaaDoor.SpC Go.Proofs.YtafphlimklgijaaDoor.SpD
set_option linter.unusedVariables false
set_option linter.unusedSimpArgs false

theorem told_small (n : Int) (h : smallB n = true) (W : World) : Calls Tryd.prog 16 #[.int .i64 n] W fun e w' => e = .returned (.string ⟨(dec n).toArray⟩) ∧ Below W.heap.size W w' := by
  rw [smallB_iff] at h
  obtain ⟨u, rfl⟩ : ∃ u : Nat, n = u := ⟨n.toNat, by omega⟩
  exact told_calls u (by omega) W (by omega)
set_option maxHeartbeats 2000000 in
set_option maxRecDepth 100000 in
theorem digits_all (w : World) (A : Option Addr) (l c : Nat) (zs : List UInt8) (hz : l = zs.length) (hl : l ≤ 1048576) (hd : SpA.Data w A zs) :
    Calls Tryd.prog 17 #[.slice A l c] w fun e w' => e = .returned (.string ⟨(hexs zs).toArray⟩) ∧ Below w.heap.size w w' := by
  rcases Nat.eq_zero_or_pos l with h0 | h0
  · obtain rfl : zs = [] := List.length_eq_zero_iff.1 (by omega)
    subst h0
    clear hz hl hd
    have hcv := fun W => Lib.run_convert_nil_bytes (P := Tryd.prog) W 22 9 5 0 Tryd.underlying22 Tryd.underlying5 Tryd.underlying9
    go_enter Tryd.func17, Tryd.ntmps17
    go_wp2
    go_loopw [4, 5] (fun v i wr => v = .slice none 0 0 ∧ i = .int .i64 0 ∧ wr = w) (fun _ _ _ => 0)
    case atStart => exact ⟨rfl, rfl, rfl⟩
    case round =>
      obtain ⟨rfl, rfl, hwr⟩ := hrel
      obtain rfl := hwr.symm
      go_wp2
      go_ret
      exact ⟨by first | rfl | (simp; done), Below.refl _ _⟩
  · exact digits_any w A l c zs hz hl hd h0
set_option maxHeartbeats 4000000 in
set_option maxRecDepth 100000 in
theorem bad_what (w : World) (what d a b c : Int) (T : ByteArray) (A : Option Addr) (l cc : Nat) (PA : Option Addr) (pl pc : Nat) (h : what < 0 ∨ 23 ≤ what) :
    Calls Tryd.prog 5 #[.agg #[.int .i64 what, .int .i64 d, .int .i64 a, .int .i64 b, .int .i64 c, .string T, .slice A l cc, .slice PA pl pc]] w fun e w' => e = .returned (.tuple #[.string ⟨#[]⟩, .int .i64 191]) ∧ Below w.heap.size w w' := by
  by_cases h0' : what < 0
  · have d0 : decide (what < 0) = true := decide_eq_true h0'
    have h0 := Base.Aside.mk h0'
    clear h0' h
    go_enter Tryd.func5, Tryd.ntmps5
    go_wp2
    go_quiet (fail)
    go_wp2
    go_ret2
    refine ⟨by first | rfl | (simp; done), ?_⟩
    exact Base.below_drewN (below_alloc (Below.refl w.heap.size w) _) _
  · have d0 : decide (what < 0) = false := decide_eq_false h0'
    have d1 : (23 : Int) ≤ what := by omega
    have e0 := En.start w #[.int .i64 what, .int .i64 d, .int .i64 a, .int .i64 b, .int .i64 c, .string T, .slice A l cc, .slice PA pl pc]
    have hn := names_ref' (w.alloc (.cells #[.int .i64 what, .int .i64 d, .int .i64 a, .int .i64 b, .int .i64 c, .string T, .slice A l cc, .slice PA pl pc] 25)).drew
    have E0 := Base.Aside.mk e0.drew
    clear h0' h e0
    go_enter Tryd.func5, Tryd.ntmps5
    go_wp2
    go_region_with (go_at_call 13; refine hn.mono ?_; rintro z w2 ⟨rfl, hN, hB2⟩; have E2 := Base.Aside.mk (E0.out.step hB2); have C2 := fun i => blk_cell E2.out.blk i; have L2 := E2.out.lt; clear hN hB2)
    all_goals
      go_wp2
      go_ret2
      exact ⟨by first | rfl | (simp; done), E2.out.out⟩
def badF (k : Nat) (d a b c : Int) (T : ByteArray) : Bool := (smallB d && (smallB a && (smallB b && smallB c))) && (plainB T.data.toList && !(k == 0 && d != 0))
set_option maxHeartbeats 8000000 in
set_option maxRecDepth 100000 in
theorem bad_form (w : World) (k : Nat) (d a b c : Int) (T : ByteArray) (A : Option Addr) (l cc : Nat) (PA : Option Addr) (pl pc : Nat) (hT : T.size ≤ 1048576) (hk : k < 23) (h : badF k d a b c T = false) :
    Calls Tryd.prog 5 #[.agg #[.int .i64 k, .int .i64 d, .int .i64 a, .int .i64 b, .int .i64 c, .string T, .slice A l cc, .slice PA pl pc]] w fun e w' => e = .returned (.tuple #[.string ⟨#[]⟩, .int .i64 4]) ∧ Below w.heap.size w w' := by
  have d0 : decide ((k : Int) < 0) = false := decide_eq_false (by omega)
  have d1 : (k : Int) < 23 := by omega
  have e0 := En.start w #[.int .i64 k, .int .i64 d, .int .i64 a, .int .i64 b, .int .i64 c, .string T, .slice A l cc, .slice PA pl pc]
  have hn := names_ref' (w.alloc (.cells #[.int .i64 k, .int .i64 d, .int .i64 a, .int .i64 b, .int .i64 c, .string T, .slice A l cc, .slice PA pl pc] 25)).drew
  have E0 := Base.Aside.mk e0.drew
  have H := Base.Aside.mk h
  clear h e0
  go_enter Tryd.func5, Tryd.ntmps5
  go_upto_region 1 with (fail)
  go_cut [18] from 9 to 18 (fun v wx => v = .bool false ∧ Aside (En w wx #[.int .i64 k, .int .i64 d, .int .i64 a, .int .i64 b, .int .i64 c, .string T, .slice A l cc, .slice PA pl pc]))
  case first =>
    go_region_with (go_at_call 13; refine hn.mono ?_; rintro z w2 ⟨rfl, hN, hB2⟩; have E2 := Base.Aside.mk (E0.out.step hB2); have C2 := fun i => blk_cell E2.out.blk i; have L2 := E2.out.lt; clear hN hB2)
    all_goals
      go_wp2_with fail
      go_meet
      case rel => exact ⟨by rw [decide_eq_false (by omega)], E2.out⟩
  case rest =>
    obtain ⟨rfl, hE⟩ := hcut
    have E1 := Base.Aside.mk hE
    clear hE hn E0
    have C1 := fun i => blk_cell E1.out.blk i
    have L1 := E1.out.lt
    have hs := fun x => small_ref wc x
    have hp := plain_ref wc T hT
    have HSS := Base.Aside.mk (And.intro hs hp)
    clear hs hp
    have fin : ∀ s1 s2 s3 s4 p1 : Bool, smallB d = s1 → smallB a = s2 → smallB b = s3 → smallB c = s4 → plainB T.data.toList = p1 → ((s1 && (s2 && (s3 && s4))) && (p1 && !(k == 0 && d != 0))) = false := by
      intro s1 s2 s3 s4 p1 h1 h2 h3 h4 h5
      have := H.out
      unfold badF at this
      rw [h1, h2, h3, h4, h5] at this
      exact this
    have FIN := Base.Aside.mk fin
    clear fin
    rcases S0 : smallB d with _ | _
    · go_wp2_with (first
        | (go_at_call 14; refine (HSS.out.1 _).mono ?_; rintro z w3 ⟨rfl, hw3⟩; obtain rfl := hw3.symm)
        | (go_at_call 15; refine HSS.out.2.mono ?_; rintro z w4 ⟨rfl, hw4⟩; obtain rfl := hw4.symm)
        | go_in)
      go_ret2
      exact ⟨by first | rfl | (simp; done), E1.out.out.out⟩
    · rcases S1 : smallB a with _ | _
      · go_wp2_with (first
          | (go_at_call 14; refine (HSS.out.1 _).mono ?_; rintro z w3 ⟨rfl, hw3⟩; obtain rfl := hw3.symm)
          | (go_at_call 15; refine HSS.out.2.mono ?_; rintro z w4 ⟨rfl, hw4⟩; obtain rfl := hw4.symm)
          | go_in)
        go_ret2
        exact ⟨by first | rfl | (simp; done), E1.out.out.out⟩
      · rcases S2 : smallB b with _ | _
        · go_wp2_with (first
            | (go_at_call 14; refine (HSS.out.1 _).mono ?_; rintro z w3 ⟨rfl, hw3⟩; obtain rfl := hw3.symm)
            | (go_at_call 15; refine HSS.out.2.mono ?_; rintro z w4 ⟨rfl, hw4⟩; obtain rfl := hw4.symm)
            | go_in)
          go_ret2
          exact ⟨by first | rfl | (simp; done), E1.out.out.out⟩
        · rcases S3 : smallB c with _ | _
          · go_wp2_with (first
              | (go_at_call 14; refine (HSS.out.1 _).mono ?_; rintro z w3 ⟨rfl, hw3⟩; obtain rfl := hw3.symm)
              | (go_at_call 15; refine HSS.out.2.mono ?_; rintro z w4 ⟨rfl, hw4⟩; obtain rfl := hw4.symm)
              | go_in)
            go_ret2
            exact ⟨by first | rfl | (simp; done), E1.out.out.out⟩
          · rcases S4 : plainB T.data.toList with _ | _
            · go_wp2_with (first
                | (go_at_call 14; refine (HSS.out.1 _).mono ?_; rintro z w3 ⟨rfl, hw3⟩; obtain rfl := hw3.symm)
                | (go_at_call 15; refine HSS.out.2.mono ?_; rintro z w4 ⟨rfl, hw4⟩; obtain rfl := hw4.symm)
                | go_in)
              go_ret2
              exact ⟨by first | rfl | (simp; done), E1.out.out.out⟩
            · have HH : k = 0 ∧ d ≠ 0 := by
                have := FIN.out true true true true true S0 S1 S2 S3 S4
                simpa using this
              obtain ⟨rfl, hd⟩ := HH
              have hd0 : (d == 0) = false := by simpa using hd
              clear hd
              go_wp2_with (first
                | (go_at_call 14; refine (HSS.out.1 _).mono ?_; rintro z w3 ⟨rfl, hw3⟩; obtain rfl := hw3.symm)
                | (go_at_call 15; refine HSS.out.2.mono ?_; rintro z w4 ⟨rfl, hw4⟩; obtain rfl := hw4.symm)
                | go_in)
              go_ret2
              exact ⟨by first | rfl | (simp; done), E1.out.out.out⟩
end Go.Proofs.YtafphlimklgijaaDoor.SpE
