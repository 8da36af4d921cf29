/- Proved: entries of one weight run in turn (the walk of the law SchedTurns); no condition. -/
import Derived.Test.YtpdelhipfleniaaSchL
import Derived.Deep.RegionWith
namespace Go.Proofs.Ytpdelhipfleniaa.SchM
open Go.RowKit Go.Maps Go.Proofs.Ytpdelhipfleniaa.Base Go.Proofs.Ytpdelhipfleniaa.SchA Go.Proofs.Ytpdelhipfleniaa.SchB Go.Proofs.Ytpdelhipfleniaa.SchC Go.Proofs.Ytpdelhipfleniaa.SchD Go.Proofs.Ytpdelhipfleniaa.SchE Go.Proofs.Ytpdelhipfleniaa.SchF Go.Proofs.Ytpdelhipfleniaa.SchG Go.Proofs.Ytpdelhipfleniaa.SchH Go.Proofs.Ytpdelhipfleniaa.SchI Go.Proofs.Ytpdelhipfleniaa.SchJ Go.Proofs.Ytpdelhipfleniaa.SchK Go.Proofs.Ytpdelhipfleniaa.SchL
set_option linter.unusedVariables false

theorem TurnsAt.drew {base : Nat} {w : World} {S m i : Nat} (h : TurnsAt base w S m i) : TurnsAt base w.drew S m i := by
  obtain ⟨M, s, e, qv, hs, hd, he⟩ := h
  exact ⟨M, s, e, qv, ⟨hs.blk, hs.map.block rfl, hs.ent, hs.inj, hs.row.drew, hs.bS, hs.bM, hs.bE⟩, hd, he⟩
theorem turns_queue {base : Nat} {w : World} {S m i : Nat} (h : TurnsAt base w S m i) (hb : base ≤ w.heap.size) (hm : m < 16) : Calls Try.prog 12 #[.pointer (some ⟨S, 0, none⟩)] w fun z w' => ∃ g cap, z = .returned (.slice (some ⟨g, 0, none⟩) (m + 1) cap) ∧ Row w.heap.size w' (.slice (some ⟨g, 0, none⟩) (rot m i).length cap) (rot m i) ∧ Below w.heap.size w w' := by
  obtain ⟨M, s, e, qv, hs, hd, he⟩ := h
  refine (queue_calls hs hb (by rw [rot_len]; omega)).mono ?_
  rintro z w' ⟨qv2, rfl, hr, hb'⟩
  rcases Row.form hr with ⟨_, h0⟩ | ⟨g, cap, cur, h0, _⟩
  · have := rot_len m i
    rw [h0] at this
    cases this
  · refine ⟨g, cap, by rw [h0, rot_len], ?_, hb'⟩
    rw [← h0]
    exact hr

set_option maxHeartbeats 4000000 in
set_option maxRecDepth 100000 in
theorem law (x0 x1 : Int) (h0 : 0 ≤ x0) (h0' : x0 ≤ 255) (h1 : 0 ≤ x1) (h1' : x1 ≤ 255) (w : World) :
    Calls Try.prog 3 #[.int .u8 x0, .int .u8 x1] w fun z w' => z = .returned (.bool true) ∧ Below w.heap.size w w' := by
  obtain ⟨m, hm, hm'⟩ : ∃ m : Nat, x0 % 16 ≤ (m : Int) ∧ (m : Int) ≤ x0 % 16 := ⟨(x0 % 16).toNat, by omega, by omega⟩
  obtain ⟨T, hT, hT'⟩ : ∃ T : Nat, x1 % 10 ≤ (T : Int) ∧ (T : Int) ≤ x1 % 10 := ⟨(x1 % 10).toNat, by omega, by omega⟩
  have hm16 : m < 16 := by omega
  have hT10 : T < 10 := by omega
  go_enter Try.func3, Try.ntmps3
  go_wp2_with (first
    | (go_at_call 8; refine (setup_new w (fun _ => ⟨0, 5, 0, 0, true, 0⟩)).mono ?_; rintro z w1 ⟨S, rfl, h1, hB1⟩; have H1 := Aside.mk (And.intro h1 hB1); clear h1 hB1)
    | go_in)
  go_loopw [7] (fun v wr => ∃ j : Nat, j ≤ m + 1 ∧ v = .int .i64 j ∧ Aside (SetUp w.heap.size wr S (fun _ => ⟨0, 5, 0, 0, true, 0⟩) j ∧ Below w.heap.size w wr)) (fun v _ => m + 1 - (intOf v).toNat)
  case atStart => exact ⟨0, Nat.zero_le _, rfl, H1.out⟩
  case round =>
    rename_i wr
    obtain ⟨j, hj, rfl, hE⟩ := hrel
    by_cases hlt : j < m + 1
    · go_wp2_with (first
        | (go_at_call 9; refine (setup_add hE.out.1 hE.out.2.size (by omega) 0 5 (by omega) (by omega) (by omega) (by omega) rfl).mono ?_; rintro z w2 ⟨rfl, h2, hB2⟩; have H2 := Aside.mk (And.intro h2 (hE.out.2.trans hB2)); clear h2 hB2)
        | (go_at_call 10; refine (setup_wake H2.out.1 H2.out.2.size (by omega) rfl).mono ?_; rintro z w3 ⟨rfl, h3, hB3⟩; have H3 := Aside.mk (And.intro h3 (H2.out.2.trans hB3)); clear h3 hB3)
        | go_in)
      exact ⟨⟨j + 1, by omega, by simp, H3.out⟩, by simp [intOf]; omega⟩
    · have HT : Base.Aside (TurnsAt w.heap.size wr S m 0 ∧ Below w.heap.size w wr) := by
        obtain rfl : j = m + 1 := by omega
        exact ⟨turns_start 5 (by omega) (by omega) (fun k => rfl) hE.out.1, hE.out.2⟩
      go_wp2
      go_loopw [8] (fun v wr => ∃ j : Nat, j ≤ T ∧ v = .int .i64 j ∧ Aside (TurnsAt w.heap.size wr S m j ∧ Below w.heap.size w wr)) (fun v _ => T - (intOf v).toNat)
      case atStart => exact ⟨0, Nat.zero_le _, rfl, HT.out⟩
      case round =>
        rename_i wr2
        obtain ⟨j, hj, rfl, hE2⟩ := hrel
        by_cases hlt : j < T
        · have HD := TurnsAt.drew hE2.out.1
          have hne : ((j : Int) % ((m : Int) + 1) != (j : Int) % (1 + x0 % 16)) = false := by
            rw [show (1 + x0 % 16 : Int) = (m : Int) + 1 by omega]
            simp
          go_wp2
          go_region_with (go_at_call 11; refine (turns_tick HD hE2.out.2.size (by omega) (by omega)).mono ?_; rintro z w2 ⟨rfl, h2, hB2⟩; have H2 := Aside.mk (And.intro h2 (hE2.out.2.trans ⟨hB2.os, hB2.tape, hB2.output, hB2.size, hB2.block⟩)); clear h2 hB2)
          all_goals go_wp2
          all_goals exact ⟨⟨j + 1, by omega, by simp, H2.out⟩, by simp [intOf]; omega⟩
        · obtain rfl : j = T := by omega
          go_wp2_with (first
            | (go_at_call 12; refine (turns_queue hE2.out.1 hE2.out.2.size (by omega)).mono ?_; rintro z w2 ⟨g, cap, rfl, h2, hB2⟩; have H2 := Aside.mk (And.intro h2 (hE2.out.2.trans (hB2.mono hE2.out.2.size))); clear h2 hB2)
            | go_in)
          have hc := fun j hj => Row.cell H2.out.1 j hj
          have lt : g < w2.heap.size := by
            rcases Row.form H2.out.1 with ⟨h0, _⟩ | ⟨g', cap', cur', h0, _, h1, _⟩
            · cases h0
            · cases h0
              exact blk_lt h1
          go_loopw [10] (fun v wr => ∃ j : Nat, j ≤ m + 1 ∧ v = .int .i64 j ∧ ∃ n, wr = w2.drewN n) (fun v _ => m + 1 - (intOf v).toNat)
          case atStart => exact ⟨0, Nat.zero_le _, rfl, 0, rfl⟩
          case round =>
            rename_i wr3
            obtain ⟨i, hi, rfl, n, hwr⟩ := hrel
            obtain rfl := hwr
            by_cases hlt : i < m + 1
            · have hcell := hc i (by rw [rot_len]; omega)
              have hget : (rot m j).getD i 0 = ((j : Int) + (i : Int)) % ((m : Int) + 1) := by
                rw [rot, List.getD_eq_getElem?_getD, List.getElem?_map, List.getElem?_range hlt]
                show (((j + i) % (m + 1) : Nat) : Int) = _
                rw [Int.natCast_emod, Int.natCast_add, Int.natCast_add]
                rfl
              rw [hget] at hcell
              have hne : (((j : Int) + (i : Int)) % ((m : Int) + 1) != ((i : Int) + x1 % 10) % (1 + x0 % 16)) = false := by
                rw [show (1 + x0 % 16 : Int) = (m : Int) + 1 by omega, show (i : Int) + x1 % 10 = (j : Int) + i by omega]
                simp
              go_wp2
              go_quiet (fail)
              go_wp2
              exact ⟨⟨i + 1, by omega, by simp, n + _, rfl⟩, by simp [intOf]; omega⟩
            · have hq : ((m : Int) + 1 == 1 + x0 % 16) = true := by
                rw [show (1 + x0 % 16 : Int) = (m : Int) + 1 by omega]
                simp
              go_wp2_with (first
                | (go_at_call 13; refine (awake_calls _).mono ?_; rintro z w4 ⟨rfl, hB4⟩; have H4 := Aside.mk hB4; clear hB4)
                | go_in)
              go_ret
              refine ⟨by first | rfl | (simp; done), H2.out.2.trans ?_⟩
              have h4 := (H4.out).mono (B' := w.heap.size) H2.out.2.size
              exact ⟨h4.os, h4.tape, h4.output, h4.size, h4.block⟩
end Go.Proofs.Ytpdelhipfleniaa.SchM
