/- Proved: all ticks are somebody's; credits stay within bounds (the walk of the law SchedShares). -/
import Derived.Test.YtpdelhipfleniaaSchN
namespace Go.Proofs.Ytpdelhipfleniaa.SchO
open Go.RowKit Go.Maps Go.Proofs.Ytpdelhipfleniaa.Base Go.Proofs.Ytpdelhipfleniaa.SchA Go.Proofs.Ytpdelhipfleniaa.SchB Go.Proofs.Ytpdelhipfleniaa.SchC Go.Proofs.Ytpdelhipfleniaa.SchD Go.Proofs.Ytpdelhipfleniaa.SchE Go.Proofs.Ytpdelhipfleniaa.SchF Go.Proofs.Ytpdelhipfleniaa.SchG Go.Proofs.Ytpdelhipfleniaa.SchH Go.Proofs.Ytpdelhipfleniaa.SchI Go.Proofs.Ytpdelhipfleniaa.SchJ Go.Proofs.Ytpdelhipfleniaa.SchK Go.Proofs.Ytpdelhipfleniaa.SchL Go.Proofs.Ytpdelhipfleniaa.SchN
set_option linter.unusedVariables false

def fS (z : List Int) (k : Nat) : V := ⟨(k : Int) % 8, 1 + z.getD k 0 % 1024, 0, 0, true, 0⟩

set_option maxHeartbeats 8000000 in
set_option maxRecDepth 100000 in
theorem law (A : Option Addr) (L C : Nat) (z : List Int) (x1 : Int) (h1 : 0 ≤ x1) (h1' : x1 ≤ 255) (w : World)
    (hA : (A = none ∧ L = 0 ∧ C = 0) ∨ ∃ x, A = some x ∧ L ≤ C ∧ C ≤ maxLen ∧ (∀ i, i < L → w.cell? (x.add i) = some (.int .u16 (z.getD i 0)))) (hz : ∀ i, i < L → 0 ≤ z.getD i 0 ∧ z.getD i 0 ≤ 65535) :
    Calls Try.prog 4 #[.slice A L C, .int .u8 x1] w fun z w' => z = .returned (.bool true) ∧ Below w.heap.size w w' := by
  obtain ⟨n, hn, hn'⟩ : ∃ n : Nat, min (L : Int) 16 ≤ (n : Int) ∧ (n : Int) ≤ min (L : Int) 16 := ⟨min L 16, by omega, by omega⟩
  obtain ⟨T, hT, hT'⟩ : ∃ T : Nat, x1 % 201 ≤ (T : Int) ∧ (T : Int) ≤ x1 % 201 := ⟨(x1 % 201).toNat, by omega, by omega⟩
  have hn16 : n ≤ 16 := by omega
  have hT200 : T ≤ 200 := by omega
  have HA := Aside.mk hA
  clear hA
  go_enter Try.func4, Try.ntmps4
  go_wp2_with (first
    | (go_at_call 8; refine (setup_new w (fS z)).mono ?_; rintro z w1 ⟨S, rfl, h1, hB1⟩; have H1 := Aside.mk (And.intro h1 hB1); clear h1 hB1)
    | go_in)
  go_loopw [7] (fun v wr => ∃ j : Nat, j ≤ n ∧ v = .int .i64 j ∧ Aside (SetUp w.heap.size wr S (fS z) j ∧ Below w.heap.size w wr)) (fun v _ => n - (intOf v).toNat)
  case atStart => exact ⟨0, Nat.zero_le _, rfl, H1.out⟩
  case round =>
    rename_i wr
    obtain ⟨j, hj, rfl, hE⟩ := hrel
    by_cases hlt : j < n
    · obtain ⟨x, rfl, hLC, hCm, hcells⟩ : ∃ x, A = some x ∧ L ≤ C ∧ C ≤ maxLen ∧ (∀ i, i < L → w.cell? (x.add i) = some (.int .u16 (z.getD i 0))) := by
        rcases HA.out with ⟨_, h0, _⟩ | h
        · omega
        · exact h
      have hcell := cell_below hE.out.2 (hcells j (by omega))
      have hzj := hz j (by omega)
      generalize hf : z.getD j 0 = y at hcell hzj
      have hfS : fS z j = ⟨(j : Int) % 8, 1 + y % 1024, 0, 0, true, 0⟩ := by rw [fS, hf]
      go_wp2_with (first
        | (go_at_call 9; refine (setup_add hE.out.1 hE.out.2.size (by omega) _ _ (by omega) (by omega) (by omega) (by omega) hfS).mono ?_; rintro z w2 ⟨rfl, h2, hB2⟩; have H2 := Aside.mk (And.intro h2 (hE.out.2.trans hB2)); clear h2 hB2)
        | (go_at_call 10; refine (setup_wake H2.out.1 H2.out.2.size (by omega) (by rw [hfS])).mono ?_; rintro z w3 ⟨rfl, h3, hB3⟩; have H3 := Aside.mk (And.intro h3 (H2.out.2.trans hB3)); clear h3 hB3)
        | go_in)
      exact ⟨⟨j + 1, by omega, by simp, H3.out⟩, by simp [intOf]; omega⟩
    · have HT : Base.Aside (SharesAt w.heap.size wr S n 0 ∧ Below w.heap.size w wr) := by
        obtain rfl : j = n := by omega
        exact ⟨shares_start (fun k hk => by have := hz k (by omega); refine ⟨?_, ?_, rfl, rfl, rfl⟩ <;> (simp only [fS]; omega)) hE.out.1, hE.out.2⟩
      go_wp2
      go_loopw [11] (fun v wr => ∃ (j : Nat) (W2 : World), wr = W2 ∧ j ≤ T ∧ v = .int .i64 j ∧ Aside (SharesAt w.heap.size W2 S n j ∧ Below w.heap.size w W2)) (fun v _ => T - (intOf v).toNat)
      case atStart => exact ⟨0, _, rfl, Nat.zero_le _, rfl, HT.out⟩
      case round =>
        obtain ⟨j, wr2, hwr2, hj, rfl, hE2⟩ := hrel
        obtain rfl := hwr2.symm
        by_cases hlt : j < T
        · by_cases hn0 : 0 < n
          · have d2 : decide (0 < min (L : Int) 16) = true := decide_eq_true (by omega)
            go_wp2_with (first
              | (go_at_call 11; refine (shares_tick hE2.out.1 hE2.out.2.size (by omega) (by omega)).mono ?_; rintro z w2 ⟨r, rfl, hr, h2, hB2⟩; have H2 := Aside.mk (And.intro h2 (hE2.out.2.trans hB2)); clear h2 hB2; rw [decide_eq_true hn0] at hr)
              | go_in)
            exact ⟨⟨j + 1, _, rfl, by omega, by simp, H2.out⟩, by simp [intOf]; omega⟩
          · have d2 : decide (0 < min (L : Int) 16) = false := decide_eq_false (by omega)
            go_wp2_with (first
              | (go_at_call 11; refine (shares_tick hE2.out.1 hE2.out.2.size (by omega) (by omega)).mono ?_; rintro z w2 ⟨r, rfl, hr, h2, hB2⟩; have H2 := Aside.mk (And.intro h2 (hE2.out.2.trans hB2)); clear h2 hB2; rw [decide_eq_false hn0] at hr)
              | go_in)
            exact ⟨⟨j + 1, _, rfl, by omega, by simp, H2.out⟩, by simp [intOf]; omega⟩
        · have HT2 : Base.Aside (SharesAt w.heap.size wr2 S n T ∧ Below w.heap.size w wr2) := by
            obtain rfl : j = T := by omega
            exact ⟨hE2.out⟩
          obtain ⟨M, s, e, qv, q, hs, hd, hl, hm, hP, hsum⟩ := HT2.out.1
          have hle := sumR_le (fun k hk => (hP k hk).2.2.2.2.2.1) (e := e) (n := n)
          have hmin : (min n 1 * T : Nat) ≤ T := by
            have : min n 1 ≤ 1 := Nat.min_le_right _ _
            calc min n 1 * T ≤ 1 * T := Nat.mul_le_mul_right _ this
              _ = T := Nat.one_mul T
          have HSum := Aside.mk hsum
          have hsn : sumR e n ≤ 200 := by rw [hsum]; omega
          clear hsum
          go_wp2
          go_loopw [12, 13] (fun a v wr => ∃ k : Nat, k ≤ n ∧ v = .int .i64 k ∧ a = .int .i64 (sumR e k) ∧ Aside (Below wr2.heap.size wr2 wr)) (fun _ v _ => n - (intOf v).toNat)
          case atStart => exact ⟨0, Nat.zero_le _, rfl, rfl, Below.refl _ _⟩
          case round =>
            obtain ⟨k, hk, rfl, rfl, hE3⟩ := hrel
            have hk1 := hle k hk
            by_cases hlt3 : k < n
            · obtain ⟨g, hg⟩ := some_of hd hlt3
              have hPk := hP k hlt3
              unfold Pv at hPk
              go_wp2_with (first
                | (go_at_call 14; refine (vcpu_calls (hs.below hE3.out) k g (by omega) hg).mono ?_; rintro z w4 ⟨rfl, hB4⟩; simp only [vcells]; have H4 := Aside.mk (below_step hE3.out hB4); clear hB4)
                | go_in)
              exact ⟨⟨k + 1, by omega, by simp, rfl, below_alloc H4.out _⟩, by simp [intOf]; omega⟩
            · have hkn : k = n := by omega
              subst hkn
              have d3 : (sumR e k == wrap64 (min (L : Int) (min 16 1) * (x1 % 201))) = true := by
                have e2 : wrap64 (min (L : Int) (min 16 1) * (x1 % 201)) = ((min k 1 * T : Nat) : Int) := by
                  rw [show min (L : Int) (min 16 1) = ((min k 1 : Nat) : Int) by omega, show x1 % 201 = (T : Int) by omega, ← Int.natCast_mul]
                  unfold wrap64
                  omega
                rw [e2, HSum.out]
                simp
              have d4 : ((T : Int) == x1 % 201) = true := by
                rw [show x1 % 201 = (T : Int) by omega]
                simp
              go_wp2_with (first
                | (go_at_call 15; refine (ticks_calls (hs.below hE3.out)).mono ?_; rintro z w5 ⟨rfl, hw5⟩; obtain rfl := hw5.symm)
                | (go_at_call 13; refine (awake_calls _).mono ?_; rintro z w6 ⟨rfl, hB6⟩; have H6 := Aside.mk (below_step hE3.out hB6); clear hB6)
                | go_in)
              go_ret
              exact ⟨by first | rfl | (simp; done), below_step HT2.out.2 H6.out⟩
end Go.Proofs.Ytpdelhipfleniaa.SchO
