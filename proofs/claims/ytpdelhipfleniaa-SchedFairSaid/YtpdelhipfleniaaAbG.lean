/- Proved: both schedulers tell the same entries and queue where they hold the same (contracts for the laws of the scheduler). -/
import Derived.Test.YtpdelhipfleniaaAbE
import Derived.Deep.RegionWith
namespace Go.Proofs.Ytpdelhipfleniaa.AbG
open Go.RowKit Go.Maps Go.Proofs.Ytpdelhipfleniaa.Base Go.Proofs.Ytpdelhipfleniaa.SchA Go.Proofs.Ytpdelhipfleniaa.PlB Go.Proofs.Ytpdelhipfleniaa.PlC Go.Proofs.Ytpdelhipfleniaa.PlD Go.Proofs.Ytpdelhipfleniaa.PlE Go.Proofs.Ytpdelhipfleniaa.PlF Go.Proofs.Ytpdelhipfleniaa.PlG Go.Proofs.Ytpdelhipfleniaa.PlH Go.Proofs.Ytpdelhipfleniaa.PlI Go.Proofs.Ytpdelhipfleniaa.PlJ Go.Proofs.Ytpdelhipfleniaa.PlK Go.Proofs.Ytpdelhipfleniaa.PlL Go.Proofs.Ytpdelhipfleniaa.RfA Go.Proofs.Ytpdelhipfleniaa.RfB Go.Proofs.Ytpdelhipfleniaa.RfC Go.Proofs.Ytpdelhipfleniaa.RfD Go.Proofs.Ytpdelhipfleniaa.RfE Go.Proofs.Ytpdelhipfleniaa.RfF Go.Proofs.Ytpdelhipfleniaa.RfG Go.Proofs.Ytpdelhipfleniaa.RfH Go.Proofs.Ytpdelhipfleniaa.AbA Go.Proofs.Ytpdelhipfleniaa.AbB Go.Proofs.Ytpdelhipfleniaa.AbC Go.Proofs.Ytpdelhipfleniaa.AbD Go.Proofs.Ytpdelhipfleniaa.AbE
set_option linter.unusedVariables false

set_option maxHeartbeats 2000000 in
set_option maxRecDepth 100000 in
theorem ints_calls {b1 b2 : Nat} {w : World} {qa qb : Value} {q : List Int} (ha : Row b1 w qa q) (hb : Row b2 w qb q) (hl : q.length ≤ 1000) :
    Calls Try.prog 37 #[qa, qb] w fun z w' => z = .returned (.bool true) ∧ ∃ n, w' = w.drewN n := by
  obtain ⟨a, cap, rfl, hca⟩ := ref_row (row_low ha)
  obtain ⟨b, cap2, rfl, hcb⟩ := ref_row (row_low hb)
  clear ha hb
  go_enter Try.func37, Try.ntmps37
  go_wp2
  go_loopw [5] (fun i wr => ∃ k : Nat, k ≤ q.length ∧ i = .int .i64 k ∧ ∃ n, wr = w.drewN n) (fun i _ => q.length - (intOf i).toNat)
  case atStart => exact ⟨0, Nat.zero_le _, rfl, 0, rfl⟩
  case round =>
    obtain ⟨k, hk, rfl, n, hwr⟩ := hrel
    obtain rfl := hwr
    by_cases hlt : k < q.length
    · obtain ⟨g, rfl, lt, hcell⟩ := hca k hlt
      obtain ⟨g2, rfl, lt2, hcell2⟩ := hcb k hlt
      go_wp2
      go_quiet (fail)
      go_wp2
      exact ⟨⟨k + 1, by omega, by simp, n + _, rfl⟩, by simp [intOf]; omega⟩
    · go_wp2
      go_ret
      exact ⟨by first | rfl | (simp; done), n, rfl⟩

section
variable {B X F : Nat → Prop} {w : World} {S R : Nat} {σ τ : St}
theorem sTicks (h : Sst X F w S σ) : Calls Try.prog 15 #[.pointer (some ⟨S, 0, none⟩)] w fun z w' => z = .returned (.int .i64 σ.t) ∧ w' = w := by
  obtain ⟨M, s, c, qv, hS, hp, hc, hF⟩ := id h
  exact ticks_calls hS
theorem sQueue (h : Sst X F w S σ) (hi : Inv σ) : Calls Try.prog 12 #[.pointer (some ⟨S, 0, none⟩)] w fun z w' => ∃ qv2, z = .returned qv2 ∧ Row w.heap.size w' qv2 σ.q ∧ Below w.heap.size w w' := by
  obtain ⟨M, s, c, qv, hS, hp, hc, hF⟩ := id h
  have := hi.len
  exact queue_calls hS (by omega)
/-- An entry, or none: both tell the same. -/
theorem pVcpu (σ : St) (hi : Inv σ) (n : Int) (n1 : -9223372036854775808 ≤ n) (n2 : n ≤ 9223372036854775807) : ∃ (v : V) (c : Int),
    (v = (if isn σ.p n then σ.e n.toNat else zeroV) ∧ c = (if isn σ.p n then 0 else 6)) ∧
    (∀ (B : Nat → Prop) (w : World) (S R : Nat) (τ : St), Pair B w S R σ τ → Calls Try.prog 14 #[.pointer (some ⟨S, 0, none⟩), .int .i64 n] w fun z w' => z = .returned (.tuple #[.agg #[.int .i64 v.dom, .int .i64 v.weight, .int .i64 v.cap, .int .i64 v.credit, .bool v.ready, .int .i64 v.ran], .int .i64 c]) ∧ Below w.heap.size w w') ∧
    (∀ (B : Nat → Prop) (w : World) (S R : Nat) (τ : St), Pair B w S R τ σ → Calls Try.prog 36 #[.pointer (some ⟨R, 0, none⟩), .int .i64 n] w fun z w' => z = .returned (.tuple #[.agg #[.int .i64 v.dom, .int .i64 v.weight, .int .i64 v.cap, .int .i64 v.credit, .bool v.ready, .int .i64 v.ran], .int .i64 c]) ∧ Below w.heap.size w w') :=
  ⟨_, _, ⟨rfl, rfl⟩, fun B w S R τ ⟨_, F1, F2, h1, h2⟩ => sVcpu h1 hi n n1 n2, fun B w S R τ ⟨_, F1, F2, h1, h2⟩ => rVcpu h2 n⟩

set_option maxHeartbeats 4000000 in
set_option maxRecDepth 100000 in
theorem same_calls (h : Pair B w S R σ σ) (hi : Inv σ) :
    Calls Try.prog 21 #[.pointer (some ⟨S, 0, none⟩), .pointer (some ⟨R, 0, none⟩)] w fun z w' => z = .returned (.bool true) ∧ Below w.heap.size w w' := by
  have H := Aside.mk h
  clear h
  go_enter Try.func21, Try.ntmps21
  go_wp2
  go_loopw [5] (fun v wr => ∃ (i : Int) (W2 : World), -1 ≤ i ∧ i ≤ 17 ∧ v = .int .i64 i ∧ wr = W2 ∧ Below w.heap.size w W2) (fun v _ => (17 - intOf v).toNat)
  case atStart => exact ⟨-1, w, by omega, by omega, rfl, rfl, Below.refl _ _⟩
  case round =>
    obtain ⟨i, W2, h1, h2, rfl, hwr, hbel⟩ := hrel
    obtain rfl := hwr.symm
    have hP := H.out.kept hbel
    by_cases hlt : i ≤ 16
    · have hd : (decide (i ≤ 16)) = true := decide_eq_true hlt
      obtain ⟨v, c, -, hs, hr⟩ := pVcpu σ hi i (by omega) (by omega)
      have hs2 := hs _ _ _ _ _ hP
      go_wp2_with (first
        | (go_at_call 14; refine hs2.mono ?_; rintro z w3 ⟨rfl, hB3⟩; have hr2 := hr _ _ _ _ _ ((hP.kept hB3).kept (Below.alloc (Below.refl _ _) (Nat.le_refl _) (.cells #[.int .i64 v.dom, .int .i64 v.weight, .int .i64 v.cap, .int .i64 v.credit, .bool v.ready, .int .i64 v.ran] 36))); have H3 := Aside.mk (hbel.trans (hB3.mono hbel.size)); clear hB3)
        | (go_at_call 36; refine hr2.mono ?_; rintro z w4 ⟨rfl, hB4⟩; have H4 := Aside.mk (below_step (below_alloc H3.out _) hB4); have hN3 := blk_below (blk_new w3 (.cells #[.int .i64 v.dom, .int .i64 v.weight, .int .i64 v.cap, .int .i64 v.credit, .bool v.ready, .int .i64 v.ran] 36)) (blk_lt (blk_new w3 _)) hB4; have C3 := fun i => blk_cell hN3 i; have L3 := blk_lt hN3; clear hB4 hN3)
        | go_in)
      refine ⟨⟨i + 1, _, by omega, by omega, by simp, rfl, below_alloc H4.out _⟩, ?_⟩
      simp [intOf]
      omega
    · obtain rfl : i = 17 := by omega
      obtain ⟨hO, F1, F2, hS, hR⟩ := Pair.drew hP
      obtain ⟨L, cs, qv, hR2, hF⟩ := id hR
      obtain ⟨a, cap, hqv, hca⟩ := ref_row hR2.row
      have C0 := fun i => blk_cell hR2.blk i
      have L0 := blk_lt hR2.blk
      subst hqv
      have hl := hi.len
      have hrow := hR2.row
      have HB := Aside.mk hbel
      go_wp2
      go_region_with (first
        | (go_at_call 15; refine (sTicks hS).mono ?_; rintro z w3 ⟨rfl, hw3⟩; obtain rfl := hw3.symm)
        | (go_at_call 12; refine (sQueue hS hi).mono ?_; rintro z w4 ⟨qv2, rfl, hrow2, hB4⟩; have hR4 := hR2.below hB4; have C4 := fun i => blk_cell hR4.blk i; have L4 := blk_lt hR4.blk; have hrow4 := hR4.row; have HB4 := Aside.mk hB4; clear hB4 hR4)
        | (go_at_call 37; refine (ints_calls hrow2 hrow4 (Nat.le_trans hl (of_decide_eq_true rfl))).mono ?_; rintro z w5 ⟨rfl, n, hw5⟩; obtain rfl := hw5))
      all_goals go_wp2
      all_goals go_ret
      all_goals exact ⟨by first | rfl | (simp; done), below_drewN ((HB.out.drew).trans (HB4.out.mono HB.out.size)) n⟩
end
end Go.Proofs.Ytpdelhipfleniaa.AbG
