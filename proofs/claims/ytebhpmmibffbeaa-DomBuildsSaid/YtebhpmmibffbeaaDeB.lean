/- Proved: what a hypervisor tells of a domain (contracts for the laws of the domains). -/
import Derived.Test.YtebhpmmibffbeaaDeA
namespace Go.Proofs.Ytebhpmmibffbeaa.DeB
open Go.RowKit Go.Maps Go.Proofs.Ytebhpmmibffbeaa.Base Go.Proofs.Ytebhpmmibffbeaa.GaA Go.Proofs.Ytebhpmmibffbeaa.GaB Go.Proofs.Ytebhpmmibffbeaa.GaC Go.Proofs.Ytebhpmmibffbeaa.GaD Go.Proofs.Ytebhpmmibffbeaa.DaB Go.Proofs.Ytebhpmmibffbeaa.DbC Go.Proofs.Ytebhpmmibffbeaa.DdC Go.Proofs.Ytebhpmmibffbeaa.DeA
set_option linter.unusedVariables false
set_option linter.unusedSimpArgs false

section
variable {w w' W : World} {hb mb fb xb t1 t5 t3 gb eb k : Nat} {st sz tb rt : Nat → Int} {pp : Nat → Value} {s : MS}
theorem hcL_at (d : Nat) (hd : d < 8) : (hcL mb xb gb eb st sz tb pp)[4 + d * 4]? = some (.int .i64 (st d)) ∧ (hcL mb xb gb eb st sz tb pp)[4 + d * 4 + 1]? = some (.int .i64 (sz d)) ∧ (hcL mb xb gb eb st sz tb pp)[4 + d * 4 + 2]? = some (.int .i64 (tb d)) ∧ (hcL mb xb gb eb st sz tb pp)[4 + d * 4 + 3]? = some (pp d) := by
  have : d = 0 ∨ d = 1 ∨ d = 2 ∨ d = 3 ∨ d = 4 ∨ d = 5 ∨ d = 6 ∨ d = 7 := by omega
  rcases this with rfl | rfl | rfl | rfl | rfl | rfl | rfl | rfl <;> exact ⟨rfl, rfl, rfl, rfl⟩
set_option maxHeartbeats 2000000 in
set_option maxRecDepth 100000 in
theorem hnone_calls (h : w.heap[hb]? = some (.cells (hcL mb xb gb eb st sz tb pp) 51 (0, 0))) : Calls Try.prog 15 #[.pointer (some ⟨hb, 0, none⟩)] w fun e w' => e = .returned (.bool false) ∧ w' = w := by
  have c0 : w.cell? ⟨hb, 0, none⟩ = some (.pointer (some ⟨mb, 0, none⟩)) := blk_cell h 0
  have l0 := blk_lt h
  clear h
  go_enter Try.func15, Try.ntmps15
  go_wp2
  go_ret
  exact ⟨by first | rfl | (simp; done), rfl⟩
set_option maxHeartbeats 2000000 in
set_option maxRecDepth 100000 in
theorem machine_calls (h : w.heap[hb]? = some (.cells (hcL mb xb gb eb st sz tb pp) 51 (0, 0))) : Calls Try.prog 5 #[.pointer (some ⟨hb, 0, none⟩)] w fun e w' => e = .returned (.pointer (some ⟨mb, 0, none⟩)) ∧ w' = w := by
  have hno := hnone_calls h
  have c0 : w.cell? ⟨hb, 0, none⟩ = some (.pointer (some ⟨mb, 0, none⟩)) := blk_cell h 0
  have l0 := blk_lt h
  clear h
  go_enter Try.func5, Try.ntmps5
  go_wp2_with (first
    | (go_at_call 15; refine hno.mono ?_; rintro z w1 ⟨rfl, hw1⟩; obtain rfl := hw1.symm)
    | go_in)
  go_ret
  exact ⟨by first | rfl | (simp; done), rfl⟩
set_option maxHeartbeats 4000000 in
set_option maxRecDepth 100000 in
theorem at_calls (h : w.heap[hb]? = some (.cells (hcL mb xb gb eb st sz tb pp) 51 (0, 0))) (hD : Ds k st sz tb pp) (hk : k ≤ 8) (d : Nat) (hd : d < k) : Calls Try.prog 27 #[.pointer (some ⟨hb, 0, none⟩), .int .i64 d] w fun e w' => e = .returned (.tuple #[.pointer (some ⟨hb, 4 + d * 4, none⟩), .int .i64 0]) ∧ w' = w := by
  have hno := hnone_calls h
  obtain ⟨q0, q1, q2, q3⟩ := hcL_at (mb := mb) (xb := xb) (gb := gb) (eb := eb) (st := st) (sz := sz) (tb := tb) (pp := pp) d (by omega)
  obtain ⟨p, hp⟩ := hD.lo d hd
  have c0 := (blk_cell h (4 + d * 4)).trans q0
  have c1 := (blk_cell h (4 + d * 4 + 1)).trans q1
  have c2 := (blk_cell h (4 + d * 4 + 2)).trans q2
  have c3 := (blk_cell h (4 + d * 4 + 3)).trans q3
  rw [hD.st d, if_pos hd] at c0
  rw [hp] at c3
  generalize sz d = a at c1
  generalize tb d = b at c2
  have l0 := blk_lt h
  have d0 : decide ((d : Int) < 0) = false := decide_eq_false (by omega)
  have d1 : decide (8 ≤ (d : Int)) = false := decide_eq_false (by omega)
  have d2 : (d : Int) < 8 := by omega
  have hq := fun W => eq_some W a b p
  clear h hD hp q0 q1 q2 q3
  go_enter Try.func27, Try.ntmps27
  go_wp2_with (first
    | (go_at_call 15; refine hno.mono ?_; rintro z w1 ⟨rfl, hw1⟩; obtain rfl := hw1.symm)
    | go_in)
  go_ret2
  exact ⟨by first | rfl | (simp; done), rfl⟩
set_option maxHeartbeats 16000000 in
set_option maxRecDepth 100000 in
theorem dom_calls (h : w.heap[hb]? = some (.cells (hcL mb xb gb eb st sz tb pp) 51 (0, 0))) (hD : Ds k st sz tb pp) (hk : k ≤ 8) (d : Nat) (hd : d < k) (hM : Mach w mb fb s) (hX : Mmu w xb mb t1 t5 t3 rt) :
    Calls Try.prog 8 #[.pointer (some ⟨hb, 0, none⟩), .int .i64 d] w fun e w' => e = .returned (.tuple #[.agg #[.int .i64 1, .int .i64 (sz d), .int .i64 (mine (owners s) d s.n).length, .int .i64 (tb d), .int .i64 (rt d)], .int .i64 0]) ∧ Below w.heap.size w w' := by
  have hb1 := below_alloc (Below.refl w.heap.size w) (.cells #[.int .i64 0, .int .i64 0, .int .i64 0, .int .i64 0, .int .i64 0] 33)
  have hx1 := blk_new w (.cells #[.int .i64 0, .int .i64 0, .int .i64 0, .int .i64 0, .int .i64 0] 33)
  obtain ⟨W1, hW1⟩ : ∃ W1, W1 = w.alloc (.cells #[.int .i64 0, .int .i64 0, .int .i64 0, .int .i64 0, .int .i64 0] 33) := ⟨_, rfl⟩
  rw [← hW1] at hb1 hx1
  have h1 := blk_below h (blk_lt h) hb1
  have hat := at_calls h1 hD hk d hd
  obtain ⟨q0, q1, q2, q3⟩ := hcL_at (mb := mb) (xb := xb) (gb := gb) (eb := eb) (st := st) (sz := sz) (tb := tb) (pp := pp) d (by omega)
  rw [hD.st d, if_pos hd] at q0
  have hn0 : hb ≠ w.heap.size := by have := blk_lt h; omega
  have how := fun W' (hW : Below W1.heap.size W1 W') => (owned_calls W' ((hM.below hb1).below hW) d).mono (R' := fun e w' => (∃ A c, e = .returned (.slice A (mine (owners s) d s.n).length c)) ∧ Below W1.heap.size W1 w') (fun e w' ⟨p1, p2⟩ => ⟨p1, below_step hW p2⟩)
  have hro := fun W' (hW : Below W1.heap.size W1 W') => root_calls ((hX.below hb1).below hW) d (by omega)
  generalize (mine (owners s) d s.n).length = n at how ⊢
  generalize rt d = r at hro ⊢
  generalize sz d = a at q1 ⊢
  generalize tb d = b at q2 ⊢
  have SB : ∀ w3, Below W1.heap.size W1 w3 → w3.cell? ⟨hb, 0, none⟩ = some (.pointer (some ⟨mb, 0, none⟩)) ∧ w3.cell? ⟨hb, 1, none⟩ = some (.pointer (some ⟨xb, 0, none⟩)) ∧ w3.cell? ⟨hb, 4 + d * 4, none⟩ = some (.int .i64 1) ∧ w3.cell? ⟨hb, 4 + d * 4 + 1, none⟩ = some (.int .i64 a) ∧ w3.cell? ⟨hb, 4 + d * 4 + 2, none⟩ = some (.int .i64 b) := by
    intro w3 hb3
    have h3 := blk_below h1 (blk_lt h1) hb3
    exact ⟨blk_cell h3 0, blk_cell h3 1, (blk_cell h3 _).trans q0, (blk_cell h3 _).trans q1, (blk_cell h3 _).trans q2⟩
  have SX : ∀ w3, Below W1.heap.size W1 w3 → w3.heap[w.heap.size]? = some (.cells #[.int .i64 0, .int .i64 0, .int .i64 0, .int .i64 0, .int .i64 0] 33 (0, 0)) := fun w3 hb3 => blk_below hx1 (blk_lt hx1) hb3
  have l1 := blk_lt h1
  have lx := blk_lt hx1
  have HB := Base.Aside.mk (And.intro hb1 h1)
  clear h hD hM hX hb1 hx1 h1 q0 q1 q2 q3
  go_enter Try.func8, Try.ntmps8
  go_upto_region 1 with fail
  refine wp_world (fun W => W = W1) hW1.symm ?_
  intro W2 hW2
  obtain rfl := hW2.symm
  clear hW2 hW1
  go_upto_region 4 with (first
    | (go_at_call 27; (with_reducible refine hat.mono ?_); rintro z w1 ⟨rfl, hw1⟩; obtain rfl := hw1.symm)
    | go_in)
  obtain ⟨k0, k1, k2, k3, k4⟩ := SB _ (Below.refl _ _)
  have SE : ∀ w3, Below W1.heap.size W1 w3 → ∀ v0 v1 v2 v3 v4 : Value, (((((w3.setCell ⟨w.heap.size, 0, none⟩ v0).setCell ⟨w.heap.size, 1, none⟩ v1).setCell ⟨w.heap.size, 2, none⟩ v2).setCell ⟨w.heap.size, 3, none⟩ v3).setCell ⟨w.heap.size, 4, none⟩ v4).cell? ⟨hb, 0, none⟩ = some (.pointer (some ⟨mb, 0, none⟩)) ∧ (((((w3.setCell ⟨w.heap.size, 0, none⟩ v0).setCell ⟨w.heap.size, 1, none⟩ v1).setCell ⟨w.heap.size, 2, none⟩ v2).setCell ⟨w.heap.size, 3, none⟩ v3).setCell ⟨w.heap.size, 4, none⟩ v4).cell? ⟨hb, 1, none⟩ = some (.pointer (some ⟨xb, 0, none⟩)) ∧ (((((w3.setCell ⟨w.heap.size, 0, none⟩ v0).setCell ⟨w.heap.size, 1, none⟩ v1).setCell ⟨w.heap.size, 2, none⟩ v2).setCell ⟨w.heap.size, 3, none⟩ v3).setCell ⟨w.heap.size, 4, none⟩ v4).cell? ⟨hb, 4 + d * 4, none⟩ = some (.int .i64 1) ∧ (((((w3.setCell ⟨w.heap.size, 0, none⟩ v0).setCell ⟨w.heap.size, 1, none⟩ v1).setCell ⟨w.heap.size, 2, none⟩ v2).setCell ⟨w.heap.size, 3, none⟩ v3).setCell ⟨w.heap.size, 4, none⟩ v4).cell? ⟨hb, 4 + d * 4 + 1, none⟩ = some (.int .i64 a) ∧ (((((w3.setCell ⟨w.heap.size, 0, none⟩ v0).setCell ⟨w.heap.size, 1, none⟩ v1).setCell ⟨w.heap.size, 2, none⟩ v2).setCell ⟨w.heap.size, 3, none⟩ v3).setCell ⟨w.heap.size, 4, none⟩ v4).cell? ⟨hb, 4 + d * 4 + 2, none⟩ = some (.int .i64 b) := by
    intro w3 hb3 v0 v1 v2 v3 v4
    have f : ∀ (X : World) (i j : Nat) (u : Value), (X.setCell ⟨w.heap.size, i, none⟩ u).cell? ⟨hb, j, none⟩ = X.cell? ⟨hb, j, none⟩ := fun X i j u => World.cell?_of_block (w := X) (w' := X.setCell ⟨w.heap.size, i, none⟩ u) (a := ⟨hb, j, none⟩) (Below.heap_setCell X ⟨w.heap.size, i, none⟩ u hb hn0)
    simp only [f]
    exact SB w3 hb3
  clear hat
  go_region_held3 (fun Wx => Wx.cell? ⟨hb, 0, none⟩ = some (.pointer (some ⟨mb, 0, none⟩)) ∧ Wx.cell? ⟨hb, 1, none⟩ = some (.pointer (some ⟨xb, 0, none⟩)) ∧ Wx.cell? ⟨hb, 4 + d * 4, none⟩ = some (.int .i64 1) ∧ Wx.cell? ⟨hb, 4 + d * 4 + 1, none⟩ = some (.int .i64 a) ∧ Wx.cell? ⟨hb, 4 + d * 4 + 2, none⟩ = some (.int .i64 b))
    (first
      | go_keep
      | (with_reducible exact ⟨k0, k1, k2, k3, k4⟩)
      | (with_reducible exact SB _ E4.out)
      | (with_reducible exact SE _ E4.out _ _ _ _ _))
    ((first
      | (go_at_call 16; (with_reducible refine (how _ ?_).mono ?_); (focus (repeat (with_reducible first | exact Below.refl _ _ | refine below_drew ?_ | refine below_alloc ?_ _))); rintro z w4 ⟨⟨A, c, rfl⟩, hB4⟩; have z4 := SX _ hB4; have C4 := (fun i => blk_cell z4 i); have F4 := (fun i => blk_frozen z4 i); have L4 := blk_lt z4; have E4 := Base.Aside.mk hB4; clear hB4 z4)
      | (go_at_call 28; (with_reducible refine (hro _ ?_).mono ?_); (focus (repeat (with_reducible first | exact E4.out | exact Below.refl _ _ | refine below_drew ?_ | refine below_alloc ?_ _))); rintro z w5 ⟨rfl, hw5⟩; obtain rfl := hw5.symm)))
  all_goals go_wp2_with fail
  all_goals
    refine bodyPost_ret (v := .tuple #[.agg #[.int .i64 1, .int .i64 a, .int .i64 n, .int .i64 b, .int .i64 r], .int .i64 0]) ?_ rfl ⟨rfl, ?_⟩
    · simp only [results, Try.results8]
      first | (go_simp; done) | (go_simp; rfl)
    · have hb9 := below_step HB.out.1 E4.out
      repeat (with_reducible first | exact hb9 | refine below_set ?_ (Nat.le_refl _) _ | refine below_drew ?_)
end
end Go.Proofs.Ytebhpmmibffbeaa.DeB
