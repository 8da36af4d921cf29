/- Proved: Build where no number is free (a contract for the laws of the domains). -/
import Derived.Test.YtebhpmmibffbeaaDfB
namespace Go.Proofs.Ytebhpmmibffbeaa.DfC
open Go.RowKit Go.Maps Go.Proofs.Ytebhpmmibffbeaa.Base Go.Proofs.Ytebhpmmibffbeaa.GaA Go.Proofs.Ytebhpmmibffbeaa.GaB Go.Proofs.Ytebhpmmibffbeaa.GaC Go.Proofs.Ytebhpmmibffbeaa.GaD Go.Proofs.Ytebhpmmibffbeaa.DaB Go.Proofs.Ytebhpmmibffbeaa.GpA Go.Proofs.Ytebhpmmibffbeaa.GgA Go.Proofs.Ytebhpmmibffbeaa.DbC Go.Proofs.Ytebhpmmibffbeaa.DdA Go.Proofs.Ytebhpmmibffbeaa.DeA Go.Proofs.Ytebhpmmibffbeaa.DeB Go.Proofs.Ytebhpmmibffbeaa.DeC Go.Proofs.Ytebhpmmibffbeaa.DfA Go.Proofs.Ytebhpmmibffbeaa.DfB
set_option linter.unusedVariables false
set_option linter.unusedSimpArgs false

section
variable {w w' W W' : World} {hb mb fb xb t1 t5 t3 gb mm hm eb N k top : Nat} {s : MS} {rt : Nat → Int} {f : Int → Option (Int × Nat)} {st sz tb : Nat → Int} {pp : Nat → Value}
set_option maxHeartbeats 8000000 in
set_option maxRecDepth 100000 in
theorem build_full (h : Hy w W hb mb fb xb t1 t5 t3 gb mm hm eb N 8 top s rt f st sz tb pp) (m : Int) (h1 : 1 ≤ m) (h2 : m ≤ 48) (hl : m + 2 ≤ ((N - top : Nat) : Int)) : Calls Try.prog 7 #[.pointer (some ⟨hb, 0, none⟩), .int .i64 m] W fun e w' => e = .returned (.tuple #[.int .i64 0, .int .i64 71]) ∧ Below W.heap.size W w' := by
  have hz0 := bz_start W hb
  have HH := Base.Aside.mk h
  have hln := hy_left h
  have d1 : decide (m < 1) = false := decide_eq_false (by omega)
  have d2 : decide (48 < m) = false := decide_eq_false (by omega)
  have d3 : decide (((N - top : Nat) : Int) < m + 2) = false := decide_eq_false (by omega)
  generalize N - top = n0 at hln d3
  have HZ := Base.Aside.mk (And.intro hz0 hln)
  clear h hl hz0 hln
  go_enter_defers Try.func7, Try.ntmps7
  go_upto_region 1 with fail
  refine wp_world (fun W1 => Bz W W1 W.heap.size (W.heap.size + 1) (W.heap.size + 1 + 1) hb 0 0) HZ.out.1 ?_
  intro W1 hz1
  obtain ⟨g5, h5⟩ : ∃ g, g = W.heap.size + 1 + 1 := ⟨_, rfl⟩
  rw [← h5] at hz1 ⊢
  obtain ⟨g4, h4⟩ : ∃ g, g = W.heap.size + 1 := ⟨_, rfl⟩
  rw [← h4] at hz1 ⊢
  obtain ⟨g2, h2'⟩ : ∃ g, g = W.heap.size := ⟨_, rfl⟩
  have hz2 : Bz W W1 g2 g4 g5 hb 0 0 := by rw [h2']; exact hz1
  rw [← h2']
  have hy1 := HH.out.below hz2.bel
  have hno := hnone_calls hy1.blk
  have hle := left_calls _ hy1.m
  rw [HZ.out.2] at hle
  have k2 : W1.cell? ⟨g2, 0, none⟩ = some (.pointer (some ⟨hb, 0, none⟩)) := blk_cell hz2.b2 0
  have k0 : W1.cell? ⟨hb, 0, none⟩ = some (.pointer (some ⟨mb, 0, none⟩)) := blk_cell hy1.blk 0
  have l2 := blk_lt hz2.b2
  have l0 := blk_lt hy1.blk
  have Z1 := Base.Aside.mk hz2
  have hle2 := hle.mono (R' := fun e w' => e = .returned (.int .i64 n0) ∧ Below W1.heap.size W1 w') (fun e w' h => h)
  have hfr := fun W' (hW : Below W1.heap.size W1 W') => (free_calls (hy1.below hW).blk (hy1.below hW).ds (Nat.le_refl 8)).mono (R' := fun e w' => e = .returned (.tuple #[.int .i64 0, .int .i64 71]) ∧ w'.cell? ⟨g4, 0, none⟩ = some (.int .i64 0) ∧ w'.cell? ⟨g5, 0, none⟩ = some (.int .i64 0) ∧ g4 < w'.heap.size ∧ g5 < w'.heap.size ∧ w'.frozen? ⟨g4, 0, none⟩ = false ∧ w'.frozen? ⟨g5, 0, none⟩ = false ∧ Bz W w' g2 g4 g5 hb 0 0) (fun e w' ⟨q1, q2⟩ => by
    have hz := (Z1.out.below hW).below q2
    exact ⟨q1, blk_cell hz.b4 0, blk_cell hz.b5 0, blk_lt hz.b4, blk_lt hz.b5, blk_frozen hz.b4 0, blk_frozen hz.b5 0, hz⟩)
  have n45 : g4 ≠ g5 := ty_ne hz2.b4 hz2.b5 (by decide)
  have n54 : g5 ≠ g4 := fun e => n45 e.symm
  clear hz1 hz2 hy1 h5 h4 h2' hle
  go_wp2_with (first
    | (go_at_call 15; refine hno.mono ?_; rintro z w1 ⟨rfl, hw1⟩; obtain rfl := hw1.symm)
    | (go_at_call 6; (with_reducible refine hle2.mono ?_); rintro z w2 ⟨rfl, hB2⟩; have K2 := (hB2.cell (p := ⟨g2, 0, none⟩) l2).trans k2; have M2 := Nat.lt_of_lt_of_le l2 hB2.size; have hf2 := hfr _ hB2; clear hB2)
    | (go_at_call 17; (with_reducible refine hf2.mono ?_); rintro z w3 ⟨rfl, c4, c5, l4, l5, f4, f5, hz3⟩; have E3 := Base.Aside.mk hz3; clear hz3)
    | go_in)
  go_region
  all_goals go_wp2_with fail
  all_goals
    have hz9 := ((E3.out.set 0 71).set 0 71).below (Below.refl _ _).drew
    have q4 := blk_cell hz9.b4 0
    have q5 := blk_cell hz9.b5 0
    simp only [List.getElem?_toArray, List.getElem?_cons_zero] at q4 q5
    clear c4 c5
    refine ⟨.tuple #[.int .i64 0, .int .i64 71], ?_, rfl, hz9.bel⟩
    simp only [results, Try.f7, Try.results7]
    generalize ((((w3.setCell ⟨g4, 0, none⟩ (.int .i64 0)).setCell ⟨g5, 0, none⟩ (.int .i64 71)).setCell ⟨g4, 0, none⟩ (.int .i64 0)).setCell ⟨g5, 0, none⟩ (.int .i64 71)).drew = X at q4 q5 ⊢
    simp [go_sem, q4, q5]
end
end Go.Proofs.Ytebhpmmibffbeaa.DfC
