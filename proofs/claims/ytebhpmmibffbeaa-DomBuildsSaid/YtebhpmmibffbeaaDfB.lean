/- Proved: where Build refuses (contracts for the laws of the domains). -/
import Derived.Test.YtebhpmmibffbeaaDfA
namespace Go.Proofs.Ytebhpmmibffbeaa.DfB
open Go.RowKit Go.Maps Go.Proofs.Ytebhpmmibffbeaa.Base Go.Proofs.Ytebhpmmibffbeaa.GaA Go.Proofs.Ytebhpmmibffbeaa.GaB Go.Proofs.Ytebhpmmibffbeaa.GaC Go.Proofs.Ytebhpmmibffbeaa.GaD Go.Proofs.Ytebhpmmibffbeaa.DaB Go.Proofs.Ytebhpmmibffbeaa.GpA Go.Proofs.Ytebhpmmibffbeaa.GgA Go.Proofs.Ytebhpmmibffbeaa.DbC Go.Proofs.Ytebhpmmibffbeaa.DdA Go.Proofs.Ytebhpmmibffbeaa.DeA Go.Proofs.Ytebhpmmibffbeaa.DeB Go.Proofs.Ytebhpmmibffbeaa.DeC Go.Proofs.Ytebhpmmibffbeaa.DfA
set_option linter.unusedVariables false
set_option linter.unusedSimpArgs false

/-- How many frames are an owner's, whose frames lie together. -/
theorem mine_range (o : Nat → Int) (d : Int) (a b n : Nat) (h : ∀ j, j < n → (o j = d ↔ a ≤ j ∧ j < b)) : ∀ k, k ≤ n → (mine o d k).length = min k b - min k a := by
  intro k
  induction k with
  | zero =>
    intro _
    simp [mine]
  | succ k ih =>
    intro hk
    have ih2 := ih (by omega)
    have hj := h k (by omega)
    by_cases ho : o k = d
    · have hab := hj.1 ho
      rw [mine_hit (by simpa using ho), List.length_append, ih2]
      show min k b - min k a + 1 = _
      omega
    · have hab : ¬ (a ≤ k ∧ k < b) := fun h => ho (hj.2 h)
      rw [mine_miss (beq_eq_false_iff_ne.2 ho), ih2]
      omega
theorem below_setN {w W : World} {g j : Nat} {v : Value} (h : Below w.heap.size w W) (hg : w.heap.size ≤ g) : Below w.heap.size w (W.setCell ⟨g, j, none⟩ v) := h.setCell hg _
section
variable {w w' W W' : World} {hb mb fb xb t1 t5 t3 gb mm hm eb N k top : Nat} {s : MS} {rt : Nat → Int} {f : Int → Option (Int × Nat)} {st sz tb : Nat → Int} {pp : Nat → Value}
theorem hy_left (h : Hy w W hb mb fb xb t1 t5 t3 gb mm hm eb N k top s rt f st sz tb pp) : (mine (owners s) (-1) s.n).length = N - top := by
  have hn := h.n
  have h1 := mine_range (owners s) (-1) top N N (fun j hj => ⟨fun ho => ?_, fun ho => ?_⟩) N (Nat.le_refl _)
  · rw [hn.1, h1]
    omega
  · by_cases hlt : j < top
    · exact absurd ho (h.lo j hlt).1
    · exact ⟨by omega, hj⟩
  · have := (h.hi j ho.1).1
    unfold owners
    rw [this]
set_option maxHeartbeats 8000000 in
set_option maxRecDepth 100000 in
theorem build_size (h : Hy w W hb mb fb xb t1 t5 t3 gb mm hm eb N k top s rt f st sz tb pp) (m : Int) (hm1 : m < 1 ∨ 48 < m) : Calls Try.prog 7 #[.pointer (some ⟨hb, 0, none⟩), .int .i64 m] W fun e w' => e = .returned (.tuple #[.int .i64 0, .int .i64 170]) ∧ Below W.heap.size W w' := by
  have hb3 := below_alloc (below_alloc (below_alloc (Below.refl W.heap.size W) (.cells #[.pointer (some ⟨hb, 0, none⟩)] 23)) (.cells #[.int .i64 0] 3)) (.cells #[.int .i64 0] 24)
  have hno := hnone_calls (h.below hb3).blk
  clear h
  rcases hm1 with h1 | h1
  · have d1 : decide (m < 1) = true := decide_eq_true h1
    clear h1
    go_enter_defers Try.func7, Try.ntmps7
    go_wp2_with (first
      | (go_at_call 15; refine hno.mono ?_; rintro z w1 ⟨rfl, hw1⟩; obtain rfl := hw1.symm)
      | go_in)
    refine ⟨.tuple #[.int .i64 0, .int .i64 170], ?_, rfl, ?_⟩
    · simp [results, Try.f7, Try.results7, go_sem]
    · repeat (with_reducible first | exact Below.refl _ _ | refine below_alloc ?_ _ | refine below_setN ?_ ?_ | omega)
  · have d1 : decide (m < 1) = false := decide_eq_false (by omega)
    have d2 : decide (48 < m) = true := decide_eq_true h1
    clear h1
    go_enter_defers Try.func7, Try.ntmps7
    go_wp2_with (first
      | (go_at_call 15; refine hno.mono ?_; rintro z w1 ⟨rfl, hw1⟩; obtain rfl := hw1.symm)
      | go_in)
    refine ⟨.tuple #[.int .i64 0, .int .i64 170], ?_, rfl, ?_⟩
    · simp [results, Try.f7, Try.results7, go_sem]
    · repeat (with_reducible first | exact Below.refl _ _ | refine below_alloc ?_ _ | refine below_setN ?_ ?_ | omega)
/-- Build's first boxes. -/
structure Bz (W0 W : World) (g2 g4 g5 hb : Nat) (a er : Int) : Prop where
  b2 : W.heap[g2]? = some (.cells #[.pointer (some ⟨hb, 0, none⟩)] 23 (0, 0))
  b4 : W.heap[g4]? = some (.cells #[.int .i64 a] 3 (0, 0))
  b5 : W.heap[g5]? = some (.cells #[.int .i64 er] 24 (0, 0))
  ge : W0.heap.size ≤ g2 ∧ W0.heap.size ≤ g4 ∧ W0.heap.size ≤ g5
  bel : Below W0.heap.size W0 W
theorem Bz.below {W0 : World} {g2 g4 g5 : Nat} {a er : Int} (h : Bz W0 W g2 g4 g5 hb a er) (hB : Below W.heap.size W W') : Bz W0 W' g2 g4 g5 hb a er :=
  ⟨blk_below h.b2 (blk_lt h.b2) hB, blk_below h.b4 (blk_lt h.b4) hB, blk_below h.b5 (blk_lt h.b5) hB, h.ge, h.bel.trans (hB.mono h.bel.size)⟩
/-- Both results are laid. -/
theorem Bz.set {W0 : World} {g2 g4 g5 : Nat} {a er : Int} (h : Bz W0 W g2 g4 g5 hb a er) (a' er' : Int) : Bz W0 ((W.setCell ⟨g4, 0, none⟩ (.int .i64 a')).setCell ⟨g5, 0, none⟩ (.int .i64 er')) g2 g4 g5 hb a' er' := by
  have n24 : g2 ≠ g4 := ty_ne h.b2 h.b4 (by decide)
  have n25 : g2 ≠ g5 := ty_ne h.b2 h.b5 (by decide)
  have n45 : g4 ≠ g5 := ty_ne h.b4 h.b5 (by decide)
  exact ⟨blk_far (blk_far h.b2 n24 _) n25 _, blk_far (blk_put h.b4 0 _ rfl) n45 _, blk_put (blk_far h.b5 (fun e => n45 e.symm) _) 0 _ rfl, h.ge, below_setN (below_setN h.bel h.ge.2.1) h.ge.2.2⟩
theorem bz_start (W0 : World) (hb : Nat) : Bz W0 (((W0.alloc (.cells #[.pointer (some ⟨hb, 0, none⟩)] 23)).alloc (.cells #[.int .i64 0] 3)).alloc (.cells #[.int .i64 0] 24)) W0.heap.size (W0.heap.size + 1) (W0.heap.size + 1 + 1) hb 0 0 :=
  ⟨blk_alloc (blk_alloc (blk_new _ _) _) _, blk_alloc (blk_newest (by simp) _) _, blk_newest (by simp) _, ⟨Nat.le_refl _, by omega, by omega⟩, below_alloc (below_alloc (below_alloc (Below.refl _ _) _) _) _⟩
set_option maxHeartbeats 8000000 in
set_option maxRecDepth 100000 in
theorem build_left (h : Hy w W hb mb fb xb t1 t5 t3 gb mm hm eb N k top s rt f st sz tb pp) (m : Int) (h1 : 1 ≤ m) (h2 : m ≤ 48) (hl : ((N - top : Nat) : Int) < m + 2) : Calls Try.prog 7 #[.pointer (some ⟨hb, 0, none⟩), .int .i64 m] W fun e w' => e = .returned (.tuple #[.int .i64 0, .int .i64 10]) ∧ Below W.heap.size W w' := by
  have hz0 := bz_start W hb
  have HH := Base.Aside.mk h
  have hln := hy_left h
  have d1 : decide (m < 1) = false := decide_eq_false (by omega)
  have d2 : decide (48 < m) = false := decide_eq_false (by omega)
  have d3 : decide (((N - top : Nat) : Int) < m + 2) = true := decide_eq_true hl
  generalize N - top = n0 at hln d3
  have HZ := Base.Aside.mk (And.intro hz0 hln)
  clear h hl hz0 hln
  go_enter_defers Try.func7, Try.ntmps7
  go_upto_region 1 with fail
  refine wp_world (fun W1 => Bz W W1 W.heap.size (W.heap.size + 1) (W.heap.size + 1 + 1) hb 0 0) HZ.out.1 ?_
  intro W1 hz1
  obtain ⟨g5, h5⟩ : ∃ g, g = W.heap.size + 1 + 1 := ⟨_, rfl⟩
  rw [← h5] at hz1 ⊢
  obtain ⟨g4, h4⟩ : ∃ g, g = W.heap.size + 1 := ⟨_, rfl⟩
  rw [← h4] at hz1 ⊢
  obtain ⟨g2, h2'⟩ : ∃ g, g = W.heap.size := ⟨_, rfl⟩
  have hz2 : Bz W W1 g2 g4 g5 hb 0 0 := by rw [h2']; exact hz1
  rw [← h2']
  have hy1 := HH.out.below hz2.bel
  have hno := hnone_calls hy1.blk
  have hle := left_calls _ hy1.m
  rw [HZ.out.2] at hle
  have k2 : W1.cell? ⟨g2, 0, none⟩ = some (.pointer (some ⟨hb, 0, none⟩)) := blk_cell hz2.b2 0
  have k0 : W1.cell? ⟨hb, 0, none⟩ = some (.pointer (some ⟨mb, 0, none⟩)) := blk_cell hy1.blk 0
  have l2 := blk_lt hz2.b2
  have l0 := blk_lt hy1.blk
  have Z1 := Base.Aside.mk hz2
  have hle2 := hle.mono (R' := fun e w' => e = .returned (.int .i64 n0) ∧ w'.cell? ⟨g4, 0, none⟩ = some (.int .i64 0) ∧ w'.cell? ⟨g5, 0, none⟩ = some (.int .i64 0) ∧ g4 < w'.heap.size ∧ g5 < w'.heap.size ∧ w'.frozen? ⟨g4, 0, none⟩ = false ∧ w'.frozen? ⟨g5, 0, none⟩ = false ∧ Bz W w' g2 g4 g5 hb 0 0) (fun e w' ⟨q1, q2⟩ => by
    have hz := Z1.out.below q2
    exact ⟨q1, blk_cell hz.b4 0, blk_cell hz.b5 0, blk_lt hz.b4, blk_lt hz.b5, blk_frozen hz.b4 0, blk_frozen hz.b5 0, hz⟩)
  have n45 : g4 ≠ g5 := ty_ne hz2.b4 hz2.b5 (by decide)
  have n54 : g5 ≠ g4 := fun e => n45 e.symm
  clear hz1 hz2 hy1 h5 h4 h2' hle
  go_wp2_with (first
    | (go_at_call 15; refine hno.mono ?_; rintro z w1 ⟨rfl, hw1⟩; obtain rfl := hw1.symm)
    | (go_at_call 6; (with_reducible refine hle2.mono ?_); rintro z w2 ⟨rfl, c4, c5, l4, l5, f4, f5, hz2⟩; have E2 := Base.Aside.mk (hz2.set 0 10); clear hz2)
    | go_in)
  refine ⟨.tuple #[.int .i64 0, .int .i64 10], ?_, rfl, E2.out.bel⟩
  simp [results, Try.f7, Try.results7, go_sem, c4, c5, n45, n54]
end
end Go.Proofs.Ytebhpmmibffbeaa.DfB
