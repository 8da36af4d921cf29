/- Proved: the document's Get of a frame that nobody refers to (a contract for the laws of the grants). -/
import Derived.Test.YtjeobbhaoahdcaaRmB
namespace Go.Proofs.Ytjeobbhaoahdcaa.RmC
open Go.RowKit Go.Maps Go.Proofs.Ytjeobbhaoahdcaa.Base Go.Proofs.Ytjeobbhaoahdcaa.GaA Go.Proofs.Ytjeobbhaoahdcaa.GaB Go.Proofs.Ytjeobbhaoahdcaa.GaC Go.Proofs.Ytjeobbhaoahdcaa.GaD Go.Proofs.Ytjeobbhaoahdcaa.RpA Go.Proofs.Ytjeobbhaoahdcaa.RmA Go.Proofs.Ytjeobbhaoahdcaa.RmB
set_option linter.unusedVariables false
set_option linter.unusedSimpArgs false

section
variable {w w' : World} {rb Fb Bb cF cB : Nat} {bs : List Nat} {s : MS}
theorem put4 (h : RMach w rb Fb Bb cF cB bs s) (k : Nat) (hk : k < s.n) (f : Fr) : RMach ((((w.setCell ⟨Fb, k * 4, none⟩ (.int .i64 f.own)).setCell ⟨Fb, k * 4 + 1, none⟩ (.int .i64 f.typ)).setCell ⟨Fb, k * 4 + 2, none⟩ (.int .i64 f.cnt)).setCell ⟨Fb, k * 4 + 3, none⟩ (.int .i64 f.tot)) rb Fb Bb cF cB bs (MS.put1 s k f) ∧ Chg (fun x => x = Fb) w ((((w.setCell ⟨Fb, k * 4, none⟩ (.int .i64 f.own)).setCell ⟨Fb, k * 4 + 1, none⟩ (.int .i64 f.typ)).setCell ⟨Fb, k * 4 + 2, none⟩ (.int .i64 f.cnt)).setCell ⟨Fb, k * 4 + 3, none⟩ (.int .i64 f.tot)) := by
  obtain ⟨cs, g1, g2⟩ := h.frs
  have hc := chg_fb (chg_fb (chg_fb (chg_fb (Chg.refl (fun x => x = Fb) w) (k * 4) (.int .i64 f.own)) (k * 4 + 1) (.int .i64 f.typ)) (k * 4 + 2) (.int .i64 f.cnt)) (k * 4 + 3) (.int .i64 f.tot)
  refine ⟨frs_put h hk (blk_put (blk_put (blk_put (blk_put g1 (k * 4) _ rfl) (k * 4 + 1) _ rfl) (k * 4 + 2) _ rfl) (k * 4 + 3) _ rfl) hc ?_, hc⟩
  intro i j hi hj
  have hsz : k * 4 + 3 < cs.size := by
    have := g2 k 3 hk (by omega)
    exact (Array.getElem?_eq_some_iff.1 this).1
  simp only [Array.getElem?_setIfInBounds, Array.size_setIfInBounds]
  by_cases hik : i = k
  · subst hik
    match j, hj with
    | 0, _ =>
      rw [if_neg (by omega), if_neg (by omega), if_neg (by omega), if_pos (by omega), if_pos (by omega)]
      simp [cellM, MS.put1]
    | 1, _ =>
      rw [if_neg (by omega), if_neg (by omega), if_pos (by omega), if_pos (by omega)]
      simp [cellM, MS.put1]
    | 2, _ =>
      rw [if_neg (by omega), if_pos (by omega), if_pos (by omega)]
      simp [cellM, MS.put1]
    | 3, _ =>
      rw [if_pos (by omega), if_pos (by omega)]
      simp [cellM, MS.put1]
  · rw [if_neg (by omega), if_neg (by omega), if_neg (by omega), if_neg (by omega), g2 i j hi hj]
    simp [cellM, MS.put1, hik]
set_option maxHeartbeats 8000000 in
set_option maxRecDepth 100000 in
theorem get_first (h : RMach w rb Fb Bb cF cB bs s) (k : Nat) (hk : k < s.n) (d : Nat) (hf : s.fr k = ⟨d, 0, 0, 0⟩) : Calls Try.prog 77 #[.pointer (some ⟨rb, 0, none⟩), .int .i64 k, .int .i64 d, .int .i64 1] w fun e w' => e = .returned (.int .i64 0) ∧ RMach w' rb Fb Bb cF cB bs (MS.put1 s k ⟨d, 1, 1, 1⟩) ∧ Chg (fun x => x = Fb) w w' := by
  have hi := is_calls h k hk
  have C0 := fun i => blk_cell h.blk i
  have L0 := blk_lt h.blk
  have LF := h.lt.2.1
  have c0 := h.cell k 0 hk (by omega)
  have c1 := h.cell k 1 hk (by omega)
  have c2 := h.cell k 2 hk (by omega)
  have c3 := h.cell k 3 hk (by omega)
  simp only [cellM, hf] at c0 c1 c2 c3
  simp at c0 c1 c2 c3
  have F0 := h.frozen
  have e2 : (0 : Int) ≤ (k : Int) := Int.natCast_nonneg _
  have e3 : (k : Int) < (s.n : Int) := by omega
  have d1 : ((d : Int) == -1) = false := by simp
  have HH := Base.Aside.mk h
  clear h
  go_enter Try.func77, Try.ntmps77
  go_wp2_with (first
    | (go_at_call 85; refine hi.mono ?_; rintro z w1 ⟨rfl, hw1⟩; obtain rfl := hw1.symm)
    | go_in)
  go_region
  go_wp2
  go_ret
  exact ⟨by first | rfl | (simp; done), ((put4 HH.out k hk ⟨d, 1, 1, 1⟩).1.below (below_alloc (Below.refl _ _) _)).below ((Below.refl _ _).drew), ((put4 HH.out k hk ⟨d, 1, 1, 1⟩).2.alloc _).drew⟩
end
end Go.Proofs.Ytjeobbhaoahdcaa.RmC
