/- Proved: bytes are copied, at a step of a region that draws its order (the plain law of the grants). -/
import Derived.Test.YthlejchcnfdcpaaGreatMlbm
import Derived.Deep.AppendLies
namespace Go.Proofs.YthlejchcnfdcpaaGreat.GzN
open Go.RowKit Go.Maps Base GaA GaB GaC GaD GmA GmB GmC GpA GgA GeA GeB GfA GfB GfC GfD GjA GjB GjC GjE GjK GwA GwB GwE GwF GwJ GwO GwQ RpA RmA RmB RgA GxA GxC GxD GyA GyB GyE GyN GbA GzA GzB GzC GzD GfF GoB GxB GzE GzF GzG GzH GzI GzJ GzK GzL GzM
set_option linter.unusedVariables false
set_option linter.unusedSimpArgs false

theorem run_nil0 (w : World) (ty : TypeId) (g c : Nat) : (Builtin.append_ #[30, 30] ty #[.slice (some ⟨g, 0, none⟩) 0 0, .slice none 0 c]).run Tryz.prog w = .ok (.slice (some ⟨g, 0, none⟩) 0 0) w := by
  obtain ⟨i, hi, hz0, hz1, hz2⟩ := info_parts info8
  simp [Builtin.append_, run_underlying Tryz.underlying30, run_underlying Tryz.underlying5, sizeOf, typeInfo, zeroValue, hi, hz0, Builtin.lenOf, Builtin.firstCells, storeCells]
/-- A copy of any bytes. -/
theorem run_copy0 (w : World) (ty : TypeId) (g : Nat) (hg : w.heap[g]? = some (.cells #[] 5 (0, 0))) (A : Option Addr) (c : Nat) (zs : List UInt8) (hz : Bytes w A zs) (h47 : zs.length ≤ 140737488355328) :
    ∃ A' c' w', (Builtin.append_ #[30, 30] ty #[.slice (some ⟨g, 0, none⟩) 0 0, .slice A zs.length c]).run Tryz.prog w = .ok (.slice A' zs.length c') w' ∧ Bytes w' A' zs ∧ (∀ x, A' = some x → g ≤ x.block) ∧ Chg (fun x => x = g) w w' := by
  cases A with
  | none =>
    obtain rfl : zs = [] := by
      rcases hz with h | ⟨x, h, _⟩
      · exact h
      · cases h
    exact ⟨_, _, w, run_nil0 w ty g c, .inl rfl, fun x hx => by injection hx with hx; rw [← hx]; exact Nat.le_refl _, Chg.refl _ _⟩
  | some ad =>
    obtain ⟨A', c', w', h1, h2, h3⟩ := run_app0 w ty g hg ad c zs hz h47 g (Nat.le_refl _)
    refine ⟨A', c', w', h1, ?_, fun x hx => ?_, h3⟩
    · obtain ⟨k1, ⟨k2, k3⟩ | ⟨g', cap, cur, k2, kb, k3, k4, k5, k6, k7⟩⟩ := h2
      · exact .inl (List.length_eq_zero_iff.1 k3)
      · injection k2 with k2
        subst k2
        refine .inr ⟨_, rfl, blk_lt k3, fun j hj => ?_⟩
        rw [addB, Nat.zero_add, blk_cell k3]
        have : cur.toList[j]? = (u8s zs)[j]? := by rw [← k7, List.getElem?_take, if_pos (by omega)]
        rw [← Array.getElem?_toList, this]
        simp [u8s, hj]
    · subst hx
      exact (h2.lt x.block rfl).1
theorem step_copy0 {w : World} {ops : Array Oper} {o : Oper} {a : Act} {K : Act → World → Prop} {Q : Exit → Act → World → Prop} {E : Prop} (hgd : o.guard = none) (s x : Operand)
    (ho : o.op = .call { callee := .builtin .append, args := #[s, x], argTypes := #[30, 30] }) (g : Nat) (hs : a.eval s = .slice (some ⟨g, 0, none⟩) 0 0) (hg : w.heap[g]? = some (.cells #[] 5 (0, 0))) (A : Option Addr) (n c : Nat) (zs : List UInt8) (hx : a.eval x = .slice A n c) (hn : n = zs.length) (hz : Bytes w A zs) (h47 : zs.length ≤ 140737488355328) (W2 : World) (hB : Below W2.heap.size W2 w) (hgN : W2.heap.size ≤ g)
    (h : ∀ A' c' w', Bytes w' A' zs → (∀ x, A' = some x → W2.heap.size ≤ x.block) → Below W2.heap.size W2 w' → K (a.put o.dst (.slice A' zs.length c')) w') : if Region.wanted o (yielded ops a.tmps) = true then Oper.wp Tryz.prog o a w K Q else E := by
  have hw : Region.wanted o (yielded ops a.tmps) = true := by simp [Region.wanted, hgd]
  rw [if_pos hw]
  subst hn
  obtain ⟨A', c', w', hr, h2, h3, h4⟩ := run_copy0 w o.type g hg A c zs hz h47
  unfold Oper.wp execOp
  simp only [ho, resolve, invoke, builtin, Sem.run_bind, Sem.run_pure, Result.andThen_ok, List.map_toArray, List.map_cons, List.map_nil, hs, hx, hr]
  exact h A' c' w' h2 (fun x hx => Nat.le_trans hgN (h3 x hx)) (h4.out hB hB.size (by rintro y rfl; exact hgN))
end Go.Proofs.YthlejchcnfdcpaaGreat.GzN
