/- Proved: a scheduler's map of entries, by the numbers of the blocks to which its pointers lead (lemmas for the walks of this seat). -/
import Derived.Test.YtpdelhipfleniaaBase
import Derived.Maps.OwnSet
import Derived.Maps.OwnOps
namespace Go.Proofs.Ytpdelhipfleniaa.SchA
open Go.RowKit Go.Maps Go.Proofs.Ytpdelhipfleniaa.Base
set_option linter.unusedVariables false

/-- How an element reads: a pointer to a block's start by the block's number. -/
def pe : Value → Option (DataW Unit × List MemPlace)
  | .pointer none => some (.nil, [])
  | .pointer (some ⟨g, 0, none⟩) => some (.lit (.int .i64 g), [])
  | _ => none
def pv : Option Nat → Value
  | none => .pointer none
  | some g => .pointer (some ⟨g, 0, none⟩)
def pd : Option Nat → DataW Unit
  | none => .nil
  | some g => .lit (.int .i64 g)
theorem pe_pv (o : Option Nat) : pe (pv o) = some (pd o, []) := by cases o <;> rfl
theorem pe_inv {v : Value} {o : Option Nat} {ps : List MemPlace} (h : pe v = some (pd o, ps)) : v = pv o := by
  unfold pe at h
  split at h
  · cases o with
    | none => rfl
    | some g => simp [pd] at h
  · rename_i g
    cases o with
    | none => simp [pd] at h
    | some g' =>
      simp only [pd, Option.some.injEq, Prod.mk.injEq, DataW.lit.injEq, Lit.int.injEq, true_and] at h
      have : g = g' := by omega
      subst this
      rfl
  · cases h

abbrev T40 : TypeId := 40
abbrev T39 : TypeId := 56
theorem K3 : Keyed Try.prog 3 := int_keyed Try.underlying3
theorem zeroP (w : World) : (zeroValue 56).run Try.prog w = .ok (.pointer none) w := Try.zeroValue56 w

/-- The map in block M: entry k leads to block (s k); there are c entries; no key but the natural numbers. -/
def MapIs (W : World) (M : Nat) (s : Nat → Option Nat) (c : Nat) : Prop :=
  ∃ D : DataW Unit, W.ownsMap Try.prog 3 pe M c D ∧ Maps.size D = c ∧ (∀ k : Nat, D.atKey (.int .i64 k) .nil = pd (s k)) ∧ (∀ k : Nat, Maps.has D (.int .i64 k) = (s k).isSome) ∧ ∀ x : Int, x < 0 → Maps.has D (.int .i64 x) = false

theorem ownsMap_block {w w' : World} {P : Program} {k : TypeId} {R : Value → Option (DataW Unit × List MemPlace)} {b n : Nat} {D : DataW Unit} (h : w.ownsMap P k R b n D) (hb : w'.heap[b]? = w.heap[b]?) : w'.ownsMap P k R b n D := by
  obtain ⟨es, clock, h1, h2⟩ := h
  exact ⟨es, clock, hb.trans h1, h2⟩
theorem ownsMap_tight {w : World} {P : Program} {k : TypeId} {R : Value → Option (DataW Unit × List MemPlace)} {b n : Nat} {D : DataW Unit} (h : w.ownsMap P k R b n D) : w.ownsMap P k R b (Maps.size D) D := by
  obtain ⟨es, clock, h1, h2, h3, rfl⟩ := h
  exact ⟨es, clock, h1, h2, by simp [Maps.size, length_sorted], rfl⟩
section
variable {W W' : World} {M c : Nat} {s : Nat → Option Nat}
theorem MapIs.block (h : MapIs W M s c) (hb : W'.heap[M]? = W.heap[M]?) : MapIs W' M s c := by
  obtain ⟨D, h1, h2⟩ := h
  exact ⟨D, ownsMap_block h1 hb, h2⟩
theorem MapIs.lt (h : MapIs W M s c) : M < W.heap.size := by
  obtain ⟨D, h1, _⟩ := h
  exact h1.lt
theorem MapIs.made (w : World) : MapIs (w.alloc (.map #[] 0)) w.heap.size (fun _ => none) 0 :=
  ⟨.map [], World.ownsMap_made w _ _ _, rfl, fun k => rfl, fun k => rfl, fun x _ => rfl⟩
theorem wf_nat (k : Nat) (hk : k < 9223372036854775808) : (Lit.int .i64 (k : Int)).wf = true := by
  have h1 : IntKind.i64.min = -9223372036854775808 := rfl
  have h2 : IntKind.i64.max = 9223372036854775807 := rfl
  simp [Lit.wf]
  omega
theorem MapIs.look (h : MapIs W M s c) (k : Nat) (hk : k < 9223372036854775808) : (Instr.lookup 40 (.map (some M)) (.int .i64 k) false).run Try.prog W = .ok (pv (s k)) W := by
  obtain ⟨D, h1, h2, h3, h4, h5⟩ := h
  obtain ⟨v, ps, hrun, hv⟩ := h1.lookup K3 Try.underlying40 (zeroP W) (pe_pv none) (keyOf_int_mk Try.underlying3 (wf_nat k hk))
  have e : v = pv (s k) := pe_inv (o := s k) (by rw [← h3 k]; exact hv)
  rw [hrun, e]
theorem MapIs.look_ok (h : MapIs W M s c) (k : Nat) (hk : k < 9223372036854775808) : (Instr.lookup 40 (.map (some M)) (.int .i64 k) true).run Try.prog W = .ok (.tuple #[pv (s k), .bool (s k).isSome]) W := by
  obtain ⟨D, h1, h2, h3, h4, h5⟩ := h
  obtain ⟨v, ps, hrun, hv⟩ := h1.look_ok K3 Try.underlying40 (zeroP W) (pe_pv none) (keyOf_int_mk Try.underlying3 (wf_nat k hk))
  have e : v = pv (s k) := pe_inv (o := s k) (by rw [← h3 k]; exact hv)
  rw [hrun, e, h4 k]
theorem MapIs.look_neg (h : MapIs W M s c) (x : Int) (h0 : x < 0) (hw : (Lit.int .i64 x).wf = true) : (Instr.lookup 40 (.map (some M)) (.int .i64 x) true).run Try.prog W = .ok (.tuple #[.pointer none, .bool false]) W := by
  obtain ⟨D, h1, h2, h3, h4, h5⟩ := h
  obtain ⟨v, ps, hrun, hv⟩ := h1.look_ok K3 Try.underlying40 (zeroP W) (pe_pv none) (keyOf_int_mk Try.underlying3 hw)
  have e : v = pv none := pe_inv (o := none) (by rw [show pd none = D.atKey (.int .i64 x) .nil from (atKey_of_not_has (h5 x h0) _).symm]; exact hv)
  rw [hrun, e, h5 x h0]
  rfl
theorem MapIs.len (h : MapIs W M s c) (ty : TypeId) : (Builtin.len_ #[40] ty #[.map (some M)]).run Try.prog W = .ok (.int .i64 c) W := by
  obtain ⟨D, h1, h2, _⟩ := h
  rw [h1.len Try.underlying40 ty, h2]
theorem int_ne {a b : Int} (h : a ≠ b) : Lit.int .i64 a ≠ Lit.int .i64 b := fun e => h (by injection e)
/-- A new entry. -/
theorem MapIs.store (h : MapIs W M s c) (k g : Nat) (hk : k < 9223372036854775808) (hc : c < 1000) (hn : s k = none) : ∃ W', (Instr.mapUpdate 40 (.map (some M)) (.int .i64 k) (.pointer (some ⟨g, 0, none⟩))).run Try.prog W = .ok () W' ∧ MapIs W' M (fun j => if j = k then some g else s j) (c + 1) ∧ W.grownBy W' (some M) := by
  obtain ⟨D, h1, h2, h3, h4, h5⟩ := h
  obtain ⟨W', hrun, ho, hg⟩ := h1.update K3 Try.underlying40 (by unfold maxLen; omega) (keyOf_int_mk Try.underlying3 (wf_nat k hk)) (pe_pv (some g))
  have hsz : Maps.size (D.put (.int .i64 k) (pd (some g))) = c + 1 := by
    rw [size_put (h1.tidy K3), h4 k, hn, h2]
    rfl
  refine ⟨W', hrun, ⟨D.put (.int .i64 k) (pd (some g)), ?_, hsz, fun j => ?_, fun j => ?_, fun x hx => ?_⟩, hg⟩
  · have := ownsMap_tight ho
    rw [hsz] at this
    exact this
  · show _ = pd (if j = k then some g else s j)
    by_cases e : j = k
    · subst e
      rw [if_pos rfl, atKey_put_same h1.isMap (by simp [WideAt.IsKeyLit])]
    · rw [if_neg e, atKey_put_other (int_ne (by omega)), h3 j]
  · show _ = (if j = k then some g else s j).isSome
    by_cases e : j = k
    · subst e
      rw [if_pos rfl, has_put_same h1.isMap (by simp [WideAt.IsKeyLit])]
      rfl
    · rw [if_neg e, has_put_other (int_ne (by omega)), h4 j]
  · rw [has_put_other (int_ne (by omega)), h5 x hx]
end
end Go.Proofs.Ytpdelhipfleniaa.SchA
