/- Proved: a map with int keys, as a function of its keys (lemmas for the walks of the grants). -/
import Derived.Test.YtebhpmmibffbeaaGaA
import Derived.Maps.OwnSet
import Derived.Maps.OwnOps
import Derived.WideKeyEntry
namespace Go.Proofs.Ytebhpmmibffbeaa.GmA
open Go.RowKit Go.Maps Go.WideElems Go.Proofs.Ytebhpmmibffbeaa.Base Go.Proofs.Ytebhpmmibffbeaa.GaA
set_option linter.unusedVariables false
set_option linter.unusedSimpArgs false

/-- An element reads as itself. -/
def hv : Value → Option (DataW Value × List MemPlace) := fun v => some (.held v, [])
theorem hv_inv {v : Value} {d : DataW Value} {ps : List MemPlace} (h : hv v = some (d, ps)) : d = .held v := by
  unfold hv at h
  injection h with h
  injection h with h1 h2
  exact h1.symm
def got (o : Option Value) (z : DataW Value) : DataW Value := match o with | some v => .held v | none => z
theorem got_inv {o : Option Value} {z v : Value} (h : got o (.held z) = .held v) : v = o.getD z := by
  cases o with
  | none => exact (DataW.held.inj h).symm
  | some u => exact (DataW.held.inj h).symm
theorem K3 : Keyed Try.prog 3 := int_keyed Try.underlying3
/-- The map in block M holds (f x) at the key x, and nothing else; it has c entries. -/
def IMap (W : World) (M : Nat) (f : Int → Option Value) (c : Nat) : Prop :=
  ∃ D : DataW Value, W.ownsMap Try.prog 3 hv M c D ∧ Maps.size D = c ∧ (∀ x : Int, Maps.has D (.int .i64 x) = (f x).isSome) ∧ ∀ (x : Int) (z : DataW Value), D.atKey (.int .i64 x) z = got (f x) z
theorem ownsMap_block {w w' : World} {P : Program} {k : TypeId} {R : Value → Option (DataW Value × List MemPlace)} {b n : Nat} {D : DataW Value} (h : w.ownsMap P k R b n D) (hb : w'.heap[b]? = w.heap[b]?) : w'.ownsMap P k R b n D := by
  obtain ⟨es, clock, h1, h2⟩ := h
  exact ⟨es, clock, hb.trans h1, h2⟩
theorem ownsMap_tight {w : World} {P : Program} {k : TypeId} {R : Value → Option (DataW Value × List MemPlace)} {b n : Nat} {D : DataW Value} (h : w.ownsMap P k R b n D) : w.ownsMap P k R b (Maps.size D) D := by
  obtain ⟨es, clock, h1, h2, h3, rfl⟩ := h
  exact ⟨es, clock, h1, h2, by simp [Maps.size, length_sorted], rfl⟩
def put (f : Int → Option Value) (k : Int) (v : Value) : Int → Option Value := fun x => if x = k then some v else f x
def del (f : Int → Option Value) (k : Int) : Int → Option Value := fun x => if x = k then none else f x
theorem int_ne {a b : Int} (h : a ≠ b) : Lit.int .i64 a ≠ Lit.int .i64 b := fun e => h (by injection e)
theorem int_key (x : Int) : WideAt.IsKeyLit (.int .i64 x) := by simp [WideAt.IsKeyLit]
section
variable {W W' : World} {M c : Nat} {f : Int → Option Value}
theorem IMap.lt (h : IMap W M f c) : M < W.heap.size := by
  obtain ⟨D, h1, _⟩ := h
  exact h1.lt
theorem IMap.block (h : IMap W M f c) (hb : W'.heap[M]? = W.heap[M]?) : IMap W' M f c := by
  obtain ⟨D, h1, h2⟩ := h
  exact ⟨D, ownsMap_block h1 hb, h2⟩
theorem IMap.chg {F : Nat → Prop} (h : IMap W M f c) (hc : Chg F W W') (hf : ¬ F M) : IMap W' M f c := h.block (hc.block _ h.lt hf)
theorem IMap.below (h : IMap W M f c) (hb : Below W.heap.size W W') : IMap W' M f c := h.block (hb.block _ h.lt)
theorem IMap.is (h : IMap W M f c) : ∃ es clock, W.heap[M]? = some (.map es clock) := by
  obtain ⟨D, ⟨es, clock, h1, _⟩, _⟩ := h
  exact ⟨es, clock, h1⟩
theorem IMap.made (w : World) : IMap (w.alloc (.map #[] 0)) w.heap.size (fun _ => none) 0 :=
  ⟨.map [], World.ownsMap_made w _ _ _, rfl, fun x => rfl, fun x z => rfl⟩
theorem IMap.made_at {w : World} {M : Nat} (h : w.heap[M]? = some (.map #[] 0)) : IMap w M (fun _ => none) 0 := by
  obtain ⟨es, clock, h1, h2, h3, h4⟩ := World.ownsMap_made (H := Value) (⟨#[], w.tape, w.drawn, w.os, w.output⟩ : World) Try.prog 3 hv
  have h1' : some (Obj.map #[] 0) = some (Obj.map es clock) := h1
  injection h1' with h1'
  injection h1' with ha hb
  subst ha hb
  exact ⟨.map [], ⟨#[], 0, h, h2, h3, h4⟩, rfl, fun x => rfl, fun x z => rfl⟩
theorem wf64 {x : Int} (h0 : -9223372036854775808 ≤ x) (h1 : x ≤ 9223372036854775807) : (Lit.int .i64 x).wf = true := by
  have h1 : IntKind.i64.min = -9223372036854775808 := rfl
  have h2 : IntKind.i64.max = 9223372036854775807 := rfl
  simp [Lit.wf]
  omega
theorem IMap.look_ok (h : IMap W M f c) {t e : TypeId} (ht : Try.prog.underlying t = some (.map 3 e)) {z : Value} (hz : (zeroValue e).run Try.prog W = .ok z W) (x : Int) (h0 : -9223372036854775808 ≤ x) (h1 : x ≤ 9223372036854775807) :
    (Instr.lookup t (.map (some M)) (.int .i64 x) true).run Try.prog W = .ok (.tuple #[(f x).getD z, .bool (f x).isSome]) W := by
  obtain ⟨D, h2, h3, h4, h5⟩ := h
  obtain ⟨v, ps, hrun, hvv⟩ := h2.look_ok K3 ht hz (show hv z = some (.held z, []) from rfl) (keyOf_int_mk Try.underlying3 (wf64 h0 h1))
  have hd := hv_inv hvv
  rw [h5 x] at hd
  have e : v = (f x).getD z := got_inv hd
  rw [hrun, e, h4 x]
theorem IMap.look (h : IMap W M f c) {t e : TypeId} (ht : Try.prog.underlying t = some (.map 3 e)) {z : Value} (hz : (zeroValue e).run Try.prog W = .ok z W) (x : Int) (h0 : -9223372036854775808 ≤ x) (h1 : x ≤ 9223372036854775807) :
    (Instr.lookup t (.map (some M)) (.int .i64 x) false).run Try.prog W = .ok ((f x).getD z) W := by
  obtain ⟨D, h2, h3, h4, h5⟩ := h
  obtain ⟨v, ps, hrun, hvv⟩ := h2.lookup K3 ht hz (show hv z = some (.held z, []) from rfl) (keyOf_int_mk Try.underlying3 (wf64 h0 h1))
  have hd := hv_inv hvv
  rw [h5 x] at hd
  have e : v = (f x).getD z := got_inv hd
  rw [hrun, e]
theorem IMap.len (h : IMap W M f c) {t e : TypeId} (ht : Try.prog.underlying t = some (.map 3 e)) (ty : TypeId) : (Builtin.len_ #[t] ty #[.map (some M)]).run Try.prog W = .ok (.int .i64 c) W := by
  obtain ⟨D, h1, h2, _⟩ := h
  rw [h1.len ht ty, h2]
/-- A new entry. -/
theorem IMap.store (h : IMap W M f c) {t e : TypeId} (ht : Try.prog.underlying t = some (.map 3 e)) (x : Int) (h0 : -9223372036854775808 ≤ x) (h1 : x ≤ 9223372036854775807) (v : Value) (hc : c < 1000000) (hn : f x = none) :
    ∃ W', (Instr.mapUpdate t (.map (some M)) (.int .i64 x) v).run Try.prog W = .ok () W' ∧ IMap W' M (put f x v) (c + 1) ∧ Chg (fun k => k = M) W W' := by
  obtain ⟨D, h2, h3, h4, h5⟩ := h
  obtain ⟨W', hrun, ho, hg⟩ := h2.update K3 ht (by unfold maxLen; omega) (keyOf_int_mk Try.underlying3 (wf64 h0 h1)) (show hv v = some (.held v, []) from rfl)
  have hsz : Maps.size (D.put (.int .i64 x) (.held v)) = c + 1 := by
    rw [size_put (h2.tidy K3), h4 x, hn, h3]
    rfl
  refine ⟨W', hrun, ⟨D.put (.int .i64 x) (.held v), ?_, hsz, fun y => ?_, fun y z => ?_⟩, ⟨hg.os, hg.tape, hg.output, hg.size, fun k hk hf => hg.block k hk (fun e => hf (Option.some.inj e))⟩⟩
  · have := ownsMap_tight ho
    rw [hsz] at this
    exact this
  · unfold put
    by_cases e : y = x
    · subst e
      rw [if_pos rfl, has_put_same h2.isMap (int_key _)]
      rfl
    · rw [if_neg e, has_put_other (int_ne e), h4 y]
  · unfold put
    by_cases e : y = x
    · subst e
      rw [if_pos rfl, atKey_put_same h2.isMap (int_key _)]
      rfl
    · rw [if_neg e, atKey_put_other (int_ne e), h5 y]
theorem setBlock_at {W : World} {M : Nat} (h : M < W.heap.size) (o : Obj) : (Go.ChangeMaps.setBlock W M o).heap[M]? = some o := by
  unfold Go.ChangeMaps.setBlock
  rw [Array.getElem?_setIfInBounds, if_pos rfl, if_pos h]
theorem setBlock_far (W : World) {M k : Nat} (h : k ≠ M) (o : Obj) : (Go.ChangeMaps.setBlock W M o).heap[k]? = W.heap[k]? := by
  unfold Go.ChangeMaps.setBlock
  rw [Array.getElem?_setIfInBounds, if_neg (fun e => h e.symm)]
theorem setBlock_size (W : World) (M : Nat) (o : Obj) : (Go.ChangeMaps.setBlock W M o).heap.size = W.heap.size := by
  unfold Go.ChangeMaps.setBlock
  simp
theorem setBlock_chg (W : World) (M : Nat) (o : Obj) : Chg (fun k => k = M) W (Go.ChangeMaps.setBlock W M o) := ⟨rfl, rfl, rfl, Nat.le_of_eq (setBlock_size W M o).symm, fun k _ hk => setBlock_far W hk o⟩
/-- A new entry, in the two steps of an assignment of several. -/
theorem IMap.entry (h : IMap W M f c) {t e : TypeId} (ht : Try.prog.underlying t = some (.map 3 e)) {z : Value} (hz : ∀ u : World, (zeroValue e).run Try.prog u = .ok z u) (x : Int) (h0 : -9223372036854775808 ≤ x) (h1 : x ≤ 9223372036854775807) (v : Value) (hc : c < 1000000) (hn : f x = none) :
    ∃ (st : Nat) (o0 o1 o2 : Obj), W.heap[M]? = some o0 ∧ (∀ w2 : World, w2.heap[M]? = some o0 → (Instr.mapEntry t (.map (some M)) (.int .i64 x)).run Try.prog w2 = .ok (.tuple #[z, .int .i64 st]) (Go.ChangeMaps.setBlock w2 M o1)) ∧
      (∀ w2 : World, w2.heap[M]? = some o1 → (Instr.entryStore t (.map (some M)) (.int .i64 st) v).run Try.prog w2 = .ok () (Go.ChangeMaps.setBlock w2 M o2)) ∧
      (∀ w2 : World, w2.heap[M]? = some o2 → IMap w2 M (put f x v) (c + 1)) := by
  have hkey := keyOf_int_mk (k := 3) Try.underlying3 (wf64 h0 h1)
  obtain ⟨W1, hrun1, hI1, hc1⟩ := h.store ht x h0 h1 v hc hn
  have hlk := fun (w2 : World) (hw : IMap w2 M f c) => hw.look_ok ht (hz w2) x h0 h1
  obtain ⟨es, clock, hb⟩ := h.is
  have hF : ∃ F : Fit Try.prog 3 hv es clock, True := by
    obtain ⟨D, ⟨es', clock', h1', F, _⟩, _⟩ := h
    rw [hb] at h1'
    injection h1' with h1'
    injection h1' with ha hb'
    subst ha hb'
    exact ⟨F, trivial⟩
  obtain ⟨F, _⟩ := hF
  obtain ⟨s1, s2, _⟩ := F.stamped
  have hnone : ∀ w2 : World, w2.heap[M]? = some (.map es clock) → (Instr.findKey 3 (.int .i64 x) es.toList).run Try.prog w2 = .ok none w2 := by
    intro w2 hw2
    have hl := hlk w2 (h.block (hw2.trans hb.symm))
    rw [hn] at hl
    rcases fit_look true K3 ht (hz w2) hw2 F hkey with ⟨_, hne, _⟩ | ⟨e0, y, _, _, hr, _⟩
    · rcases K3.find w2 hkey es.toList F.keys with ⟨a, _⟩ | ⟨j, e0, _, b, c⟩
      · exact a
      · exact absurd c (hne e0 (List.mem_of_getElem? b))
    · rw [hl] at hr
      simp at hr
  refine ⟨clock, .map es clock, .map (es.push ⟨.int .i64 x, z, clock⟩) (clock + 1), .map (es.push ⟨.int .i64 x, v, clock⟩) (clock + 1), hb, ?_, ?_, ?_⟩
  · intro w2 hw2
    simp [Instr.mapEntry, run_underlying ht, MapKept.run_getObj_map hw2, K3.check w2 false hkey, hnone w2 hw2, hz, MapKept.run_setObj_map _ hw2, Result.andThen, Go.ChangeMaps.setBlock, goInt]
  · intro w2 hw2
    have hidx : (es.push ⟨.int .i64 x, z, clock⟩).findIdx? (fun e => ((e.born : Nat) : Int) == ((clock : Nat) : Int)) = some es.size := by
      rw [WideElems.findIdx_arr]
      exact WideElems.findIdx_born (l := (es.push ⟨.int .i64 x, z, clock⟩).toList) (j := es.size) (e0 := ⟨.int .i64 x, z, clock⟩) (by
        simp only [Array.toList_push, List.map_append, List.map_cons, List.map_nil]
        refine List.nodup_append.2 ⟨s2, by simp, fun a ha c hc e1 => ?_⟩
        simp only [List.mem_singleton] at hc
        obtain ⟨y, hy, rfl⟩ := List.mem_map.1 ha
        have := s1 y hy
        omega) (by simp)
    have hmod : (es.push ⟨.int .i64 x, z, clock⟩).modify es.size (fun e => { e with val := v }) = es.push ⟨.int .i64 x, v, clock⟩ := by
      apply Array.ext'
      rw [Array.toList_modify, Array.toList_push, Array.toList_push, ← Array.length_toList, WideElems.modify_last]
    simp [Instr.entryStore, MapKept.run_getObj_map hw2, asInt, asIntOf, goInt, hidx, hmod, MapKept.run_setObj_map _ hw2, Result.andThen, Go.ChangeMaps.setBlock]
  · intro w2 hw2
    refine hI1.block (hw2.trans ?_)
    have hr2 : (Instr.mapUpdate t (.map (some M)) (.int .i64 x) v).run Try.prog W = .ok () (Go.ChangeMaps.setBlock W M (.map (es.push ⟨.int .i64 x, v, clock⟩) (clock + 1))) := by
      simp [Instr.mapUpdate, run_underlying ht, MapKept.run_getObj_map hb, K3.check W false hkey, hnone W hb, MapKept.run_setObj_map _ hb, Result.andThen, Go.ChangeMaps.setBlock]
    rw [hr2] at hrun1
    have hW1 := (Result.ok.inj hrun1).2
    rw [← hW1]
    exact (setBlock_at h.lt _).symm
/-- An entry goes. -/
theorem IMap.drop (h : IMap W M f c) {t e : TypeId} (ht : Try.prog.underlying t = some (.map 3 e)) (x : Int) (h0 : -9223372036854775808 ≤ x) (h1 : x ≤ 9223372036854775807) (hn : (f x).isSome = true) (ty : TypeId) :
    ∃ W', (Builtin.delete_ #[t, 3] ty #[.map (some M), .int .i64 x]).run Try.prog W = .ok (.tuple #[]) W' ∧ IMap W' M (del f x) (c - 1) ∧ Chg (fun k => k = M) W W' := by
  obtain ⟨D, h2, h3, h4, h5⟩ := h
  obtain ⟨W', hrun, ho, ht'⟩ := h2.drop K3 ht (keyOf_int_mk Try.underlying3 (wf64 h0 h1)) ty
  have hg := ht'.grown
  have hsz : Maps.size (D.del (.int .i64 x)) = c - 1 := by
    have := size_del (k := .int .i64 x) (h2.tidy K3)
    rw [h4 x, hn, h3] at this
    simp at this
    omega
  refine ⟨W', hrun, ⟨D.del (.int .i64 x), ?_, hsz, fun y => ?_, fun y z => ?_⟩, ⟨hg.os, hg.tape, hg.output, hg.size, fun k hk hf => hg.block k hk (fun e => hf (Option.some.inj e))⟩⟩
  · have := ownsMap_tight ho
    rw [hsz] at this
    exact this
  · unfold del
    by_cases e : y = x
    · subst e
      rw [if_pos rfl, has_del_same]
      rfl
    · rw [if_neg e, has_del_other (int_ne e), h4 y]
  · unfold del
    by_cases e : y = x
    · subst e
      rw [if_pos rfl, atKey_del_same]
      rfl
    · rw [if_neg e, atKey_del_other (int_ne e), h5 y]
end
end Go.Proofs.Ytebhpmmibffbeaa.GmA
