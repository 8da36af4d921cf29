/- Proved: a map with int keys, as a function of its keys (lemmas for the walks of the grants). Proved: what a map of places does (contracts for the laws of the grants). Proved: what a view without rewrites does (contracts for the laws of the grants). Proved: a map whose keys are pairs of ints, as a function of the pair (lemmas for the walks of the grants). -/
import Derived.Test.YthlejchcnfdcpaaGreatMlaa
import Derived.Maps.OwnSet
import Derived.Maps.OwnOps
import Derived.WideKeyEntry
import Derived.Maps.RangeWalk
import Derived.DeepKeys5
namespace Go.Proofs.YthlejchcnfdcpaaGreat.GmA
open Go.RowKit Go.Maps Go.WideElems Base GaA
set_option linter.unusedVariables false
set_option linter.unusedSimpArgs false

/-- An element reads as itself. -/
def hv : Value → Option (DataW Value × List MemPlace) := fun v => some (.held v, [])
theorem hv_inv {v : Value} {d : DataW Value} {ps : List MemPlace} (h : hv v = some (d, ps)) : d = .held v := by
  unfold hv at h
  injection h with h
  injection h with h1 h2
  exact h1.symm
def got (o : Option Value) (z : DataW Value) : DataW Value := match o with | some v => .held v | none => z
theorem got_inv {o : Option Value} {z v : Value} (h : got o (.held z) = .held v) : v = o.getD z := by
  cases o with
  | none => exact (DataW.held.inj h).symm
  | some u => exact (DataW.held.inj h).symm
theorem K3 : Keyed Tryz.prog 3 := int_keyed Tryz.underlying3
/-- The map in block M holds (f x) at the key x, and nothing else; it has c entries. -/
def IMap (W : World) (M : Nat) (f : Int → Option Value) (c : Nat) : Prop :=
  ∃ D : DataW Value, W.ownsMap Tryz.prog 3 hv M c D ∧ Maps.size D = c ∧ (∀ x : Int, Maps.has D (.int .i64 x) = (f x).isSome) ∧ ∀ (x : Int) (z : DataW Value), D.atKey (.int .i64 x) z = got (f x) z
theorem ownsMap_block {w w' : World} {P : Program} {k : TypeId} {R : Value → Option (DataW Value × List MemPlace)} {b n : Nat} {D : DataW Value} (h : w.ownsMap P k R b n D) (hb : w'.heap[b]? = w.heap[b]?) : w'.ownsMap P k R b n D := by
  obtain ⟨es, clock, h1, h2⟩ := h
  exact ⟨es, clock, hb.trans h1, h2⟩
theorem ownsMap_tight {w : World} {P : Program} {k : TypeId} {R : Value → Option (DataW Value × List MemPlace)} {b n : Nat} {D : DataW Value} (h : w.ownsMap P k R b n D) : w.ownsMap P k R b (Maps.size D) D := by
  obtain ⟨es, clock, h1, h2, h3, rfl⟩ := h
  exact ⟨es, clock, h1, h2, by simp [Maps.size, length_sorted], rfl⟩
def put (f : Int → Option Value) (k : Int) (v : Value) : Int → Option Value := fun x => if x = k then some v else f x
def del (f : Int → Option Value) (k : Int) : Int → Option Value := fun x => if x = k then none else f x
theorem int_ne {a b : Int} (h : a ≠ b) : Lit.int .i64 a ≠ Lit.int .i64 b := fun e => h (by injection e)
theorem int_key (x : Int) : WideAt.IsKeyLit (.int .i64 x) := by simp [WideAt.IsKeyLit]
section
variable {W W' : World} {M c : Nat} {f : Int → Option Value}
theorem IMap.lt (h : IMap W M f c) : M < W.heap.size := by
  obtain ⟨D, h1, _⟩ := h
  exact h1.lt
theorem IMap.block (h : IMap W M f c) (hb : W'.heap[M]? = W.heap[M]?) : IMap W' M f c := by
  obtain ⟨D, h1, h2⟩ := h
  exact ⟨D, ownsMap_block h1 hb, h2⟩
theorem IMap.chg {F : Nat → Prop} (h : IMap W M f c) (hc : Chg F W W') (hf : ¬ F M) : IMap W' M f c := h.block (hc.block _ h.lt hf)
theorem IMap.below (h : IMap W M f c) (hb : Below W.heap.size W W') : IMap W' M f c := h.block (hb.block _ h.lt)
theorem IMap.is (h : IMap W M f c) : ∃ es clock, W.heap[M]? = some (.map es clock) := by
  obtain ⟨D, ⟨es, clock, h1, _⟩, _⟩ := h
  exact ⟨es, clock, h1⟩
theorem IMap.made (w : World) : IMap (w.alloc (.map #[] 0)) w.heap.size (fun _ => none) 0 :=
  ⟨.map [], World.ownsMap_made w _ _ _, rfl, fun x => rfl, fun x z => rfl⟩
theorem IMap.made_at {w : World} {M : Nat} (h : w.heap[M]? = some (.map #[] 0)) : IMap w M (fun _ => none) 0 := by
  obtain ⟨es, clock, h1, h2, h3, h4⟩ := World.ownsMap_made (H := Value) (⟨#[], w.tape, w.drawn, w.os, w.output⟩ : World) Tryz.prog 3 hv
  have h1' : some (Obj.map #[] 0) = some (Obj.map es clock) := h1
  injection h1' with h1'
  injection h1' with ha hb
  subst ha hb
  exact ⟨.map [], ⟨#[], 0, h, h2, h3, h4⟩, rfl, fun x => rfl, fun x z => rfl⟩
theorem wf64 {x : Int} (h0 : -9223372036854775808 ≤ x) (h1 : x ≤ 9223372036854775807) : (Lit.int .i64 x).wf = true := by
  have h1 : IntKind.i64.min = -9223372036854775808 := rfl
  have h2 : IntKind.i64.max = 9223372036854775807 := rfl
  simp [Lit.wf]
  omega
theorem IMap.look_ok (h : IMap W M f c) {t e : TypeId} (ht : Tryz.prog.underlying t = some (.map 3 e)) {z : Value} (hz : (zeroValue e).run Tryz.prog W = .ok z W) (x : Int) (h0 : -9223372036854775808 ≤ x) (h1 : x ≤ 9223372036854775807) :
    (Instr.lookup t (.map (some M)) (.int .i64 x) true).run Tryz.prog W = .ok (.tuple #[(f x).getD z, .bool (f x).isSome]) W := by
  obtain ⟨D, h2, h3, h4, h5⟩ := h
  obtain ⟨v, ps, hrun, hvv⟩ := h2.look_ok K3 ht hz (show hv z = some (.held z, []) from rfl) (keyOf_int_mk Tryz.underlying3 (wf64 h0 h1))
  have hd := hv_inv hvv
  rw [h5 x] at hd
  have e : v = (f x).getD z := got_inv hd
  rw [hrun, e, h4 x]
theorem IMap.look (h : IMap W M f c) {t e : TypeId} (ht : Tryz.prog.underlying t = some (.map 3 e)) {z : Value} (hz : (zeroValue e).run Tryz.prog W = .ok z W) (x : Int) (h0 : -9223372036854775808 ≤ x) (h1 : x ≤ 9223372036854775807) :
    (Instr.lookup t (.map (some M)) (.int .i64 x) false).run Tryz.prog W = .ok ((f x).getD z) W := by
  obtain ⟨D, h2, h3, h4, h5⟩ := h
  obtain ⟨v, ps, hrun, hvv⟩ := h2.lookup K3 ht hz (show hv z = some (.held z, []) from rfl) (keyOf_int_mk Tryz.underlying3 (wf64 h0 h1))
  have hd := hv_inv hvv
  rw [h5 x] at hd
  have e : v = (f x).getD z := got_inv hd
  rw [hrun, e]
theorem IMap.len (h : IMap W M f c) {t e : TypeId} (ht : Tryz.prog.underlying t = some (.map 3 e)) (ty : TypeId) : (Builtin.len_ #[t] ty #[.map (some M)]).run Tryz.prog W = .ok (.int .i64 c) W := by
  obtain ⟨D, h1, h2, _⟩ := h
  rw [h1.len ht ty, h2]
/-- A new entry. -/
theorem IMap.store (h : IMap W M f c) {t e : TypeId} (ht : Tryz.prog.underlying t = some (.map 3 e)) (x : Int) (h0 : -9223372036854775808 ≤ x) (h1 : x ≤ 9223372036854775807) (v : Value) (hc : c < 1000000) (hn : f x = none) :
    ∃ W', (Instr.mapUpdate t (.map (some M)) (.int .i64 x) v).run Tryz.prog W = .ok () W' ∧ IMap W' M (put f x v) (c + 1) ∧ Chg (fun k => k = M) W W' := by
  obtain ⟨D, h2, h3, h4, h5⟩ := h
  obtain ⟨W', hrun, ho, hg⟩ := h2.update K3 ht (by unfold maxLen; omega) (keyOf_int_mk Tryz.underlying3 (wf64 h0 h1)) (show hv v = some (.held v, []) from rfl)
  have hsz : Maps.size (D.put (.int .i64 x) (.held v)) = c + 1 := by
    rw [size_put (h2.tidy K3), h4 x, hn, h3]
    rfl
  refine ⟨W', hrun, ⟨D.put (.int .i64 x) (.held v), ?_, hsz, fun y => ?_, fun y z => ?_⟩, ⟨hg.os, hg.tape, hg.output, hg.size, fun k hk hf => hg.block k hk (fun e => hf (Option.some.inj e))⟩⟩
  · have := ownsMap_tight ho
    rw [hsz] at this
    exact this
  · unfold put
    by_cases e : y = x
    · subst e
      rw [if_pos rfl, has_put_same h2.isMap (int_key _)]
      rfl
    · rw [if_neg e, has_put_other (int_ne e), h4 y]
  · unfold put
    by_cases e : y = x
    · subst e
      rw [if_pos rfl, atKey_put_same h2.isMap (int_key _)]
      rfl
    · rw [if_neg e, atKey_put_other (int_ne e), h5 y]
theorem setBlock_at {W : World} {M : Nat} (h : M < W.heap.size) (o : Obj) : (Go.ChangeMaps.setBlock W M o).heap[M]? = some o := by
  unfold Go.ChangeMaps.setBlock
  rw [Array.getElem?_setIfInBounds, if_pos rfl, if_pos h]
theorem setBlock_far (W : World) {M k : Nat} (h : k ≠ M) (o : Obj) : (Go.ChangeMaps.setBlock W M o).heap[k]? = W.heap[k]? := by
  unfold Go.ChangeMaps.setBlock
  rw [Array.getElem?_setIfInBounds, if_neg (fun e => h e.symm)]
theorem setBlock_size (W : World) (M : Nat) (o : Obj) : (Go.ChangeMaps.setBlock W M o).heap.size = W.heap.size := by
  unfold Go.ChangeMaps.setBlock
  simp
theorem setBlock_chg (W : World) (M : Nat) (o : Obj) : Chg (fun k => k = M) W (Go.ChangeMaps.setBlock W M o) := ⟨rfl, rfl, rfl, Nat.le_of_eq (setBlock_size W M o).symm, fun k _ hk => setBlock_far W hk o⟩
/-- A new entry, in the two steps of an assignment of several. -/
theorem IMap.entry (h : IMap W M f c) {t e : TypeId} (ht : Tryz.prog.underlying t = some (.map 3 e)) {z : Value} (hz : ∀ u : World, (zeroValue e).run Tryz.prog u = .ok z u) (x : Int) (h0 : -9223372036854775808 ≤ x) (h1 : x ≤ 9223372036854775807) (v : Value) (hc : c < 1000000) (hn : f x = none) :
    ∃ (st : Nat) (o0 o1 o2 : Obj), W.heap[M]? = some o0 ∧ (∀ w2 : World, w2.heap[M]? = some o0 → (Instr.mapEntry t (.map (some M)) (.int .i64 x)).run Tryz.prog w2 = .ok (.tuple #[z, .int .i64 st]) (Go.ChangeMaps.setBlock w2 M o1)) ∧
      (∀ w2 : World, w2.heap[M]? = some o1 → (Instr.entryStore t (.map (some M)) (.int .i64 st) v).run Tryz.prog w2 = .ok () (Go.ChangeMaps.setBlock w2 M o2)) ∧
      (∀ w2 : World, w2.heap[M]? = some o2 → IMap w2 M (put f x v) (c + 1)) := by
  have hkey := keyOf_int_mk (k := 3) Tryz.underlying3 (wf64 h0 h1)
  obtain ⟨W1, hrun1, hI1, hc1⟩ := h.store ht x h0 h1 v hc hn
  have hlk := fun (w2 : World) (hw : IMap w2 M f c) => hw.look_ok ht (hz w2) x h0 h1
  obtain ⟨es, clock, hb⟩ := h.is
  have hF : ∃ F : Fit Tryz.prog 3 hv es clock, True := by
    obtain ⟨D, ⟨es', clock', h1', F, _⟩, _⟩ := h
    rw [hb] at h1'
    injection h1' with h1'
    injection h1' with ha hb'
    subst ha hb'
    exact ⟨F, trivial⟩
  obtain ⟨F, _⟩ := hF
  obtain ⟨s1, s2, _⟩ := F.stamped
  have hnone : ∀ w2 : World, w2.heap[M]? = some (.map es clock) → (Instr.findKey 3 (.int .i64 x) es.toList).run Tryz.prog w2 = .ok none w2 := by
    intro w2 hw2
    have hl := hlk w2 (h.block (hw2.trans hb.symm))
    rw [hn] at hl
    rcases fit_look true K3 ht (hz w2) hw2 F hkey with ⟨_, hne, _⟩ | ⟨e0, y, _, _, hr, _⟩
    · rcases K3.find w2 hkey es.toList F.keys with ⟨a, _⟩ | ⟨j, e0, _, b, c⟩
      · exact a
      · exact absurd c (hne e0 (List.mem_of_getElem? b))
    · rw [hl] at hr
      simp at hr
  refine ⟨clock, .map es clock, .map (es.push ⟨.int .i64 x, z, clock⟩) (clock + 1), .map (es.push ⟨.int .i64 x, v, clock⟩) (clock + 1), hb, ?_, ?_, ?_⟩
  · intro w2 hw2
    simp [Instr.mapEntry, run_underlying ht, MapKept.run_getObj_map hw2, K3.check w2 false hkey, hnone w2 hw2, hz, MapKept.run_setObj_map _ hw2, Result.andThen, Go.ChangeMaps.setBlock, goInt]
  · intro w2 hw2
    have hidx : (es.push ⟨.int .i64 x, z, clock⟩).findIdx? (fun e => ((e.born : Nat) : Int) == ((clock : Nat) : Int)) = some es.size := by
      rw [WideElems.findIdx_arr]
      exact WideElems.findIdx_born (l := (es.push ⟨.int .i64 x, z, clock⟩).toList) (j := es.size) (e0 := ⟨.int .i64 x, z, clock⟩) (by
        simp only [Array.toList_push, List.map_append, List.map_cons, List.map_nil]
        refine List.nodup_append.2 ⟨s2, by simp, fun a ha c hc e1 => ?_⟩
        simp only [List.mem_singleton] at hc
        obtain ⟨y, hy, rfl⟩ := List.mem_map.1 ha
        have := s1 y hy
        omega) (by simp)
    have hmod : (es.push ⟨.int .i64 x, z, clock⟩).modify es.size (fun e => { e with val := v }) = es.push ⟨.int .i64 x, v, clock⟩ := by
      apply Array.ext'
      rw [Array.toList_modify, Array.toList_push, Array.toList_push, ← Array.length_toList, WideElems.modify_last]
    simp [Instr.entryStore, MapKept.run_getObj_map hw2, asInt, asIntOf, goInt, hidx, hmod, MapKept.run_setObj_map _ hw2, Result.andThen, Go.ChangeMaps.setBlock]
  · intro w2 hw2
    refine hI1.block (hw2.trans ?_)
    have hr2 : (Instr.mapUpdate t (.map (some M)) (.int .i64 x) v).run Tryz.prog W = .ok () (Go.ChangeMaps.setBlock W M (.map (es.push ⟨.int .i64 x, v, clock⟩) (clock + 1))) := by
      simp [Instr.mapUpdate, run_underlying ht, MapKept.run_getObj_map hb, K3.check W false hkey, hnone W hb, MapKept.run_setObj_map _ hb, Result.andThen, Go.ChangeMaps.setBlock]
    rw [hr2] at hrun1
    have hW1 := (Result.ok.inj hrun1).2
    rw [← hW1]
    exact (setBlock_at h.lt _).symm
/-- An entry goes. -/
theorem IMap.drop (h : IMap W M f c) {t e : TypeId} (ht : Tryz.prog.underlying t = some (.map 3 e)) (x : Int) (h0 : -9223372036854775808 ≤ x) (h1 : x ≤ 9223372036854775807) (hn : (f x).isSome = true) (ty : TypeId) :
    ∃ W', (Builtin.delete_ #[t, 3] ty #[.map (some M), .int .i64 x]).run Tryz.prog W = .ok (.tuple #[]) W' ∧ IMap W' M (del f x) (c - 1) ∧ Chg (fun k => k = M) W W' := by
  obtain ⟨D, h2, h3, h4, h5⟩ := h
  obtain ⟨W', hrun, ho, ht'⟩ := h2.drop K3 ht (keyOf_int_mk Tryz.underlying3 (wf64 h0 h1)) ty
  have hg := ht'.grown
  have hsz : Maps.size (D.del (.int .i64 x)) = c - 1 := by
    have := size_del (k := .int .i64 x) (h2.tidy K3)
    rw [h4 x, hn, h3] at this
    simp at this
    omega
  refine ⟨W', hrun, ⟨D.del (.int .i64 x), ?_, hsz, fun y => ?_, fun y z => ?_⟩, ⟨hg.os, hg.tape, hg.output, hg.size, fun k hk hf => hg.block k hk (fun e => hf (Option.some.inj e))⟩⟩
  · have := ownsMap_tight ho
    rw [hsz] at this
    exact this
  · unfold del
    by_cases e : y = x
    · subst e
      rw [if_pos rfl, has_del_same]
      rfl
    · rw [if_neg e, has_del_other (int_ne e), h4 y]
  · unfold del
    by_cases e : y = x
    · subst e
      rw [if_pos rfl, atKey_del_same]
      rfl
    · rw [if_neg e, atKey_del_other (int_ne e), h5 y]
end
end Go.Proofs.YthlejchcnfdcpaaGreat.GmA
namespace Go.Proofs.YthlejchcnfdcpaaGreat.GpA
open Go.RowKit Go.Maps Base GaA GmA
set_option linter.unusedVariables false
set_option linter.unusedSimpArgs false

def ivs (f : Int → Option Int) : Int → Option Value := fun x => (f x).map (Value.int .i64)
def iput (f : Int → Option Int) (k v : Int) : Int → Option Int := fun x => if x = k then some v else f x
theorem ivs_put (f : Int → Option Int) (k v : Int) : ivs (iput f k v) = put (ivs f) k (.int .i64 v) := by
  funext x
  unfold ivs iput put
  split <;> rfl
theorem zeroI (w : World) : (zeroValue 3).run Tryz.prog w = .ok (.int .i64 0) w := Tryz.zeroValue3 w
/-- A map of places in memory. -/
structure P2 (w : World) (pb fm pm size : Nat) (fr pl : Int → Option Int) (c : Nat) : Prop where
  blk : w.heap[pb]? = some (.cells #[.map (some fm), .map (some pm), .int .i64 size] 125 (0, 0))
  mf : IMap w fm (ivs fr) c
  mp : IMap w pm (ivs pl) c
  ne : fm ≠ pm
section
variable {w w' : World} {pb fm pm size : Nat} {fr pl : Int → Option Int} {c : Nat}
theorem P2.chg {F : Nat → Prop} (h : P2 w pb fm pm size fr pl c) (hc : Chg F w w') (h1 : ¬ F pb) (h2 : ¬ F fm) (h3 : ¬ F pm) : P2 w' pb fm pm size fr pl c :=
  ⟨hc.blk h.blk h1, h.mf.chg hc h2, h.mp.chg hc h3, h.ne⟩
theorem P2.below (h : P2 w pb fm pm size fr pl c) (hb : Below w.heap.size w w') : P2 w' pb fm pm size fr pl c := h.chg (Chg.below (fun _ => False) hb) (fun h => h) (fun h => h) (fun h => h)
theorem P2.lt (h : P2 w pb fm pm size fr pl c) : pb < w.heap.size ∧ fm < w.heap.size ∧ pm < w.heap.size := ⟨blk_lt h.blk, h.mf.lt, h.mp.lt⟩
theorem P2.nef (h : P2 w pb fm pm size fr pl c) : pb ≠ fm := by
  rintro rfl
  obtain ⟨es, clock, h1⟩ := h.mf.is
  rw [h.blk] at h1
  cases h1
theorem P2.nep (h : P2 w pb fm pm size fr pl c) : pb ≠ pm := by
  rintro rfl
  obtain ⟨es, clock, h1⟩ := h.mp.is
  rw [h.blk] at h1
  cases h1
set_option maxHeartbeats 2000000 in
set_option maxRecDepth 100000 in
theorem new_calls (w : World) (n : Nat) (hn : n ≤ 48) : Calls Tryz.prog 11 #[.int .i64 n] w fun e w' => ∃ pb fm pm, e = .returned (.tuple #[.pointer (some ⟨pb, 0, none⟩), .int .i64 0]) ∧ P2 w' pb fm pm n (fun _ => none) (fun _ => none) 0 ∧ (w.heap.size ≤ pb ∧ w.heap.size ≤ fm ∧ w.heap.size ≤ pm) ∧ Below w.heap.size w w' := by
  have hmm := @run_makeMap Tryz.prog
  have d0 : decide ((n : Int) < 0) = false := decide_eq_false (by omega)
  have d1 : decide ((48 : Int) < (n : Int)) = false := decide_eq_false (by omega)
  go_enter Tryz.func11, Tryz.ntmps11
  go_wp2
  go_ret2
  exact ⟨w.heap.size + 1 + 1, w.heap.size, w.heap.size + 1, rfl, ⟨blk_newest (by simp) _, IMap.made_at (blk_alloc (blk_alloc (blk_new _ _) _) _), IMap.made_at (blk_alloc (blk_newest (by simp) _) _), by omega⟩, ⟨by omega, Nat.le_refl _, by omega⟩, below_alloc (below_alloc (below_alloc (Below.refl _ _) _) _) _⟩
theorem eqm (w : World) (r : Option Nat) : (binOp .eql 123 (.map r) (.map none)).run Tryz.prog w = .ok (.bool r.isNone) w := run_eql_map_nil w _ _ _ r Tryz.underlying123
set_option maxHeartbeats 2000000 in
set_option maxRecDepth 100000 in
theorem none_calls (h : P2 w pb fm pm size fr pl c) : Calls Tryz.prog 94 #[.pointer (some ⟨pb, 0, none⟩)] w fun e w' => e = .returned (.bool false) ∧ w' = w := by
  have C0 := fun i => blk_cell h.blk i
  have L0 := blk_lt h.blk
  have q0 := eqm
  clear h
  go_enter Tryz.func94, Tryz.ntmps94
  go_wp2
  go_ret
  exact ⟨by first | rfl | (simp; done), rfl⟩
set_option maxHeartbeats 2000000 in
set_option maxRecDepth 100000 in
theorem place_calls (h : P2 w pb fm pm size fr pl c) (g : Nat) (hg : g < size) : Calls Tryz.prog 50 #[.pointer (some ⟨pb, 0, none⟩), .int .i64 g] w fun e w' => e = .returned (.int .i64 0) ∧ w' = w := by
  have C0 := fun i => blk_cell h.blk i
  have L0 := blk_lt h.blk
  have hn := none_calls h
  have d0 : decide ((g : Int) < 0) = false := decide_eq_false (by omega)
  have d1 : decide ((size : Int) ≤ (g : Int)) = false := decide_eq_false (by omega)
  clear h
  go_enter Tryz.func50, Tryz.ntmps50
  go_wp2_with (first
    | (go_at_call 94; refine hn.mono ?_; rintro z w1 ⟨rfl, hw1⟩; obtain rfl := hw1.symm)
    | go_in)
  go_ret
  exact ⟨by first | rfl | (simp; done), rfl⟩
set_option maxHeartbeats 2000000 in
set_option maxRecDepth 100000 in
theorem place_out (h : P2 w pb fm pm size fr pl c) (g : Int) (hg : g < 0 ∨ (size : Int) ≤ g) : Calls Tryz.prog 50 #[.pointer (some ⟨pb, 0, none⟩), .int .i64 g] w fun e w' => e = .returned (.int .i64 1) ∧ w' = w := by
  have C0 := fun i => blk_cell h.blk i
  have L0 := blk_lt h.blk
  have hn := none_calls h
  clear h
  by_cases h0 : g < 0
  · have d0 : decide (g < 0) = true := decide_eq_true h0
    clear hg h0
    go_enter Tryz.func50, Tryz.ntmps50
    go_wp2_with (first
      | (go_at_call 94; refine hn.mono ?_; rintro z w1 ⟨rfl, hw1⟩; obtain rfl := hw1.symm)
      | go_in)
    go_ret
    exact ⟨by first | rfl | (simp; done), rfl⟩
  · have d0 : decide (g < 0) = false := decide_eq_false h0
    have d1 : decide ((size : Int) ≤ g) = true := decide_eq_true (by omega)
    clear hg h0
    go_enter Tryz.func50, Tryz.ntmps50
    go_wp2_with (first
      | (go_at_call 94; refine hn.mono ?_; rintro z w1 ⟨rfl, hw1⟩; obtain rfl := hw1.symm)
      | go_in)
    go_ret
    exact ⟨by first | rfl | (simp; done), rfl⟩
/-- Get's answer. -/
def getV (size : Nat) (fr : Int → Option Int) (g : Int) : Int × Int := if 0 ≤ g ∧ g < size then (match fr g with | some m => (m, 0) | none => (0, 6)) else (0, 1)
set_option maxHeartbeats 2000000 in
set_option maxRecDepth 100000 in
theorem get_calls (h : P2 w pb fm pm size fr pl c) (g : Int) (hs : size ≤ 48) : Calls Tryz.prog 100 #[.pointer (some ⟨pb, 0, none⟩), .int .i64 g] w fun e w' => e = .returned (.tuple #[.int .i64 (getV size fr g).1, .int .i64 (getV size fr g).2]) ∧ w' = w := by
  have C0 := fun i => blk_cell h.blk i
  have L0 := blk_lt h.blk
  by_cases hg : 0 ≤ g ∧ g < size
  · have hk := h.mf.look_ok Tryz.underlying123 (zeroI w) g (by omega) (by omega)
    obtain ⟨k, rfl⟩ : ∃ k : Nat, g = k := ⟨g.toNat, by omega⟩
    have hp := place_calls h k (by omega)
    have hv : getV size fr k = (match fr k with | some m => (m, 0) | none => (0, 6)) := if_pos hg
    rw [hv]
    cases hf : fr k with
    | none =>
      have e1 : ivs fr k = none := by unfold ivs; rw [hf]; rfl
      rw [e1] at hk
      simp only [Option.getD_none, Option.isSome_none] at hk
      clear h hv hg
      go_enter Tryz.func100, Tryz.ntmps100
      go_wp2_with (first
        | (go_at_call 50; refine hp.mono ?_; rintro z w1 ⟨rfl, hw1⟩; obtain rfl := hw1.symm)
        | go_in)
      go_ret2
      exact ⟨by first | rfl | (simp; done), rfl⟩
    | some m =>
      have e1 : ivs fr k = some (.int .i64 m) := by unfold ivs; rw [hf]; rfl
      rw [e1] at hk
      simp only [Option.getD_some, Option.isSome_some] at hk
      clear h hv hg
      go_enter Tryz.func100, Tryz.ntmps100
      go_wp2_with (first
        | (go_at_call 50; refine hp.mono ?_; rintro z w1 ⟨rfl, hw1⟩; obtain rfl := hw1.symm)
        | go_in)
      go_ret2
      exact ⟨by first | rfl | (simp; done), rfl⟩
  · have hp := place_out h g (by omega)
    have hv : getV size fr g = (0, 1) := if_neg hg
    rw [hv]
    clear h hv hg
    go_enter Tryz.func100, Tryz.ntmps100
    go_wp2_with (first
      | (go_at_call 50; refine hp.mono ?_; rintro z w1 ⟨rfl, hw1⟩; obtain rfl := hw1.symm)
      | go_in)
    go_ret2
    exact ⟨by first | rfl | (simp; done), rfl⟩
set_option maxHeartbeats 2000000 in
set_option maxRecDepth 100000 in
theorem find_none (h : P2 w pb fm pm size fr pl c) (m : Int) (h0 : -1000000 ≤ m) (h1 : m ≤ 1000000) (hm : pl m = none) : Calls Tryz.prog 53 #[.pointer (some ⟨pb, 0, none⟩), .int .i64 m] w fun e w' => e = .returned (.tuple #[.int .i64 0, .int .i64 6]) ∧ w' = w := by
  have C0 := fun i => blk_cell h.blk i
  have L0 := blk_lt h.blk
  have hn := none_calls h
  have hk := h.mp.look_ok Tryz.underlying123 (zeroI w) m (by omega) (by omega)
  have e1 : ivs pl m = none := by unfold ivs; rw [hm]; rfl
  rw [e1] at hk
  simp only [Option.getD_none, Option.isSome_none] at hk
  clear h
  go_enter Tryz.func53, Tryz.ntmps53
  go_wp2_with (first
    | (go_at_call 94; refine hn.mono ?_; rintro z w1 ⟨rfl, hw1⟩; obtain rfl := hw1.symm)
    | go_in)
  go_ret2
  exact ⟨by first | rfl | (simp; done), rfl⟩
theorem setBlock_self {W : World} {M : Nat} {o : Obj} (h : W.heap[M]? = some o) : Go.ChangeMaps.setBlock W M o = W := by
  unfold Go.ChangeMaps.setBlock
  have : W.heap.setIfInBounds M o = W.heap := by
    apply Array.ext_getElem?
    intro i
    rw [Array.getElem?_setIfInBounds]
    split
    · rename_i e
      subst e
      rw [if_pos (blk_lt h), h]
    · rfl
  rw [this]
theorem setBlock_twice (W : World) (M : Nat) (o p : Obj) : Go.ChangeMaps.setBlock (Go.ChangeMaps.setBlock W M o) M p = Go.ChangeMaps.setBlock W M p := by
  unfold Go.ChangeMaps.setBlock
  simp
theorem setBlock_comm (W : World) {f p : Nat} (h : f ≠ p) (a b c : Obj) : Go.ChangeMaps.setBlock (Go.ChangeMaps.setBlock (Go.ChangeMaps.setBlock W f a) p b) f c = Go.ChangeMaps.setBlock (Go.ChangeMaps.setBlock W f c) p b := by
  unfold Go.ChangeMaps.setBlock
  have : ((W.heap.setIfInBounds f a).setIfInBounds p b).setIfInBounds f c = (W.heap.setIfInBounds f c).setIfInBounds p b := by
    apply Array.ext_getElem?
    intro i
    simp only [Array.getElem?_setIfInBounds, Array.size_setIfInBounds]
    by_cases h1 : f = i
    · subst h1
      simp [h.symm]
    · simp [h1]
  simp only [this]
theorem setBlock_cell (W : World) (M k i : Nat) (h : k ≠ M) (o : Obj) : (Go.ChangeMaps.setBlock W M o).cell? ⟨k, i, none⟩ = W.cell? ⟨k, i, none⟩ := World.cell?_of_block (setBlock_far W h o)
set_option maxHeartbeats 4000000 in
set_option maxRecDepth 100000 in
theorem set_calls (h : P2 w pb fm pm size fr pl c) (g m : Nat) (hg : g < size) (hs : size ≤ 48) (hm : m < 256) (hf : fr g = none) (hp : pl m = none) (hc : c < 1000) :
    Calls Tryz.prog 15 #[.pointer (some ⟨pb, 0, none⟩), .int .i64 g, .int .i64 m] w fun e w' => e = .returned (.int .i64 0) ∧ P2 w' pb fm pm size (iput fr g m) (iput pl m g) (c + 1) ∧ Chg (fun k => k = fm ∨ k = pm) w w' := by
  have C0 := fun i => blk_cell h.blk i
  have L0 := blk_lt h.blk
  have hpl := place_calls h g hg
  have e1 : ivs fr g = none := by unfold ivs; rw [hf]; rfl
  have e2 : ivs pl m = none := by unfold ivs; rw [hp]; rfl
  have hk1 := h.mf.look_ok Tryz.underlying123 (zeroI w) g (by omega) (by omega)
  have hk2 := h.mp.look_ok Tryz.underlying123 (zeroI w) m (by omega) (by omega)
  rw [e1] at hk1
  rw [e2] at hk2
  simp only [Option.getD_none, Option.isSome_none] at hk1 hk2
  obtain ⟨st1, o0, o1, o2, a0, a1, a2, a3⟩ := h.mf.entry Tryz.underlying123 zeroI g (by omega) (by omega) (.int .i64 m) (by omega) e1
  obtain ⟨st2, p0, p1, p2, b0, b1, b2, b3⟩ := h.mp.entry Tryz.underlying123 zeroI m (by omega) (by omega) (.int .i64 g) (by omega) e2
  have d0 : decide ((m : Int) < 0) = false := decide_eq_false (by omega)
  have d1 : decide ((256 : Int) ≤ (m : Int)) = false := decide_eq_false (by omega)
  obtain ⟨X, hX⟩ : ∃ X : Obj → Obj → World, X = fun oa ob => Go.ChangeMaps.setBlock (Go.ChangeMaps.setBlock w.drew fm oa) pm ob := ⟨_, rfl⟩
  have hX00 : X o0 p0 = w.drew := by
    rw [hX]
    show Go.ChangeMaps.setBlock (Go.ChangeMaps.setBlock w.drew fm o0) pm p0 = w.drew
    rw [setBlock_self (W := w.drew) a0, setBlock_self (W := w.drew) b0]
  have hXf : ∀ oa ob oa', Go.ChangeMaps.setBlock (X oa ob) fm oa' = X oa' ob := fun oa ob oa' => by rw [hX]; exact setBlock_comm _ h.ne _ _ _
  have hXp : ∀ oa ob ob', Go.ChangeMaps.setBlock (X oa ob) pm ob' = X oa ob' := fun oa ob ob' => by rw [hX]; exact setBlock_twice _ _ _ _
  have gf : ∀ oa ob, (X oa ob).heap[fm]? = some oa := fun oa ob => by rw [hX]; exact (setBlock_far _ h.ne _).trans (setBlock_at h.mf.lt _)
  have gp : ∀ oa ob, (X oa ob).heap[pm]? = some ob := fun oa ob => by rw [hX]; exact setBlock_at (by rw [setBlock_size]; exact h.mp.lt) _
  have gc : ∀ oa ob i, (X oa ob).cell? ⟨pb, i, none⟩ = w.cell? ⟨pb, i, none⟩ := fun oa ob i => by rw [hX]; exact (setBlock_cell _ pm pb i h.nep _).trans ((setBlock_cell _ fm pb i h.nef _).trans rfl)
  have gs : ∀ oa ob, (X oa ob).heap.size = w.heap.size := fun oa ob => by rw [hX]; show (Go.ChangeMaps.setBlock _ pm ob).heap.size = _; rw [setBlock_size, setBlock_size]; rfl
  have r1 : ∀ ob, (Instr.mapEntry 123 (.map (some fm)) (.int .i64 g)).run Tryz.prog (X o0 ob) = .ok (.tuple #[.int .i64 0, .int .i64 st1]) (X o1 ob) := fun ob => by rw [a1 _ (gf o0 ob), hXf]
  have r2 : ∀ ob, (Instr.entryStore 123 (.map (some fm)) (.int .i64 st1) (.int .i64 m)).run Tryz.prog (X o1 ob) = .ok () (X o2 ob) := fun ob => by rw [a2 _ (gf o1 ob), hXf]
  have r3 : ∀ oa, (Instr.mapEntry 123 (.map (some pm)) (.int .i64 m)).run Tryz.prog (X oa p0) = .ok (.tuple #[.int .i64 0, .int .i64 st2]) (X oa p1) := fun oa => by rw [b1 _ (gp oa p0), hXp]
  have r4 : ∀ oa, (Instr.entryStore 123 (.map (some pm)) (.int .i64 st2) (.int .i64 g)).run Tryz.prog (X oa p1) = .ok () (X oa p2) := fun oa => by rw [b2 _ (gp oa p1), hXp]
  have r5 := r1 p0
  have r6 := r3 o0
  rw [hX00] at r5 r6
  have hfin : Chg (fun k => k = fm ∨ k = pm) w (X o2 p2) := by
    rw [hX]
    exact (((Chg.refl _ w).drew.trans ((setBlock_chg w.drew fm o2).mono fun k hk => .inl hk))).trans ((setBlock_chg _ pm p2).mono fun k hk => .inr hk)
  have hend : P2 (X o2 p2) pb fm pm size (iput fr g m) (iput pl m g) (c + 1) :=
    ⟨hfin.blk h.blk (by rintro (h1 | h1); exact h.nef h1; exact h.nep h1), by rw [ivs_put]; exact a3 _ (gf o2 p2), by rw [ivs_put]; exact b3 _ (gp o2 p2), h.ne⟩
  have HE := Base.Aside.mk (And.intro hend hfin)
  clear hXf hXp gf gp hX00 hX a0 a1 a2 a3 b0 b1 b2 b3 hend hfin
  have L1 := h.mf.lt
  have L2 := h.mp.lt
  clear h e1 e2 hf hp
  go_enter Tryz.func15, Tryz.ntmps15
  go_wp2_with (first
    | (go_at_call 50; refine hpl.mono ?_; rintro z w1 ⟨rfl, hw1⟩; obtain rfl := hw1.symm)
    | go_in)
  go_region
  all_goals
    go_wp2
    go_ret
    exact ⟨by first | rfl | (simp; done), HE.out.1, HE.out.2⟩
end
end Go.Proofs.YthlejchcnfdcpaaGreat.GpA
namespace Go.Proofs.YthlejchcnfdcpaaGreat.GvA
open Go.RowKit Go.Maps Base GaA GaB GaC GmA
set_option linter.unusedVariables false
set_option linter.unusedSimpArgs false

theorem zeroF (w : World) : (zeroValue 147).run Tryz.prog w = .ok (.slice none 0 0) w := Tryz.zeroValue147 w
/-- How many reads there were, as an int holds it. -/
def cr (r : Nat) : Int := IntKind.i64.wrap (r : Int)
theorem cr_zero : cr 0 = 0 := by decide
theorem cr_in (r : Nat) : -9223372036854775808 ≤ cr r ∧ cr r ≤ 9223372036854775807 := by
  unfold cr
  rw [IntKind.wrap_i64]
  omega
theorem cr_step (r : Nat) : IntKind.i64.wrap (cr r + 1) = cr (r + 1) := by
  unfold cr
  simp only [IntKind.wrap_i64]
  omega
/-- A view in memory, without rewrites, behind so many reads. -/
structure V2 (w : World) (vb db mb : Nat) (r : Nat) : Prop where
  blk : w.heap[vb]? = some (.cells #[.pointer (some ⟨mb, 0, none⟩), .map (some db), .int .i64 (cr r)] 144 (0, 0))
  due : IMap w db (fun _ => none) 0
section
variable {w w' : World} {vb db mb fb r : Nat} {s : MS}
theorem V2.chg {F : Nat → Prop} (h : V2 w vb db mb r) (hc : Chg F w w') (h1 : ¬ F vb) (h2 : ¬ F db) : V2 w' vb db mb r := ⟨hc.blk h.blk h1, h.due.chg hc h2⟩
theorem V2.below (h : V2 w vb db mb r) (hb : Below w.heap.size w w') : V2 w' vb db mb r := h.chg (Chg.below (fun _ => False) hb) (fun h => h) (fun h => h)
set_option maxHeartbeats 2000000 in
set_option maxRecDepth 100000 in
theorem new_calls (h : Mach w mb fb s) (hn : 0 < s.n) : Calls Tryz.prog 20 #[.pointer (some ⟨mb, 0, none⟩), .slice none 0 0] w fun e w' => ∃ vb db, e = .returned (.tuple #[.pointer (some ⟨vb, 0, none⟩), .int .i64 0]) ∧ w.heap.size ≤ vb ∧ w.heap.size ≤ db ∧ V2 w' vb db mb 0 ∧ Below w.heap.size w w' := by
  have hmm := @run_makeMap Tryz.prog
  have hb1 := below_alloc (Below.refl w.heap.size w) (.cells #[.pointer (some ⟨mb, 0, none⟩)] 40)
  have hs := size_calls h
  have hs1 := fun W hW => size_calls (h.below (w' := W) hW)
  have C1 := fun i => blk_cell h.blk i
  have L1 := blk_lt h.blk
  have d0 : ((s.n : Int) == 0) = false := by simp; omega
  clear h
  go_enter Tryz.func20, Tryz.ntmps20
  go_wp2_with (first
    | (go_at_call 44; refine hs.mono ?_; rintro z w1 ⟨rfl, hw1⟩; obtain rfl := hw1.symm)
    | go_in)
  refine wp_loop_once ?_
  go_wp2
  go_ret2
  refine ⟨_, _, rfl, ?_, ?_, ⟨blk_alloc (blk_newest ?_ _) _, IMap.made_at (blk_alloc (blk_alloc (blk_new _ _) _) _)⟩, below_alloc (below_alloc (below_alloc (Below.refl _ _) _) _) _⟩
  · omega
  · omega
  · simp
set_option maxHeartbeats 2000000 in
set_option maxRecDepth 100000 in
theorem none_calls (h : V2 w vb db mb r) : Calls Tryz.prog 73 #[.pointer (some ⟨vb, 0, none⟩)] w fun e w' => e = .returned (.bool false) ∧ w' = w := by
  have C0 := fun i => blk_cell h.blk i
  have L0 := blk_lt h.blk
  clear h
  go_enter Tryz.func73, Tryz.ntmps73
  go_wp2
  go_ret
  exact ⟨by first | rfl | (simp; done), rfl⟩
set_option maxHeartbeats 2000000 in
set_option maxRecDepth 100000 in
theorem machine_calls (h : V2 w vb db mb r) : Calls Tryz.prog 98 #[.pointer (some ⟨vb, 0, none⟩)] w fun e w' => e = .returned (.pointer (some ⟨mb, 0, none⟩)) ∧ w' = w := by
  have C0 := fun i => blk_cell h.blk i
  have L0 := blk_lt h.blk
  have hn := none_calls h
  clear h
  go_enter Tryz.func98, Tryz.ntmps98
  go_wp2_with (first
    | (go_at_call 73; refine hn.mono ?_; rintro z w1 ⟨rfl, hw1⟩; obtain rfl := hw1.symm)
    | go_in)
  go_ret
  exact ⟨by first | rfl | (simp; done), rfl⟩
set_option maxHeartbeats 4000000 in
set_option maxRecDepth 100000 in
theorem read_calls (h : V2 w vb db mb r) (hM : Mach w mb fb s) (hr : 0 ≤ r) (hvm : vb ≠ mb) (hvf : vb ≠ fb) (k : Nat) (hk : k < s.n) (off n : Nat) (ho : off + n ≤ 256) : Calls Tryz.prog 78 #[.pointer (some ⟨vb, 0, none⟩), .int .i64 k, .int .i64 off, .int .i64 n] w fun e w' =>
    e = .returned (.tuple #[.slice (some ⟨w.heap.size, 0, none⟩) n n, .int .i64 0]) ∧ w'.heap[w.heap.size]? = some (.cells (u8s (MS.rd s k off n)).toArray 5 (0, 0)) ∧ V2 w' vb db mb (r + 1) ∧ Chg (fun x => x = vb) w w' := by
  have C0 := fun i => blk_cell h.blk i
  have F0 := fun i => blk_frozen h.blk i
  have L0 := blk_lt h.blk
  have hn := none_calls h
  have hci := cr_in r
  have hcs := cr_step r
  have hlk := (h.due.block (W' := w.drew) rfl).look Tryz.underlying142 (zeroF w.drew) (cr r) (by omega) (by omega)
  simp only [Option.getD_none] at hlk
  have hc1 : Chg (fun x => x = vb) w (w.setCell ⟨vb, 2, none⟩ (.int .i64 (cr (r + 1)))).drew := Chg.drew (Chg.set (F := fun x => x = vb) (p := ⟨vb, 2, none⟩) (Chg.refl _ w) (.inl rfl) _)
  have hrd := GaC.read_calls (hM.chg hc1 (fun e => hvm e.symm) (fun e => hvf e.symm)) k hk off n ho
  have hsz : (w.setCell ⟨vb, 2, none⟩ (.int .i64 (cr (r + 1)))).drew.heap.size = w.heap.size := size_set _ _ _
  have hdb : db ≠ vb := by
    rintro rfl
    obtain ⟨es, clock, h1⟩ := h.due.is
    rw [h.blk] at h1
    cases h1
  have hV1 : V2 (w.setCell ⟨vb, 2, none⟩ (.int .i64 (cr (r + 1)))).drew vb db mb (r + 1) := ⟨blk_put h.blk 2 _ (by simp), h.due.chg hc1 hdb⟩
  have HH := Base.Aside.mk (And.intro hc1 (And.intro hV1 hsz))
  clear h hM hc1 hV1 hsz
  go_enter Tryz.func78, Tryz.ntmps78
  go_wp2_with (first
    | (go_at_call 73; refine hn.mono ?_; rintro z w1 ⟨rfl, hw1⟩; obtain rfl := hw1.symm)
    | go_in)
  go_region
  go_wp2
  refine wp_loop_once ?_
  go_wp2_with (first
    | (go_at_call 37; refine hrd.mono ?_; rintro z w1 ⟨rfl, hw1, hw2⟩; have E1 := Base.Aside.mk (And.intro hw1 hw2); clear hw1 hw2)
    | go_in)
  go_ret2
  have hsz := HH.out.2.2
  rw [hsz] at E1
  refine ⟨by first | rfl | (simp; done), E1.out.1, HH.out.2.1.below ?_, HH.out.1.trans (Chg.below _ ?_)⟩
  · rw [hsz]; exact E1.out.2
  · rw [hsz]; exact E1.out.2
end
end Go.Proofs.YthlejchcnfdcpaaGreat.GvA
namespace Go.Proofs.YthlejchcnfdcpaaGreat.GmB
open Go.RowKit Go.Maps Go.WideElems Base GaA GmA
set_option linter.unusedVariables false
set_option linter.unusedSimpArgs false

set_option maxRecDepth 1000000 in
theorem laidOutP : laidOutB Tryz.prog = true := by kernel_rfl
theorem rowK : (155 : TypeId) < Tryz.prog.types.size := of_decide_eq_true (by kernel_rfl)
theorem wideK : (match Tryz.prog.underlying 155 with | some (.array _ _) | some (.struct _) => true | _ => false) = true := by rw [Tryz.underlying155]
set_option maxRecDepth 1000000 in
theorem keyed : Keyed Tryz.prog 155 := Keyed.of_law (deep_law_laid laidOutP (m := 3) (by omega) rowK (by kernel_rfl) wideK)
def kv (p : Int × Int) : Value := .agg #[.int .i64 p.1, .int .i64 p.2]
theorem kv_inj {p q : Int × Int} (h : kv p = kv q) : p = q := by
  unfold kv at h
  injection h with h
  simp at h
  exact Prod.ext h.1 h.2
def okI (x : Int) : Prop := -9223372036854775808 ≤ x ∧ x ≤ 9223372036854775807
def ok (p : Int × Int) : Prop := okI p.1 ∧ okI p.2
theorem sizeT : ∃ n, Tryz.prog.types.size = n + 2 := ⟨Tryz.prog.types.size - 2, by have h : (155 : Nat) < Tryz.prog.types.size := rowK; omega⟩
theorem cellsK : Tryz.prog.cellsOf 155 = 2 := by kernel_rfl
theorem cellsI : Tryz.prog.cellsOf 3 = 1 := by kernel_rfl
theorem cutK : (Tryz.prog.cutTypes.any (·.2 == 155)) = false := by kernel_rfl
theorem stoodK : Tryz.prog.stoodInHeld 155 = false := by kernel_rfl
theorem typeK : Tryz.prog.keyType 155 = true := by
  obtain ⟨n, hn⟩ := sizeT
  unfold Program.keyType
  rw [hn]
  have hc := cutK
  simp at hc
  simp [Program.keyTypeAt, Tryz.underlying155, Tryz.underlying3, stoodK]
  exact hc
theorem lits (n : Nat) (a b : Int) (w1 : (Lit.int .i64 a).wf = true) (w2 : (Lit.int .i64 b).wf = true) : Tryz.prog.keyLits (n + 1 + 1) 155 [.int .i64 a, .int .i64 b] = some [.int .i64 a, .int .i64 b] := by
  simp [Program.keyLits, Tryz.underlying155, Tryz.underlying3, cellsK, cellsI, w1, w2]
theorem formedK (a b : Value) : (Value.agg #[a, b]).formed Tryz.prog 155 = true := by simp [Value.formed, Tryz.underlying155, cellsK]
theorem key_is (p : Int × Int) (h : ok p) : ∃ l, keyOf Tryz.prog 155 (kv p) = some l := by
  obtain ⟨n, hn⟩ := sizeT
  have hl := lits (n + 1) p.1 p.2 (wf64 h.1.1 h.1.2) (wf64 h.2.1 h.2.2)
  have hc : (kv p).cells.toList = [.int .i64 p.1, .int .i64 p.2] := rfl
  have hf : (kv p).formed Tryz.prog 155 = true := formedK _ _
  unfold keyOf
  rw [Tryz.underlying155]
  simp only [typeK, hf, Bool.and_self, if_true, hn, hc]
  rw [hl]
  exact ⟨_, rfl⟩
set_option maxRecDepth 100000 in
theorem lit1 (n : Nat) (a : Value) (L : List Lit) (h : Tryz.prog.keyLits (n + 1) 3 [a] = some L) : ∃ x, a = .int .i64 x ∧ okI x := by
  simp only [Program.keyLits, Tryz.underlying3] at h
  cases a <;> simp at h
  rename_i q x
  obtain ⟨⟨rfl, hw⟩, _⟩ := h
  refine ⟨x, rfl, ?_⟩
  have h1 : IntKind.i64.min = -9223372036854775808 := rfl
  have h2 : IntKind.i64.max = 9223372036854775807 := rfl
  simp [Lit.wf] at hw
  unfold okI
  omega
set_option maxRecDepth 100000 in
theorem lit2 (n : Nat) (a b : Value) (L : List Lit) (h : Tryz.prog.keyLits (n + 1 + 1) 155 [a, b] = some L) : (∃ x, a = .int .i64 x ∧ okI x) ∧ ∃ y, b = .int .i64 y ∧ okI y := by
  rw [Program.keyLits.eq_def] at h
  simp only [Tryz.underlying155] at h
  simp [cellsK, cellsI] at h
  cases h1 : Tryz.prog.keyLits (n + 1) 3 [a] with
  | none => simp [h1] at h
  | some L1 =>
    cases h2 : Tryz.prog.keyLits (n + 1) 3 [b] with
    | none => simp [h1, h2] at h
    | some L2 => exact ⟨lit1 n a L1 h1, lit1 n b L2 h2⟩
theorem two_cells {xs : Array Value} (h : xs.size = 2) : ∃ a b, xs = #[a, b] := by
  obtain ⟨l⟩ := xs
  match l, h with
  | [a, b], _ => exact ⟨a, b, rfl⟩
set_option maxRecDepth 100000 in
theorem formed_inv {v : Value} (h : v.formed Tryz.prog 155 = true) : ∃ a b, v = .agg #[a, b] := by
  cases v <;> simp [Value.formed, Tryz.underlying155, cellsK] at h
  obtain ⟨a, b, rfl⟩ := two_cells h
  exact ⟨a, b, rfl⟩
set_option maxRecDepth 100000 in
theorem key_inv {key : Value} {l : Lit} (h : keyOf Tryz.prog 155 key = some l) : ∃ p, ok p ∧ key = kv p := by
  obtain ⟨n, hn⟩ := sizeT
  simp only [keyOf, Tryz.underlying155, typeK, Bool.true_and] at h
  split at h
  · rename_i hf
    obtain ⟨a, b, rfl⟩ := formed_inv hf
    have hc : (Value.agg #[a, b]).cells.toList = [a, b] := rfl
    rw [hn, hc] at h
    cases hk : Tryz.prog.keyLits (n + 2 + 1) 155 [a, b] with
    | none => rw [hk] at h; simp at h
    | some L =>
      obtain ⟨⟨x, rfl, hx⟩, y, rfl, hy⟩ := lit2 (n + 1) a b L hk
      exact ⟨(x, y), ⟨hx, hy⟩, rfl⟩
  · cases h
end Go.Proofs.YthlejchcnfdcpaaGreat.GmB
