/- Proved: the live maps in memory: a map from pairs of ints to what is mapped (lemmas for the walks of the grants). -/
import Derived.Test.YtjeobbhaoahdcaaGmB
namespace Go.Proofs.Ytjeobbhaoahdcaa.GmC
open Go.RowKit Go.Maps Go.WideElems Go.Proofs.Ytjeobbhaoahdcaa.Base Go.Proofs.Ytjeobbhaoahdcaa.GaA Go.Proofs.Ytjeobbhaoahdcaa.GmA Go.Proofs.Ytjeobbhaoahdcaa.GmB
set_option linter.unusedVariables false
set_option linter.unusedSimpArgs false

/-- A live map. -/
structure Mp where
  h : Int
  caller : Int
  owner : Int
  ref : Int
  mfn : Int
  wr : Bool
def mpv (m : Mp) : Value := .agg #[.int .i64 m.h, .int .i64 m.caller, .int .i64 m.owner, .int .i64 m.ref, .int .i64 m.mfn, .bool m.wr]
theorem mpv_inj {m n : Mp} (h : mpv m = mpv n) : m = n := by
  obtain ⟨a, b, c, d, e, f⟩ := m
  obtain ⟨a', b', c', d', e', f'⟩ := n
  unfold mpv at h
  injection h with h
  simp at h
  obtain ⟨rfl, rfl, rfl, rfl, rfl, rfl⟩ := h
  rfl
open Classical in
noncomputable def hmv : Value → Option (DataW Value × List MemPlace) := fun v => if ∃ m, v = mpv m then some (.held v, []) else none
theorem hmv_mk (m : Mp) : hmv (mpv m) = some (.held (mpv m), []) := if_pos ⟨m, rfl⟩
theorem hmv_inv {v : Value} {y : DataW Value × List MemPlace} (h : hmv v = some y) : ∃ m, v = mpv m ∧ y = (.held (mpv m), []) := by
  unfold hmv at h
  split at h
  · rename_i hm
    obtain ⟨m, rfl⟩ := hm
    exact ⟨m, rfl, (Option.some.inj h).symm⟩
  · cases h
theorem kl_ex (p : Int × Int) : ∃ l, ok p → keyOf Try.prog 137 (kv p) = some l := by
  by_cases h : ok p
  · obtain ⟨l, hl⟩ := key_is p h
    exact ⟨l, fun _ => hl⟩
  · exact ⟨.bool true, fun h2 => absurd h2 h⟩
noncomputable def kl (p : Int × Int) : Lit := Classical.choose (kl_ex p)
theorem kl_is {p : Int × Int} (h : ok p) : keyOf Try.prog 137 (kv p) = some (kl p) := Classical.choose_spec (kl_ex p) h
theorem kl_ne {p q : Int × Int} (hp : ok p) (hq : ok q) (h : p ≠ q) : kl p ≠ kl q := fun e => h (kv_inj (keyed.inj (kl_is hp) (by rw [e]; exact kl_is hq)))
theorem kl_key {p : Int × Int} (hp : ok p) : WideAt.IsKeyLit (kl p) := by
  have h := kl_is hp
  generalize kl p = l at h
  exact keyed.key (v := kv p) h
theorem kl_of {p : Int × Int} {l : Lit} (hp : ok p) (h : keyOf Try.prog 137 (kv p) = some l) : l = kl p := Option.some.inj (h.symm.trans (kl_is hp))
/-- The map in block M holds (f p) at the pair p, and nothing else; it has c entries. -/
def KMap (W : World) (M : Nat) (f : Int × Int → Option Mp) (c : Nat) : Prop :=
  ∃ D : DataW Value, W.ownsMap Try.prog 137 hmv M c D ∧ Maps.size D = c ∧ (∀ p, ok p → Maps.has D (kl p) = (f p).isSome) ∧ ∀ p (z : DataW Value), ok p → D.atKey (kl p) z = got ((f p).map mpv) z
def kput (f : Int × Int → Option Mp) (k : Int × Int) (v : Mp) : Int × Int → Option Mp := fun x => if x = k then some v else f x
def kdel (f : Int × Int → Option Mp) (k : Int × Int) : Int × Int → Option Mp := fun x => if x = k then none else f x
section
variable {W W' : World} {M c : Nat} {f : Int × Int → Option Mp}
theorem KMap.lt (h : KMap W M f c) : M < W.heap.size := by
  obtain ⟨D, h1, _⟩ := h
  exact h1.lt
theorem KMap.block (h : KMap W M f c) (hb : W'.heap[M]? = W.heap[M]?) : KMap W' M f c := by
  obtain ⟨D, h1, h2⟩ := h
  exact ⟨D, ownsMap_block h1 hb, h2⟩
theorem KMap.chg {F : Nat → Prop} (h : KMap W M f c) (hc : Chg F W W') (hf : ¬ F M) : KMap W' M f c := h.block (hc.block _ h.lt hf)
theorem KMap.below (h : KMap W M f c) (hb : Below W.heap.size W W') : KMap W' M f c := h.block (hb.block _ h.lt)
theorem KMap.is (h : KMap W M f c) : ∃ es clock, W.heap[M]? = some (.map es clock) := by
  obtain ⟨D, ⟨es, clock, h1, _⟩, _⟩ := h
  exact ⟨es, clock, h1⟩
theorem KMap.made_at {w : World} {M : Nat} (h : w.heap[M]? = some (.map #[] 0)) : KMap w M (fun _ => none) 0 := by
  obtain ⟨es, clock, h1, h2, h3, h4⟩ := World.ownsMap_made (H := Value) (⟨#[], w.tape, w.drawn, w.os, w.output⟩ : World) Try.prog 137 hmv
  have h1' : some (Obj.map #[] 0) = some (Obj.map es clock) := h1
  injection h1' with h1'
  injection h1' with ha hb
  subst ha hb
  exact ⟨.map [], ⟨#[], 0, h, h2, h3, h4⟩, rfl, fun x _ => rfl, fun x z _ => rfl⟩
/-- What a look-up without an entry gives. -/
def mp0 : Mp := ⟨0, 0, 0, 0, 0, false⟩
theorem zeroMp (w : World) : (zeroValue 135).run Try.prog w = .ok (mpv mp0) w := Try.zeroValue135 w
theorem KMap.look_ok (h : KMap W M f c) (p : Int × Int) (hp : ok p) :
    (Instr.lookup 76 (.map (some M)) (kv p) true).run Try.prog W = .ok (.tuple #[mpv ((f p).getD mp0), .bool (f p).isSome]) W := by
  obtain ⟨D, h2, h3, h4, h5⟩ := h
  obtain ⟨v, ps, hrun, hvv⟩ := h2.look_ok keyed Try.underlying76 (zeroMp W) (hmv_mk mp0) (kl_is hp)
  obtain ⟨m, rfl, hy⟩ := hmv_inv hvv
  have hd := congrArg Prod.fst hy
  simp only at hd
  rw [h5 p _ hp] at hd
  have e : mpv m = mpv ((f p).getD mp0) := by
    cases hf : f p with
    | none => rw [hf] at hd; exact (DataW.held.inj hd).symm
    | some u => rw [hf] at hd; exact (DataW.held.inj hd).symm
  rw [hrun, e, h4 p hp]
theorem KMap.store (h : KMap W M f c) (p : Int × Int) (hp : ok p) (v : Mp) (hc : c < 1000000) (hn : f p = none) :
    ∃ W', (Instr.mapUpdate 76 (.map (some M)) (kv p) (mpv v)).run Try.prog W = .ok () W' ∧ KMap W' M (kput f p v) (c + 1) ∧ Chg (fun k => k = M) W W' := by
  obtain ⟨D, h2, h3, h4, h5⟩ := h
  have hkk := kl_key hp
  obtain ⟨W', hrun, ho, hg⟩ := h2.update keyed Try.underlying76 (by unfold maxLen; omega) (kl_is hp) (hmv_mk v)
  have hsz : Maps.size (D.put (kl p) (.held (mpv v))) = c + 1 := by
    rw [size_put (h2.tidy keyed), h4 p hp, hn, h3]
    rfl
  refine ⟨W', hrun, ⟨D.put (kl p) (.held (mpv v)), ?_, hsz, fun y hy => ?_, fun y z hy => ?_⟩, ⟨hg.os, hg.tape, hg.output, hg.size, fun k hk hf => hg.block k hk (fun e => hf (Option.some.inj e))⟩⟩
  · have := ownsMap_tight ho
    rw [hsz] at this
    exact this
  · unfold kput
    by_cases e : y = p
    · subst e
      rw [if_pos rfl, has_put_same (k := kl y) h2.isMap hkk]
      rfl
    · rw [if_neg e, has_put_other (kl_ne hy hp e), h4 y hy]
  · unfold kput
    by_cases e : y = p
    · subst e
      rw [if_pos rfl, atKey_put_same (k := kl y) h2.isMap hkk]
      rfl
    · rw [if_neg e, atKey_put_other (kl_ne hy hp e), h5 y z hy]
theorem KMap.drop (h : KMap W M f c) (p : Int × Int) (hp : ok p) (hn : (f p).isSome = true) (ty : TypeId) :
    ∃ W', (Builtin.delete_ #[76, 137] ty #[.map (some M), kv p]).run Try.prog W = .ok (.tuple #[]) W' ∧ KMap W' M (kdel f p) (c - 1) ∧ Chg (fun k => k = M) W W' := by
  obtain ⟨D, h2, h3, h4, h5⟩ := h
  obtain ⟨W', hrun, ho, ht'⟩ := h2.drop keyed Try.underlying76 (kl_is hp) ty
  have hg := ht'.grown
  have hsz : Maps.size (D.del (kl p)) = c - 1 := by
    have := size_del (k := kl p) (h2.tidy keyed)
    rw [h4 p hp, hn, h3] at this
    simp at this
    omega
  refine ⟨W', hrun, ⟨D.del (kl p), ?_, hsz, fun y hy => ?_, fun y z hy => ?_⟩, ⟨hg.os, hg.tape, hg.output, hg.size, fun k hk hf => hg.block k hk (fun e => hf (Option.some.inj e))⟩⟩
  · have := ownsMap_tight ho
    rw [hsz] at this
    exact this
  · unfold kdel
    by_cases e : y = p
    · subst e
      rw [if_pos rfl, has_del_same]
      rfl
    · rw [if_neg e, has_del_other (kl_ne hy hp e), h4 y hy]
  · unfold kdel
    by_cases e : y = p
    · subst e
      rw [if_pos rfl, atKey_del_same]
      rfl
    · rw [if_neg e, atKey_del_other (kl_ne hy hp e), h5 y z hy]
end
end Go.Proofs.Ytjeobbhaoahdcaa.GmC
