/- Proved: the live maps in memory: a map from pairs of ints to what is mapped (lemmas for the walks of the grants). Proved: the ends of a copy, at every argument (contracts for the laws of the grants). Proved: where an end of a copy lies, at every argument (contracts for the laws of the grants). Proved: find, at every argument (a contract for the laws of the grants). -/
import Derived.Test.YthlejchcnfdcpaaGreatMlab
import Derived.Test.YthlejchcnfdcpaaGreatMlah
import Derived.Deep.RegionWith
import Derived.Outline
namespace Go.Proofs.YthlejchcnfdcpaaGreat.GmC
open Go.RowKit Go.Maps Go.WideElems Base GaA GmA GmB
set_option linter.unusedVariables false
set_option linter.unusedSimpArgs false

/-- A live map. -/
structure Mp where
  h : Int
  caller : Int
  owner : Int
  ref : Int
  mfn : Int
  wr : Bool
def mpv (m : Mp) : Value := .agg #[.int .i64 m.h, .int .i64 m.caller, .int .i64 m.owner, .int .i64 m.ref, .int .i64 m.mfn, .bool m.wr]
theorem mpv_inj {m n : Mp} (h : mpv m = mpv n) : m = n := by
  obtain ⟨a, b, c, d, e, f⟩ := m
  obtain ⟨a', b', c', d', e', f'⟩ := n
  unfold mpv at h
  injection h with h
  simp at h
  obtain ⟨rfl, rfl, rfl, rfl, rfl, rfl⟩ := h
  rfl
open Classical in
noncomputable def hmv : Value → Option (DataW Value × List MemPlace) := fun v => if ∃ m, v = mpv m then some (.held v, []) else none
theorem hmv_mk (m : Mp) : hmv (mpv m) = some (.held (mpv m), []) := if_pos ⟨m, rfl⟩
theorem hmv_inv {v : Value} {y : DataW Value × List MemPlace} (h : hmv v = some y) : ∃ m, v = mpv m ∧ y = (.held (mpv m), []) := by
  unfold hmv at h
  split at h
  · rename_i hm
    obtain ⟨m, rfl⟩ := hm
    exact ⟨m, rfl, (Option.some.inj h).symm⟩
  · cases h
theorem kl_ex (p : Int × Int) : ∃ l, ok p → keyOf Tryz.prog 155 (kv p) = some l := by
  by_cases h : ok p
  · obtain ⟨l, hl⟩ := key_is p h
    exact ⟨l, fun _ => hl⟩
  · exact ⟨.bool true, fun h2 => absurd h2 h⟩
noncomputable def kl (p : Int × Int) : Lit := Classical.choose (kl_ex p)
theorem kl_is {p : Int × Int} (h : ok p) : keyOf Tryz.prog 155 (kv p) = some (kl p) := Classical.choose_spec (kl_ex p) h
theorem kl_ne {p q : Int × Int} (hp : ok p) (hq : ok q) (h : p ≠ q) : kl p ≠ kl q := fun e => h (kv_inj (keyed.inj (kl_is hp) (by rw [e]; exact kl_is hq)))
theorem kl_key {p : Int × Int} (hp : ok p) : WideAt.IsKeyLit (kl p) := by
  have h := kl_is hp
  generalize kl p = l at h
  exact keyed.key (v := kv p) h
theorem kl_of {p : Int × Int} {l : Lit} (hp : ok p) (h : keyOf Tryz.prog 155 (kv p) = some l) : l = kl p := Option.some.inj (h.symm.trans (kl_is hp))
/-- The map in block M holds (f p) at the pair p, and nothing else; it has c entries. -/
def KMap (W : World) (M : Nat) (f : Int × Int → Option Mp) (c : Nat) : Prop :=
  ∃ D : DataW Value, W.ownsMap Tryz.prog 155 hmv M c D ∧ Maps.size D = c ∧ (∀ p, ok p → Maps.has D (kl p) = (f p).isSome) ∧ ∀ p (z : DataW Value), ok p → D.atKey (kl p) z = got ((f p).map mpv) z
def kput (f : Int × Int → Option Mp) (k : Int × Int) (v : Mp) : Int × Int → Option Mp := fun x => if x = k then some v else f x
def kdel (f : Int × Int → Option Mp) (k : Int × Int) : Int × Int → Option Mp := fun x => if x = k then none else f x
section
variable {W W' : World} {M c : Nat} {f : Int × Int → Option Mp}
theorem KMap.lt (h : KMap W M f c) : M < W.heap.size := by
  obtain ⟨D, h1, _⟩ := h
  exact h1.lt
theorem KMap.block (h : KMap W M f c) (hb : W'.heap[M]? = W.heap[M]?) : KMap W' M f c := by
  obtain ⟨D, h1, h2⟩ := h
  exact ⟨D, ownsMap_block h1 hb, h2⟩
theorem KMap.chg {F : Nat → Prop} (h : KMap W M f c) (hc : Chg F W W') (hf : ¬ F M) : KMap W' M f c := h.block (hc.block _ h.lt hf)
theorem KMap.below (h : KMap W M f c) (hb : Below W.heap.size W W') : KMap W' M f c := h.block (hb.block _ h.lt)
theorem KMap.is (h : KMap W M f c) : ∃ es clock, W.heap[M]? = some (.map es clock) := by
  obtain ⟨D, ⟨es, clock, h1, _⟩, _⟩ := h
  exact ⟨es, clock, h1⟩
theorem KMap.made_at {w : World} {M : Nat} (h : w.heap[M]? = some (.map #[] 0)) : KMap w M (fun _ => none) 0 := by
  obtain ⟨es, clock, h1, h2, h3, h4⟩ := World.ownsMap_made (H := Value) (⟨#[], w.tape, w.drawn, w.os, w.output⟩ : World) Tryz.prog 155 hmv
  have h1' : some (Obj.map #[] 0) = some (Obj.map es clock) := h1
  injection h1' with h1'
  injection h1' with ha hb
  subst ha hb
  exact ⟨.map [], ⟨#[], 0, h, h2, h3, h4⟩, rfl, fun x _ => rfl, fun x z _ => rfl⟩
/-- What a look-up without an entry gives. -/
def mp0 : Mp := ⟨0, 0, 0, 0, 0, false⟩
theorem zeroMp (w : World) : (zeroValue 102).run Tryz.prog w = .ok (mpv mp0) w := Tryz.zeroValue102 w
theorem KMap.look_ok (h : KMap W M f c) (p : Int × Int) (hp : ok p) :
    (Instr.lookup 115 (.map (some M)) (kv p) true).run Tryz.prog W = .ok (.tuple #[mpv ((f p).getD mp0), .bool (f p).isSome]) W := by
  obtain ⟨D, h2, h3, h4, h5⟩ := h
  obtain ⟨v, ps, hrun, hvv⟩ := h2.look_ok keyed Tryz.underlying115 (zeroMp W) (hmv_mk mp0) (kl_is hp)
  obtain ⟨m, rfl, hy⟩ := hmv_inv hvv
  have hd := congrArg Prod.fst hy
  simp only at hd
  rw [h5 p _ hp] at hd
  have e : mpv m = mpv ((f p).getD mp0) := by
    cases hf : f p with
    | none => rw [hf] at hd; exact (DataW.held.inj hd).symm
    | some u => rw [hf] at hd; exact (DataW.held.inj hd).symm
  rw [hrun, e, h4 p hp]
theorem KMap.store (h : KMap W M f c) (p : Int × Int) (hp : ok p) (v : Mp) (hc : c < 1000000) (hn : f p = none) :
    ∃ W', (Instr.mapUpdate 115 (.map (some M)) (kv p) (mpv v)).run Tryz.prog W = .ok () W' ∧ KMap W' M (kput f p v) (c + 1) ∧ Chg (fun k => k = M) W W' := by
  obtain ⟨D, h2, h3, h4, h5⟩ := h
  have hkk := kl_key hp
  obtain ⟨W', hrun, ho, hg⟩ := h2.update keyed Tryz.underlying115 (by unfold maxLen; omega) (kl_is hp) (hmv_mk v)
  have hsz : Maps.size (D.put (kl p) (.held (mpv v))) = c + 1 := by
    rw [size_put (h2.tidy keyed), h4 p hp, hn, h3]
    rfl
  refine ⟨W', hrun, ⟨D.put (kl p) (.held (mpv v)), ?_, hsz, fun y hy => ?_, fun y z hy => ?_⟩, ⟨hg.os, hg.tape, hg.output, hg.size, fun k hk hf => hg.block k hk (fun e => hf (Option.some.inj e))⟩⟩
  · have := ownsMap_tight ho
    rw [hsz] at this
    exact this
  · unfold kput
    by_cases e : y = p
    · subst e
      rw [if_pos rfl, has_put_same (k := kl y) h2.isMap hkk]
      rfl
    · rw [if_neg e, has_put_other (kl_ne hy hp e), h4 y hy]
  · unfold kput
    by_cases e : y = p
    · subst e
      rw [if_pos rfl, atKey_put_same (k := kl y) h2.isMap hkk]
      rfl
    · rw [if_neg e, atKey_put_other (kl_ne hy hp e), h5 y z hy]
theorem KMap.drop (h : KMap W M f c) (p : Int × Int) (hp : ok p) (hn : (f p).isSome = true) (ty : TypeId) :
    ∃ W', (Builtin.delete_ #[115, 155] ty #[.map (some M), kv p]).run Tryz.prog W = .ok (.tuple #[]) W' ∧ KMap W' M (kdel f p) (c - 1) ∧ Chg (fun k => k = M) W W' := by
  obtain ⟨D, h2, h3, h4, h5⟩ := h
  obtain ⟨W', hrun, ho, ht'⟩ := h2.drop keyed Tryz.underlying115 (kl_is hp) ty
  have hg := ht'.grown
  have hsz : Maps.size (D.del (kl p)) = c - 1 := by
    have := size_del (k := kl p) (h2.tidy keyed)
    rw [h4 p hp, hn, h3] at this
    simp at this
    omega
  refine ⟨W', hrun, ⟨D.del (kl p), ?_, hsz, fun y hy => ?_, fun y z hy => ?_⟩, ⟨hg.os, hg.tape, hg.output, hg.size, fun k hk hf => hg.block k hk (fun e => hf (Option.some.inj e))⟩⟩
  · have := ownsMap_tight ho
    rw [hsz] at this
    exact this
  · unfold kdel
    by_cases e : y = p
    · subst e
      rw [if_pos rfl, has_del_same]
      rfl
    · rw [if_neg e, has_del_other (kl_ne hy hp e), h4 y hy]
  · unfold kdel
    by_cases e : y = p
    · subst e
      rw [if_pos rfl, atKey_del_same]
      rfl
    · rw [if_neg e, atKey_del_other (kl_ne hy hp e), h5 y z hy]
end
end Go.Proofs.YthlejchcnfdcpaaGreat.GmC
namespace Go.Proofs.YthlejchcnfdcpaaGreat.GfD
open Go.RowKit Go.Maps Base GaA GaB GaC GmA GmB GpA GgA GeA GeB GfA GfB GfC GvA
set_option linter.unusedVariables false
set_option linter.unusedSimpArgs false

theorem ent_rd (s : MS) (k ref : Nat) (i : Int) : 0 ≤ GuA.rd (ent s k ref) i ∧ GuA.rd (ent s k ref) i < 256 := by
  unfold GuA.rd ent
  rw [List.getD_eq_getElem?_getD, List.getElem?_map]
  cases h : (MS.rd s k (8 * ref) 8)[i.toNat]? with
  | none => simp
  | some b =>
    have := b.toNat_lt
    simp
    omega
theorem ent_of (s : MS) (k ref : Nat) : 0 ≤ (entG (ent s k ref)).of ∧ 0 ≤ (entG (ent s k ref)).le ∧ (entG (ent s k ref)).of + (entG (ent s k ref)).le ≤ 256 := by
  unfold entG
  by_cases hb : GuA.bad (ent s k ref)
  · rw [if_pos hb]; simp
  · rw [if_neg hb]
    have h6 := ent_rd s k ref 6
    have h7 := ent_rd s k ref 7
    have hb' : ¬ 256 < GuA.of (ent s k ref) + GuA.le (ent s k ref) := fun h => hb (.inr (.inr h))
    refine ⟨?_, ?_, by simp only; omega⟩
    · simp only [GuA.of]; split <;> omega
    · simp only [GuA.le]; split <;> omega
theorem ent_gp (s : MS) (k ref : Nat) : 0 ≤ (entG (ent s k ref)).gp ∧ (entG (ent s k ref)).gp < 65536 := by
  unfold entG
  by_cases hb : GuA.bad (ent s k ref)
  · rw [if_pos hb]; simp
  · rw [if_neg hb]
    have h4 := ent_rd s k ref 4
    have h5 := ent_rd s k ref 5
    simp only
    omega
/-- A member's map of places. -/
structure PI where
  fm : Nat
  pm : Nat
  size : Nat
  c : Nat
  fr : Int → Option Int
  pl : Int → Option Int
/-- Grants, their machine, their members' places, in memory. -/
structure GW (w : World) (gb mm hm mb fb : Nat) (s : MS) (f : Int → Option (Int × Nat)) (c : Nat) (pi : Nat → PI) : Prop where
  g : G2 w gb mm hm mb f c
  m : Mach w mb fb s
  p : ∀ d x, f d = some x → P2 w x.2 (pi x.2).fm (pi x.2).pm (pi x.2).size (pi x.2).fr (pi x.2).pl (pi x.2).c ∧ (pi x.2).size ≤ 48
  d : ∀ d x, f d = some x → (0 ≤ d ∧ d < 8) ∧ ∃ k : Nat, x.1 = k ∧ k < s.n
section
variable {w w' W : World} {gb mm hm mb fb : Nat} {f : Int → Option (Int × Nat)} {c : Nat} {s : MS} {pi : Nat → PI} {vb db r r' : Nat}
theorem GW.below (h : GW w gb mm hm mb fb s f c pi) (hb : Below w.heap.size w w') : GW w' gb mm hm mb fb s f c pi := ⟨h.g.below hb, h.m.below hb, fun d x hd => ⟨(h.p d x hd).1.below hb, (h.p d x hd).2⟩, h.d⟩
theorem GW.vw (h : GW w gb mm hm mb fb s f c pi) (hV : V2 w vb db mb r) (k : Vw vb db mb w w' r') : GW w' gb mm hm mb fb s f c pi :=
  ⟨h.g.chg k.c (fun e => (hV.ne_g h.g).1 e.symm) (fun e => (hV.ne_g h.g).2 e.symm), h.m.chg k.c (fun e => (hV.ne_m h.m).1 e.symm) (fun e => (hV.ne_m h.m).2 e.symm),
    fun d x hd => ⟨(h.p d x hd).1.chg k.c (fun e => (hV.ne_p (h.p d x hd).1).1 e.symm) (fun e => (hV.ne_p (h.p d x hd).1).2.1 e.symm) (fun e => (hV.ne_p (h.p d x hd).1).2.2 e.symm), (h.p d x hd).2⟩, h.d⟩
theorem joined_any (h : G2 w gb mm hm mb f c) (d : Int) (hd : okI d) : Calls Tryz.prog 63 #[.pointer (some ⟨gb, 0, none⟩), .int .i64 d] w fun e w' => e = .returned (.bool (f d).isSome) ∧ Below w.heap.size w w' := by
  have C0 := fun i => blk_cell h.blk i
  have L0 := blk_lt h.blk
  have hlk := h.mem.look_ok Tryz.underlying114 (zeroM w) d hd.1 hd.2
  have e1 : (mvs f d).isSome = (f d).isSome := by unfold mvs; cases f d <;> rfl
  obtain ⟨a, b, e2⟩ : ∃ a b, (mvs f d).getD (.agg #[.int .i64 0, .pointer none]) = .agg #[.int .i64 a, .pointer b] := by
    unfold mvs
    cases f d with
    | none => exact ⟨0, none, rfl⟩
    | some x => exact ⟨x.1, some ⟨x.2, 0, none⟩, rfl⟩
  rw [e1, e2] at hlk
  clear h e1 e2
  go_enter Tryz.func63, Tryz.ntmps63
  go_wp2
  go_ret
  exact ⟨by first | rfl | (simp; done), below_alloc (Below.refl _ _) _⟩
def slotB (k : Int) : Bool := decide (0 ≤ k) && decide (k < 32)
theorem slot_any (k : Int) (w : World) : Calls Tryz.prog 64 #[.int .i64 k] w fun e w' => e = .returned (.bool (slotB k)) ∧ w' = w := by
  unfold slotB
  by_cases h : 0 ≤ k
  · have h1 : decide (0 ≤ k) = true := decide_eq_true h
    go_enter Tryz.func64, Tryz.ntmps64
    go_wp2
    go_ret
    exact ⟨by first | rfl | (rw [h1]; first | rfl | (simp; done)) | (simp [h1]; done), rfl⟩
  · have h1 : decide (0 ≤ k) = false := decide_eq_false h
    go_enter Tryz.func64, Tryz.ntmps64
    go_wp2
    go_ret
    exact ⟨by first | rfl | (rw [h1]; first | rfl | (simp; done)) | (simp [h1]; done), rfl⟩
/-- Where an entry's bytes lie. -/
def lentS (s : MS) (P : PI) (k : Nat) (caller d : Int) (ref : Nat) (off : Int) (wr : Bool) (n : Int) : (Int × Int) × Int :=
  if permE (ent s k ref) caller ≠ 0 then ((0, 0), permE (ent s k ref) caller)
  else if (frameR s P.size P.fr d (entG (ent s k ref)).gp).2 ≠ 0 then ((0, 0), (frameR s P.size P.fr d (entG (ent s k ref)).gp).2)
  else if (wr && (entG (ent s k ref)).ro) = true then ((0, 0), 62)
  else if inn off n (entG (ent s k ref)).le = false then ((0, 0), 63)
  else (((frameR s P.size P.fr d (entG (ent s k ref)).gp).1, (entG (ent s k ref)).of + off), 0)
def lentR (s : MS) (f : Int → Option (Int × Nat)) (pi : Nat → PI) (caller d ref off : Int) (wr : Bool) (n : Int) : (Int × Int) × Int :=
  match f d with
  | none => ((0, 0), 1)
  | some x => if slotB ref = false then ((0, 0), 1) else lentS s (pi x.2) x.1.toNat caller d ref.toNat off wr n
/-- How many reads it takes. -/
def lentN (f : Int → Option (Int × Nat)) (d ref : Int) : Nat := if (f d).isSome && slotB ref then 1 else 0
set_option maxHeartbeats 8000000 in
set_option maxRecDepth 100000 in
theorem lent_in (h : GW w gb mm hm mb fb s f c pi) (hV : V2 w vb db mb r) (hr : 0 ≤ r) (d : Int) (x : Int × Nat) (hd : f d = some x) (ref : Nat) (h32 : ref < 32) (caller off n : Int) (wr : Bool) :
    Calls Tryz.prog 136 #[.agg #[.int .i64 d, .int .i64 ref, .int .i64 off, .bool wr], .pointer (some ⟨gb, 0, none⟩), .pointer (some ⟨vb, 0, none⟩), .int .i64 caller, .int .i64 n] w fun e w' =>
      e = .returned (.tuple #[.agg #[.int .i64 (lentS s (pi x.2) x.1.toNat caller d ref off wr n).1.1, .int .i64 (lentS s (pi x.2) x.1.toNat caller d ref off wr n).1.2], .int .i64 (lentS s (pi x.2) x.1.toNat caller d ref off wr n).2]) ∧ Vw vb db mb w w' (r + 1) := by
  obtain ⟨⟨d0, d8⟩, k, hk1, hk⟩ := h.d d x hd
  obtain ⟨x1, pb⟩ := x
  simp only at hk1
  subst hk1
  simp only [Int.toNat_natCast]
  have hj := fun W hW => joined_any (h.g.below (w' := W) hW) d ⟨by omega, by omega⟩
  have hp := fun W hW => permit_any (h.g.below (w' := W) hW) (h.m.below hW) (hV.below hW) hr d d0 d8 k pb hd hk ref h32 caller
  have hfr := fun W (hW : Vw vb db mb w W (r + 1)) => GfA.frame_calls (h.vw hV hW).g (h.vw hV hW).m ((h.vw hV hW).p d _ hd).1 ((h.vw hV hW).p d _ hd).2 d d0 d8 k hd (entG (ent s k ref)).gp
  have hsl : slotB (ref : Int) = true := by unfold slotB; simp; omega
  have hs := slot_any ref
  rw [hsl] at hs
  obtain ⟨o0, l0, ol⟩ := ent_of s k ref
  have hw := within_calls off n (entG (ent s k ref)).le l0 (by omega)
  obtain ⟨R, hR⟩ : ∃ R, R = lentS s (pi pb) k caller d ref off wr n := ⟨_, rfl⟩
  rw [← hR]
  unfold lentS at hR
  simp only at hfr
  generalize frameR s (pi pb).size (pi pb).fr d (entG (ent s k ref)).gp = q at hfr hR
  generalize permE (ent s k ref) caller = pe at hp hR
  generalize entG (ent s k ref) = g at hp hfr hR hw o0 l0 ol
  unfold aggv at hp
  rw [hd] at hj
  simp only [Option.isSome_some] at hj
  have hVlt := blk_lt hV.blk
  have hDlt := hV.due.lt
  have hb2 : Below w.heap.size w ((w.alloc (.cells #[.int .i64 d, .int .i64 ref, .int .i64 off, .bool wr] 196)).alloc (.cells #[.int .i64 0, .int .i64 0] 184)) := below_alloc (below_alloc (Below.refl _ _) _) _
  have hx1 := blk_alloc (blk_new w (.cells #[.int .i64 d, .int .i64 ref, .int .i64 off, .bool wr] 196)) (.cells #[.int .i64 0, .int .i64 0] 184)
  have hx2 := blk_new (w.alloc (.cells #[.int .i64 d, .int .i64 ref, .int .i64 off, .bool wr] 196)) (.cells #[.int .i64 0, .int .i64 0] 184)
  rw [World.size_alloc] at hx2
  have nv1 : w.heap.size ≠ vb := by omega
  have nv2 : w.heap.size + 1 ≠ vb := by omega
  have hj1 := hj _ hb2
  have HR := Base.Aside.mk hR
  have HB := Base.Aside.mk hb2
  have HP := hp
  clear h hV hR hj hb2 hp hsl
  have hin : (inn off n g.le = true ∧ 0 ≤ off ∧ off ≤ 256) ∨ inn off n g.le = false := by
    cases h5 : inn off n g.le with
    | false => exact .inr rfl
    | true =>
      refine .inl ⟨rfl, ?_⟩
      simp [inn] at h5
      omega
  have o3 : g.of ≤ 256 := by omega
  clear ol l0
  rcases hin with ⟨hi, o1, o2⟩ | hi
  all_goals
    have HI := Base.Aside.mk hi
    rw [hi] at hw
    clear hi
    go_enter Tryz.func136, Tryz.ntmps136
    go_wp2_with (first
      | (go_at_call 63; refine hj1.mono ?_; rintro z w1 ⟨rfl, hB1⟩; have hk1 := blk_below hx1 (blk_lt hx1) hB1; have hk2 := blk_below hx2 (blk_lt hx2) hB1; have hp2 := HP w1 (HB.out.trans (hB1.mono HB.out.size)); have C1 := fun i => blk_cell hk1 i; have L1 := blk_lt hk1; have D0 := fun i => blk_cell hk2 i; have G0 := fun i => blk_frozen hk2 i; have L2 := blk_lt hk2; have E1 := Base.Aside.mk (HB.out.trans (hB1.mono HB.out.size)); clear hB1)
      | (go_at_call 64; refine (hs _).mono ?_; rintro z w5 ⟨rfl, hw5⟩; obtain rfl := hw5.symm)
      | (go_at_call 77; refine (hw _).mono ?_; rintro z w6 ⟨rfl, hw6⟩; obtain rfl := hw6.symm)
      | (go_at_call 65; refine hp2.mono ?_; rintro z w2 ⟨rfl, hv2⟩; have hy1 := hv2.blk hk1 nv1; have hy2 := hv2.blk hk2 nv2; have D1 := fun i => blk_cell hy1 i; have D2 := fun i => blk_cell hy2 i; have G2 := fun i => blk_frozen hy2 i; have M1 := blk_lt hy1; have M2 := blk_lt hy2; have hv3 := Vw.pre E1.out hVlt hDlt hv2; have hfr2 := fun cs => hfr _ (hv3.alloc (.cells cs 32)); have E2 := Base.Aside.mk hv3; clear hv2 hv3)
      | (go_at_call 66; refine (hfr2 _).mono ?_; rintro z w3 ⟨rfl, hB3⟩; have z1 := blk_below (blk_alloc hy1 _) (blk_lt (blk_alloc hy1 _)) hB3; have z2 := blk_below (blk_alloc hy2 _) (blk_lt (blk_alloc hy2 _)) hB3; have z3 := blk_below (blk_new w2 _) (blk_lt (blk_new w2 _)) hB3; have K1 := fun i => blk_cell z1 i; have K2 := fun i => blk_cell z2 i; have K3 := fun i => blk_cell z3 i; have Q2 := fun i => blk_frozen z2 i; have P1 := blk_lt z1; have P2 := blk_lt z2; have P3 := blk_lt z3; have E3 := Base.Aside.mk ((E2.out.alloc _).below hB3); clear hB3)
      | go_in)
    all_goals
      refine bodyPost_ret (v := .tuple #[.agg #[.int .i64 R.1.1, .int .i64 R.1.2], .int .i64 R.2]) ?_ rfl ⟨rfl, ?_⟩
      · simp only [results, Tryz.results136]
        go_simp
        all_goals
          go_light
          have hr := HR.out
          have hi := HI.out
          clear HR HB HP HI
          simp_all
      · repeat (with_reducible first | exact E3.out | exact E2.out | refine Vw.alloc ?_ _ | (refine Vw.set ?_ ?_ _ _; rotate_left; omega))
end
end Go.Proofs.YthlejchcnfdcpaaGreat.GfD
namespace Go.Proofs.YthlejchcnfdcpaaGreat.GfE
open Go.RowKit Go.Maps Base GaA GaB GaC GmA GmB GpA GgA GeA GeB GfA GfB GfC GfD GvA
set_option linter.unusedVariables false
set_option linter.unusedSimpArgs false

section
variable {w w' W : World} {gb mm hm mb fb : Nat} {f : Int → Option (Int × Nat)} {c : Nat} {s : MS} {pi : Nat → PI} {vb db r r' : Nat}
set_option maxHeartbeats 8000000 in
set_option maxRecDepth 100000 in
theorem lent_no (h : GW w gb mm hm mb fb s f c pi) (hV : V2 w vb db mb r) (d ref caller off n : Int) (hd : okI d) (wr : Bool) (hn : ((f d).isSome && slotB ref) = false) :
    Calls Tryz.prog 136 #[.agg #[.int .i64 d, .int .i64 ref, .int .i64 off, .bool wr], .pointer (some ⟨gb, 0, none⟩), .pointer (some ⟨vb, 0, none⟩), .int .i64 caller, .int .i64 n] w fun e w' =>
      e = .returned (.tuple #[.agg #[.int .i64 0, .int .i64 0], .int .i64 1]) ∧ Vw vb db mb w w' r := by
  have hj := fun W hW => joined_any (h.g.below (w' := W) hW) d hd
  have hs := slot_any ref
  have hVlt := blk_lt hV.blk
  have hDlt := hV.due.lt
  have hb2 : Below w.heap.size w ((w.alloc (.cells #[.int .i64 d, .int .i64 ref, .int .i64 off, .bool wr] 196)).alloc (.cells #[.int .i64 0, .int .i64 0] 184)) := below_alloc (below_alloc (Below.refl _ _) _) _
  have hx1 := blk_alloc (blk_new w (.cells #[.int .i64 d, .int .i64 ref, .int .i64 off, .bool wr] 196)) (.cells #[.int .i64 0, .int .i64 0] 184)
  have hx2 := blk_new (w.alloc (.cells #[.int .i64 d, .int .i64 ref, .int .i64 off, .bool wr] 196)) (.cells #[.int .i64 0, .int .i64 0] 184)
  rw [World.size_alloc] at hx2
  have hj1 := hj _ hb2
  have HB := Base.Aside.mk (And.intro hb2 (Vw.refl hV))
  generalize (f d).isSome = b1 at hn hj1
  generalize slotB ref = b2 at hn hs
  clear h hV hj hb2
  cases b1
  all_goals
    try (simp only [Bool.true_and] at hn; subst hn)
    go_enter Tryz.func136, Tryz.ntmps136
    go_wp2_with (first
      | (go_at_call 63; refine hj1.mono ?_; rintro z w1 ⟨rfl, hB1⟩; have hk1 := blk_below hx1 (blk_lt hx1) hB1; have hk2 := blk_below hx2 (blk_lt hx2) hB1; have C1 := fun i => blk_cell hk1 i; have L1 := blk_lt hk1; have D0 := fun i => blk_cell hk2 i; have G0 := fun i => blk_frozen hk2 i; have L2 := blk_lt hk2; have E1 := Base.Aside.mk (HB.out.2.below (HB.out.1.trans (hB1.mono HB.out.1.size))); clear hB1)
      | (go_at_call 64; refine (hs _).mono ?_; rintro z w5 ⟨rfl, hw5⟩; obtain rfl := hw5.symm)
      | go_in)
    refine bodyPost_ret (v := .tuple #[.agg #[.int .i64 0, .int .i64 0], .int .i64 1]) ?_ rfl ⟨rfl, ?_⟩
    · simp only [results, Tryz.results136]
      first | (go_simp; done) | (go_simp; rfl)
    · repeat (with_reducible first | exact E1.out | refine Vw.alloc ?_ _ | (refine Vw.set ?_ ?_ _ _; rotate_left; omega))
/-- lent's find, at every argument. -/
theorem lent_any (h : GW w gb mm hm mb fb s f c pi) (hV : V2 w vb db mb r) (hr : 0 ≤ r) (d ref caller off n : Int) (hd : okI d) (wr : Bool) :
    Calls Tryz.prog 136 #[.agg #[.int .i64 d, .int .i64 ref, .int .i64 off, .bool wr], .pointer (some ⟨gb, 0, none⟩), .pointer (some ⟨vb, 0, none⟩), .int .i64 caller, .int .i64 n] w fun e w' =>
      e = .returned (.tuple #[.agg #[.int .i64 (lentR s f pi caller d ref off wr n).1.1, .int .i64 (lentR s f pi caller d ref off wr n).1.2], .int .i64 (lentR s f pi caller d ref off wr n).2]) ∧ Vw vb db mb w w' (r + lentN f d ref) := by
  by_cases hn : ((f d).isSome && slotB ref) = false
  · have e1 : lentR s f pi caller d ref off wr n = ((0, 0), 1) := by
      unfold lentR
      cases hf : f d with
      | none => rfl
      | some x =>
        rw [hf] at hn
        simp only [Option.isSome_some, Bool.true_and] at hn
        simp [hn]
    have e2 : lentN f d ref = 0 := by unfold lentN; rw [hn]; rfl
    rw [e1, e2]
    exact lent_no h hV d ref caller off n hd wr hn
  · have hn2 : ((f d).isSome && slotB ref) = true := by simpa using hn
    obtain ⟨h1, h2⟩ := Bool.and_eq_true_iff.1 hn2
    obtain ⟨x, hx⟩ := Option.isSome_iff_exists.1 h1
    have hs := h2
    simp [slotB] at hs
    obtain ⟨k, rfl⟩ : ∃ k : Nat, ref = k := ⟨ref.toNat, by omega⟩
    have e1 : lentR s f pi caller d k off wr n = lentS s (pi x.2) x.1.toNat caller d k off wr n := by
      unfold lentR
      rw [hx]
      simp [h2]
    have e2 : lentN f d k = 1 := by unfold lentN; rw [hn2]; rfl
    rw [e1, e2]
    exact lent_in h hV hr d x hx k (by omega) caller off n wr
/-- Where a place of the caller's lies. -/
def ownR (f : Int → Option (Int × Nat)) (pi : Nat → PI) (caller gpfn off n : Int) : (Int × Int) × Int :=
  match f caller with
  | none => ((0, 0), 1)
  | some x => if (getV (pi x.2).size (pi x.2).fr gpfn).2 = 0 ∧ inn off n 256 = false then (((getV (pi x.2).size (pi x.2).fr gpfn).1, off), 63) else (((getV (pi x.2).size (pi x.2).fr gpfn).1, off), (getV (pi x.2).size (pi x.2).fr gpfn).2)
set_option maxHeartbeats 8000000 in
set_option maxRecDepth 100000 in
theorem own_any (h : GW w gb mm hm mb fb s f c pi) (caller gpfn off n : Int) (hd : okI caller) (vp : Option Addr) :
    Calls Tryz.prog 135 #[.agg #[.int .i64 gpfn, .int .i64 off], .pointer (some ⟨gb, 0, none⟩), .pointer vp, .int .i64 caller, .int .i64 n] w fun e w' =>
      e = .returned (.tuple #[.agg #[.int .i64 (ownR f pi caller gpfn off n).1.1, .int .i64 (ownR f pi caller gpfn off n).1.2], .int .i64 (ownR f pi caller gpfn off n).2]) ∧ Below w.heap.size w w' := by
  have hj := fun W hW => joined_any (h.g.below (w' := W) hW) caller hd
  have hw := within_calls off n 256 (by omega) (by omega)
  have hb2 : Below w.heap.size w ((w.alloc (.cells #[.int .i64 gpfn, .int .i64 off] 192)).alloc (.cells #[.int .i64 0, .int .i64 0] 184)) := below_alloc (below_alloc (Below.refl _ _) _) _
  have hx1 := blk_alloc (blk_new w (.cells #[.int .i64 gpfn, .int .i64 off] 192)) (.cells #[.int .i64 0, .int .i64 0] 184)
  have hx2 := blk_new (w.alloc (.cells #[.int .i64 gpfn, .int .i64 off] 192)) (.cells #[.int .i64 0, .int .i64 0] 184)
  rw [World.size_alloc] at hx2
  have hj1 := hj _ hb2
  have HB := Base.Aside.mk (And.intro h hb2)
  obtain ⟨R, hR⟩ : ∃ R, R = ownR f pi caller gpfn off n := ⟨_, rfl⟩
  rw [← hR]
  unfold ownR at hR
  have hfd : ∀ (W : World) (a b : Value), (Instr.field 135 (.agg #[a, b]) 1).run Tryz.prog W = .ok b W := fun _ _ _ => by kernel_rfl
  cases hf : f caller with
  | none =>
    rw [hf] at hR hj1
    simp only [Option.isSome_none] at hj1
    clear h hj hb2
    go_enter Tryz.func135, Tryz.ntmps135
    go_wp2_with (first
      | (go_at_call 63; refine hj1.mono ?_; rintro z w1 ⟨rfl, hB1⟩; have hk1 := blk_below hx1 (blk_lt hx1) hB1; have hk2 := blk_below hx2 (blk_lt hx2) hB1; have C1 := fun i => blk_cell hk1 i; have L1 := blk_lt hk1; have D0 := fun i => blk_cell hk2 i; have G0 := fun i => blk_frozen hk2 i; have L2 := blk_lt hk2; have E1 := Base.Aside.mk (HB.out.2.trans (hB1.mono HB.out.2.size)); clear hB1)
      | go_in)
    refine bodyPost_ret (v := .tuple #[.agg #[.int .i64 0, .int .i64 0], .int .i64 1]) ?_ rfl ⟨by rw [hR], ?_⟩
    · simp only [results, Tryz.results135]
      first | (go_simp; done) | (go_simp; rfl)
    · repeat (with_reducible first | exact E1.out | refine below_alloc ?_ _ | refine below_drewN ?_ _ | refine below_drew ?_ | (refine GuA.below_setN ?_ ?_; rotate_left; omega))
  | some x =>
    rw [hf] at hR hj1
    simp only [Option.isSome_some] at hj1 hR
    obtain ⟨⟨d0, d8⟩, k, hk1, hk⟩ := h.d caller x hf
    have e1 : mvs f caller = some (.agg #[.int .i64 x.1, .pointer (some ⟨x.2, 0, none⟩)]) := by unfold mvs; rw [hf]; rfl
    have hG := fun W hW => (h.g.below (w' := W) hW)
    have hlk := fun W hW => (hG W hW).mem.look Tryz.underlying114 (zeroM _) caller (by omega) (by omega)
    rw [e1] at hlk
    simp only [Option.getD_some] at hlk
    have hge := fun W hW => GpA.get_calls ((h.below (w' := W) hW).p caller x hf).1 gpfn ((h.below (w' := W) hW).p caller x hf).2
    generalize getV (pi x.2).size (pi x.2).fr gpfn = q at hge hR
    have HR := Base.Aside.mk hR
    clear h hj hb2 e1 hR hk hk1
    have hin : (inn off n 256 = true) ∨ inn off n 256 = false := by cases inn off n 256 <;> simp
    rcases hin with hi | hi
    all_goals
      have HI := Base.Aside.mk hi
      rw [hi] at hw
      clear hi
      go_enter Tryz.func135, Tryz.ntmps135
      go_wp2_with (first
        | (go_at_call 63; refine hj1.mono ?_; rintro z w1 ⟨rfl, hB1⟩; have hk1 := blk_below hx1 (blk_lt hx1) hB1; have hk2 := blk_below hx2 (blk_lt hx2) hB1; have C1 := fun i => blk_cell hk1 i; have L1 := blk_lt hk1; have D0 := fun i => blk_cell hk2 i; have G0 := fun i => blk_frozen hk2 i; have L2 := blk_lt hk2; have hB2 := HB.out.2.trans (hB1.mono HB.out.2.size); have B0 := fun i => blk_cell (hG _ hB2).blk i; have B1 := blk_lt (hG _ hB2).blk; have hlk2 := fun n => hlk _ (below_drewN hB2 n); have hge2 := fun n => hge _ (below_drewN hB2 n); have E1 := Base.Aside.mk hB2; clear hB1 hB2)
        | go_in)
      go_quiet ((go_at_call 100; refine Calls.quiet_of_same (hge2 _)))
      go_wp2_with (first
        | (go_at_call 77; refine (hw _).mono ?_; rintro z w6 ⟨rfl, hw6⟩; obtain rfl := hw6.symm)
        | go_in)
      all_goals
        refine bodyPost_ret (v := .tuple #[.agg #[.int .i64 R.1.1, .int .i64 R.1.2], .int .i64 R.2]) ?_ rfl ⟨rfl, ?_⟩
        · simp only [results, Tryz.results135]
          go_simp
          all_goals
            go_light
            have hr := HR.out
            have hi := HI.out
            clear HR HB HI E1 hlk hlk2 hge hge2 hG
            simp_all
        · repeat (with_reducible first | exact E1.out | refine below_alloc ?_ _ | refine below_drewN ?_ _ | refine below_drew ?_ | (refine GuA.below_setN ?_ ?_; rotate_left; omega))
end
end Go.Proofs.YthlejchcnfdcpaaGreat.GfE
namespace Go.Proofs.YthlejchcnfdcpaaGreat.GfF
open Go.RowKit Go.Maps Base GaA GaB GaC GmA GmB GpA GgA GeA GeB GfA GfB GfC GfD GfE GvA
set_option linter.unusedVariables false
set_option linter.unusedSimpArgs false

/-- An end. -/
structure En where
  gr : Bool
  dom : Int
  ref : Int
  gpfn : Int
  off : Int
def env (t : En) : Value := .agg #[.bool t.gr, .int .i64 t.dom, .int .i64 t.ref, .int .i64 t.gpfn, .int .i64 t.off]
def endBad (caller n : Int) (t : En) : Prop := ¬ (0 ≤ caller ∧ caller < 8) ∨ n < 0 ∨ t.off < 0
instance (caller n : Int) (t : En) : Decidable (endBad caller n t) := by unfold endBad; infer_instance
def findR (s : MS) (f : Int → Option (Int × Nat)) (pi : Nat → PI) (caller : Int) (t : En) (n : Int) (wr : Bool) : (Int × Int) × Int :=
  if endBad caller n t then ((0, 0), 1) else if t.gr then lentR s f pi caller t.dom t.ref t.off wr n else ownR f pi caller t.gpfn t.off n
def findN (f : Int → Option (Int × Nat)) (caller : Int) (t : En) (n : Int) : Nat := if endBad caller n t then 0 else if t.gr then lentN f t.dom t.ref else 0
theorem assert_lent (W : World) (a b c : Int) (x : Bool) : (Instr.typeAssert (.iface 196 (.agg #[.int .i64 a, .int .i64 b, .int .i64 c, .bool x])) 194 196 true).run Tryz.prog W = .ok (.tuple #[.agg #[.int .i64 a, .int .i64 b, .int .i64 c, .bool x], .bool true]) W := by kernel_rfl
theorem assert_own (W : World) (a b : Int) : (Instr.typeAssert (.iface 192 (.agg #[.int .i64 a, .int .i64 b])) 194 196 true).run Tryz.prog W = .ok (.tuple #[.agg #[.int .i64 0, .int .i64 0, .int .i64 0, .bool false], .bool false]) W := by kernel_rfl
theorem method_lent (W : World) (a b c : Int) (x : Bool) : (method 317 196 (.agg #[.int .i64 a, .int .i64 b, .int .i64 c, .bool x]) "tenement/grant.find").run Tryz.prog W = .ok (136, .agg #[.int .i64 a, .int .i64 b, .int .i64 c, .bool x]) W := by kernel_rfl
theorem method_own (W : World) (a b : Int) : (method 317 192 (.agg #[.int .i64 a, .int .i64 b]) "tenement/grant.find").run Tryz.prog W = .ok (135, .agg #[.int .i64 a, .int .i64 b]) W := by kernel_rfl
section
variable {w w' W : World} {gb mm hm mb fb : Nat} {f : Int → Option (Int × Nat)} {c : Nat} {s : MS} {pi : Nat → PI} {vb db r r' : Nat}
set_option maxHeartbeats 8000000 in
set_option maxRecDepth 100000 in
theorem find_bad (h : GW w gb mm hm mb fb s f c pi) (hV : V2 w vb db mb r) (caller n : Int) (t : En) (wr : Bool) (hb : endBad caller n t) :
    Calls Tryz.prog 109 #[.pointer (some ⟨gb, 0, none⟩), .pointer (some ⟨vb, 0, none⟩), .int .i64 caller, .agg #[.bool t.gr, .int .i64 t.dom, .int .i64 t.ref, .int .i64 t.gpfn, .int .i64 t.off], .int .i64 n, .bool wr] w fun e w' =>
      e = .returned (.tuple #[.agg #[.int .i64 0, .int .i64 0], .int .i64 1]) ∧ Vw vb db mb w w' r := by
  have hb2 : Below w.heap.size w ((w.alloc (.cells #[.bool t.gr, .int .i64 t.dom, .int .i64 t.ref, .int .i64 t.gpfn, .int .i64 t.off] 29)).alloc (.cells #[.int .i64 0, .int .i64 0] 184)) := below_alloc (below_alloc (Below.refl _ _) _) _
  have hno := GgA.none_calls (h.below hb2).g
  have hun := unmade_calls (hV.below hb2)
  have hdo := fun W => GgA.domain_calls caller W
  have HB := Base.Aside.mk (Vw.refl hV)
  obtain ⟨gr, dom, ref, gpfn, off⟩ := t
  simp only at hb ⊢
  clear h hV hb2
  have hcase : (decide (0 ≤ caller) && decide (caller < 8)) = false ∨ ((decide (0 ≤ caller) && decide (caller < 8)) = true ∧ decide (n < 0) = true) ∨ ((decide (0 ≤ caller) && decide (caller < 8)) = true ∧ decide (n < 0) = false ∧ decide (off < 0) = true) := by
    unfold endBad at hb
    simp only at hb
    by_cases h1 : 0 ≤ caller ∧ caller < 8
    · by_cases h2 : n < 0
      · exact .inr (.inl ⟨by simp [h1.1, h1.2], by simp [h2]⟩)
      · exact .inr (.inr ⟨by simp [h1.1, h1.2], by simp; omega, by simp; omega⟩)
    · refine .inl ?_
      simp
      omega
  clear hb
  rcases hcase with hc | ⟨hc, hc2⟩ | ⟨hc, hc2, hc3⟩
  all_goals
    rw [hc] at hdo
    clear hc
    go_enter Tryz.func109, Tryz.ntmps109
    go_wp2_with (first
      | (go_at_call 52; refine hno.mono ?_; rintro z w1 ⟨rfl, hw1⟩; obtain rfl := hw1.symm)
      | (go_at_call 62; refine hun.mono ?_; rintro z w1 ⟨rfl, hw1⟩; obtain rfl := hw1.symm)
      | (go_at_call 54; refine (hdo _).mono ?_; rintro z w1 ⟨rfl, hw1⟩; obtain rfl := hw1.symm)
      | go_in)
    refine bodyPost_ret (v := .tuple #[.agg #[.int .i64 0, .int .i64 0], .int .i64 1]) ?_ rfl ⟨rfl, ?_⟩
    · simp only [results, Tryz.results109]
      first | (go_simp; done) | (go_simp; rfl)
    · repeat (with_reducible first | exact HB.out | refine Vw.alloc ?_ _ | (refine Vw.set ?_ ?_ _ _; rotate_left; omega))
set_option maxHeartbeats 8000000 in
set_option maxRecDepth 100000 in
theorem find_lent (h : GW w gb mm hm mb fb s f c pi) (hV : V2 w vb db mb r) (hr : 0 ≤ r) (caller n : Int) (t : En) (ht : t.gr = true) (hd : okI t.dom) (wr : Bool) (hb : ¬ endBad caller n t) :
    Calls Tryz.prog 109 #[.pointer (some ⟨gb, 0, none⟩), .pointer (some ⟨vb, 0, none⟩), .int .i64 caller, .agg #[.bool t.gr, .int .i64 t.dom, .int .i64 t.ref, .int .i64 t.gpfn, .int .i64 t.off], .int .i64 n, .bool wr] w fun e w' =>
      e = .returned (.tuple #[.agg #[.int .i64 (lentR s f pi caller t.dom t.ref t.off wr n).1.1, .int .i64 (lentR s f pi caller t.dom t.ref t.off wr n).1.2], .int .i64 (lentR s f pi caller t.dom t.ref t.off wr n).2]) ∧ Vw vb db mb w w' (r + lentN f t.dom t.ref) := by
  have hb2 : Below w.heap.size w ((w.alloc (.cells #[.bool t.gr, .int .i64 t.dom, .int .i64 t.ref, .int .i64 t.gpfn, .int .i64 t.off] 29)).alloc (.cells #[.int .i64 0, .int .i64 0] 184)) := below_alloc (below_alloc (Below.refl _ _) _) _
  have hno := GgA.none_calls (h.below hb2).g
  have hun := unmade_calls (hV.below hb2)
  unfold endBad at hb
  have hdo := fun W => GgA.domain_in caller (by omega) (by omega) W
  have hle := fun W hW => lent_any (h.below (w' := W) hW) (hV.below hW) hr t.dom t.ref caller t.off n hd wr
  have hta := assert_lent
  have hme := method_lent
  have HB := Base.Aside.mk (Vw.refl hV)
  obtain ⟨gr, dom, ref, gpfn, off⟩ := t
  simp only at hb ht hle hno hun ⊢
  subst ht
  generalize lentR s f pi caller dom ref off wr n = R at hle ⊢
  have d1 : decide (n < 0) = false := decide_eq_false (by omega)
  have d2 : decide (off < 0) = false := decide_eq_false (by omega)
  have hVlt := blk_lt hV.blk
  have hDlt := hV.due.lt
  have hle2 : ∀ W, Below w.heap.size w W → W.heap[w.heap.size + 1]? = some (.cells #[.int .i64 0, .int .i64 0] 184 (0, 0)) → Calls Tryz.prog 136 #[.agg #[.int .i64 dom, .int .i64 ref, .int .i64 off, .bool wr], .pointer (some ⟨gb, 0, none⟩), .pointer (some ⟨vb, 0, none⟩), .int .i64 caller, .int .i64 n] W fun e w' =>
      e = .returned (.tuple #[.agg #[.int .i64 R.1.1, .int .i64 R.1.2], .int .i64 R.2]) ∧ Vw vb db mb w w' (r + lentN f dom ref) ∧ w'.heap[w.heap.size + 1]? = some (.cells #[.int .i64 0, .int .i64 0] 184 (0, 0)) := fun W hW hk => (hle W hW).mono fun e w' ⟨h1, h2⟩ => ⟨h1, Vw.pre hW hVlt hDlt h2, h2.blk hk (by omega)⟩
  clear h hV hb2 hb hle
  go_enter Tryz.func109, Tryz.ntmps109
  go_wp2_with (first
    | (go_at_call 52; refine hno.mono ?_; rintro z w1 ⟨rfl, hw1⟩; obtain rfl := hw1.symm)
    | (go_at_call 62; refine hun.mono ?_; rintro z w1 ⟨rfl, hw1⟩; obtain rfl := hw1.symm)
    | (go_at_call 54; refine (hdo _).mono ?_; rintro z w1 ⟨rfl, hw1⟩; obtain rfl := hw1.symm)
    | (go_at_call 136; with_reducible refine (hle2 _ ?_ ?_).mono ?_; (focus (repeat (with_reducible first | exact Below.refl _ _ | refine below_alloc ?_ _))); (focus exact blk_alloc (blk_newest (by simp) _) _); rintro z w2 ⟨rfl, hv2, hk2⟩; have D2 := (fun i => blk_cell hk2 i); have G2 := (fun i => blk_frozen hk2 i); have M2 := blk_lt hk2; have E2 := Base.Aside.mk hv2; clear hv2)
    | go_in)
  refine bodyPost_ret (v := .tuple #[.agg #[.int .i64 R.1.1, .int .i64 R.1.2], .int .i64 R.2]) ?_ rfl ⟨rfl, ?_⟩
  · simp only [results, Tryz.results109]
    first | (go_simp; done) | (go_simp; rfl)
  · repeat (with_reducible first | exact E2.out | refine Vw.alloc ?_ _ | (refine Vw.set ?_ ?_ _ _; rotate_left; omega))
set_option maxHeartbeats 8000000 in
set_option maxRecDepth 100000 in
theorem find_own (h : GW w gb mm hm mb fb s f c pi) (hV : V2 w vb db mb r) (caller n : Int) (t : En) (ht : t.gr = false) (wr : Bool) (hb : ¬ endBad caller n t) :
    Calls Tryz.prog 109 #[.pointer (some ⟨gb, 0, none⟩), .pointer (some ⟨vb, 0, none⟩), .int .i64 caller, .agg #[.bool t.gr, .int .i64 t.dom, .int .i64 t.ref, .int .i64 t.gpfn, .int .i64 t.off], .int .i64 n, .bool wr] w fun e w' =>
      e = .returned (.tuple #[.agg #[.int .i64 (ownR f pi caller t.gpfn t.off n).1.1, .int .i64 (ownR f pi caller t.gpfn t.off n).1.2], .int .i64 (ownR f pi caller t.gpfn t.off n).2]) ∧ Vw vb db mb w w' r := by
  have hb2 : Below w.heap.size w ((w.alloc (.cells #[.bool t.gr, .int .i64 t.dom, .int .i64 t.ref, .int .i64 t.gpfn, .int .i64 t.off] 29)).alloc (.cells #[.int .i64 0, .int .i64 0] 184)) := below_alloc (below_alloc (Below.refl _ _) _) _
  have hno := GgA.none_calls (h.below hb2).g
  have hun := unmade_calls (hV.below hb2)
  unfold endBad at hb
  have hdo := fun W => GgA.domain_in caller (by omega) (by omega) W
  have hle := fun W hW => own_any (h.below (w' := W) hW) caller t.gpfn t.off n ⟨by omega, by omega⟩ (some ⟨vb, 0, none⟩)
  have hta := assert_own
  have hme := method_own
  have HB := Base.Aside.mk (Vw.refl hV)
  obtain ⟨gr, dom, ref, gpfn, off⟩ := t
  simp only at hb ht hle hno hun ⊢
  subst ht
  generalize ownR f pi caller gpfn off n = R at hle ⊢
  have d1 : decide (n < 0) = false := decide_eq_false (by omega)
  have d2 : decide (off < 0) = false := decide_eq_false (by omega)
  have hVlt := blk_lt hV.blk
  have hDlt := hV.due.lt
  have hle2 : ∀ W, Below w.heap.size w W → W.heap[w.heap.size + 1]? = some (.cells #[.int .i64 0, .int .i64 0] 184 (0, 0)) → Calls Tryz.prog 135 #[.agg #[.int .i64 gpfn, .int .i64 off], .pointer (some ⟨gb, 0, none⟩), .pointer (some ⟨vb, 0, none⟩), .int .i64 caller, .int .i64 n] W fun e w' =>
      e = .returned (.tuple #[.agg #[.int .i64 R.1.1, .int .i64 R.1.2], .int .i64 R.2]) ∧ Vw vb db mb w w' r ∧ w'.heap[w.heap.size + 1]? = some (.cells #[.int .i64 0, .int .i64 0] 184 (0, 0)) := fun W hW hk => (hle W hW).mono fun e w' ⟨h1, h2⟩ => ⟨h1, (HB.out.below hW).below h2, blk_below hk (blk_lt hk) h2⟩
  clear h hV hb2 hb hle
  go_enter Tryz.func109, Tryz.ntmps109
  go_wp2_with (first
    | (go_at_call 52; refine hno.mono ?_; rintro z w1 ⟨rfl, hw1⟩; obtain rfl := hw1.symm)
    | (go_at_call 62; refine hun.mono ?_; rintro z w1 ⟨rfl, hw1⟩; obtain rfl := hw1.symm)
    | (go_at_call 54; refine (hdo _).mono ?_; rintro z w1 ⟨rfl, hw1⟩; obtain rfl := hw1.symm)
    | (go_at_call 135; with_reducible refine (hle2 _ ?_ ?_).mono ?_; (focus (repeat (with_reducible first | exact Below.refl _ _ | refine below_alloc ?_ _))); (focus exact blk_alloc (blk_newest (by simp) _) _); rintro z w2 ⟨rfl, hv2, hk2⟩; have D2 := (fun i => blk_cell hk2 i); have G2 := (fun i => blk_frozen hk2 i); have M2 := blk_lt hk2; have E2 := Base.Aside.mk hv2; clear hv2)
    | go_in)
  refine bodyPost_ret (v := .tuple #[.agg #[.int .i64 R.1.1, .int .i64 R.1.2], .int .i64 R.2]) ?_ rfl ⟨rfl, ?_⟩
  · simp only [results, Tryz.results109]
    first | (go_simp; done) | (go_simp; rfl)
  · repeat (with_reducible first | exact E2.out | refine Vw.alloc ?_ _ | (refine Vw.set ?_ ?_ _ _; rotate_left; omega))
/-- find, at every argument. -/
theorem find_any (h : GW w gb mm hm mb fb s f c pi) (hV : V2 w vb db mb r) (hr : 0 ≤ r) (caller n : Int) (t : En) (hd : okI t.dom) (wr : Bool) :
    Calls Tryz.prog 109 #[.pointer (some ⟨gb, 0, none⟩), .pointer (some ⟨vb, 0, none⟩), .int .i64 caller, .agg #[.bool t.gr, .int .i64 t.dom, .int .i64 t.ref, .int .i64 t.gpfn, .int .i64 t.off], .int .i64 n, .bool wr] w fun e w' =>
      e = .returned (.tuple #[.agg #[.int .i64 (findR s f pi caller t n wr).1.1, .int .i64 (findR s f pi caller t n wr).1.2], .int .i64 (findR s f pi caller t n wr).2]) ∧ Vw vb db mb w w' (r + findN f caller t n) := by
  by_cases hb : endBad caller n t
  · have e1 : findR s f pi caller t n wr = ((0, 0), 1) := if_pos hb
    have e2 : findN f caller t n = 0 := if_pos hb
    rw [e1, e2]
    exact find_bad h hV caller n t wr hb
  · have e1 : findR s f pi caller t n wr = if t.gr then lentR s f pi caller t.dom t.ref t.off wr n else ownR f pi caller t.gpfn t.off n := if_neg hb
    have e2 : findN f caller t n = if t.gr then lentN f t.dom t.ref else 0 := if_neg hb
    rw [e1, e2]
    cases ht : t.gr with
    | true =>
      rw [← ht]
      simp only [ht, if_true]
      have := find_lent h hV hr caller n t ht hd wr hb
      rw [ht] at this
      exact this
    | false =>
      rw [← ht]
      simp only [ht, Bool.false_eq_true, if_false]
      have := find_own h hV caller n t ht wr hb
      rw [ht] at this
      exact this
end
end Go.Proofs.YthlejchcnfdcpaaGreat.GfF
