/- Proved: the program's world as the laws of the grants use it behind begin (lemmas). Proved: lay: an owner writes an entry, in both worlds (a contract for the laws of the grants). Proved: the worlds of the laws that map (contracts for the laws of the grants). Proved: GrantHandles answers true at every argument (the walk of the law). -/
import Derived.Test.YtjeobbhaoahdcaaMlan
import Derived.Laws.Closers25b
import Derived.Deep.RegionWith
import Derived.Outline
namespace Go.Proofs.Ytjeobbhaoahdcaa.GlA
open Go.RowKit Go.Maps Go.Proofs.Ytjeobbhaoahdcaa.Base Go.Proofs.Ytjeobbhaoahdcaa.GaA Go.Proofs.Ytjeobbhaoahdcaa.GaB Go.Proofs.Ytjeobbhaoahdcaa.GaC Go.Proofs.Ytjeobbhaoahdcaa.GaD Go.Proofs.Ytjeobbhaoahdcaa.GmA Go.Proofs.Ytjeobbhaoahdcaa.GmB Go.Proofs.Ytjeobbhaoahdcaa.GmC Go.Proofs.Ytjeobbhaoahdcaa.GpA Go.Proofs.Ytjeobbhaoahdcaa.GgA Go.Proofs.Ytjeobbhaoahdcaa.GvA Go.Proofs.Ytjeobbhaoahdcaa.GeA Go.Proofs.Ytjeobbhaoahdcaa.GeB Go.Proofs.Ytjeobbhaoahdcaa.GfA Go.Proofs.Ytjeobbhaoahdcaa.GfB Go.Proofs.Ytjeobbhaoahdcaa.GfC Go.Proofs.Ytjeobbhaoahdcaa.GfD Go.Proofs.Ytjeobbhaoahdcaa.GfE Go.Proofs.Ytjeobbhaoahdcaa.GfF Go.Proofs.Ytjeobbhaoahdcaa.GfG Go.Proofs.Ytjeobbhaoahdcaa.GfH Go.Proofs.Ytjeobbhaoahdcaa.GbA Go.Proofs.Ytjeobbhaoahdcaa.GbB Go.Proofs.Ytjeobbhaoahdcaa.GbC Go.Proofs.Ytjeobbhaoahdcaa.GkA Go.Proofs.Ytjeobbhaoahdcaa.GkB Go.Proofs.Ytjeobbhaoahdcaa.RmB
set_option linter.unusedVariables false
set_option linter.unusedSimpArgs false

def piI (a : BA) (e : Nat) : PI := ⟨a.fm e, a.pm e, 8, 4, frD e 4, plD e 4⟩
def piB (a : BA) : Nat → PI := fun b => if b = a.pb 0 then piI a 0 else if b = a.pb 1 then piI a 1 else piI a 2
def N3 : Cn := ⟨3, 3, 3, 3, 3⟩
theorem pi_at {B : Nat} {W : World} {a : BA} {s t : MS} {P Q : Value} (h : Bo B W a s t N3 P Q) (e : Nat) (he : e < 3) : piB a (a.pb e) = piI a e := by
  unfold piB
  have hj := fun e e' (h1 : e < 3) (h2 : e' < 3) => h.inj e e' h1 h2
  have h012 : e = 0 ∨ e = 1 ∨ e = 2 := by omega
  rcases h012 with rfl | rfl | rfl
  · rw [if_pos rfl]
  · rw [if_neg (fun h => by have := hj 1 0 (by omega) (by omega) h; omega), if_pos rfl]
  · rw [if_neg (fun h => by have := hj 2 0 (by omega) (by omega) h; omega), if_neg (fun h => by have := hj 2 1 (by omega) (by omega) h; omega)]
theorem memG_some {pb : Nat → Nat} {d : Int} {x : Int × Nat} (h : memG pb 3 d = some x) : ∃ e : Nat, e < 3 ∧ d = e ∧ x = (4 * (e : Int), pb e) := by
  unfold memG at h
  by_cases hd : 0 ≤ d ∧ d < (3 : Nat)
  · rw [if_pos hd] at h
    refine ⟨d.toNat, by omega, by omega, ?_⟩
    rw [← Option.some.inj h]
    congr 1
    omega
  · rw [if_neg hd] at h
    cases h
theorem memG_at (pb : Nat → Nat) (e : Nat) (he : e < 3) : memG pb 3 e = some (4 * (e : Int), pb e) := by
  unfold memG
  rw [if_pos (by omega)]
  simp
theorem bo_gw {B : Nat} {W : World} {a : BA} {s t : MS} {P Q : Value} (h : Bo B W a s t N3 P Q) (hn : s.n = 13) : GW W a.gb a.mm a.hm a.mb a.fb s (memG a.pb 3) 3 (piB a) := by
  refine ⟨h.g, h.m, fun d x hd => ?_, fun d x hd => ?_⟩
  · obtain ⟨e, he, rfl, rfl⟩ := memG_some hd
    simp only
    rw [pi_at h e he]
    exact ⟨h.p e he, by show 8 ≤ 48; omega⟩
  · obtain ⟨e, he, rfl, rfl⟩ := memG_some hd
    exact ⟨by omega, 4 * e, by simp, by omega⟩
/-- The program's world behind begin. -/
structure Lw (w0 W : World) (a : BA) (s : MS) (P Q : Value) : Prop where
  x : W.heap[w0.heap.size]? = some (.cells #[.pointer (some ⟨a.mb, 0, none⟩), .pointer (some ⟨a.gb, 0, none⟩), P, .pointer (some ⟨a.rb, 0, none⟩), .pointer (some ⟨a.hb, 0, none⟩), Q] 35 (0, 0))
  g : GW W a.gb a.mm a.hm a.mb a.fb s (memG a.pb 3) 3 (piB a)
  ge : w0.heap.size ≤ a.fb ∧ w0.heap.size ≤ a.mm ∧ w0.heap.size ≤ a.hm ∧ a.mm ≠ a.hm
  nm : ∀ e, e < 3 → a.mm ≠ a.fm e ∧ a.mm ≠ a.pm e ∧ a.hm ≠ a.fm e ∧ a.hm ≠ a.pm e
  pi : ∀ e, e < 3 → piB a (a.pb e) = piI a e
  bel : Below w0.heap.size w0 W
section
variable {w0 W W' : World} {a : BA} {s s' : MS} {P Q : Value} {vb db r : Nat}
theorem bd_lw (h : Bd w0 W a s s' N3 P Q) (hx : a.xb = w0.heap.size) (hn : s.n = 13) : Lw w0 W a s P Q :=
  ⟨xblk h hx, bo_gw h.bo hn, ⟨h.bo.ge.2.1, h.bo.ge.2.2.1, h.bo.ge.2.2.2.1, h.bo.mh⟩, h.bo.ne, fun e he => pi_at h.bo e he, h.bel⟩
theorem Lw.below (h : Lw w0 W a s P Q) (hb : Below W.heap.size W W') : Lw w0 W' a s P Q := ⟨blk_below h.x (blk_lt h.x) hb, h.g.below hb, h.ge, h.nm, h.pi, h.bel.trans (hb.mono h.bel.size)⟩
theorem Lw.xf (h : Lw w0 W a s P Q) : w0.heap.size ≠ a.fb := by
  obtain ⟨cs, h1, _⟩ := h.g.m.lst
  exact bne h.x h1 (by decide)
theorem Lw.mach (h : Lw w0 W a s P Q) (hc : Chg (fun x => x = a.fb) W W') (hM : Mach W' a.mb a.fb s') (hn : s'.n = s.n) : Lw w0 W' a s' P Q :=
  ⟨hc.blk h.x h.xf, gw_fb h.g hM hn hc, h.ge, h.nm, h.pi, hc.out h.bel h.bel.size (by rintro x rfl; exact h.ge.1)⟩
theorem Lw.vw {r' : Nat} (h : Lw w0 W a s P Q) (hV : V2 W vb db a.mb r) (hv : w0.heap.size ≤ vb) (k : Vw vb db a.mb W W' r') : Lw w0 W' a s P Q :=
  ⟨k.c.blk h.x (fun e => bne hV.blk h.x (by decide) e.symm), h.g.vw hV k, h.ge, h.nm, h.pi, k.c.out h.bel h.bel.size (by rintro x rfl; exact hv)⟩
theorem Lw.push (h : Lw w0 W a s P Q) (hV : V2 W vb db a.mb r) (hv : w0.heap.size ≤ vb) (hg : GW W' a.gb a.mm a.hm a.mb a.fb s' (memG a.pb 3) 3 (piB a)) (hc : Chg (fun x => x = vb ∨ x = a.fb) W W') : Lw w0 W' a s' P Q :=
  ⟨hc.blk h.x (by rintro (e | e); exact bne hV.blk h.x (by decide) e.symm; exact h.xf e), hg, h.ge, h.nm, h.pi, hc.out h.bel h.bel.size (by rintro x (rfl | rfl); exact hv; exact h.ge.1)⟩
/-- A write of the law's own. -/
theorem lw_write (h : Lw w0 W a s P Q) (k off : Int) (A : Option Addr) (l c : Nat) (zs : List UInt8) (hl : l = zs.length) (hz : Bytes W A zs) : Calls Try.prog 18 #[.pointer (some ⟨a.mb, 0, none⟩), .int .i64 k, .int .i64 off, .slice A l c] W fun e w' => e = .returned (.int .i64 (wrE s k off zs.length)) ∧ Lw w0 w' a (wrS s k off zs) P Q ∧ Chg (fun x => x = a.fb) W w' :=
  (write_any h.g.m k off A l c zs hl hz).mono fun e w' ⟨h1, h2, h3⟩ => ⟨h1, h.mach h3 h2 (wrS_n _ _ _ _), h3⟩
end
/-- What the page of the law's frame holds while it is filled. -/
theorem wrS_ok {s : MS} {k off : Nat} {zs : List UInt8} (hk : k < s.n) (ho : off + zs.length ≤ 256) (hw : (s.fr k).own ≠ -1) : wrE s k off zs.length = 0 ∧ wrS s k off zs = MS.wr s k off zs := by
  have hin : inR s k off zs.length := by unfold inR; omega
  have h1 : wrE s k off zs.length = 0 := by
    unfold wrE
    rw [if_pos hin, if_neg (by simpa using hw)]
  refine ⟨h1, ?_⟩
  unfold wrS
  rw [if_pos h1]
  simp
end Go.Proofs.Ytjeobbhaoahdcaa.GlA
namespace Go.Proofs.Ytjeobbhaoahdcaa.GoB
open Go.RowKit Go.Maps Go.Proofs.Ytjeobbhaoahdcaa.Base Go.Proofs.Ytjeobbhaoahdcaa.GaA Go.Proofs.Ytjeobbhaoahdcaa.GaB Go.Proofs.Ytjeobbhaoahdcaa.GaC Go.Proofs.Ytjeobbhaoahdcaa.GaD Go.Proofs.Ytjeobbhaoahdcaa.RpA Go.Proofs.Ytjeobbhaoahdcaa.RmA Go.Proofs.Ytjeobbhaoahdcaa.RmB Go.Proofs.Ytjeobbhaoahdcaa.RmC Go.Proofs.Ytjeobbhaoahdcaa.GfB Go.Proofs.Ytjeobbhaoahdcaa.GfC Go.Proofs.Ytjeobbhaoahdcaa.GbA Go.Proofs.Ytjeobbhaoahdcaa.GbB Go.Proofs.Ytjeobbhaoahdcaa.GbC Go.Proofs.Ytjeobbhaoahdcaa.GkA Go.Proofs.Ytjeobbhaoahdcaa.GkB Go.Proofs.Ytjeobbhaoahdcaa.GoA Go.Proofs.Ytjeobbhaoahdcaa.GlA
set_option linter.unusedVariables false
set_option linter.unusedSimpArgs false

/-- An entry of the law's. -/
structure LE where
  dom : Int
  ref : Int
  g : Gr
  fl : Int
def layOk (e : LE) : Prop := ¬ packBad e.g ∧ 0 ≤ e.dom ∧ e.dom ≤ 2 ∧ 0 ≤ e.ref ∧ e.ref < 32
instance (e : LE) : Decidable (layOk e) := by unfold layOk; infer_instance
def layZ (e : LE) : List UInt8 := ofI (bits .xor .u8 (packN e.g) e.fl) :: (packZ e.g).tail
def layS (s : MS) (e : LE) : MS := if layOk e then MS.wr s (4 * e.dom.toNat) (8 * e.ref.toNat) (layZ e) else s
theorem layZ_len (e : LE) : (layZ e).length = 8 := rfl
theorem layS_n (s : MS) (e : LE) : (layS s e).n = s.n := by unfold layS; split <;> rfl
theorem layS_fr (s : MS) (e : LE) : (layS s e).fr = s.fr := by unfold layS; split <;> rfl
theorem xor_u8 (a b : Int) : 0 ≤ bits .xor .u8 a b ∧ bits .xor .u8 a b < 256 := ⟨bits_lo_u8 _ _ _, by have := bits_hi_u8 .xor a b; omega⟩
theorem layZ_vals (e : LE) (h : ¬ packBad e.g) : u8s (layZ e) = .int .u8 (bits .xor .u8 (packN e.g) e.fl) :: (u8s (packZ e.g)).tail := by
  obtain ⟨h0, h1⟩ := xor_u8 (packN e.g) e.fl
  unfold layZ u8s
  rw [List.map_cons, ofI_toNat _ h0 h1, List.map_tail]
section
variable {w0 W W' : World} {a : BA} {s t s' t' : MS} {n : Cn} {P Q : Value}
/-- A page of the document's turns. -/
theorem bo_rpage {B : Nat} (h : Bo B W a s t n P Q) {k : Nat} (hk : k < t.n) (hc : Chg (fun x => x = a.bs.getD k 0) W W') (w' : RMach W' a.rb a.Fb a.Bb a.cF a.cB a.bs t') : Bo B W' a s t' n P Q := by
  have hp := h.w.page k hk
  obtain ⟨cs, h1, h2⟩ := h.m.lst
  exact h.step hc (h.m.chg hc (blk_ne h.m.blk hp (by decide)) (blk_ne h1 hp (by decide))) w' (fun x hx => h.ty_ne (ty_cells hp) (by decide) hx)
theorem bd_write (h : Bd w0 W a s t n P Q) (k off : Nat) (hk : k < s.n) (hown : (s.fr k).own ≠ -1) (A : Option Addr) (l c : Nat) (zs : List UInt8) (hl : l = zs.length) (hz : Bytes W A zs) (ho : off + zs.length ≤ 256) :
    Calls Try.prog 18 #[.pointer (some ⟨a.mb, 0, none⟩), .int .i64 k, .int .i64 off, .slice A l c] W fun e w' => e = .returned (.int .i64 0) ∧ Bd w0 w' a (MS.wr s k off zs) t n P Q ∧ Chg (fun x => x = a.fb) W w' :=
  (GaC.write_calls h.bo.m k hk off A l c zs hl hz ho hown).mono fun e w' ⟨h1, h2, h3⟩ => ⟨h1, ⟨h.bo.mach h3 h2, h.out h3 (by rintro x rfl; exact h.bo.ge.2.1)⟩, h3⟩
theorem bd_rwrite (h : Bd w0 W a s t n P Q) (k off : Nat) (hk : k < t.n) (hown : (t.fr k).own ≠ -1) (x : Addr) (c : Nat) (zs : List UInt8) (hz : Holds W x zs) (ho : off + zs.length ≤ 256) (hx : x.block ∉ a.bs) :
    Calls Try.prog 52 #[.pointer (some ⟨a.rb, 0, none⟩), .int .i64 k, .int .i64 off, .slice (some x) zs.length c] W fun e w' => e = .returned (.int .i64 0) ∧ Bd w0 w' a s (MS.wr t k off zs) n P Q :=
  (rwrite h.bo.w k off hk hown x c zs hz ho (fun e => hx (by rw [e]; exact RMach.mem h.bo.w k hk))).mono fun e w' ⟨h1, h2, h3⟩ => ⟨h1, bo_rpage h.bo hk h3 h2, h.out h3 (by rintro y rfl; exact h.bo.ge.2.2.2.2.2.2.1 _ (RMach.mem h.bo.w k hk))⟩
/-- lay's argument. -/
def leV (e : LE) : Value := .agg #[.int .i64 e.dom, .int .i64 e.ref, .int .i64 e.g.kd, .bool e.g.ro, .bool e.g.sb, .int .i64 e.g.dom, .int .i64 e.g.gp, .int .i64 e.g.of, .int .i64 e.g.le, .int .u8 e.fl]
set_option maxHeartbeats 8000000 in
set_option maxRecDepth 100000 in
theorem lay_no (h : Bd w0 W a s t n P Q) (hx : a.xb = w0.heap.size) (e : LE) (he : ¬ layOk e) :
    Calls Try.prog 21 #[.pointer (some ⟨w0.heap.size, 0, none⟩), .agg #[.int .i64 e.dom, .int .i64 e.ref, .int .i64 e.g.kd, .bool e.g.ro, .bool e.g.sb, .int .i64 e.g.dom, .int .i64 e.g.gp, .int .i64 e.g.of, .int .i64 e.g.le, .int .u8 e.fl]] W fun o w' => o = .returned (.tuple #[]) ∧ Bd w0 w' a s t n P Q := by
  have hpb := fun (h : packBad e.g) W => pack_bad e.g h W
  have hpg := fun (h : ¬ packBad e.g) W => pack_good e.g h W
  obtain ⟨dom, ref, g, fl⟩ := e
  obtain ⟨kd, ro, sb, gd, gp, of, le⟩ := g
  simp only at hpb hpg he ⊢
  have HB := Base.Aside.mk h
  clear h
  by_cases hb : packBad ⟨kd, ro, sb, gd, gp, of, le⟩
  · have hpk := hpb hb
    clear hpb hpg hb he
    go_enter Try.func21, Try.ntmps21
    go_wp2_with (first
      | (go_at_call 16; (with_reducible refine (hpk _).mono ?_); rintro z w2 ⟨rfl, hB2⟩; have E2 := Base.Aside.mk hB2; clear hB2)
      | go_in)
    refine bodyPost_ret (results_none rfl _ _ _) rfl ?_
    exact ⟨by first | rfl | (simp; done), (HB.out.below (below_alloc (Below.refl _ _) _)).below E2.out⟩
  · have hpk := hpg hb
    unfold layOk at he
    simp only at he
    have he2 : dom < 0 ∨ (0 ≤ dom ∧ 2 < dom) ∨ (0 ≤ dom ∧ dom ≤ 2 ∧ ref < 0) ∨ (0 ≤ dom ∧ dom ≤ 2 ∧ 0 ≤ ref ∧ 32 ≤ ref) := by
      by_cases h1 : dom < 0
      · exact .inl h1
      · by_cases h2 : 2 < dom
        · exact .inr (.inl ⟨by omega, h2⟩)
        · by_cases h3 : ref < 0
          · exact .inr (.inr (.inl ⟨by omega, by omega, h3⟩))
          · refine .inr (.inr (.inr ⟨by omega, by omega, by omega, ?_⟩))
            by_cases h4 : 32 ≤ ref
            · exact h4
            · exact absurd ⟨hb, by omega, by omega, by omega, by omega⟩ he
    clear hpb hpg hb he
    rcases he2 with h1 | ⟨h1, h2⟩ | ⟨h1, h2, h3⟩ | ⟨h1, h2, h3, h4⟩
    all_goals
      go_enter Try.func21, Try.ntmps21
      go_wp2_with (first
        | (go_at_call 16; (with_reducible refine (hpk _).mono ?_); rintro z w2 ⟨N, hN, rfl, hbk, hB2⟩; have hk2 := blk_below (blk_new W _) (blk_lt (blk_new W _)) hB2; have C2 := (fun i => blk_cell hk2 i); have L2 := blk_lt hk2; have E2 := Base.Aside.mk hB2; clear hB2 hbk)
        | go_in)
      refine bodyPost_ret (results_none rfl _ _ _) rfl ?_
      exact ⟨by first | rfl | (simp; done), (HB.out.below (below_alloc (Below.refl _ _) _)).below E2.out⟩
set_option maxHeartbeats 8000000 in
set_option maxRecDepth 100000 in
theorem lay_ok (h : Bd w0 W a s t n P Q) (hx : a.xb = w0.heap.size) (e : LE) (he : layOk e) (hn : s.n = 13 ∧ t.n = 13) (ho : ∀ k, k < 12 → (s.fr k).own ≠ -1 ∧ (t.fr k).own ≠ -1) :
    Calls Try.prog 21 #[.pointer (some ⟨w0.heap.size, 0, none⟩), .agg #[.int .i64 e.dom, .int .i64 e.ref, .int .i64 e.g.kd, .bool e.g.ro, .bool e.g.sb, .int .i64 e.g.dom, .int .i64 e.g.gp, .int .i64 e.g.of, .int .i64 e.g.le, .int .u8 e.fl]] W fun o w' => o = .returned (.tuple #[]) ∧ Bd w0 w' a (layS s e) (layS t e) n P Q := by
  have hpk := fun W => pack_good e.g he.1 W
  have hzv := layZ_vals e he.1
  have hpv := packZ_vals e.g he.1
  have e1 : layS s e = MS.wr s (4 * e.dom.toNat) (8 * e.ref.toNat) (layZ e) := if_pos he
  have e2 : layS t e = MS.wr t (4 * e.dom.toNat) (8 * e.ref.toNat) (layZ e) := if_pos he
  rw [e1, e2]
  rw [hpv] at hzv
  simp only [List.tail_cons] at hzv
  simp only [hpv] at hpk
  obtain ⟨_, hd0, hd2, hr0, hr32⟩ := he
  obtain ⟨dom, ref, g, fl⟩ := e
  simp only at hpk hzv hd0 hd2 hr0 hr32 ⊢
  obtain ⟨d, rfl⟩ : ∃ d : Nat, dom = d := ⟨dom.toNat, by omega⟩
  obtain ⟨r, rfl⟩ : ∃ r : Nat, ref = r := ⟨ref.toNat, by omega⟩
  simp only [Int.toNat_natCast]
  generalize layZ ⟨d, r, g, fl⟩ = zs at hzv ⊢
  have hzl : zs.length = 8 := by have := congrArg List.length hzv; simpa [u8s] using this
  obtain ⟨hdv, hhd⟩ : ∃ x, x = bits .xor .u8 (packN g) fl := ⟨_, rfl⟩
  generalize packN g = pn at hpk hzv hhd
  generalize (if g.sb = true then g.of else 0) = v6 at hpk hzv
  generalize (if g.sb = true then g.le else 256) - 1 = v7 at hpk hzv
  have HB := Base.Aside.mk (And.intro h (And.intro hx hzv))
  have d1 : decide ((d : Int) < 0) = false := decide_eq_false (by omega)
  have d2 : decide ((2 : Int) < (d : Int)) = false := decide_eq_false (by omega)
  have d3 : decide ((r : Int) < 0) = false := decide_eq_false (by omega)
  have d4 : decide ((32 : Int) ≤ (r : Int)) = false := decide_eq_false (by omega)
  have HN := Base.Aside.mk (And.intro hn (And.intro ho hzl))
  clear h hzv hpv hx hn ho hzl
  go_enter Try.func21, Try.ntmps21
  go_wp2_with (first
    | (go_at_call 16; (with_reducible refine (hpk _).mono ?_); rintro z w2 ⟨N, hN, rfl, hbk, hB2⟩; have hk2 := blk_below (blk_new W _) (blk_lt (blk_new W _)) hB2; have C2 := (fun i => blk_cell hk2 i); have L2 := blk_lt hk2; have D2 := (fun i => blk_cell hbk i); have G2 := (fun i => blk_frozen hbk i); have M2 := blk_lt hbk; have nN : N ≠ W.heap.size := (by have := hN; rw [World.size_alloc] at this; omega); have E2 := Base.Aside.mk (And.intro hB2 (And.intro hk2 (And.intro hbk hN))); clear hB2 hbk hN hk2)
    | go_in)
  go_region
  go_upto_region 4 with fail
  refine wp_world (fun W3 => Bd w0 W3 a s t n P Q ∧ W3.heap[W.heap.size]? = some (.cells #[.int .i64 d, .int .i64 r, .int .i64 g.kd, .bool g.ro, .bool g.sb, .int .i64 g.dom, .int .i64 g.gp, .int .i64 g.of, .int .i64 g.le, .int .u8 fl] 63 (0, 0)) ∧ W3.heap[N]? = some (.cells (u8s zs).toArray 5 (0, 0)) ∧ N ∉ a.bs) ?_ ?_
  · obtain ⟨hB2, hk2, hbk, hN⟩ := E2.out
    rw [World.size_alloc] at hN
    have hb2 := (HB.out.1.below (below_alloc (Below.refl _ _) _)).below hB2
    have ho := HB.out.1.bo.old
    have hs := HB.out.1.bel.size
    have hc : Chg (fun x => x = N) w2 ((w2.setCell ⟨N, 0, none⟩ (.int .u8 (bits .xor .u8 pn fl)))) := chg_fb (Chg.refl _ w2) 0 _
    have hnb : N ∉ a.bs := fun hm => by have := ho.m.2.2.2.2.2 _ hm; omega
    refine ⟨Bd.below (W := (w2.setCell ⟨N, 0, none⟩ (.int .u8 (bits .xor .u8 pn fl)))) ⟨hb2.bo.young hc (N := W.heap.size + 1) (by rintro x rfl; exact hN) ⟨fun x hx => by have := ho.bl x hx; omega, by obtain ⟨m1, m2, m3, m4, m5, m6⟩ := ho.m; exact ⟨by omega, by omega, by omega, by omega, by omega, fun b hb => by have := m6 b hb; omega⟩⟩, hb2.out hc (by rintro x rfl; omega)⟩ (Below.refl _ _).drew, ?_, ?_, hnb⟩
    · exact hc.blk hk2 (by omega)
    · have h9 := HB.out.2.2
      rw [← hhd] at h9
      have h8 := blk_put hbk 0 (.int .u8 (bits .xor .u8 pn fl)) rfl
      refine h8.trans ?_
      rw [h9, hhd]
      rfl
  · intro W3 ⟨h3, hx3, hz3, hnb⟩
    have hb3 := xblk h3 HB.out.2.1
    have hbc := fun (W' : World) (hW : Below W3.heap.size W3 W') => bd_write (h3.below hW) (4 * d) (8 * r) (by rw [HN.out.1.1]; omega) (HN.out.2.1 _ (by omega)).1 (some ⟨N, 0, none⟩) 8 8 zs HN.out.2.2.symm (.inr ⟨_, rfl, (Holds.of_block hz3).below hW⟩) (by rw [HN.out.2.2]; omega)
    rw [show ((4 * d : Nat) : Int) = 4 * (d : Int) by omega, show ((8 * r : Nat) : Int) = 8 * (r : Int) by omega] at hbc
    have C3 := fun i => blk_cell hb3 i
    have D3 := fun i => blk_cell hx3 i
    have L3 := blk_lt hb3
    have M3 := blk_lt hx3
    have E3 := Base.Aside.mk (And.intro h3 (And.intro hx3 (And.intro hz3 hnb)))
    have hw1 : IntKind.i64.wrap (4 * (d : Int)) = 4 * (d : Int) := GuA.wraps_i64 _ (by omega) (by omega)
    have hw2 : IntKind.i64.wrap (8 * (r : Int)) = 8 * (r : Int) := GuA.wraps_i64 _ (by omega) (by omega)
    clear C2 L2 D2 G2 M2 E2 nN h3 hb3 hx3 hz3 hnb hpk
    go_cut [] from 42 to 53 (fun wx => Base.Aside (Bd w0 wx a (MS.wr s (4 * d) (8 * r) zs) t n P Q ∧ wx.heap[W.heap.size]? = some (.cells #[.int .i64 d, .int .i64 r, .int .i64 g.kd, .bool g.ro, .bool g.sb, .int .i64 g.dom, .int .i64 g.gp, .int .i64 g.of, .int .i64 g.le, .int .u8 fl] 63 (0, 0)) ∧ wx.heap[N]? = some (.cells (u8s zs).toArray 5 (0, 0))))
    case first =>
      go_region_with (first
        | (go_at_call 18; (with_reducible refine (hbc _ ?_).mono ?_); (focus (repeat (with_reducible first | exact Below.refl _ _ | refine below_drew ?_ | refine below_alloc ?_ _))); rintro z w5 ⟨rfl, h5, hc5⟩; have E5 := Base.Aside.mk (And.intro h5 hc5); clear h5 hc5))
      all_goals
        go_wp2_with fail
        go_meet
        case rel =>
          obtain ⟨cs, l1, _⟩ := E3.out.1.bo.m.lst
          exact ⟨E5.out.1, E5.out.2.blk E3.out.2.1 (bne E3.out.2.1 l1 (by decide)), E5.out.2.blk E3.out.2.2.1 (bne E3.out.2.2.1 l1 (by decide))⟩
    case rest =>
      have h6 := hcut.out.1
      have hb6 := xblk h6 HB.out.2.1
      have hbr := fun (W' : World) (hW : Below wc.heap.size wc W') => bd_rwrite (h6.below hW) (4 * d) (8 * r) (by rw [HN.out.1.2]; omega) (HN.out.2.1 _ (by omega)).2 ⟨N, 0, none⟩ 8 zs ((Holds.of_block hcut.out.2.2).below hW) (by rw [HN.out.2.2]; omega) E3.out.2.2.2
      rw [show ((4 * d : Nat) : Int) = 4 * (d : Int) by omega, show ((8 * r : Nat) : Int) = 8 * (r : Int) by omega, HN.out.2.2] at hbr
      have C6 := fun i => blk_cell hb6 i
      have D6 := fun i => blk_cell hcut.out.2.1 i
      have L6 := blk_lt hb6
      have M6 := blk_lt hcut.out.2.1
      clear h6 hb6 hcut C3 D3 L3 M3 hbc
      go_upto_region 5 with fail
      go_region_with (first
        | (go_at_call 52; (with_reducible refine (hbr _ ?_).mono ?_); (focus (repeat (with_reducible first | exact Below.refl _ _ | refine below_drew ?_ | refine below_alloc ?_ _))); rintro z w7 ⟨rfl, h7⟩; have E7 := Base.Aside.mk h7; clear h7))
      all_goals
        go_wp2
        refine bodyPost_end (results_none rfl _ _ _) rfl ?_
        exact ⟨by first | rfl | (simp; done), E7.out⟩
/-- lay, at every entry. -/
theorem lay_any (h : Bd w0 W a s t n P Q) (hx : a.xb = w0.heap.size) (e : LE) (hn : s.n = 13 ∧ t.n = 13) (ho : ∀ k, k < 12 → (s.fr k).own ≠ -1 ∧ (t.fr k).own ≠ -1) :
    Calls Try.prog 21 #[.pointer (some ⟨w0.heap.size, 0, none⟩), .agg #[.int .i64 e.dom, .int .i64 e.ref, .int .i64 e.g.kd, .bool e.g.ro, .bool e.g.sb, .int .i64 e.g.dom, .int .i64 e.g.gp, .int .i64 e.g.of, .int .i64 e.g.le, .int .u8 e.fl]] W fun o w' => o = .returned (.tuple #[]) ∧ Bd w0 w' a (layS s e) (layS t e) n P Q := by
  by_cases he : layOk e
  · exact lay_ok h hx e he hn ho
  · have e1 : layS s e = s := if_neg he
    have e2 : layS t e = t := if_neg he
    rw [e1, e2]
    exact lay_no h hx e he
end
end Go.Proofs.Ytjeobbhaoahdcaa.GoB
namespace Go.Proofs.Ytjeobbhaoahdcaa.GqB
open Go.RowKit Go.Maps Go.Proofs.Ytjeobbhaoahdcaa.Base Go.Proofs.Ytjeobbhaoahdcaa.GaA Go.Proofs.Ytjeobbhaoahdcaa.GaB Go.Proofs.Ytjeobbhaoahdcaa.GaC Go.Proofs.Ytjeobbhaoahdcaa.GmA Go.Proofs.Ytjeobbhaoahdcaa.GmB Go.Proofs.Ytjeobbhaoahdcaa.GmC Go.Proofs.Ytjeobbhaoahdcaa.GpA Go.Proofs.Ytjeobbhaoahdcaa.GgA Go.Proofs.Ytjeobbhaoahdcaa.GvA Go.Proofs.Ytjeobbhaoahdcaa.GeA Go.Proofs.Ytjeobbhaoahdcaa.GeB Go.Proofs.Ytjeobbhaoahdcaa.GfA Go.Proofs.Ytjeobbhaoahdcaa.GfB Go.Proofs.Ytjeobbhaoahdcaa.GfC Go.Proofs.Ytjeobbhaoahdcaa.GfD Go.Proofs.Ytjeobbhaoahdcaa.GfH Go.Proofs.Ytjeobbhaoahdcaa.GbA Go.Proofs.Ytjeobbhaoahdcaa.GbB Go.Proofs.Ytjeobbhaoahdcaa.GbC Go.Proofs.Ytjeobbhaoahdcaa.GkA Go.Proofs.Ytjeobbhaoahdcaa.GkB Go.Proofs.Ytjeobbhaoahdcaa.GlA Go.Proofs.Ytjeobbhaoahdcaa.GoB Go.Proofs.Ytjeobbhaoahdcaa.GjA Go.Proofs.Ytjeobbhaoahdcaa.GjB Go.Proofs.Ytjeobbhaoahdcaa.GjC Go.Proofs.Ytjeobbhaoahdcaa.GjD Go.Proofs.Ytjeobbhaoahdcaa.GjE Go.Proofs.Ytjeobbhaoahdcaa.GjF Go.Proofs.Ytjeobbhaoahdcaa.GjG Go.Proofs.Ytjeobbhaoahdcaa.GqA
set_option linter.unusedVariables false
set_option linter.unusedSimpArgs false

/-- The program's world behind begin, with its live maps and a view. -/
structure Hw (w W : World) (a : BA) (S : MS) (P Q : Value) (F : Int × Int → Option Mp) (n vb db r : Nat) : Prop where
  x : W.heap[w.heap.size]? = some (.cells #[.pointer (some ⟨a.mb, 0, none⟩), .pointer (some ⟨a.gb, 0, none⟩), P, .pointer (some ⟨a.rb, 0, none⟩), .pointer (some ⟨a.hb, 0, none⟩), Q] 35 (0, 0))
  g : GX W a.gb a.mm a.hm a.mb a.fb S (memG a.pb 3) 3 (piB a) F n
  v : V2 W vb db a.mb r
  ge : w.heap.size ≤ a.fb ∧ w.heap.size ≤ a.hm ∧ w.heap.size ≤ vb ∧ db ≠ a.hm
  pi : ∀ e, e < 3 → piB a (a.pb e) = piI a e
  bel : Below w.heap.size w W
section
variable {w W W' : World} {a : BA} {S S' t : MS} {P Q : Value} {F F' : Int × Int → Option Mp} {n n' vb db r r' : Nat}
theorem bd_gx (h : Bd w W a S t N3 P Q) (hn : S.n = 13) : GX W a.gb a.mm a.hm a.mb a.fb S (memG a.pb 3) 3 (piB a) (fun _ => none) 0 := by
  refine ⟨bo_gw h.bo hn, KMap.made_at h.bo.hk, h.bo.mh, fun d x hd => ?_⟩
  obtain ⟨e, he, rfl, rfl⟩ := memG_some hd
  simp only
  rw [pi_at h.bo e he]
  exact ⟨(h.bo.ne e he).2.2.1, (h.bo.ne e he).2.2.2⟩
theorem hw_of (h : Bd w W a S t N3 P Q) (hx : a.xb = w.heap.size) (hn : S.n = 13) (hb : Below W.heap.size W W') (hV : V2 W' vb db a.mb 0) (h1 : W.heap.size ≤ vb) (h2 : W.heap.size ≤ db) : Hw w W' a S P Q (fun _ => none) 0 vb db 0 :=
  ⟨blk_below (xblk h hx) (blk_lt (xblk h hx)) hb, (bd_gx h hn).below hb, hV, ⟨h.bo.ge.2.1, h.bo.ge.2.2.2.1, Nat.le_trans h.bel.size h1, by have := blk_lt h.bo.hk; omega⟩, fun e he => pi_at h.bo e he, h.bel.trans (hb.mono h.bel.size)⟩
theorem Hw.below (h : Hw w W a S P Q F n vb db r) (hb : Below W.heap.size W W') : Hw w W' a S P Q F n vb db r := ⟨blk_below h.x (blk_lt h.x) hb, h.g.below hb, h.v.below hb, h.ge, h.pi, h.bel.trans (hb.mono h.bel.size)⟩
theorem Hw.step (h : Hw w W a S P Q F n vb db r) (hg : GX W' a.gb a.mm a.hm a.mb a.fb S' (memG a.pb 3) 3 (piB a) F' n') (hv : V2 W' vb db a.mb r') (hc : Chg (fun x => x = vb ∨ x = a.fb ∨ x = a.hm) W W') : Hw w W' a S' P Q F' n' vb db r' := by
  obtain ⟨cs, q1, q2⟩ := h.g.g.m.lst
  refine ⟨hc.blk h.x ?_, hg, hv, h.ge, h.pi, hc.out h.bel h.bel.size ?_⟩
  · rintro (e | e | e)
    · exact bne h.x h.v.blk (by decide) e
    · exact bne h.x q1 (by decide) e
    · exact bnk h.x h.g.h e
  · rintro x (rfl | rfl | rfl)
    · exact h.ge.2.2.1
    · exact h.ge.1
    · exact h.ge.2.1
end
/-- The entry, and what its frame counts. -/
structure He (S : MS) (d gp rf : Nat) (cl : Int) (b : Hn) : Prop where
  n : S.n = 13
  fr : S.fr (4 * d + gp) = frB d b
  pe : permE (ent S (4 * d) rf) cl = 0
  sb : (entG (ent S (4 * d) rf)).sb = false
  ro : (entG (ent S (4 * d) rf)).ro = false
  gp : (entG (ent S (4 * d) rf)).gp = gp
theorem ent_put (S : MS) (k : Nat) (f : Fr) (i j : Nat) : ent (MS.put1 S k f) i j = ent S i j := rfl
theorem he_put {S : MS} {d gp rf : Nat} {cl : Int} {b b' : Hn} (h : He S d gp rf cl b) : He (MS.put1 S (4 * d + gp) (frB d b')) d gp rf cl b' :=
  ⟨h.n, if_pos rfl, h.pe, h.sb, h.ro, h.gp⟩
section
variable {w W W' : World} {a : BA} {S S' t : MS} {P Q : Value} {F F' : Int × Int → Option Mp} {n n' vb db r r' : Nat} {d gp rf : Nat} {cl : Int} {b : Hn}
theorem frame_is (he : He S d gp rf cl b) (hd : d < 3) (hg : gp < 4) : frameR S 8 (frD d 4) d gp = (((4 * d + gp : Nat) : Int), 0) := by
  have e1 : getV 8 (frD d 4) gp = (((4 * d + gp : Nat) : Int), 0) := by
    unfold getV
    rw [if_pos (by omega)]
    have : frD d 4 gp = some (((4 * d + gp : Nat) : Int)) := by unfold frD; rw [if_pos (by omega)]; congr 1
    rw [this]
  have e2 : frV S ((4 * d + gp : Nat) : Int) = (S.fr (4 * d + gp), 0) := by
    unfold frV
    rw [if_pos (by rw [he.n]; omega), Int.toNat_natCast]
  unfold frameR
  rw [e1]
  simp only
  rw [e2, he.fr]
  simp [frB]
/-- Map, in the laws' worlds. -/
theorem hw_mapE (h : Hw w W a S P Q (HF cl d rf ((4 * d + gp : Nat) : Int) b) (cb all1 b) vb db r) (he : He S d gp rf cl b) (hd : d < 3) (hg : gp < 4) (hrf : rf < 32) (hc : 0 ≤ cl ∧ cl < 8) {j : Nat} (hj : j < 16) (h1 : ∀ i, i < j → (b i).isSome = true) (h2 : b j = none) (wr : Bool) :
    Calls Try.prog 22 #[.pointer (some ⟨a.gb, 0, none⟩), .pointer (some ⟨vb, 0, none⟩), .int .i64 cl, .int .i64 d, .int .i64 rf, .bool wr] W fun e w' => e = .returned (.tuple #[.int .i64 j, .int .i64 0]) ∧
      Hw w w' a (MS.put1 S (4 * d + gp) (frB d (upd b j (some wr)))) P Q (HF cl d rf ((4 * d + gp : Nat) : Int) (upd b j (some wr))) (cb all1 (upd b j (some wr))) vb db (r + 1) := by
  obtain ⟨hl, hlen⟩ := hf_lead (cl := cl) (ow := d) (rf := rf) (mf := ((4 * d + gp : Nat) : Int)) hj h1 h2
  have hpi := h.pi d hd
  have hm := map_ok h.g h.v (Nat.zero_le _) h.ge.2.2.2 (by have := cb_16 all1 b; omega) cl hc d (4 * d) (a.pb d) (by rw [memG_at _ _ hd]; congr 2) rf hrf wr hlen (by rw [hl, hf_at hj, h2]; rfl) he.pe he.sb (by rw [he.ro]; cases wr <;> rfl)
    (4 * d + gp) (by rw [hpi, he.gp]; exact frame_is he hd hg) (by rw [he.n]; omega) (by rw [he.fr]; exact frB_few d b) (by rw [he.fr]; exact frB_getE d (by omega) b wr)
  rw [hl] at hm
  have e1 : getS S (4 * d + gp) d (kindI wr) = MS.put1 S (4 * d + gp) (frB d (upd b j (some wr))) := by
    unfold getS
    rw [he.fr, if_pos (frB_getE d (by omega) b wr), frB_get d b hj h2 wr]
  have e2 : cb all1 b + 1 = cb all1 (upd b j (some wr)) := by
    have := cb_upd all1 b hj (some wr)
    rw [h2] at this
    simp [pick, all1] at this
    exact this.symm
  rw [e1, hf_put hj wr, e2] at hm
  exact hm.mono fun e w' ⟨q1, q2, q3, q4⟩ => ⟨q1, h.step q2 q3 q4⟩
theorem hw_map (h : Hw w W a S P Q (HF cl d rf ((4 * d + gp : Nat) : Int) b) (cb all1 b) vb db r) (he : He S d gp rf cl b) (hd : d < 3) (hg : gp < 4) (hrf : rf < 32) (hc : 0 ≤ cl ∧ cl < 8) {j : Nat} (hj : j < 16) (h1 : ∀ i, i < j → (b i).isSome = true) (h2 : b j = none) (wr : Bool) :
    Calls Try.prog 22 #[.pointer (some ⟨a.gb, 0, none⟩), .pointer (some ⟨vb, 0, none⟩), .int .i64 cl, .int .i64 d, .int .i64 rf, .bool wr] W fun e w' => e = .returned (.tuple #[.int .i64 j, .int .i64 0]) ∧
      ∃ S', He S' d gp rf cl (upd b j (some wr)) ∧ Hw w w' a S' P Q (HF cl d rf ((4 * d + gp : Nat) : Int) (upd b j (some wr))) (cb all1 (upd b j (some wr))) vb db (r + 1) :=
  (hw_mapE h he hd hg hrf hc hj h1 h2 wr).mono fun e w' ⟨q1, q2⟩ => ⟨q1, _, he_put he, q2⟩
/-- Unmap, in the laws' worlds. -/
theorem hw_unmap (h : Hw w W a S P Q (HF cl d rf ((4 * d + gp : Nat) : Int) b) (cb all1 b) vb db r) (hn : S.n = 13) (hfr : S.fr (4 * d + gp) = frB d b) (hd : d < 3) (hg : gp < 4) (hc : 0 ≤ cl ∧ cl < 8) {j : Nat} (hj : j < 16) {wr : Bool} (h2 : b j = some wr) :
    Calls Try.prog 23 #[.pointer (some ⟨a.gb, 0, none⟩), .int .i64 cl, .int .i64 j] W fun e w' => e = .returned (.int .i64 0) ∧
      Hw w w' a (MS.put1 S (4 * d + gp) (frB d (upd b j none))) P Q (HF cl d rf ((4 * d + gp : Nat) : Int) (upd b j none)) (cb all1 (upd b j none)) vb db r := by
  have hm := unmap_ok h.g cl j hc ⟨by omega, by omega⟩ ⟨(j : Int), cl, d, rf, ((4 * d + gp : Nat) : Int), wr⟩ (by rw [hf_at hj, h2]; rfl) ⟨by simp only; omega, by simp only; rw [hn]; omega⟩ (by simp only [Int.toNat_natCast]; rw [hfr]; exact frB_few d b)
  simp only [Int.toNat_natCast] at hm
  obtain ⟨p1, p2⟩ := frB_put d b hj wr h2
  have e1 : putS S (4 * d + gp) (kindI wr) = MS.put1 S (4 * d + gp) (frB d (upd b j none)) := by
    unfold putS
    rw [hfr, if_pos p1, p2]
  have e2 : cb all1 b - 1 = cb all1 (upd b j none) := by
    have := cb_upd all1 b hj none
    rw [h2] at this
    simp [pick, all1] at this
    omega
  rw [e1, hf_del hj, e2] at hm
  refine hm.mono fun e w' ⟨q1, q2, q3⟩ => ⟨q1, h.step q2 ?_ (q3.mono fun _ h => .inr h)⟩
  obtain ⟨cs, g1, g2⟩ := h.g.g.m.lst
  refine h.v.chg q3 ?_ ?_
  · rintro (e | e)
    · exact bne h.v.blk g1 (by decide) e
    · exact bnk h.v.blk h.g.h e
  · rintro (e | e)
    · exact bnm g1 h.v.due e.symm
    · exact h.ge.2.2.2 e
end
end Go.Proofs.Ytjeobbhaoahdcaa.GqB
namespace Go.Proofs.Ytjeobbhaoahdcaa.GqC
open Go.RowKit Go.Maps Go.Proofs.Ytjeobbhaoahdcaa.Base Go.Proofs.Ytjeobbhaoahdcaa.GaA Go.Proofs.Ytjeobbhaoahdcaa.GaB Go.Proofs.Ytjeobbhaoahdcaa.GaC Go.Proofs.Ytjeobbhaoahdcaa.GmA Go.Proofs.Ytjeobbhaoahdcaa.GmB Go.Proofs.Ytjeobbhaoahdcaa.GmC Go.Proofs.Ytjeobbhaoahdcaa.GpA Go.Proofs.Ytjeobbhaoahdcaa.GgA Go.Proofs.Ytjeobbhaoahdcaa.GvA Go.Proofs.Ytjeobbhaoahdcaa.GeA Go.Proofs.Ytjeobbhaoahdcaa.GeB Go.Proofs.Ytjeobbhaoahdcaa.GfA Go.Proofs.Ytjeobbhaoahdcaa.GfB Go.Proofs.Ytjeobbhaoahdcaa.GfC Go.Proofs.Ytjeobbhaoahdcaa.GfD Go.Proofs.Ytjeobbhaoahdcaa.GfH Go.Proofs.Ytjeobbhaoahdcaa.GbA Go.Proofs.Ytjeobbhaoahdcaa.GbB Go.Proofs.Ytjeobbhaoahdcaa.GbC Go.Proofs.Ytjeobbhaoahdcaa.GkA Go.Proofs.Ytjeobbhaoahdcaa.GkB Go.Proofs.Ytjeobbhaoahdcaa.GlA Go.Proofs.Ytjeobbhaoahdcaa.GoB Go.Proofs.Ytjeobbhaoahdcaa.GjA Go.Proofs.Ytjeobbhaoahdcaa.GjB Go.Proofs.Ytjeobbhaoahdcaa.GjC Go.Proofs.Ytjeobbhaoahdcaa.GjD Go.Proofs.Ytjeobbhaoahdcaa.GjE Go.Proofs.Ytjeobbhaoahdcaa.GjF Go.Proofs.Ytjeobbhaoahdcaa.GjG Go.Proofs.Ytjeobbhaoahdcaa.GqA Go.Proofs.Ytjeobbhaoahdcaa.GqB
set_option linter.unusedVariables false
set_option linter.unusedSimpArgs false

/-- The law's entry. -/
def eH : LE := ⟨0, 1, ⟨1, false, false, 1, 1, 0, 256⟩, 0⟩
theorem eH_ok : layOk eH := by decide
theorem layZ_eH : layZ eH = packZ ⟨1, false, false, 1, 1, 0, 256⟩ := by decide
def b0 : Hn := fun _ => none
theorem cb0 (p : Bool → Bool) : cb p b0 = 0 := by
  unfold cb b0 pick
  simp
theorem hf0 (cl ow rf mf : Int) : HF cl ow rf mf b0 = fun _ => none := by
  funext p
  unfold HF b0
  split <;> rfl
theorem he_eH : He (layS (msB 3 0) eH) 0 1 1 1 b0 := by
  have hb : ¬ packBad ⟨1, false, false, 1, 1, 0, 256⟩ := by decide
  have hs : layS (msB 3 0) eH = MS.wr (msB 3 0) 0 8 (layZ eH) := if_pos eH_ok
  have he : ent (layS (msB 3 0) eH) (4 * 0) 1 = ints (packZ ⟨1, false, false, 1, 1, 0, 256⟩) := by
    refine ent_is _ _ _ _ rfl fun j hj => ?_
    rw [hs, wr_hit (by omega) (by rw [layZ_len]; omega), layZ_eH]
    simp
  obtain ⟨e1, e2⟩ := pack_ent _ hb
  refine ⟨rfl, by rw [layS_fr]; unfold frB; rw [cb0, cb0]; rfl, ?_, ?_, ?_, ?_⟩
  · unfold permE
    rw [he, e1, e2, if_neg]
    simp [whole]
  all_goals
    rw [he, e2]
    rfl
theorem lay_lit {w W : World} {a : BA} {P Q : Value} (h : Bd w W a (msB 3 0) (msB 3 0) N3 P Q) (hx : a.xb = w.heap.size) :
    Calls Try.prog 21 #[.pointer (some ⟨w.heap.size, 0, none⟩), .agg #[.int .i64 0, .int .i64 1, .int .i64 1, .bool false, .bool false, .int .i64 1, .int .i64 1, .int .i64 0, .int .i64 256, .int .u8 0]] W fun o w' => o = .returned (.tuple #[]) ∧ Bd w w' a (layS (msB 3 0) eH) (layS (msB 3 0) eH) N3 P Q :=
  lay_any h hx eH ⟨rfl, rfl⟩ fun k hk => ⟨msB_low 3 0 k (by omega), msB_low 3 0 k (by omega)⟩
/-- The worlds while it maps: below k, just those handles are in use. -/
def Hk (w W : World) (a : BA) (P Q : Value) (vb db : Nat) (k : Nat) : Prop := ∃ (b : Hn) (S : MS) (r : Nat), (∀ i, i < 16 → (b i).isSome = decide (i < k)) ∧ He S 0 1 1 1 b ∧ Hw w W a S P Q (HF 1 0 1 1 b) (cb all1 b) vb db r
section
variable {w W W' : World} {a : BA} {P Q : Value} {vb db : Nat}
theorem hk_map {k : Nat} (h : Hk w W a P Q vb db k) (hk : k < 16) (wr : Bool) : Calls Try.prog 22 #[.pointer (some ⟨a.gb, 0, none⟩), .pointer (some ⟨vb, 0, none⟩), .int .i64 1, .int .i64 0, .int .i64 1, .bool wr] W fun e w' => e = .returned (.tuple #[.int .i64 k, .int .i64 0]) ∧ Hk w w' a P Q vb db (k + 1) := by
  obtain ⟨b, S, r, h1, h2, h3⟩ := h
  have hn : b k = none := by
    have := h1 k hk
    rw [decide_eq_false (Nat.lt_irrefl k)] at this
    cases hb : b k with
    | none => rfl
    | some x => rw [hb] at this; cases this
  refine (hw_map h3 h2 (by omega) (by omega) (by omega) (by omega) hk (fun i hi => by rw [h1 i (by omega)]; exact decide_eq_true hi) hn wr).mono ?_
  rintro e w' ⟨q1, S', q2, q3⟩
  refine ⟨q1, _, S', _, fun i hi => ?_, q2, q3⟩
  unfold upd
  split
  · rename_i e1
    subst e1
    simp
  · rw [h1 i hi]
    by_cases e2 : i < k
    · rw [decide_eq_true e2, decide_eq_true (by omega)]
    · rw [decide_eq_false e2, decide_eq_false (by omega)]
theorem hk_full (h : Hk w W a P Q vb db 16) (wr : Bool) : Calls Try.prog 22 #[.pointer (some ⟨a.gb, 0, none⟩), .pointer (some ⟨vb, 0, none⟩), .int .i64 1, .int .i64 0, .int .i64 1, .bool wr] W fun e w' => e = .returned (.tuple #[.int .i64 0, .int .i64 64]) ∧ Hk w w' a P Q vb db 16 := by
  obtain ⟨b, S, r, h1, h2, h3⟩ := h
  exact (map_full h3.g h3.v 1 (by omega) 0 0 (a.pb 0) (memG_at a.pb 0 (by omega)) 1 (by omega) wr (hf_full fun i hi => by rw [h1 i hi]; exact decide_eq_true hi)).mono fun e w' ⟨q1, q2⟩ => ⟨q1, b, S, r, h1, h2, h3.below q2⟩
/-- One has gone. -/
def Hg (w W : World) (a : BA) (P Q : Value) (vb db : Nat) (k : Nat) : Prop := ∃ (b : Hn) (S : MS) (r : Nat), (∀ i, i < 16 → (b i).isSome = decide (i ≠ k)) ∧ He S 0 1 1 1 b ∧ Hw w W a S P Q (HF 1 0 1 1 b) (cb all1 b) vb db r
theorem hk_unmap (h : Hk w W a P Q vb db 16) {k : Nat} (hk : k < 16) : Calls Try.prog 23 #[.pointer (some ⟨a.gb, 0, none⟩), .int .i64 1, .int .i64 k] W fun e w' => e = .returned (.int .i64 0) ∧ Hg w w' a P Q vb db k := by
  obtain ⟨b, S, r, h1, h2, h3⟩ := h
  have hs := h1 k hk
  rw [decide_eq_true hk] at hs
  cases hb : b k with
  | none => rw [hb] at hs; cases hs
  | some x =>
    refine (hw_unmap h3 h2.n h2.fr (by omega) (by omega) (by omega) hk hb).mono fun e w' ⟨q1, q2⟩ => ⟨q1, _, _, r, fun i hi => ?_, he_put h2, q2⟩
    unfold upd
    split
    · rename_i e1
      rw [decide_eq_false (by simpa using e1)]
      rfl
    · rename_i e1
      rw [h1 i hi, decide_eq_true hi, decide_eq_true e1]
theorem hg_map {k : Nat} (h : Hg w W a P Q vb db k) (hk : k < 16) (wr : Bool) : Calls Try.prog 22 #[.pointer (some ⟨a.gb, 0, none⟩), .pointer (some ⟨vb, 0, none⟩), .int .i64 1, .int .i64 0, .int .i64 1, .bool wr] W fun e w' => e = .returned (.tuple #[.int .i64 k, .int .i64 0]) ∧ Hk w w' a P Q vb db 16 := by
  obtain ⟨b, S, r, h1, h2, h3⟩ := h
  have hn : b k = none := by
    have := h1 k hk
    rw [decide_eq_false (by simp)] at this
    cases hb : b k with
    | none => rfl
    | some x => rw [hb] at this; cases this
  refine (hw_map h3 h2 (by omega) (by omega) (by omega) (by omega) hk (fun i hi => by rw [h1 i (by omega)]; exact decide_eq_true (by omega)) hn wr).mono ?_
  rintro e w' ⟨q1, S', q2, q3⟩
  refine ⟨q1, _, S', _, fun i hi => ?_, q2, q3⟩
  unfold upd
  split
  · rw [decide_eq_true hi]; rfl
  · rename_i e1
    rw [h1 i hi, decide_eq_true hi, decide_eq_true e1]
theorem hk_maps (h : Hk w W a P Q vb db 16) : Calls Try.prog 24 #[.pointer (some ⟨a.gb, 0, none⟩), .int .i64 1] W fun e w' => (∃ A c, e = .returned (.slice A 16 c)) ∧ Hk w w' a P Q vb db 16 := by
  obtain ⟨b, S, r, h1, h2, h3⟩ := h
  have hl : (mapsL (HF 1 0 1 1 b) 1 16).length = 16 := hf_full fun i hi => by rw [h1 i hi]; exact decide_eq_true hi
  refine (maps_calls h3.g 1 (by unfold okI; omega)).mono fun e w' ⟨v, q1, q2, q3⟩ => ⟨?_, b, S, r, h1, h2, h3.below q3⟩
  obtain ⟨A, c, rfl, _⟩ := mrow_of q2
  exact ⟨A, c, by rw [q1, hl]⟩
theorem hk_foreign (h : Hk w W a P Q vb db 16) : Calls Try.prog 25 #[.pointer (some ⟨a.gb, 0, none⟩), .int .i64 0] W fun e w' => e = .returned (.int .i64 16) ∧ Below w.heap.size w w' := by
  obtain ⟨b, S, r, h1, h2, h3⟩ := h
  have hc : cb all1 b = 16 := by
    have e1 : cb all1 b = cb all1 (fun _ => some true) := by
      unfold cb
      refine List.countP_congr fun i hi => ?_
      have := h1 i (List.mem_range.1 hi)
      rw [decide_eq_true (List.mem_range.1 hi)] at this
      cases hb : b i with
      | none => rw [hb] at this; cases this
      | some x => simp [pick, all1]
    rw [e1]
    decide
  have hf := foreign_calls h3.g 0 (hL_keys (b := b) (by unfold okI; omega)) (by rw [hL_len]; have := cb_16 all1 b; omega)
  rw [hL_own, hc] at hf
  exact hf.mono fun e w' ⟨q1, q2⟩ => ⟨q1, (h3.below q2).bel⟩
end
end Go.Proofs.Ytjeobbhaoahdcaa.GqC
