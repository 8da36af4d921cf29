/- Proved: the program's world as the laws of the grants use it behind begin (lemmas). -/
import Derived.Test.YtjeobbhaoahdcaaGbC
import Derived.Test.YtjeobbhaoahdcaaGkB
namespace Go.Proofs.Ytjeobbhaoahdcaa.GlA
open Go.RowKit Go.Maps Go.Proofs.Ytjeobbhaoahdcaa.Base Go.Proofs.Ytjeobbhaoahdcaa.GaA Go.Proofs.Ytjeobbhaoahdcaa.GaB Go.Proofs.Ytjeobbhaoahdcaa.GaC Go.Proofs.Ytjeobbhaoahdcaa.GaD Go.Proofs.Ytjeobbhaoahdcaa.GmA Go.Proofs.Ytjeobbhaoahdcaa.GmB Go.Proofs.Ytjeobbhaoahdcaa.GmC Go.Proofs.Ytjeobbhaoahdcaa.GpA Go.Proofs.Ytjeobbhaoahdcaa.GgA Go.Proofs.Ytjeobbhaoahdcaa.GvA Go.Proofs.Ytjeobbhaoahdcaa.GeA Go.Proofs.Ytjeobbhaoahdcaa.GeB Go.Proofs.Ytjeobbhaoahdcaa.GfA Go.Proofs.Ytjeobbhaoahdcaa.GfB Go.Proofs.Ytjeobbhaoahdcaa.GfC Go.Proofs.Ytjeobbhaoahdcaa.GfD Go.Proofs.Ytjeobbhaoahdcaa.GfE Go.Proofs.Ytjeobbhaoahdcaa.GfF Go.Proofs.Ytjeobbhaoahdcaa.GfG Go.Proofs.Ytjeobbhaoahdcaa.GfH Go.Proofs.Ytjeobbhaoahdcaa.GbA Go.Proofs.Ytjeobbhaoahdcaa.GbB Go.Proofs.Ytjeobbhaoahdcaa.GbC Go.Proofs.Ytjeobbhaoahdcaa.GkA Go.Proofs.Ytjeobbhaoahdcaa.GkB Go.Proofs.Ytjeobbhaoahdcaa.RmB
set_option linter.unusedVariables false
set_option linter.unusedSimpArgs false

def piI (a : BA) (e : Nat) : PI := ⟨a.fm e, a.pm e, 8, 4, frD e 4, plD e 4⟩
def piB (a : BA) : Nat → PI := fun b => if b = a.pb 0 then piI a 0 else if b = a.pb 1 then piI a 1 else piI a 2
def N3 : Cn := ⟨3, 3, 3, 3, 3⟩
theorem pi_at {B : Nat} {W : World} {a : BA} {s t : MS} {P Q : Value} (h : Bo B W a s t N3 P Q) (e : Nat) (he : e < 3) : piB a (a.pb e) = piI a e := by
  unfold piB
  have hj := fun e e' (h1 : e < 3) (h2 : e' < 3) => h.inj e e' h1 h2
  have h012 : e = 0 ∨ e = 1 ∨ e = 2 := by omega
  rcases h012 with rfl | rfl | rfl
  · rw [if_pos rfl]
  · rw [if_neg (fun h => by have := hj 1 0 (by omega) (by omega) h; omega), if_pos rfl]
  · rw [if_neg (fun h => by have := hj 2 0 (by omega) (by omega) h; omega), if_neg (fun h => by have := hj 2 1 (by omega) (by omega) h; omega)]
theorem memG_some {pb : Nat → Nat} {d : Int} {x : Int × Nat} (h : memG pb 3 d = some x) : ∃ e : Nat, e < 3 ∧ d = e ∧ x = (4 * (e : Int), pb e) := by
  unfold memG at h
  by_cases hd : 0 ≤ d ∧ d < (3 : Nat)
  · rw [if_pos hd] at h
    refine ⟨d.toNat, by omega, by omega, ?_⟩
    rw [← Option.some.inj h]
    congr 1
    omega
  · rw [if_neg hd] at h
    cases h
theorem memG_at (pb : Nat → Nat) (e : Nat) (he : e < 3) : memG pb 3 e = some (4 * (e : Int), pb e) := by
  unfold memG
  rw [if_pos (by omega)]
  simp
theorem bo_gw {B : Nat} {W : World} {a : BA} {s t : MS} {P Q : Value} (h : Bo B W a s t N3 P Q) (hn : s.n = 13) : GW W a.gb a.mm a.hm a.mb a.fb s (memG a.pb 3) 3 (piB a) := by
  refine ⟨h.g, h.m, fun d x hd => ?_, fun d x hd => ?_⟩
  · obtain ⟨e, he, rfl, rfl⟩ := memG_some hd
    simp only
    rw [pi_at h e he]
    exact ⟨h.p e he, by show 8 ≤ 48; omega⟩
  · obtain ⟨e, he, rfl, rfl⟩ := memG_some hd
    exact ⟨by omega, 4 * e, by simp, by omega⟩
/-- The program's world behind begin. -/
structure Lw (w0 W : World) (a : BA) (s : MS) (P Q : Value) : Prop where
  x : W.heap[w0.heap.size]? = some (.cells #[.pointer (some ⟨a.mb, 0, none⟩), .pointer (some ⟨a.gb, 0, none⟩), P, .pointer (some ⟨a.rb, 0, none⟩), .pointer (some ⟨a.hb, 0, none⟩), Q] 35 (0, 0))
  g : GW W a.gb a.mm a.hm a.mb a.fb s (memG a.pb 3) 3 (piB a)
  ge : w0.heap.size ≤ a.fb ∧ w0.heap.size ≤ a.mm ∧ w0.heap.size ≤ a.hm ∧ a.mm ≠ a.hm
  nm : ∀ e, e < 3 → a.mm ≠ a.fm e ∧ a.mm ≠ a.pm e ∧ a.hm ≠ a.fm e ∧ a.hm ≠ a.pm e
  pi : ∀ e, e < 3 → piB a (a.pb e) = piI a e
  bel : Below w0.heap.size w0 W
section
variable {w0 W W' : World} {a : BA} {s s' : MS} {P Q : Value} {vb db r : Nat}
theorem bd_lw (h : Bd w0 W a s s' N3 P Q) (hx : a.xb = w0.heap.size) (hn : s.n = 13) : Lw w0 W a s P Q :=
  ⟨xblk h hx, bo_gw h.bo hn, ⟨h.bo.ge.2.1, h.bo.ge.2.2.1, h.bo.ge.2.2.2.1, h.bo.mh⟩, h.bo.ne, fun e he => pi_at h.bo e he, h.bel⟩
theorem Lw.below (h : Lw w0 W a s P Q) (hb : Below W.heap.size W W') : Lw w0 W' a s P Q := ⟨blk_below h.x (blk_lt h.x) hb, h.g.below hb, h.ge, h.nm, h.pi, h.bel.trans (hb.mono h.bel.size)⟩
theorem Lw.xf (h : Lw w0 W a s P Q) : w0.heap.size ≠ a.fb := by
  obtain ⟨cs, h1, _⟩ := h.g.m.lst
  exact bne h.x h1 (by decide)
theorem Lw.mach (h : Lw w0 W a s P Q) (hc : Chg (fun x => x = a.fb) W W') (hM : Mach W' a.mb a.fb s') (hn : s'.n = s.n) : Lw w0 W' a s' P Q :=
  ⟨hc.blk h.x h.xf, gw_fb h.g hM hn hc, h.ge, h.nm, h.pi, hc.out h.bel h.bel.size (by rintro x rfl; exact h.ge.1)⟩
theorem Lw.vw {r' : Nat} (h : Lw w0 W a s P Q) (hV : V2 W vb db a.mb r) (hv : w0.heap.size ≤ vb) (k : Vw vb db a.mb W W' r') : Lw w0 W' a s P Q :=
  ⟨k.c.blk h.x (fun e => bne hV.blk h.x (by decide) e.symm), h.g.vw hV k, h.ge, h.nm, h.pi, k.c.out h.bel h.bel.size (by rintro x rfl; exact hv)⟩
theorem Lw.push (h : Lw w0 W a s P Q) (hV : V2 W vb db a.mb r) (hv : w0.heap.size ≤ vb) (hg : GW W' a.gb a.mm a.hm a.mb a.fb s' (memG a.pb 3) 3 (piB a)) (hc : Chg (fun x => x = vb ∨ x = a.fb) W W') : Lw w0 W' a s' P Q :=
  ⟨hc.blk h.x (by rintro (e | e); exact bne hV.blk h.x (by decide) e.symm; exact h.xf e), hg, h.ge, h.nm, h.pi, hc.out h.bel h.bel.size (by rintro x (rfl | rfl); exact hv; exact h.ge.1)⟩
/-- A write of the law's own. -/
theorem lw_write (h : Lw w0 W a s P Q) (k off : Int) (A : Option Addr) (l c : Nat) (zs : List UInt8) (hl : l = zs.length) (hz : Bytes W A zs) : Calls Try.prog 18 #[.pointer (some ⟨a.mb, 0, none⟩), .int .i64 k, .int .i64 off, .slice A l c] W fun e w' => e = .returned (.int .i64 (wrE s k off zs.length)) ∧ Lw w0 w' a (wrS s k off zs) P Q ∧ Chg (fun x => x = a.fb) W w' :=
  (write_any h.g.m k off A l c zs hl hz).mono fun e w' ⟨h1, h2, h3⟩ => ⟨h1, h.mach h3 h2 (wrS_n _ _ _ _), h3⟩
end
/-- What the page of the law's frame holds while it is filled. -/
theorem wrS_ok {s : MS} {k off : Nat} {zs : List UInt8} (hk : k < s.n) (ho : off + zs.length ≤ 256) (hw : (s.fr k).own ≠ -1) : wrE s k off zs.length = 0 ∧ wrS s k off zs = MS.wr s k off zs := by
  have hin : inR s k off zs.length := by unfold inR; omega
  have h1 : wrE s k off zs.length = 0 := by
    unfold wrE
    rw [if_pos hin, if_neg (by simpa using hw)]
  refine ⟨h1, ?_⟩
  unfold wrS
  rw [if_pos h1]
  simp
end Go.Proofs.Ytjeobbhaoahdcaa.GlA
