/- Proved: the worlds of the laws that map (contracts for the laws of the grants). -/
import Derived.Test.YtjeobbhaoahdcaaGqA
import Derived.Test.YtjeobbhaoahdcaaGoB
namespace Go.Proofs.Ytjeobbhaoahdcaa.GqB
open Go.RowKit Go.Maps Go.Proofs.Ytjeobbhaoahdcaa.Base Go.Proofs.Ytjeobbhaoahdcaa.GaA Go.Proofs.Ytjeobbhaoahdcaa.GaB Go.Proofs.Ytjeobbhaoahdcaa.GaC Go.Proofs.Ytjeobbhaoahdcaa.GmA Go.Proofs.Ytjeobbhaoahdcaa.GmB Go.Proofs.Ytjeobbhaoahdcaa.GmC Go.Proofs.Ytjeobbhaoahdcaa.GpA Go.Proofs.Ytjeobbhaoahdcaa.GgA Go.Proofs.Ytjeobbhaoahdcaa.GvA Go.Proofs.Ytjeobbhaoahdcaa.GeA Go.Proofs.Ytjeobbhaoahdcaa.GeB Go.Proofs.Ytjeobbhaoahdcaa.GfA Go.Proofs.Ytjeobbhaoahdcaa.GfB Go.Proofs.Ytjeobbhaoahdcaa.GfC Go.Proofs.Ytjeobbhaoahdcaa.GfD Go.Proofs.Ytjeobbhaoahdcaa.GfH Go.Proofs.Ytjeobbhaoahdcaa.GbA Go.Proofs.Ytjeobbhaoahdcaa.GbB Go.Proofs.Ytjeobbhaoahdcaa.GbC Go.Proofs.Ytjeobbhaoahdcaa.GkA Go.Proofs.Ytjeobbhaoahdcaa.GkB Go.Proofs.Ytjeobbhaoahdcaa.GlA Go.Proofs.Ytjeobbhaoahdcaa.GoB Go.Proofs.Ytjeobbhaoahdcaa.GjA Go.Proofs.Ytjeobbhaoahdcaa.GjB Go.Proofs.Ytjeobbhaoahdcaa.GjC Go.Proofs.Ytjeobbhaoahdcaa.GjD Go.Proofs.Ytjeobbhaoahdcaa.GjE Go.Proofs.Ytjeobbhaoahdcaa.GjF Go.Proofs.Ytjeobbhaoahdcaa.GjG Go.Proofs.Ytjeobbhaoahdcaa.GqA
set_option linter.unusedVariables false
set_option linter.unusedSimpArgs false

/-- The program's world behind begin, with its live maps and a view. -/
structure Hw (w W : World) (a : BA) (S : MS) (P Q : Value) (F : Int × Int → Option Mp) (n vb db r : Nat) : Prop where
  x : W.heap[w.heap.size]? = some (.cells #[.pointer (some ⟨a.mb, 0, none⟩), .pointer (some ⟨a.gb, 0, none⟩), P, .pointer (some ⟨a.rb, 0, none⟩), .pointer (some ⟨a.hb, 0, none⟩), Q] 35 (0, 0))
  g : GX W a.gb a.mm a.hm a.mb a.fb S (memG a.pb 3) 3 (piB a) F n
  v : V2 W vb db a.mb r
  ge : w.heap.size ≤ a.fb ∧ w.heap.size ≤ a.hm ∧ w.heap.size ≤ vb ∧ db ≠ a.hm
  pi : ∀ e, e < 3 → piB a (a.pb e) = piI a e
  bel : Below w.heap.size w W
section
variable {w W W' : World} {a : BA} {S S' t : MS} {P Q : Value} {F F' : Int × Int → Option Mp} {n n' vb db r r' : Nat}
theorem bd_gx (h : Bd w W a S t N3 P Q) (hn : S.n = 13) : GX W a.gb a.mm a.hm a.mb a.fb S (memG a.pb 3) 3 (piB a) (fun _ => none) 0 := by
  refine ⟨bo_gw h.bo hn, KMap.made_at h.bo.hk, h.bo.mh, fun d x hd => ?_⟩
  obtain ⟨e, he, rfl, rfl⟩ := memG_some hd
  simp only
  rw [pi_at h.bo e he]
  exact ⟨(h.bo.ne e he).2.2.1, (h.bo.ne e he).2.2.2⟩
theorem hw_of (h : Bd w W a S t N3 P Q) (hx : a.xb = w.heap.size) (hn : S.n = 13) (hb : Below W.heap.size W W') (hV : V2 W' vb db a.mb 0) (h1 : W.heap.size ≤ vb) (h2 : W.heap.size ≤ db) : Hw w W' a S P Q (fun _ => none) 0 vb db 0 :=
  ⟨blk_below (xblk h hx) (blk_lt (xblk h hx)) hb, (bd_gx h hn).below hb, hV, ⟨h.bo.ge.2.1, h.bo.ge.2.2.2.1, Nat.le_trans h.bel.size h1, by have := blk_lt h.bo.hk; omega⟩, fun e he => pi_at h.bo e he, h.bel.trans (hb.mono h.bel.size)⟩
theorem Hw.below (h : Hw w W a S P Q F n vb db r) (hb : Below W.heap.size W W') : Hw w W' a S P Q F n vb db r := ⟨blk_below h.x (blk_lt h.x) hb, h.g.below hb, h.v.below hb, h.ge, h.pi, h.bel.trans (hb.mono h.bel.size)⟩
theorem Hw.step (h : Hw w W a S P Q F n vb db r) (hg : GX W' a.gb a.mm a.hm a.mb a.fb S' (memG a.pb 3) 3 (piB a) F' n') (hv : V2 W' vb db a.mb r') (hc : Chg (fun x => x = vb ∨ x = a.fb ∨ x = a.hm) W W') : Hw w W' a S' P Q F' n' vb db r' := by
  obtain ⟨cs, q1, q2⟩ := h.g.g.m.lst
  refine ⟨hc.blk h.x ?_, hg, hv, h.ge, h.pi, hc.out h.bel h.bel.size ?_⟩
  · rintro (e | e | e)
    · exact bne h.x h.v.blk (by decide) e
    · exact bne h.x q1 (by decide) e
    · exact bnk h.x h.g.h e
  · rintro x (rfl | rfl | rfl)
    · exact h.ge.2.2.1
    · exact h.ge.1
    · exact h.ge.2.1
end
/-- The entry, and what its frame counts. -/
structure He (S : MS) (d gp rf : Nat) (cl : Int) (b : Hn) : Prop where
  n : S.n = 13
  fr : S.fr (4 * d + gp) = frB d b
  pe : permE (ent S (4 * d) rf) cl = 0
  sb : (entG (ent S (4 * d) rf)).sb = false
  ro : (entG (ent S (4 * d) rf)).ro = false
  gp : (entG (ent S (4 * d) rf)).gp = gp
theorem ent_put (S : MS) (k : Nat) (f : Fr) (i j : Nat) : ent (MS.put1 S k f) i j = ent S i j := rfl
theorem he_put {S : MS} {d gp rf : Nat} {cl : Int} {b b' : Hn} (h : He S d gp rf cl b) : He (MS.put1 S (4 * d + gp) (frB d b')) d gp rf cl b' :=
  ⟨h.n, if_pos rfl, h.pe, h.sb, h.ro, h.gp⟩
section
variable {w W W' : World} {a : BA} {S S' t : MS} {P Q : Value} {F F' : Int × Int → Option Mp} {n n' vb db r r' : Nat} {d gp rf : Nat} {cl : Int} {b : Hn}
theorem frame_is (he : He S d gp rf cl b) (hd : d < 3) (hg : gp < 4) : frameR S 8 (frD d 4) d gp = (((4 * d + gp : Nat) : Int), 0) := by
  have e1 : getV 8 (frD d 4) gp = (((4 * d + gp : Nat) : Int), 0) := by
    unfold getV
    rw [if_pos (by omega)]
    have : frD d 4 gp = some (((4 * d + gp : Nat) : Int)) := by unfold frD; rw [if_pos (by omega)]; congr 1
    rw [this]
  have e2 : frV S ((4 * d + gp : Nat) : Int) = (S.fr (4 * d + gp), 0) := by
    unfold frV
    rw [if_pos (by rw [he.n]; omega), Int.toNat_natCast]
  unfold frameR
  rw [e1]
  simp only
  rw [e2, he.fr]
  simp [frB]
/-- Map, in the laws' worlds. -/
theorem hw_map (h : Hw w W a S P Q (HF cl d rf ((4 * d + gp : Nat) : Int) b) (cb all1 b) vb db r) (he : He S d gp rf cl b) (hd : d < 3) (hg : gp < 4) (hrf : rf < 32) (hc : 0 ≤ cl ∧ cl < 8) {j : Nat} (hj : j < 16) (h1 : ∀ i, i < j → (b i).isSome = true) (h2 : b j = none) (wr : Bool) :
    Calls Try.prog 22 #[.pointer (some ⟨a.gb, 0, none⟩), .pointer (some ⟨vb, 0, none⟩), .int .i64 cl, .int .i64 d, .int .i64 rf, .bool wr] W fun e w' => e = .returned (.tuple #[.int .i64 j, .int .i64 0]) ∧
      ∃ S', He S' d gp rf cl (upd b j (some wr)) ∧ Hw w w' a S' P Q (HF cl d rf ((4 * d + gp : Nat) : Int) (upd b j (some wr))) (cb all1 (upd b j (some wr))) vb db (r + 1) := by
  obtain ⟨hl, hlen⟩ := hf_lead (cl := cl) (ow := d) (rf := rf) (mf := ((4 * d + gp : Nat) : Int)) hj h1 h2
  have hpi := h.pi d hd
  have hm := map_ok h.g h.v (Nat.zero_le _) h.ge.2.2.2 (by have := cb_16 all1 b; omega) cl hc d (4 * d) (a.pb d) (by rw [memG_at _ _ hd]; congr 2) rf hrf wr hlen (by rw [hl, hf_at hj, h2]; rfl) he.pe he.sb (by rw [he.ro]; cases wr <;> rfl)
    (4 * d + gp) (by rw [hpi, he.gp]; exact frame_is he hd hg) (by rw [he.n]; omega) (by rw [he.fr]; exact frB_few d b) (by rw [he.fr]; exact frB_getE d (by omega) b wr)
  rw [hl] at hm
  have e1 : getS S (4 * d + gp) d (kindI wr) = MS.put1 S (4 * d + gp) (frB d (upd b j (some wr))) := by
    unfold getS
    rw [he.fr, if_pos (frB_getE d (by omega) b wr), frB_get d b hj h2 wr]
  have e2 : cb all1 b + 1 = cb all1 (upd b j (some wr)) := by
    have := cb_upd all1 b hj (some wr)
    rw [h2] at this
    simp [pick, all1] at this
    exact this.symm
  rw [e1, hf_put hj wr, e2] at hm
  exact hm.mono fun e w' ⟨q1, q2, q3, q4⟩ => ⟨q1, _, he_put he, h.step q2 q3 q4⟩
/-- Unmap, in the laws' worlds. -/
theorem hw_unmap (h : Hw w W a S P Q (HF cl d rf ((4 * d + gp : Nat) : Int) b) (cb all1 b) vb db r) (hn : S.n = 13) (hfr : S.fr (4 * d + gp) = frB d b) (hd : d < 3) (hg : gp < 4) (hc : 0 ≤ cl ∧ cl < 8) {j : Nat} (hj : j < 16) {wr : Bool} (h2 : b j = some wr) :
    Calls Try.prog 23 #[.pointer (some ⟨a.gb, 0, none⟩), .int .i64 cl, .int .i64 j] W fun e w' => e = .returned (.int .i64 0) ∧
      Hw w w' a (MS.put1 S (4 * d + gp) (frB d (upd b j none))) P Q (HF cl d rf ((4 * d + gp : Nat) : Int) (upd b j none)) (cb all1 (upd b j none)) vb db r := by
  have hm := unmap_ok h.g cl j hc ⟨by omega, by omega⟩ ⟨(j : Int), cl, d, rf, ((4 * d + gp : Nat) : Int), wr⟩ (by rw [hf_at hj, h2]; rfl) ⟨by simp only; omega, by simp only; rw [hn]; omega⟩ (by simp only [Int.toNat_natCast]; rw [hfr]; exact frB_few d b)
  simp only [Int.toNat_natCast] at hm
  obtain ⟨p1, p2⟩ := frB_put d b hj wr h2
  have e1 : putS S (4 * d + gp) (kindI wr) = MS.put1 S (4 * d + gp) (frB d (upd b j none)) := by
    unfold putS
    rw [hfr, if_pos p1, p2]
  have e2 : cb all1 b - 1 = cb all1 (upd b j none) := by
    have := cb_upd all1 b hj none
    rw [h2] at this
    simp [pick, all1] at this
    omega
  rw [e1, hf_del hj, e2] at hm
  refine hm.mono fun e w' ⟨q1, q2, q3⟩ => ⟨q1, h.step q2 ?_ (q3.mono fun _ h => .inr h)⟩
  obtain ⟨cs, g1, g2⟩ := h.g.g.m.lst
  refine h.v.chg q3 ?_ ?_
  · rintro (e | e)
    · exact bne h.v.blk g1 (by decide) e
    · exact bnk h.v.blk h.g.h e
  · rintro (e | e)
    · exact bnm g1 h.v.due e.symm
    · exact h.ge.2.2.2 e
end
end Go.Proofs.Ytjeobbhaoahdcaa.GqB
