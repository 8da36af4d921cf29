/- Proved: the worlds of GrantLive, and what its calls do to them (contracts for the law). Proved: GrantLive's read and write of what is mapped, and its start (contracts for the law). Proved: GrantLive's map (a contract for the law). Proved: where the law GrantRange's ends lie (lemmas for the law). -/
import Derived.Test.YtjeobbhaoahdcaaMlap
import Derived.Laws.IdiomStrings
import Derived.Laws.BytesString
namespace Go.Proofs.Ytjeobbhaoahdcaa.GqE
open Go.RowKit Go.Maps Go.Proofs.Ytjeobbhaoahdcaa.Base Go.Proofs.Ytjeobbhaoahdcaa.GaA Go.Proofs.Ytjeobbhaoahdcaa.GaB Go.Proofs.Ytjeobbhaoahdcaa.GaC Go.Proofs.Ytjeobbhaoahdcaa.GmA Go.Proofs.Ytjeobbhaoahdcaa.GmB Go.Proofs.Ytjeobbhaoahdcaa.GmC Go.Proofs.Ytjeobbhaoahdcaa.GpA Go.Proofs.Ytjeobbhaoahdcaa.GgA Go.Proofs.Ytjeobbhaoahdcaa.GvA Go.Proofs.Ytjeobbhaoahdcaa.GeA Go.Proofs.Ytjeobbhaoahdcaa.GeB Go.Proofs.Ytjeobbhaoahdcaa.GfA Go.Proofs.Ytjeobbhaoahdcaa.GfB Go.Proofs.Ytjeobbhaoahdcaa.GfC Go.Proofs.Ytjeobbhaoahdcaa.GfD Go.Proofs.Ytjeobbhaoahdcaa.GfH Go.Proofs.Ytjeobbhaoahdcaa.GbA Go.Proofs.Ytjeobbhaoahdcaa.GbB Go.Proofs.Ytjeobbhaoahdcaa.GbC Go.Proofs.Ytjeobbhaoahdcaa.GkA Go.Proofs.Ytjeobbhaoahdcaa.GkB Go.Proofs.Ytjeobbhaoahdcaa.GlA Go.Proofs.Ytjeobbhaoahdcaa.GoB Go.Proofs.Ytjeobbhaoahdcaa.GjA Go.Proofs.Ytjeobbhaoahdcaa.GjB Go.Proofs.Ytjeobbhaoahdcaa.GjC Go.Proofs.Ytjeobbhaoahdcaa.GjD Go.Proofs.Ytjeobbhaoahdcaa.GjE Go.Proofs.Ytjeobbhaoahdcaa.GjF Go.Proofs.Ytjeobbhaoahdcaa.GjG Go.Proofs.Ytjeobbhaoahdcaa.GjH Go.Proofs.Ytjeobbhaoahdcaa.GjI Go.Proofs.Ytjeobbhaoahdcaa.GjJ Go.Proofs.Ytjeobbhaoahdcaa.GjK Go.Proofs.Ytjeobbhaoahdcaa.GqA Go.Proofs.Ytjeobbhaoahdcaa.GqB Go.Proofs.Ytjeobbhaoahdcaa.GqC
set_option linter.unusedVariables false
set_option linter.unusedSimpArgs false

/-- The law's entry. -/
def eL : LE := ⟨1, 5, ⟨1, false, false, 2, 3, 0, 256⟩, 0⟩
theorem eL_ok : layOk eL := by decide
theorem layZ_eL : layZ eL = packZ ⟨1, false, false, 2, 3, 0, 256⟩ := by decide
def S1 (zs : List UInt8) : MS := MS.wr (layS (msB 3 0) eL) 7 11 zs
theorem he_eL (zs : List UInt8) : He (S1 zs) 1 3 5 2 b0 := by
  have hb : ¬ packBad ⟨1, false, false, 2, 3, 0, 256⟩ := by decide
  have hs : layS (msB 3 0) eL = MS.wr (msB 3 0) 4 40 (layZ eL) := if_pos eL_ok
  have he : ent (S1 zs) (4 * 1) 5 = ints (packZ ⟨1, false, false, 2, 3, 0, 256⟩) := by
    refine ent_is _ _ _ _ rfl fun j hj => ?_
    unfold S1
    rw [wr_miss (by omega), hs, wr_hit (by omega) (by rw [layZ_len]; omega), layZ_eL]
    congr 1
    omega
  obtain ⟨e1, e2⟩ := pack_ent _ hb
  refine ⟨rfl, by show (layS (msB 3 0) eL).fr 7 = _; rw [layS_fr]; unfold frB; rw [cb0, cb0]; rfl, ?_, ?_, ?_, ?_⟩
  · unfold permE
    rw [he, e1, e2, if_neg]
    simp [whole]
  all_goals
    rw [he, e2]
    rfl
theorem lay_litL {w W : World} {a : BA} {P Q : Value} (h : Bd w W a (msB 3 0) (msB 3 0) N3 P Q) (hx : a.xb = w.heap.size) :
    Calls Try.prog 21 #[.pointer (some ⟨w.heap.size, 0, none⟩), .agg #[.int .i64 1, .int .i64 5, .int .i64 1, .bool false, .bool false, .int .i64 2, .int .i64 3, .int .i64 0, .int .i64 256, .int .u8 0]] W fun o w' => o = .returned (.tuple #[]) ∧ Bd w w' a (layS (msB 3 0) eL) (layS (msB 3 0) eL) N3 P Q :=
  lay_any h hx eL ⟨rfl, rfl⟩ fun k hk => ⟨msB_low 3 0 k (by omega), msB_low 3 0 k (by omega)⟩
/-- The law's world: who has joined is open. -/
structure Gv (w W : World) (a : BA) (S : MS) (P Q : Value) (f : Int → Option (Int × Nat)) (c : Nat) (F : Int × Int → Option Mp) (n vb db r : Nat) : Prop where
  x : W.heap[w.heap.size]? = some (.cells #[.pointer (some ⟨a.mb, 0, none⟩), .pointer (some ⟨a.gb, 0, none⟩), P, .pointer (some ⟨a.rb, 0, none⟩), .pointer (some ⟨a.hb, 0, none⟩), Q] 35 (0, 0))
  g : GX W a.gb a.mm a.hm a.mb a.fb S f c (piB a) F n
  v : V2 W vb db a.mb r
  ge : w.heap.size ≤ a.fb ∧ w.heap.size ≤ a.hm ∧ w.heap.size ≤ vb ∧ w.heap.size ≤ a.mm ∧ db ≠ a.hm ∧ db ≠ a.mm
  mp : ∀ d x, f d = some x → a.mm ≠ (piB a x.2).fm ∧ a.mm ≠ (piB a x.2).pm
  bel : Below w.heap.size w W
section
variable {w W W' : World} {a : BA} {S S' t : MS} {P Q : Value} {f f' : Int → Option (Int × Nat)} {c c' : Nat} {F F' : Int × Int → Option Mp} {n n' vb db r r' : Nat}
theorem Gv.below (h : Gv w W a S P Q f c F n vb db r) (hb : Below W.heap.size W W') : Gv w W' a S P Q f c F n vb db r := ⟨blk_below h.x (blk_lt h.x) hb, h.g.below hb, h.v.below hb, h.ge, h.mp, h.bel.trans (hb.mono h.bel.size)⟩
theorem Gv.ne (h : Gv w W a S P Q f c F n vb db r) {x : Nat} (hx : x = vb ∨ x = a.fb ∨ x = a.hm ∨ x = a.mm) : w.heap.size ≠ x := by
  obtain ⟨cs, q1, q2⟩ := h.g.g.m.lst
  rcases hx with rfl | rfl | rfl | rfl
  · exact bne h.x h.v.blk (by decide)
  · exact bne h.x q1 (by decide)
  · exact bnk h.x h.g.h
  · exact bnm h.x h.g.g.g.mem
theorem Gv.step (h : Gv w W a S P Q f c F n vb db r) (hg : GX W' a.gb a.mm a.hm a.mb a.fb S' f' c' (piB a) F' n') (hv : V2 W' vb db a.mb r') (hc : Chg (fun x => x = vb ∨ x = a.fb ∨ x = a.hm ∨ x = a.mm) W W') (hf : ∀ d x, f' d = some x → f d = some x) : Gv w W' a S' P Q f' c' F' n' vb db r' := by
  refine ⟨hc.blk h.x (fun hx => h.ne hx rfl), hg, hv, h.ge, fun d x hd => h.mp d x (hf d x hd), hc.out h.bel h.bel.size ?_⟩
  rintro x (rfl | rfl | rfl | rfl)
  · exact h.ge.2.2.1
  · exact h.ge.1
  · exact h.ge.2.1
  · exact h.ge.2.2.2.1
theorem Gv.vne (h : Gv w W a S P Q f c F n vb db r) : vb ≠ a.fb ∧ vb ≠ a.hm ∧ vb ≠ a.mm ∧ db ≠ a.fb := by
  obtain ⟨cs, q1, q2⟩ := h.g.g.m.lst
  exact ⟨bne h.v.blk q1 (by decide), bnk h.v.blk h.g.h, bnm h.v.blk h.g.g.g.mem, fun e => bnm q1 h.v.due e.symm⟩
/-- A step that leaves the view alone. -/
theorem Gv.quiet (h : Gv w W a S P Q f c F n vb db r) (hg : GX W' a.gb a.mm a.hm a.mb a.fb S' f' c' (piB a) F' n') (hc : Chg (fun x => x = a.fb ∨ x = a.hm ∨ x = a.mm) W W') (hf : ∀ d x, f' d = some x → f d = some x) : Gv w W' a S' P Q f' c' F' n' vb db r := by
  obtain ⟨v1, v2, v3, v4⟩ := h.vne
  refine h.step hg (h.v.chg hc ?_ ?_) (hc.mono fun _ h => .inr h) hf
  · rintro (e | e | e)
    · exact v1 e
    · exact v2 e
    · exact v3 e
  · rintro (e | e | e)
    · exact v4 e
    · exact h.ge.2.2.2.2.1 e
    · exact h.ge.2.2.2.2.2 e
end
theorem put1_at (S : MS) (k : Nat) (q : Fr) : (MS.put1 S k q).fr k = q := if_pos rfl
theorem put1_off (S : MS) (k j : Nat) (q : Fr) (h : j ≠ k) : (MS.put1 S k q).fr j = S.fr j := if_neg h
/-- What the law needs of the machine: its frame's counts. -/
structure Sx (S : MS) (b : Hn) : Prop where
  n : S.n = 13
  f7 : S.fr 7 = frB 1 b
section
variable {w W W' : World} {a : BA} {S S' t : MS} {P Q : Value} {f f' : Int → Option (Int × Nat)} {c c' : Nat} {F F' : Int × Int → Option Mp} {n n' vb db r r' : Nat} {b : Hn}
/-- The owner writes over its entry. -/
theorem gv_over (h : Gv w W a S P Q f c F n vb db r) (hs : Sx S b) (A : Option Addr) (l cap : Nat) (zs : List UInt8) (hl : l = zs.length) (hz : Bytes W A zs) : Calls Try.prog 18 #[.pointer (some ⟨a.mb, 0, none⟩), .int .i64 4, .int .i64 40, .slice A l cap] W fun e w' => (∃ x, e = .returned (.int .i64 x)) ∧
    ∃ S', Sx S' b ∧ S'.fr = S.fr ∧ (∀ i, S'.byt 7 i = S.byt 7 i) ∧ Gv w w' a S' P Q f c F n vb db r := by
  refine (write_any h.g.g.m 4 40 A l cap zs hl hz).mono fun e w' ⟨q1, q2, q3⟩ => ⟨⟨_, q1⟩, wrS S 4 40 zs, ⟨by rw [wrS_n]; exact hs.n, by rw [wrS_fr]; exact hs.f7⟩, wrS_fr _ _ _ _, fun i => ?_, h.quiet (h.g.mach q2 (wrS_n _ _ _ _) q3) (q3.mono fun _ h => .inl h) (fun _ _ h => h)⟩
  unfold wrS
  split
  · exact wr_miss (by rintro ⟨h1, _⟩; exact absurd h1 (by decide))
  · rfl
/-- It leaves. -/
theorem gv_leave (h : Gv w W a S P Q f c F n vb db r) (hs : Sx S b) (hf4 : Fr.few (S.fr 4)) {pb : Nat} (hd : f 1 = some (4, pb)) : Calls Try.prog 27 #[.pointer (some ⟨a.gb, 0, none⟩), .int .i64 1] W fun e w' => e = .returned (.int .i64 0) ∧
    ∃ S' f' c', Sx S' b ∧ (∀ i, S'.byt 7 i = S.byt 7 i) ∧ Gv w w' a S' P Q f' c' F n vb db r := by
  refine (leave_ok h.g h.mp 1 4 pb hd hf4).mono fun e w' ⟨q1, q2, q3⟩ => ⟨q1, putS S 4 1, mdel f 1, c - 1, ?_, fun i => ?_, h.quiet q2 (q3.mono fun _ h => h.elim .inl fun e => .inr (.inr e)) (fun _ _ h => mdel_some h)⟩
  · refine ⟨by rw [putS_n]; exact hs.n, ?_⟩
    unfold putS
    split
    · rw [put1_off _ _ _ _ (by decide)]
      exact hs.f7
    · exact hs.f7
  · unfold putS
    split <;> rfl
/-- The map at handle 0. -/
def bL (wr : Bool) : Hn := upd b0 0 (some wr)
theorem cbL (wr : Bool) : cb all1 (bL wr) = 1 := by cases wr <;> decide
theorem held_L (wr : Bool) : heldR (HF 2 1 5 7 (bL wr)) 2 0 = (⟨0, 2, 1, 5, 7, wr⟩, 0) := by cases wr <;> rfl
theorem held_0 (b : Hn) (h : b 0 = none) : heldR (HF 2 1 5 7 b) 2 0 = (mp0, 6) := by
  unfold heldR HF
  rw [if_neg (by decide)]
  simp [h]
theorem gv_revoke {wr : Bool} (h : Gv w W a S P Q f c (HF 2 1 5 7 (bL wr)) n vb db r) {x : Int × Nat} (hd : f 1 = some x) : Calls Try.prog 26 #[.pointer (some ⟨a.gb, 0, none⟩), .int .i64 1, .int .i64 5] W fun e w' => e = .returned (.int .i64 9) ∧ Gv w w' a S P Q f c (HF 2 1 5 7 (bL wr)) n vb db r :=
  (revoke_busy h.g 1 x hd 5 (by omega) (2, 0) ⟨by unfold okI; simp, by unfold okI; simp⟩ ⟨0, 2, 1, 5, 7, wr⟩ (by cases wr <;> rfl) rfl rfl).mono fun e w' ⟨q1, q2⟩ => ⟨q1, h.below q2⟩
theorem gv_free {wr : Bool} (h : Gv w W a S P Q f c F n vb db r) (hs : Sx S (bL wr)) : Calls Try.prog 30 #[.pointer (some ⟨a.mb, 0, none⟩), .int .i64 7] W fun e w' => e = .returned (.int .i64 9) ∧ w' = W :=
  free_busy h.g.g.m 7 (by rw [hs.n]; omega) (by rw [hs.f7]; unfold frB; simp) (by rw [hs.f7]; unfold frB; simp only; rw [cbL]; simp)
theorem gv_foreign {b : Hn} (h : Gv w W a S P Q f c (HF 2 1 5 7 b) n vb db r) : Calls Try.prog 25 #[.pointer (some ⟨a.gb, 0, none⟩), .int .i64 1] W fun e w' => e = .returned (.int .i64 (cb all1 b : Nat)) ∧ Gv w w' a S P Q f c (HF 2 1 5 7 b) n vb db r := by
  have hf := foreign_calls h.g 1 (hL_keys (b := b) (by unfold okI; omega)) (by rw [hL_len]; have := cb_16 all1 b; omega)
  rw [hL_own] at hf
  exact hf.mono fun e w' ⟨q1, q2⟩ => ⟨q1, h.below q2⟩
theorem gv_unmap {wr : Bool} (h : Gv w W a S P Q f c (HF 2 1 5 7 (bL wr)) n vb db r) (hs : Sx S (bL wr)) : Calls Try.prog 23 #[.pointer (some ⟨a.gb, 0, none⟩), .int .i64 2, .int .i64 0] W fun e w' => e = .returned (.int .i64 0) ∧ ∃ S', Gv w w' a S' P Q f c (HF 2 1 5 7 (upd (bL wr) 0 none)) (n - 1) vb db r := by
  have hm := unmap_ok h.g 2 0 (by omega) (by unfold okI; omega) ⟨0, 2, 1, 5, 7, wr⟩ (by cases wr <;> rfl) ⟨by simp, by simp only; rw [hs.n]; omega⟩ (by show Fr.few (S.fr 7); rw [hs.f7]; exact frB_few 1 _)
  have e1 := hf_del (cl := 2) (ow := 1) (rf := 5) (mf := 7) (b := bL wr) (k := 0) (by omega)
  have e2 : kdel (HF 2 1 5 7 (bL wr)) (2, 0) = HF 2 1 5 7 (upd (bL wr) 0 none) := e1
  rw [e2] at hm
  exact hm.mono fun e w' ⟨q1, q2, q3⟩ => ⟨q1, _, h.quiet q2 (q3.mono fun _ h => h.elim .inl fun e => .inr (.inl e)) (fun _ _ h => h)⟩
theorem gv_unmap0 {b : Hn} (h : Gv w W a S P Q f c (HF 2 1 5 7 b) n vb db r) (hb : b 0 = none) : Calls Try.prog 23 #[.pointer (some ⟨a.gb, 0, none⟩), .int .i64 2, .int .i64 0] W fun e w' => e = .returned (.int .i64 6) ∧ Gv w w' a S P Q f c (HF 2 1 5 7 b) n vb db r := by
  have e0 := held_0 b hb
  have hm := unmap_no h.g 2 0 (by unfold okI; omega) (by unfold okI; omega) (by rw [e0]; decide)
  rw [e0] at hm
  exact hm.mono fun e w' ⟨q1, q2, q3⟩ => ⟨q1, h.quiet q2 (q3.mono fun _ h => h.elim .inl fun e => .inr (.inl e)) (fun _ _ h => h)⟩
theorem gv_read0 {b : Hn} (h : Gv w W a S P Q f c (HF 2 1 5 7 b) n vb db r) (hb : b 0 = none) (off l : Int) : Calls Try.prog 28 #[.pointer (some ⟨a.gb, 0, none⟩), .pointer (some ⟨vb, 0, none⟩), .int .i64 2, .int .i64 0, .int .i64 off, .int .i64 l] W fun e w' => e = .returned (.tuple #[.slice none 0 0, .int .i64 6]) ∧ Gv w w' a S P Q f c (HF 2 1 5 7 b) n vb db r := by
  have e0 := held_0 b hb
  have hm := read_no h.g h.v 2 0 off l (by unfold okI; omega) (by unfold okI; omega) (by rw [e0]; unfold rdE; simp)
  rw [e0] at hm
  exact hm.mono fun e w' ⟨q1, q2⟩ => ⟨q1, h.below q2⟩
theorem gv_write0 {b : Hn} (h : Gv w W a S P Q f c (HF 2 1 5 7 b) n vb db r) (hb : b 0 = none) (off : Int) (A : Option Addr) (l cap : Nat) : Calls Try.prog 29 #[.pointer (some ⟨a.gb, 0, none⟩), .int .i64 2, .int .i64 0, .int .i64 off, .slice A l cap] W fun e w' => e = .returned (.int .i64 6) ∧ Gv w w' a S P Q f c (HF 2 1 5 7 b) n vb db r := by
  have e0 := held_0 b hb
  have hm := write_no h.g 2 0 off A l cap (by unfold okI; omega) (by unfold okI; omega) (by rw [e0]; unfold weE; simp)
  rw [e0] at hm
  exact hm.mono fun e w' ⟨q1, q2⟩ => ⟨q1, h.below q2⟩
end
end Go.Proofs.Ytjeobbhaoahdcaa.GqE
namespace Go.Proofs.Ytjeobbhaoahdcaa.GqF
open Go.RowKit Go.Maps Go.Proofs.Ytjeobbhaoahdcaa.Base Go.Proofs.Ytjeobbhaoahdcaa.GaA Go.Proofs.Ytjeobbhaoahdcaa.GaB Go.Proofs.Ytjeobbhaoahdcaa.GaC Go.Proofs.Ytjeobbhaoahdcaa.GmA Go.Proofs.Ytjeobbhaoahdcaa.GmB Go.Proofs.Ytjeobbhaoahdcaa.GmC Go.Proofs.Ytjeobbhaoahdcaa.GpA Go.Proofs.Ytjeobbhaoahdcaa.GgA Go.Proofs.Ytjeobbhaoahdcaa.GvA Go.Proofs.Ytjeobbhaoahdcaa.GeA Go.Proofs.Ytjeobbhaoahdcaa.GeB Go.Proofs.Ytjeobbhaoahdcaa.GfA Go.Proofs.Ytjeobbhaoahdcaa.GfB Go.Proofs.Ytjeobbhaoahdcaa.GfC Go.Proofs.Ytjeobbhaoahdcaa.GfD Go.Proofs.Ytjeobbhaoahdcaa.GfH Go.Proofs.Ytjeobbhaoahdcaa.GbA Go.Proofs.Ytjeobbhaoahdcaa.GbB Go.Proofs.Ytjeobbhaoahdcaa.GbC Go.Proofs.Ytjeobbhaoahdcaa.GkA Go.Proofs.Ytjeobbhaoahdcaa.GkB Go.Proofs.Ytjeobbhaoahdcaa.GlA Go.Proofs.Ytjeobbhaoahdcaa.GoB Go.Proofs.Ytjeobbhaoahdcaa.GjA Go.Proofs.Ytjeobbhaoahdcaa.GjB Go.Proofs.Ytjeobbhaoahdcaa.GjC Go.Proofs.Ytjeobbhaoahdcaa.GjD Go.Proofs.Ytjeobbhaoahdcaa.GjE Go.Proofs.Ytjeobbhaoahdcaa.GjF Go.Proofs.Ytjeobbhaoahdcaa.GjG Go.Proofs.Ytjeobbhaoahdcaa.GjH Go.Proofs.Ytjeobbhaoahdcaa.GjI Go.Proofs.Ytjeobbhaoahdcaa.GjJ Go.Proofs.Ytjeobbhaoahdcaa.GjK Go.Proofs.Ytjeobbhaoahdcaa.GqA Go.Proofs.Ytjeobbhaoahdcaa.GqB Go.Proofs.Ytjeobbhaoahdcaa.GqC Go.Proofs.Ytjeobbhaoahdcaa.GqE
set_option linter.unusedVariables false
set_option linter.unusedSimpArgs false

section
variable {w W W' : World} {a : BA} {S S' t : MS} {P Q : Value} {f f' : Int → Option (Int × Nat)} {c c' : Nat} {F F' : Int × Int → Option Mp} {n n' vb db r r' : Nat} {b : Hn}
theorem gv_read {wr : Bool} (h : Gv w W a S P Q f c (HF 2 1 5 7 (bL wr)) n vb db r) (hn : S.n = 13) (zs : List UInt8) (hl : zs.length ≤ 200) (hby : ∀ j (hj : j < zs.length), S.byt 7 (11 + j) = zs[j]) : Calls Try.prog 28 #[.pointer (some ⟨a.gb, 0, none⟩), .pointer (some ⟨vb, 0, none⟩), .int .i64 2, .int .i64 0, .int .i64 11, .int .i64 zs.length] W fun e w' =>
    (∃ N, e = .returned (.tuple #[.slice (some ⟨N, 0, none⟩) zs.length zs.length, .int .i64 0]) ∧ w'.heap[N]? = some (.cells (u8s zs).toArray 5 (0, 0))) ∧ Gv w w' a S P Q f c (HF 2 1 5 7 (bL wr)) n vb db (r + 1) := by
  have hi : inn 11 zs.length 256 = true := by unfold inn; simp; omega
  refine (read_ok h.g h.v 2 0 11 zs.length (by unfold okI; omega) (by unfold okI; omega) ⟨0, 2, 1, 5, 7, wr⟩ (held_L wr) hi).mono ?_
  rintro e w' ⟨A, z, er, N, q1, q2, q3, q4⟩
  have hv := h.g.vw h.v q4
  have hin : inR S 7 11 zs.length := by unfold inR; rw [hn]; omega
  refine ⟨?_, h.step hv q4.v (q4.c.mono fun _ h => .inl h) (fun _ _ h => h)⟩
  have hrd : MS.rd S 7 11 zs.length = zs := by
    apply List.ext_getElem
    · simp [rd_len]
    · intro j h1 h2
      rw [← hby j h2]
      simp [MS.rd]
  rcases q3.res with ⟨_, rfl, rfl, rfl, hb⟩ | ⟨hx, _⟩
  · refine ⟨_, q1, ?_⟩
    have e1 : MS.rd S ((7 : Int)).toNat ((11 : Int)).toNat ((zs.length : Int)).toNat = zs := hrd
    rw [hb, e1]
  · exact absurd hin hx
theorem gv_write {wr : Bool} (h : Gv w W a S P Q f c (HF 2 1 5 7 (bL wr)) n vb db r) (hs : Sx S (bL wr)) (zs : List UInt8) (hl : zs.length ≤ 200) (A : Option Addr) (cap : Nat) (hz : Bytes W A zs) : Calls Try.prog 29 #[.pointer (some ⟨a.gb, 0, none⟩), .int .i64 2, .int .i64 0, .int .i64 0, .slice A zs.length cap] W fun e w' =>
    e = .returned (.int .i64 (if wr then 0 else 62)) ∧ Chg (fun x => x = a.fb) W w' ∧ ∃ S', Sx S' (bL wr) ∧ Gv w w' a S' P Q f c (HF 2 1 5 7 (bL wr)) n vb db r := by
  have hi : inn 0 zs.length 256 = true := by unfold inn; simp; omega
  cases wr with
  | false =>
    have e0 : weE (heldR (HF 2 1 5 7 (bL false)) 2 0) 0 zs.length = 62 := by rw [held_L]; unfold weE; simp
    have hm := write_no h.g 2 0 0 A zs.length cap (by unfold okI; omega) (by unfold okI; omega) (by rw [e0]; decide)
    rw [e0] at hm
    exact hm.mono fun e w' ⟨q1, q2⟩ => ⟨q1, Chg.below _ q2, S, hs, h.below q2⟩
  | true =>
    have hm := write_ok h.g 2 0 0 A cap zs hz (by unfold okI; omega) (by unfold okI; omega) ⟨0, 2, 1, 5, 7, true⟩ (held_L true) rfl hi
    refine hm.mono fun e w' ⟨q1, q2, q3⟩ => ⟨?_, q3, _, ⟨by rw [wrS_n]; exact hs.n, by rw [wrS_fr]; exact hs.f7⟩, h.quiet q2 (q3.mono fun _ h => .inl h) (fun _ _ h => h)⟩
    rw [q1]
    have := (wrS_ok (s := S) (k := 7) (off := 0) (zs := zs) (by rw [hs.n]; omega) (by omega) (by rw [hs.f7]; unfold frB; simp)).1
    have e2 : wrE S 7 0 zs.length = 0 := this
    show Ending.returned (.int .i64 (wrE S 7 0 zs.length)) = _
    rw [e2]
    rfl
end
/-- The law's first write: the bytes. -/
theorem bd_bytes {w W : World} {a : BA} {P Q : Value} {t : MS} (h : Bd w W a (layS (msB 3 0) eL) t N3 P Q) (A : Option Addr) (c : Nat) (zs : List UInt8) (hl : zs.length ≤ 200) (hz : Bytes W A zs) :
    Calls Try.prog 18 #[.pointer (some ⟨a.mb, 0, none⟩), .int .i64 7, .int .i64 11, .slice A zs.length c] W fun e w' => e = .returned (.int .i64 0) ∧ Bd w w' a (S1 zs) t N3 P Q :=
  (bd_write h 7 11 (by rw [layS_n]; show 7 < 13; omega) (by rw [layS_fr]; exact msB_low 3 0 7 (by omega)) A zs.length c zs rfl hz (by omega)).mono fun e w' ⟨q1, q2, q3⟩ => ⟨q1, q2⟩
def S2 (zs : List UInt8) (wr : Bool) : MS := MS.put1 (S1 zs) 7 (frB 1 (bL wr))
theorem sx_2 (zs : List UInt8) (wr : Bool) : Sx (S2 zs wr) (bL wr) ∧ Fr.few ((S2 zs wr).fr 4) ∧ ∀ j (hj : j < zs.length), (S2 zs wr).byt 7 (11 + j) = zs[j] := by
  refine ⟨⟨rfl, GqE.put1_at _ _ _⟩, ?_, fun j hj => ?_⟩
  · have e : (S2 zs wr).fr 4 = ⟨1, 1, 1, 1⟩ := by
      unfold S2
      rw [GqE.put1_off _ _ _ _ (by decide)]
      show (layS (msB 3 0) eL).fr 4 = _
      rw [layS_fr]
      rfl
    rw [e]
    unfold Fr.few
    simp
  · show (S1 zs).byt 7 (11 + j) = _
    unfold S1
    rw [wr_hit (by omega) (by omega), show 11 + j - 11 = j by omega, List.getD_eq_getElem?_getD, List.getElem?_eq_getElem hj]
    rfl
end Go.Proofs.Ytjeobbhaoahdcaa.GqF
namespace Go.Proofs.Ytjeobbhaoahdcaa.GqG
open Go.RowKit Go.Maps Go.Proofs.Ytjeobbhaoahdcaa.Base Go.Proofs.Ytjeobbhaoahdcaa.GaA Go.Proofs.Ytjeobbhaoahdcaa.GaB Go.Proofs.Ytjeobbhaoahdcaa.GaC Go.Proofs.Ytjeobbhaoahdcaa.GmA Go.Proofs.Ytjeobbhaoahdcaa.GmB Go.Proofs.Ytjeobbhaoahdcaa.GmC Go.Proofs.Ytjeobbhaoahdcaa.GpA Go.Proofs.Ytjeobbhaoahdcaa.GgA Go.Proofs.Ytjeobbhaoahdcaa.GvA Go.Proofs.Ytjeobbhaoahdcaa.GeA Go.Proofs.Ytjeobbhaoahdcaa.GeB Go.Proofs.Ytjeobbhaoahdcaa.GfA Go.Proofs.Ytjeobbhaoahdcaa.GfB Go.Proofs.Ytjeobbhaoahdcaa.GfC Go.Proofs.Ytjeobbhaoahdcaa.GfD Go.Proofs.Ytjeobbhaoahdcaa.GfH Go.Proofs.Ytjeobbhaoahdcaa.GbA Go.Proofs.Ytjeobbhaoahdcaa.GbB Go.Proofs.Ytjeobbhaoahdcaa.GbC Go.Proofs.Ytjeobbhaoahdcaa.GkA Go.Proofs.Ytjeobbhaoahdcaa.GkB Go.Proofs.Ytjeobbhaoahdcaa.GlA Go.Proofs.Ytjeobbhaoahdcaa.GoB Go.Proofs.Ytjeobbhaoahdcaa.GjA Go.Proofs.Ytjeobbhaoahdcaa.GjB Go.Proofs.Ytjeobbhaoahdcaa.GjC Go.Proofs.Ytjeobbhaoahdcaa.GjD Go.Proofs.Ytjeobbhaoahdcaa.GjE Go.Proofs.Ytjeobbhaoahdcaa.GjF Go.Proofs.Ytjeobbhaoahdcaa.GjG Go.Proofs.Ytjeobbhaoahdcaa.GjH Go.Proofs.Ytjeobbhaoahdcaa.GjI Go.Proofs.Ytjeobbhaoahdcaa.GjJ Go.Proofs.Ytjeobbhaoahdcaa.GjK Go.Proofs.Ytjeobbhaoahdcaa.GqA Go.Proofs.Ytjeobbhaoahdcaa.GqB Go.Proofs.Ytjeobbhaoahdcaa.GqC Go.Proofs.Ytjeobbhaoahdcaa.GqB Go.Proofs.Ytjeobbhaoahdcaa.GqE Go.Proofs.Ytjeobbhaoahdcaa.GqF
set_option linter.unusedVariables false
set_option linter.unusedSimpArgs false

section
variable {w W W' : World} {a : BA} {S S' t : MS} {P Q : Value} {F F' : Int × Int → Option Mp} {n n' vb db r r' : Nat} {b : Hn}
/-- What of begin's word outlives the walk. -/
structure Nm (w : World) (a : BA) (db : Nat) : Prop where
  mp : ∀ d x, memG a.pb 3 d = some x → a.mm ≠ (piB a x.2).fm ∧ a.mm ≠ (piB a x.2).pm
  ge : w.heap.size ≤ a.mm
  db : db ≠ a.mm
theorem nm_of (h : Bd w W a S t N3 P Q) (hdb : W.heap.size ≤ db) : Nm w a db := by
  refine ⟨fun d x hd => ?_, h.bo.ge.2.2.1, by have := h.bo.g.mem.lt; omega⟩
  obtain ⟨e, he, rfl, rfl⟩ := memG_some hd
  simp only
  rw [pi_at h.bo e he]
  exact ⟨(h.bo.ne e he).1, (h.bo.ne e he).2.1⟩
theorem gv_hw (h : Hw w W a S P Q F n vb db r) (hm : Nm w a db) : Gv w W a S P Q (memG a.pb 3) 3 F n vb db r :=
  ⟨h.x, h.g, h.v, ⟨h.ge.1, h.ge.2.1, h.ge.2.2.1, hm.ge, h.ge.2.2.2, hm.db⟩, hm.mp, h.bel⟩
theorem map_L (zs : List UInt8) (h : Hw w W a (S1 zs) P Q (fun _ => none) 0 vb db r) (hm : Nm w a db) (wr : Bool) :
    Calls Try.prog 22 #[.pointer (some ⟨a.gb, 0, none⟩), .pointer (some ⟨vb, 0, none⟩), .int .i64 2, .int .i64 1, .int .i64 5, .bool wr] W fun e w' => e = .returned (.tuple #[.int .i64 0, .int .i64 0]) ∧ Gv w w' a (S2 zs wr) P Q (memG a.pb 3) 3 (HF 2 1 5 7 (bL wr)) 1 vb db (r + 1) := by
  have h1 : Hw w W a (S1 zs) P Q (HF 2 1 5 7 b0) (cb all1 b0) vb db r := by rw [hf0, cb0]; exact h
  have hc := hw_mapE (d := 1) (gp := 3) (rf := 5) (cl := 2) (b := b0) h1 (he_eL zs) (by omega) (by omega) (by omega) (by omega) (j := 0) (by omega) (fun i hi => absurd hi (Nat.not_lt_zero i)) rfl wr
  refine hc.mono fun e w' ⟨q1, q2⟩ => ⟨q1, gv_hw ?_ hm⟩
  have e1 : cb all1 (upd b0 0 (some wr)) = 1 := cbL wr
  rw [e1] at q2
  exact q2
end
end Go.Proofs.Ytjeobbhaoahdcaa.GqG
namespace Go.Proofs.Ytjeobbhaoahdcaa.GrA
open Go.RowKit Go.Maps Go.Proofs.Ytjeobbhaoahdcaa.Base Go.Proofs.Ytjeobbhaoahdcaa.GaA Go.Proofs.Ytjeobbhaoahdcaa.GaB Go.Proofs.Ytjeobbhaoahdcaa.GaC Go.Proofs.Ytjeobbhaoahdcaa.GmB Go.Proofs.Ytjeobbhaoahdcaa.GpA Go.Proofs.Ytjeobbhaoahdcaa.GeA Go.Proofs.Ytjeobbhaoahdcaa.GeB Go.Proofs.Ytjeobbhaoahdcaa.GfA Go.Proofs.Ytjeobbhaoahdcaa.GfB Go.Proofs.Ytjeobbhaoahdcaa.GfC Go.Proofs.Ytjeobbhaoahdcaa.GfD Go.Proofs.Ytjeobbhaoahdcaa.GfE Go.Proofs.Ytjeobbhaoahdcaa.GfF Go.Proofs.Ytjeobbhaoahdcaa.GfG Go.Proofs.Ytjeobbhaoahdcaa.GfH Go.Proofs.Ytjeobbhaoahdcaa.GbA Go.Proofs.Ytjeobbhaoahdcaa.GkA Go.Proofs.Ytjeobbhaoahdcaa.GkB Go.Proofs.Ytjeobbhaoahdcaa.GlA
set_option linter.unusedVariables false
set_option linter.unusedSimpArgs false

/-- The law's entry. -/
def gR (o L : Int) : Gr := ⟨1, false, true, 2, 3, o, L⟩
/-- The law's end. -/
def eR (at_ : Int) : En := ⟨true, 1, 0, 0, at_⟩
theorem gR_ok {o L : Int} (h0 : 0 ≤ o) (h1 : o ≤ 255) (h2 : 1 ≤ L) (h3 : L ≤ 256) (h4 : o + L ≤ 256) : ¬ packBad (gR o L) := by
  unfold packBad gR
  simp only
  omega
/-- The machine while the law reads and writes. -/
structure SR (S : MS) (o L : Int) : Prop where
  n : S.n = 13
  fr : S.fr = (msB 3 0).fr
  e : ∀ j, j < 8 → S.byt 4 (8 * 0 + j) = (packZ (gR o L)).getD j 0
theorem SR.own {S : MS} {o L : Int} (h : SR S o L) (k : Nat) (hk : k < 12) : (S.fr k).own = ((k / 4 : Nat) : Int) ∧ ((S.fr k).typ = 0 ∨ (S.fr k).typ = 1) := by
  rw [h.fr]
  unfold msB
  simp only
  rw [if_pos (by omega)]
  split
  · exact ⟨rfl, .inr rfl⟩
  · exact ⟨rfl, .inl rfl⟩
theorem find_range {S : MS} {o L : Int} (h : SR S o L) {a : BA} (hp : ∀ e, e < 3 → piB a (a.pb e) = piI a e) (h0 : 0 ≤ o) (h1 : o ≤ 255) (h2 : 1 ≤ L) (h3 : L ≤ 256) (h4 : o + L ≤ 256) (at_ n : Int) (wr : Bool) :
    findR S (memG a.pb 3) (piB a) 2 (eR at_) n wr = if n < 0 ∨ at_ < 0 then ((0, 0), 1) else if inn at_ n L = false then ((0, 0), 63) else ((7, o + at_), 0) := by
  unfold findR
  by_cases hb : n < 0 ∨ at_ < 0
  · rw [if_pos hb, if_pos]
    unfold endBad eR
    simp only
    omega
  · rw [if_neg hb, if_neg]
    · have hg := gR_ok h0 h1 h2 h3 h4
      have he := ent_is S 4 0 (packZ (gR o L)) rfl h.e
      obtain ⟨e1, e2⟩ := pack_ent (gR o L) hg
      have hw : whole (gR o L) = gR o L := by unfold whole gR; simp
      rw [hw] at e2
      have hpe : permE (ent S 4 0) 2 = 0 := by
        unfold permE
        rw [he, e1, e2, if_neg]
        unfold gR
        simp
      have hf : frameR S 8 (frD 1 4) 1 3 = (7, 0) := by
        have hgv : getV 8 (frD 1 4) 3 = (7, 0) := by
          unfold getV
          rw [if_pos (by omega)]
          have : frD 1 4 3 = some 7 := by unfold frD; rw [if_pos (by omega)]; rfl
          rw [this]
        have ho := (h.own 7 (by omega)).1
        have hfv : frV S 7 = (S.fr 7, 0) := by
          unfold frV
          rw [if_pos (by rw [h.n]; omega)]
          rfl
        unfold frameR
        rw [hgv]
        simp only
        rw [hfv]
        simp [ho]
      have h1m : memG a.pb 3 1 = some (4, a.pb 1) := by
        have := memG_at a.pb 1 (by omega)
        simpa using this
      unfold eR
      simp only [if_true]
      unfold lentR
      rw [h1m]
      simp only
      rw [hp 1 (by omega)]
      have hs : slotB 0 = true := rfl
      rw [hs]
      simp only [Bool.true_eq_false, if_false]
      unfold lentS piI
      simp only
      have e4 : (4 : Int).toNat = 4 := rfl
      have e0 : (0 : Int).toNat = 0 := rfl
      rw [e4, e0, hpe, he, e2]
      unfold gR
      simp only
      rw [hf]
      simp
    · unfold endBad eR
      simp only
      omega
theorem conv_zero (w : World) (p : Option Addr) (c : Nat) : (convert 42 9 (.slice p 0 c)).run Try.prog w = .ok (.string ByteArray.empty) w := by
  rw [run_convert_bytes_string w _ _ _ _ 0 c Try.underlying42 Try.underlying5 Try.underlying9]
  cases p <;> simp [Conv.bytesToString, loadCells]
  all_goals rfl
theorem typS (w : World) : Try.prog.underlying 9 = some .string := Try.underlying9
/-- string(b). -/
theorem conv_bytes {w : World} {A : Option Addr} {zs : List UInt8} (h : Bytes w A zs) (l c : Nat) (hl : l = zs.length) : (convert 42 9 (.slice A l c)).run Try.prog w = .ok (.string ⟨zs.toArray⟩) w := by
  subst hl
  rcases h with rfl | ⟨x, rfl, hx⟩
  · exact conv_zero w A c
  · exact run_convert_bytes_back w _ _ _ x c zs Try.underlying42 Try.underlying5 Try.underlying9 hx.cell
set_option maxHeartbeats 4000000 in
set_option maxRecDepth 100000 in
/-- The program refuses a part that reaches beyond the page, too. -/
theorem gpack_bad (o L : Int) (h0 : 0 ≤ o) (h1 : o ≤ 255) (h2 : 1 ≤ L) (h3 : L ≤ 256) (h4 : 256 < o + L) (w : World) : Calls Try.prog 17 #[.agg #[.int .i64 1, .bool false, .bool true, .int .i64 2, .int .i64 3, .int .i64 o, .int .i64 L]] w fun e w' => e = .returned (.tuple #[.slice none 0 0, .int .i64 1]) ∧ Below w.heap.size w w' := by
  have c6 : decide (o < 0) = false := decide_eq_false (by omega)
  have c7 : decide (256 ≤ o) = false := decide_eq_false (by omega)
  have c8 : decide (L < 1) = false := decide_eq_false (by omega)
  have c9 : decide (256 - o < L) = true := decide_eq_true (by omega)
  go_enter Try.func17, Try.ntmps17
  go_wp2
  go_ret2
  exact ⟨by first | rfl | (simp; done), below_alloc (Below.refl _ _) _⟩
end Go.Proofs.Ytjeobbhaoahdcaa.GrA
