/- Proved: the document's Pull, at every argument (a contract for the laws of the grants). Proved: the document's Copy, at every argument (a contract for the laws of the grants). Proved: Read, Copy, Pull and Push answer the same on both sides (the plain law of the grants). Proved: an op of the law's script, as its calls read it (the plain law of the grants). -/
import Derived.Test.YthlejchcnfdcpaaGreatMlap
import Derived.Test.YthlejchcnfdcpaaGreatMlaz
import Derived.Test.YthlejchcnfdcpaaGreatMlbe
import Derived.Test.YthlejchcnfdcpaaGreatMlbf
import Derived.Test.YthlejchcnfdcpaaGreatMlbg
import Derived.Test.YthlejchcnfdcpaaGreatMlbh
import Derived.Test.YthlejchcnfdcpaaGreatMlbi
import Derived.Test.YthlejchcnfdcpaaGreatMlbl
import Derived.Deep.RegionHeld3
namespace Go.Proofs.YthlejchcnfdcpaaGreat.GyJ
open Go.RowKit Go.Maps Base GaA GaB GaC GaD GmB GmC GpA GeA GeB GfA GfB GfC GfD GfE GfF GfG GjA GjC GwA GwB GwF RpA RmA RmB RgA GxA GxB GxC GxD GyA GyB GyC GyD GyE GyF GyH GyI
set_option linter.unusedVariables false
set_option linter.unusedSimpArgs false

section
variable {w0 w w' W W0 W' : World} {a : DA} {v : DVA} {A : Option Addr} {cap : Nat} {s s' : MS} {f : Int → Option (Int × Nat)} {pi : Nat → PI} {qq : Nat → Nat × Nat × Nat} {L : List Mp} {F : Int × Int → Option Mp} {r : Nat}
def PuOk (W : World) (s : MS) (q : (Int × Int) × Int) (n : Int) (B : Option Addr) (l : Nat) (er : Int) (w' : World) : Prop :=
  (q.2 ≠ 0 ∧ er = q.2 ∧ B = none ∧ l = 0) ∨ (q.2 = 0 ∧ RrOk W s q.1.1 q.1.2 n B l er w')
def PuOut (w0 : World) (a : DA) (v : DVA) (W : World) (A : Option Addr) (cap : Nat) (s2 s : MS) (f : Int → Option (Int × Nat)) (pi : Nat → PI) (qq : Nat → Nat × Nat × Nat) (L : List Mp) (q : (Int × Int) × Int) (n : Int) (r n1 : Nat) (e : Ending) (w' : World) : Prop :=
  ∃ (B : Option Addr) (l c : Nat) (er : Int), e = .returned (.tuple #[.slice B l c, .int .i64 er]) ∧ PuOk W s2 q n B l er w' ∧ DV w0 a v W w' A cap (pkn s v.ps r (pullN q n1)) f pi qq L (r + pullN q n1)
set_option maxHeartbeats 8000000 in
set_option maxRecDepth 100000 in
theorem rpull (h : DV w0 a v W W A cap s f pi qq L r) (caller n : Int) (t : En) :
    Calls Tryz.prog 87 #[.pointer (some ⟨a.hb, 0, none⟩), .pointer (some ⟨v.ub, 0, none⟩), .int .i64 caller, .agg #[.bool t.gr, .int .i64 t.dom, .int .i64 t.ref, .int .i64 t.gpfn, .int .i64 t.off], .int .i64 n] W (PuOut w0 a v W A cap (pkn s v.ps r (findN f caller t n + 1)) s f pi qq L (findR (pokeS s v.ps r) f pi caller t n false) n r (findN f caller t n)) := by
  have hb1 := below_alloc (Below.refl W.heap.size W) (.cells #[.bool t.gr, .int .i64 t.dom, .int .i64 t.ref, .int .i64 t.gpfn, .int .i64 t.off] 29)
  have hend := rend_any (h.below hb1).re caller n t false
  unfold EndOut placed at hend
  have hrd := fun W' (hW : DV w0 a v W W' A cap (pkn s v.ps r (findN f caller t n)) f pi qq L (r + findN f caller t n)) k o => dvread hW.re k o n
  generalize hq : findR (pokeS s v.ps r) f pi caller t n false = q at hend ⊢
  obtain ⟨⟨qa, qb⟩, q2⟩ := q
  simp only at hend
  have HP := Base.Aside.mk (And.intro hb1 h)
  clear h hb1
  by_cases q0 : q2 = 0
  · subst q0
    go_enter Tryz.func87, Tryz.ntmps87
    go_wp2_with (first
      | (go_at_call 110; (with_reducible refine hend.mono ?_); rintro z w2 ⟨⟨m, o, rfl, hmo⟩, hV2⟩; obtain ⟨rfl, rfl⟩ := hmo rfl; have hrd2 := hrd w2 (DV.pre HP.out.1 hV2); have E1 := Base.Aside.mk (DV.pre HP.out.1 hV2); clear hV2)
      | (go_at_call 81; (with_reducible refine (hrd2 _ _).mono ?_); rintro z w3 ⟨B, l, c, er, rfl, hR3, hV3⟩; have E3 := Base.Aside.mk (And.intro hR3 hV3); clear hR3 hV3)
      | go_in)
    go_ret2
    refine ⟨B, l, c, er, by first | rfl | (simp; done), .inr ⟨rfl, RrOk.mono E3.out.1 E1.out.ch.size⟩, ?_⟩
    have hx : pullN ((m, o), 0) (findN f caller t n) = findN f caller t n + 1 := rfl
    rw [hx]
    obtain ⟨x1, x2, x3, x4⟩ := E3.out.2
    exact ⟨x1, x2, E1.out.ch.trans x3, x4⟩
  · have d1 : (q2 != 0) = true := by simp [q0]
    have HQ := Base.Aside.mk q0
    clear q0 hrd
    go_enter Tryz.func87, Tryz.ntmps87
    go_wp2_with (first
      | (go_at_call 110; (with_reducible refine hend.mono ?_); rintro z w2 ⟨⟨m, o, rfl, hmo⟩, hV2⟩; have E1 := Base.Aside.mk (DV.pre HP.out.1 hV2); clear hV2 hmo)
      | go_in)
    go_ret2
    refine ⟨none, 0, 0, q2, by first | rfl | (simp; done), .inl ⟨HQ.out, rfl, rfl, rfl⟩, ?_⟩
    have hx : pullN ((qa, qb), q2) (findN f caller t n) = findN f caller t n := if_neg HQ.out
    rw [hx]
    exact E1.out
end
end Go.Proofs.YthlejchcnfdcpaaGreat.GyJ
namespace Go.Proofs.YthlejchcnfdcpaaGreat.GyL
open Go.RowKit Go.Maps Base GaA GaB GaC GaD GmB GmC GpA GeA GeB GfA GfB GfC GfD GfE GfF GfG GfH GjA GjC GwA GwB GwF GwI RpA RmA RmB RgA GxA GxB GxC GxD GyA GyB GyC GyD GyE GyF GyH GyI GyJ GyK
set_option linter.unusedVariables false
set_option linter.unusedSimpArgs false

section
variable {w0 w w' W W0 W' : World} {a : DA} {v : DVA} {A : Option Addr} {cap : Nat} {s s' : MS} {f : Int → Option (Int × Nat)} {pi : Nat → PI} {qq : Nat → Nat × Nat × Nat} {L : List Mp} {F : Int × Int → Option Mp} {r : Nat}
def CpOut (w0 : World) (a : DA) (v : DVA) (W : World) (A : Option Addr) (cap : Nat) (R : Int × MS × Nat) (f : Int → Option (Int × Nat)) (pi : Nat → PI) (qq : Nat → Nat × Nat × Nat) (L : List Mp) (e : Ending) (w' : World) : Prop :=
  e = .returned (.int .i64 R.1) ∧ DV w0 a v W w' A cap R.2.1 f pi qq L R.2.2
set_option maxHeartbeats 8000000 in
set_option maxRecDepth 100000 in
theorem rcopy (h : DV w0 a v W W A cap s f pi qq L r) (caller n : Int) (t u : En) :
    Calls Tryz.prog 83 #[.pointer (some ⟨a.hb, 0, none⟩), .pointer (some ⟨v.ub, 0, none⟩), .int .i64 caller, .agg #[.bool t.gr, .int .i64 t.dom, .int .i64 t.ref, .int .i64 t.gpfn, .int .i64 t.off], .agg #[.bool u.gr, .int .i64 u.dom, .int .i64 u.ref, .int .i64 u.gpfn, .int .i64 u.off], .int .i64 n] W (CpOut w0 a v W A cap (copyP v.ps s f pi caller t u n r) f pi qq L) := by
  have hb2 := below_alloc (below_alloc (Below.refl W.heap.size W) (.cells #[.bool t.gr, .int .i64 t.dom, .int .i64 t.ref, .int .i64 t.gpfn, .int .i64 t.off] 29)) (.cells #[.bool u.gr, .int .i64 u.dom, .int .i64 u.ref, .int .i64 u.gpfn, .int .i64 u.off] 29)
  have hlt := h.lt
  have hpull := rpull (h.below hb2).re caller n t
  obtain ⟨q, hq⟩ : ∃ q, q = findR (pokeS s v.ps r) f pi caller t n false := ⟨_, rfl⟩
  obtain ⟨n1, hn1⟩ : ∃ n1, n1 = findN f caller t n := ⟨_, rfl⟩
  have hC : copyP v.ps s f pi caller t u n r = copyB v.ps (pkn s v.ps r (pullN q n1)) f pi caller q u n (r + pullN q n1) := by unfold copyP; rw [← hq, ← hn1]
  rw [hC]
  rw [← hq, ← hn1] at hpull
  unfold PuOut PuOk at hpull
  obtain ⟨s2, hs2⟩ : ∃ s2, s2 = pkn s v.ps r (pullN q n1) := ⟨_, rfl⟩
  obtain ⟨r2, hr2⟩ : ∃ r2, r2 = r + pullN q n1 := ⟨_, rfl⟩
  rw [← hs2, ← hr2] at hpull ⊢
  have hk := fun w2 (h2 : DV w0 a v ((W.alloc (.cells #[.bool t.gr, .int .i64 t.dom, .int .i64 t.ref, .int .i64 t.gpfn, .int .i64 t.off] 29)).alloc (.cells #[.bool u.gr, .int .i64 u.dom, .int .i64 u.ref, .int .i64 u.gpfn, .int .i64 u.off] 29)) w2 A cap s2 f pi qq L r2) => h2.bl (x := W.heap.size + 1) (blk_newest (by simp) _) (by omega) (fun b hb => by have := hlt.2 b hb; omega)
  have hs2' : q.2 = 0 → s2 = pkn s v.ps r (n1 + 1) := fun h0 => by rw [hs2]; unfold pullN; rw [if_pos h0]
  have HP := Base.Aside.mk (And.intro hb2 h)
  clear h hb2 hq hn1 hC hs2 hr2
  obtain ⟨⟨qa, qb⟩, q2⟩ := q
  simp only at hpull hs2'
  by_cases q0 : q2 = 0
  · subst q0
    rw [← hs2' rfl] at hpull
    by_cases hin : inR s2 qa qb n
    · have hR : copyB v.ps s2 f pi caller ((qa, qb), 0) u n r2 = (pushE (pkn s2 v.ps r2 (findN f caller u n)) (findR (pokeS s2 v.ps r2) f pi caller u n true) n.toNat, pushS (pkn s2 v.ps r2 (findN f caller u n)) (findR (pokeS s2 v.ps r2) f pi caller u n true) (MS.rd s2 qa.toNat qb.toNat n.toNat), r2 + findN f caller u n) := by unfold copyB; rw [if_neg (fun h => h rfl), if_neg (fun h => h hin)]
      rw [hR]
      have hn0 : ((n.toNat : Nat) : Int) = n := by unfold inR at hin; omega
      have hpush : ∀ w2, DV w0 a v W w2 A cap s2 f pi qq L r2 → ∀ (B : Option Addr) (c : Nat), Bytes w2 B (MS.rd s2 qa.toNat qb.toNat n.toNat) → (∀ x, B = some x → W.heap.size ≤ x.block) → Calls Tryz.prog 89 #[.pointer (some ⟨a.hb, 0, none⟩), .pointer (some ⟨v.ub, 0, none⟩), .int .i64 caller, .agg #[.bool u.gr, .int .i64 u.dom, .int .i64 u.ref, .int .i64 u.gpfn, .int .i64 u.off], .slice B n.toNat c] w2 (CpOut w0 a v W A cap (pushE (pkn s2 v.ps r2 (findN f caller u n)) (findR (pokeS s2 v.ps r2) f pi caller u n true) n.toNat, pushS (pkn s2 v.ps r2 (findN f caller u n)) (findR (pokeS s2 v.ps r2) f pi caller u n true) (MS.rd s2 qa.toNat qb.toNat n.toNat), r2 + findN f caller u n) f pi qq L) := by
        intro w2 h2 B c hz hB
        have := rpush h2.re caller u B c _ hz (fun _ x hx => ⟨by have := hB x hx; omega, fun hm => by have := hB x hx; have := hlt.2 _ hm; omega⟩)
        rw [rd_len, hn0] at this
        refine this.mono ?_
        rintro e w' ⟨h3, h4⟩
        rw [rd_len] at h3
        exact ⟨h3, h4.dw, h4.vd, h2.ch.trans h4.ch, h4.h64⟩
      have hHI := Base.Aside.mk hin
      clear hR hin hs2'
      go_enter Tryz.func83, Tryz.ntmps83
      go_wp2_with (first
        | (go_at_call 87; (with_reducible refine hpull.mono ?_); rintro z w2 ⟨B, l, c, er, rfl, hp, hV2⟩; (obtain ⟨h0, _⟩ | ⟨_, ⟨h0⟩⟩ := hp; (exact absurd rfl h0)); (obtain ⟨_, rfl, rfl, hB, hN⟩ | ⟨h1, _⟩ := h0; rotate_left; (exact absurd hHI.out h1)); have hx := hk w2 hV2; have C2 := fun i => blk_cell hx i; have L2 := blk_lt hx; have hpu := hpush w2 (DV.pre HP.out.1 hV2) B c hB (fun x hx2 => Nat.le_trans HP.out.1.size (hN x hx2)); clear hV2 hB hN hx)
        | (go_at_call 89; (with_reducible refine hpu.mono ?_); rintro z w5 ⟨rfl, hV5⟩; have E5 := Base.Aside.mk hV5; clear hV5)
        | go_in)
      go_ret
      exact ⟨by first | rfl | (simp; done), E5.out⟩
    · have hR : copyB v.ps s2 f pi caller ((qa, qb), 0) u n r2 = (1, s2, r2) := by unfold copyB; rw [if_neg (fun h => h rfl), if_pos hin]
      rw [hR]
      have HI := Base.Aside.mk hin
      clear hR hin hs2' hk
      go_enter Tryz.func83, Tryz.ntmps83
      go_wp2_with (first
        | (go_at_call 87; (with_reducible refine hpull.mono ?_); rintro z w2 ⟨B, l, c, er, rfl, hp, hV2⟩; (obtain ⟨h0, _⟩ | ⟨_, ⟨h0⟩⟩ := hp; (exact absurd rfl h0)); (obtain ⟨h1, _⟩ | ⟨_, rfl, rfl, rfl⟩ := h0; (exact absurd h1 HI.out)); have E1 := Base.Aside.mk (DV.pre HP.out.1 hV2); clear hV2)
        | go_in)
      go_ret
      exact ⟨by first | rfl | (simp; done), E1.out⟩
  · have d1 : (q2 != 0) = true := by simp [q0]
    have hR : copyB v.ps s2 f pi caller ((qa, qb), q2) u n r2 = (q2, s2, r2) := by unfold copyB; rw [if_pos q0]
    rw [hR]
    have HQ := Base.Aside.mk q0
    clear hR q0 hs2' hk
    go_enter Tryz.func83, Tryz.ntmps83
    go_wp2_with (first
      | (go_at_call 87; (with_reducible refine hpull.mono ?_); rintro z w2 ⟨B, l, c, er, rfl, hp, hV2⟩; (obtain ⟨_, rfl, rfl, rfl⟩ | ⟨h0, _⟩ := hp; rotate_left; (exact absurd h0 HQ.out)); have E1 := Base.Aside.mk (DV.pre HP.out.1 hV2); clear hV2)
      | go_in)
    go_ret
    exact ⟨by first | rfl | (simp; done), E1.out⟩
end
end Go.Proofs.YthlejchcnfdcpaaGreat.GyL
namespace Go.Proofs.YthlejchcnfdcpaaGreat.GzI
open Go.RowKit Go.Maps Base GaA GaB GaC GaD GmA GmB GmC GpA GgA GeA GeB GfA GfB GfC GfD GjA GjB GjC GjE GjK GwA GwB GwE GwF GwJ GwO GwQ RpA RmA RmB RgA GxA GxC GxD GyA GyB GyE GyN GbA GzA GzB GzC GzD GfE GfF GfG GfH GjH GxB GzE GzG
set_option linter.unusedVariables false
set_option linter.unusedSimpArgs false

theorem pushS_n (s : MS) (q : (Int × Int) × Int) (zs : List UInt8) : (pushS s q zs).n = s.n := by
  unfold pushS
  split
  · rfl
  · split
    · rfl
    · exact GwA.wrS_n _ _ _ _
theorem pushS_fr (s : MS) (q : (Int × Int) × Int) (zs : List UInt8) : (pushS s q zs).fr = s.fr := by
  unfold pushS
  split
  · rfl
  · split
    · rfl
    · exact GwA.wrS_fr _ _ _ _
theorem copyB_n (ps : List Pk) (s2 : MS) (f : Int → Option (Int × Nat)) (pi : Nat → PI) (c : Int) (q : (Int × Int) × Int) (u : En) (n : Int) (r : Nat) : (GwI.copyB ps s2 f pi c q u n r).2.1.n = s2.n ∧ (GwI.copyB ps s2 f pi c q u n r).2.1.fr = s2.fr := by
  unfold GwI.copyB
  split
  · exact ⟨rfl, rfl⟩
  · split
    · exact ⟨rfl, rfl⟩
    · exact ⟨(pushS_n _ _ _).trans (pkn_n _ _ _ _), (pushS_fr _ _ _).trans (pkn_fr _ _ _ _)⟩
theorem copyP_n (ps : List Pk) (s : MS) (f : Int → Option (Int × Nat)) (pi : Nat → PI) (c : Int) (t u : En) (n : Int) (r : Nat) : (GwI.copyP ps s f pi c t u n r).2.1.n = s.n ∧ (GwI.copyP ps s f pi c t u n r).2.1.fr = s.fr := by
  unfold GwI.copyP
  obtain ⟨h1, h2⟩ := copyB_n ps (pkn s ps r (pullN (findR (pokeS s ps r) f pi c t n false) (findN f c t n))) f pi c (findR (pokeS s ps r) f pi c t n false) u n (r + pullN (findR (pokeS s ps r) f pi c t n false) (findN f c t n))
  exact ⟨h1.trans (pkn_n _ _ _ _), h2.trans (pkn_fr _ _ _ _)⟩
section
variable {w0 W W' : World} {a : BX} {P Q : Value} {σ τ σ' τ' : SS} {v : VP}
/-- Both calls answer the same bytes and the same error. -/
def TwoB (w0 : World) (a : BX) (P Q : Value) (σ : SS) (v : VP) (cP cD : World → (Ending → World → Prop) → Prop) : Prop :=
  ∃ (zs : List UInt8) (er : Int) (σ' : SS) (r : Nat), Pu a σ' ∧ zs.length ≤ 256 ∧
    (∀ W, JV w0 W a P Q σ σ v 0 0 → V3 W v.B v.vb v.db v.cb a.mb 0 v.ps → cP W fun e w' => ∃ A l c, l = zs.length ∧ e = .returned (.tuple #[.slice A l c, .int .i64 er]) ∧ Bytes w' A zs ∧ (∀ x, A = some x → x.block ≠ v.ub ∧ x.block ∉ a.bs) ∧ JV w0 w' a P Q σ' σ v r 0) ∧
    (∀ W, JV w0 W a P Q σ' σ v r 0 → cD W fun e w' => ∃ A l c, l = zs.length ∧ e = .returned (.tuple #[.slice A l c, .int .i64 er]) ∧ Bytes w' A zs ∧ JV w0 w' a P Q σ' σ' v r r ∧ Chg (fun x => x = v.ub ∨ x ∈ a.bs) W w')
/-- What a read tells. -/
def rdZ (s : MS) (k off n : Int) : List UInt8 := open Classical in if inR s k off n then MS.rd s k.toNat off.toNat n.toNat else []
def rdN (s : MS) (k off n : Int) : Int := open Classical in if inR s k off n then 0 else 1
theorem rdZ_le (s : MS) (k off n : Int) : (rdZ s k off n).length ≤ 256 := by
  unfold rdZ
  split
  · rename_i h
    rw [rd_len]
    unfold inR at h
    omega
  · exact Nat.zero_le _
theorem rdok {N : Nat} {s : MS} {k off n : Int} {A : Option Addr} {l : Nat} {er : Int} (h : RdOk N s k off n A l er W') : l = (rdZ s k off n).length ∧ er = rdN s k off n ∧ Bytes W' A (rdZ s k off n) ∧ ∀ x, A = some x → x.block = N := by
  unfold rdZ rdN
  rcases h.res with ⟨h1, h2, h3, h4, h5⟩ | ⟨h1, h2, h3, h4⟩
  · rw [if_pos h1, if_pos h1, rd_len]
    subst h4
    exact ⟨h3, h2, .inr ⟨_, rfl, Holds.of_block h5⟩, fun x hx => by injection hx with hx; rw [← hx]⟩
  · rw [if_neg h1, if_neg h1]
    subst h3
    exact ⟨h4, h2, .inl rfl, fun x hx => by cases hx⟩
theorem rrok {s : MS} {k off n : Int} {A : Option Addr} {l : Nat} {er : Int} (h : RrOk W s k off n A l er W') : l = (rdZ s k off n).length ∧ er = rdN s k off n ∧ Bytes W' A (rdZ s k off n) := by
  unfold rdZ rdN
  rcases h.res with ⟨h1, h2, h3, h4, h5⟩ | ⟨h1, h2, h3, h4⟩
  · rw [if_pos h1, if_pos h1, rd_len]
    exact ⟨h3, h2, h4⟩
  · rw [if_neg h1, if_neg h1]
    exact ⟨h4, h2, .inl rfl⟩
theorem young {rp rd : Nat} (h : JV w0 W a P Q σ τ v rp rd) {n : Nat} (hn : W.heap.size ≤ n) : n ≠ v.ub ∧ n ∉ a.bs := by
  have h1 := blk_lt h.u
  obtain ⟨A, cap, hd, _⟩ := h.j.d.d
  refine ⟨by omega, fun hb => ?_⟩
  obtain ⟨cs, hcs⟩ := page_mem hd.m hb
  have := blk_lt hcs
  omega
theorem read_both (hs : St w0.heap.size a) (hp : Pu a σ) (d k off n : Int) (hd : okI d) (hk : okI k) :
    TwoB w0 a P Q σ v (fun W R => Calls Tryz.prog 27 #[.pointer (some ⟨a.gb, 0, none⟩), .pointer (some ⟨v.vb, 0, none⟩), .int .i64 d, .int .i64 k, .int .i64 off, .int .i64 n] W R)
      (fun W R => Calls Tryz.prog 28 #[.pointer (some ⟨a.hb, 0, none⟩), .pointer (some ⟨v.ub, 0, none⟩), .int .i64 d, .int .i64 k, .int .i64 off, .int .i64 n] W R) := by
  by_cases hne : rdE (heldR σ.F d k) off n ≠ 0
  · refine ⟨[], rdE (heldR σ.F d k) off n, σ, 0, hp, Nat.zero_le _, fun W h h3 => ?_, fun W h => ?_⟩
    · exact (GwM.read_no (a := vaOf a v) (h.j.p.gx hp hs) (h.vms h3) d k off n hd hk hne).mono fun e w' ⟨h1, h2⟩ => ⟨none, 0, 0, rfl, h1, .inl rfl, (fun x hx => nomatch hx), h.below h2⟩
    · obtain ⟨A, cap, hdw, hob⟩ := h.j.d.d
      exact (GyG.rgread_no hdw hp.lk v.ub d k off n hne).mono fun e w' ⟨h1, h2⟩ => ⟨none, 0, 0, rfl, h1, .inl rfl, h.below h2, Chg.below _ h2⟩
  · have hz0 : rdE (heldR σ.F d k) off n = 0 := Decidable.byContradiction hne
    rcases held_cases hp d k with hne2 | ⟨i, hi, hd8, hF, hh, hdc, hkh⟩
    · unfold rdE at hz0
      rw [if_pos hne2] at hz0
      exact absurd hz0 hne2
    · rw [hh] at hz0
      unfold rdE at hz0
      rw [if_neg (fun h => h rfl)] at hz0
      have hin : inn off n 256 = true := by
        cases e : inn off n 256 with
        | true => rfl
        | false => simp only [e, if_true] at hz0; cases hz0
      obtain ⟨s1, hs1⟩ : ∃ s1, s1 = pokeS σ.s v.ps 0 := ⟨_, rfl⟩
      have hn1 : s1.n = σ.s.n := by rw [hs1, pokeS_n]
      have hf1 : s1.fr = σ.s.fr := by rw [hs1, pokeS_fr]
      refine ⟨rdZ s1 σ.L[i].mfn off n, rdN s1 σ.L[i].mfn off n, { σ with s := s1 }, 1, hp.mach hn1 hf1, rdZ_le _ _ _ _, fun W h h3 => ?_, fun W h => ?_⟩
      · refine (GwM.read_ok (a := vaOf a v) (h.j.p.gx hp hs) (h.vms h3) d k off n hd hk σ.L[i] hh hin).mono fun e w' h1 => ?_
        have h2 : GwM.RoOut (vaOf a v) W 0 (pokeS σ.s v.ps 0) σ.L[i].mfn off n e w' := h1
        rw [← hs1] at h2
        obtain ⟨A, z, er, N, q1, q2, q3, q4⟩ := h2
        obtain ⟨e1, e2, e3, e4⟩ := rdok q3
        subst e2
        exact ⟨A, z, z, e1, q1, e3, fun x hx => by rw [e4 x hx]; exact young h q2, h.vm hp q4 hn1⟩
      · obtain ⟨A, cap, hdw, hob⟩ := h.j.d.d
        refine (GyG.rgread_ok (h.startD hdw) hp.lk d k off n σ.L[i] hh hin).mono fun e w' h1 => ?_
        have h2 : GyG.RgOut w0 (daOf a) (dvOf v) W A cap (pokeS σ.s v.ps 0) σ.f σ.pi (qqOf a) σ.L (0 + 1) σ.L[i].mfn off n e w' := h1
        rw [← hs1] at h2
        obtain ⟨B, z, c, er, q1, q2, q3⟩ := h2
        obtain ⟨e1, e2, e3⟩ := rrok q2
        subst e2
        exact ⟨B, z, c, e1, q1, e3, h.dv hdw hob q3, q3.ch⟩
theorem copy_both (hs : St w0.heap.size a) (hp : Pu a σ) (caller n : Int) (t u : En) (hd : okI t.dom) (hu : okI u.dom) :
    Two (fun x _ => .int .i64 x) w0 a P Q σ v (fun W R => Calls Tryz.prog 82 #[.pointer (some ⟨a.gb, 0, none⟩), .pointer (some ⟨v.vb, 0, none⟩), .int .i64 caller, .agg #[.bool t.gr, .int .i64 t.dom, .int .i64 t.ref, .int .i64 t.gpfn, .int .i64 t.off], .agg #[.bool u.gr, .int .i64 u.dom, .int .i64 u.ref, .int .i64 u.gpfn, .int .i64 u.off], .int .i64 n] W R)
      (fun W R => Calls Tryz.prog 83 #[.pointer (some ⟨a.hb, 0, none⟩), .pointer (some ⟨v.ub, 0, none⟩), .int .i64 caller, .agg #[.bool t.gr, .int .i64 t.dom, .int .i64 t.ref, .int .i64 t.gpfn, .int .i64 t.off], .agg #[.bool u.gr, .int .i64 u.dom, .int .i64 u.ref, .int .i64 u.gpfn, .int .i64 u.off], .int .i64 n] W R) := by
  obtain ⟨R, hR⟩ : ∃ R, R = GwI.copyP v.ps σ.s σ.f σ.pi caller t u n 0 := ⟨_, rfl⟩
  obtain ⟨h1, h2⟩ := copyP_n v.ps σ.s σ.f σ.pi caller t u n 0
  rw [← hR] at h1 h2
  refine ⟨R.1, 0, { σ with s := R.2.1 }, R.2.2, hp.mach h1 h2, fun W h h3 => ?_, fun W h => ?_⟩
  · refine (GwI.copy_any (a := vaOf a v) (h.j.p.gw hp) (h.vms h3) caller n t u hd hu).mono fun e w' q => ?_
    have q2 : GwI.CopyOut (vaOf a v) W (GwI.copyP v.ps σ.s σ.f σ.pi caller t u n 0) e w' := q
    rw [← hR] at q2
    exact ⟨q2.1, h.vm hp q2.2 h1⟩
  · obtain ⟨A, cap, hdw, hob⟩ := h.j.d.d
    refine (GyL.rcopy (h.startD hdw) caller n t u).mono fun e w' q => ?_
    have q2 : GyL.CpOut w0 (daOf a) (dvOf v) W A cap (GwI.copyP v.ps σ.s σ.f σ.pi caller t u n 0) σ.f σ.pi (qqOf a) σ.L e w' := q
    rw [← hR] at q2
    exact ⟨q2.1, h.dv hdw hob q2.2⟩
theorem pull_both (hs : St w0.heap.size a) (hp : Pu a σ) (caller n : Int) (t : En) (hd : okI t.dom) :
    TwoB w0 a P Q σ v (fun W R => Calls Tryz.prog 86 #[.pointer (some ⟨a.gb, 0, none⟩), .pointer (some ⟨v.vb, 0, none⟩), .int .i64 caller, .agg #[.bool t.gr, .int .i64 t.dom, .int .i64 t.ref, .int .i64 t.gpfn, .int .i64 t.off], .int .i64 n] W R)
      (fun W R => Calls Tryz.prog 87 #[.pointer (some ⟨a.hb, 0, none⟩), .pointer (some ⟨v.ub, 0, none⟩), .int .i64 caller, .agg #[.bool t.gr, .int .i64 t.dom, .int .i64 t.ref, .int .i64 t.gpfn, .int .i64 t.off], .int .i64 n] W R) := by
  obtain ⟨q, hq⟩ : ∃ q, q = findR (pokeS σ.s v.ps 0) σ.f σ.pi caller t n false := ⟨_, rfl⟩
  obtain ⟨n1, hn1⟩ : ∃ n1, n1 = findN σ.f caller t n := ⟨_, rfl⟩
  obtain ⟨s2, hs2⟩ : ∃ s2, s2 = pkn σ.s v.ps 0 (n1 + 1) := ⟨_, rfl⟩
  obtain ⟨s3, hs3⟩ : ∃ s3, s3 = pkn σ.s v.ps 0 (pullN q n1) := ⟨_, rfl⟩
  have h1 : s3.n = σ.s.n := by rw [hs3, pkn_n]
  have h2 : s3.fr = σ.s.fr := by rw [hs3, pkn_fr]
  have hpu := hp.mach h1 h2
  have hP := fun W (h : JV w0 W a P Q σ σ v 0 0) (h3 : V3 W v.B v.vb v.db v.cb a.mb 0 v.ps) => GwH.pull_any (a := vaOf a v) (h.j.p.gw hp) (h.vms h3) caller n t hd
  have hD := fun W (h : JV w0 W a P Q { σ with s := s3 } σ v (0 + pullN q n1) 0) (A : Option Addr) (cap : Nat) (hdw : DW W (daOf a) A cap σ.s σ.f σ.pi (qqOf a) σ.L) => GyJ.rpull (h.startD hdw) caller n t
  have e1 : (vaOf a v).ps = v.ps := rfl
  have e2 : (dvOf v).ps = v.ps := rfl
  simp only [e1, ← hq, ← hn1, ← hs2] at hP
  simp only [e2, ← hq, ← hn1, ← hs2] at hD
  by_cases q0 : q.2 = 0
  · refine ⟨rdZ s2 q.1.1 q.1.2 n, rdN s2 q.1.1 q.1.2 n, { σ with s := s3 }, 0 + pullN q n1, hpu, rdZ_le _ _ _ _, fun W h h3 => ?_, fun W h => ?_⟩
    · refine (hP W h h3).mono fun e w' ⟨A, l, er, k1, k2, k3⟩ => ?_
      have k4 : Vm (vaOf a v) W w' (0 + pullN q n1) (pkn σ.s v.ps 0 (pullN q n1)) := k3
      rw [← hs3] at k4
      rcases k2 with ⟨k2, _⟩ | ⟨_, N, hN, k2⟩
      · exact absurd q0 k2
      · obtain ⟨e1, e2, e3, e4⟩ := rdok k2
        subst e2
        exact ⟨A, l, l, e1, k1, e3, fun x hx => by rw [e4 x hx]; exact young h hN, h.vm hp k4 h1⟩
    · obtain ⟨A, cap, hdw, hob⟩ := h.j.d.d
      refine (hD W h A cap hdw).mono fun e w' ⟨B, l, c, er, k1, k2, k3⟩ => ?_
      have k4 : DV w0 (daOf a) (dvOf v) W w' A cap (pkn σ.s v.ps 0 (pullN q n1)) σ.f σ.pi (qqOf a) σ.L (0 + pullN q n1) := k3
      rw [← hs3] at k4
      rcases k2 with ⟨k2, _⟩ | ⟨_, k2⟩
      · exact absurd q0 k2
      · obtain ⟨e1, e2, e3⟩ := rrok k2
        subst e2
        exact ⟨B, l, c, e1, k1, e3, h.dv hdw hob k4, k4.ch⟩
  · refine ⟨[], q.2, { σ with s := s3 }, 0 + pullN q n1, hpu, Nat.zero_le _, fun W h h3 => ?_, fun W h => ?_⟩
    · refine (hP W h h3).mono fun e w' ⟨A, l, er, k1, k2, k3⟩ => ?_
      have k4 : Vm (vaOf a v) W w' (0 + pullN q n1) (pkn σ.s v.ps 0 (pullN q n1)) := k3
      rw [← hs3] at k4
      rcases k2 with ⟨_, e1, e2, e3⟩ | ⟨k2, _⟩
      · subst e1 e2 e3
        exact ⟨none, 0, 0, rfl, k1, .inl rfl, (fun x hx => nomatch hx), h.vm hp k4 h1⟩
      · exact absurd k2 q0
    · obtain ⟨A, cap, hdw, hob⟩ := h.j.d.d
      refine (hD W h A cap hdw).mono fun e w' ⟨B, l, c, er, k1, k2, k3⟩ => ?_
      have k4 : DV w0 (daOf a) (dvOf v) W w' A cap (pkn σ.s v.ps 0 (pullN q n1)) σ.f σ.pi (qqOf a) σ.L (0 + pullN q n1) := k3
      rw [← hs3] at k4
      rcases k2 with ⟨_, e1, e2, e3⟩ | ⟨k2, _⟩
      · subst e1 e2 e3
        exact ⟨none, 0, c, rfl, k1, .inl rfl, h.dv hdw hob k4, k4.ch⟩
      · exact absurd k2 q0
/-- Push: the program is handed a copy of the bytes. -/
theorem push_both (hs : St w0.heap.size a) (hp : Pu a σ) (caller : Int) (t : En) (hd : okI t.dom) (zs : List UInt8) (hl : zs.length ≤ 9223372036854775807) :
    ∃ (u : Int) (σ' : SS) (r : Nat), Pu a σ' ∧
      (∀ W A cap, JV w0 W a P Q σ σ v 0 0 → V3 W v.B v.vb v.db v.cb a.mb 0 v.ps → Bytes W A zs → (∀ x, A = some x → x.block ≠ v.vb ∧ x.block ≠ a.fb) → Calls Tryz.prog 88 #[.pointer (some ⟨a.gb, 0, none⟩), .pointer (some ⟨v.vb, 0, none⟩), .int .i64 caller, .agg #[.bool t.gr, .int .i64 t.dom, .int .i64 t.ref, .int .i64 t.gpfn, .int .i64 t.off], .slice A zs.length cap] W fun e w' => e = .returned (.int .i64 u) ∧ JV w0 w' a P Q σ' σ v r 0) ∧
      (∀ W A cap, JV w0 W a P Q σ' σ v r 0 → Bytes W A zs → (zs ≠ [] → ∀ x, A = some x → x.block < w0.heap.size) → Calls Tryz.prog 89 #[.pointer (some ⟨a.hb, 0, none⟩), .pointer (some ⟨v.ub, 0, none⟩), .int .i64 caller, .agg #[.bool t.gr, .int .i64 t.dom, .int .i64 t.ref, .int .i64 t.gpfn, .int .i64 t.off], .slice A zs.length cap] W fun e w' => e = .returned (.int .i64 u) ∧ JV w0 w' a P Q σ' σ' v r r) := by
  obtain ⟨s1, hs1⟩ : ∃ s1, s1 = pkn σ.s v.ps 0 (findN σ.f caller t zs.length) := ⟨_, rfl⟩
  obtain ⟨q, hq⟩ : ∃ q, q = findR (pokeS σ.s v.ps 0) σ.f σ.pi caller t zs.length true := ⟨_, rfl⟩
  have h1 : (pushS s1 q zs).n = σ.s.n := by rw [pushS_n, hs1, pkn_n]
  have h2 : (pushS s1 q zs).fr = σ.s.fr := by rw [pushS_fr, hs1, pkn_fr]
  refine ⟨pushE s1 q zs.length, { σ with s := pushS s1 q zs }, 0 + findN σ.f caller t zs.length, hp.mach h1 h2, fun W A cap h h3 hz hx => ?_, fun W A cap h hz hx => ?_⟩
  · refine (GwH.push_any (a := vaOf a v) (h.j.p.gw hp) (h.vms h3) caller t hd A cap zs hz hx hl).mono fun e w' k => ?_
    have k2 : GwH.PushOut (vaOf a v) W (pkn σ.s v.ps 0 (findN σ.f caller t zs.length)) (findR (pokeS σ.s v.ps 0) σ.f σ.pi caller t zs.length true) zs (0 + findN σ.f caller t zs.length) e w' := k
    rw [← hs1, ← hq] at k2
    exact ⟨k2.1, h.vm hp k2.2 h1⟩
  · obtain ⟨A2, cap2, hdw, hob⟩ := h.j.d.d
    have hxx : zs ≠ [] → ∀ x, A = some x → x.block ≠ v.ub ∧ x.block ∉ a.bs := fun h0 x hx2 => by
      have h5 := hx h0 x hx2
      have h6 := h.lo.2.2.2.2.2.2
      refine ⟨by omega, fun hb => ?_⟩
      have := h.j.st.ge.2.2.2.2.2.2 _ hb
      omega
    refine (GyK.rpush (h.startD hdw) caller t A cap zs hz hxx).mono fun e w' k => ?_
    have k2 : GyK.PsOut w0 (daOf a) (dvOf v) W A2 cap2 (pkn σ.s v.ps 0 (findN σ.f caller t zs.length)) σ.f σ.pi (qqOf a) σ.L (findR (pokeS σ.s v.ps 0) σ.f σ.pi caller t zs.length true) zs (0 + findN σ.f caller t zs.length) e w' := k
    rw [← hs1, ← hq] at k2
    exact ⟨k2.1, h.dv hdw hob k2.2⟩
end
end Go.Proofs.YthlejchcnfdcpaaGreat.GzI
namespace Go.Proofs.YthlejchcnfdcpaaGreat.GzM
open Go.RowKit Go.Maps Base GaA GaB GaC GaD GmA GmB GmC GpA GgA GeA GeB GfA GfB GfC GfD GjA GjB GjC GjE GjK GwA GwB GwE GwF GwJ GwO GwQ RpA RmA RmB RgA GxA GxC GxD GyA GyB GyE GyN GbA GzA GzB GzC GzD GfF GoB GxB GzE GzF GzG GzH GzI GzJ GzK GzL
set_option linter.unusedVariables false
set_option linter.unusedSimpArgs false

/-- An op of the script. -/
structure OpV where
  wh : Int
  A : Int
  B : Int
  C : Int
  D : Int
  on : Bool
  ef : En
  et : En
  bA : Option Addr
  bc : Nat
  zs : List UInt8
  e : LE
  pA : Option Addr
  pc : Nat
  ps : List Pk
def opC (o : OpV) : Array Value := #[.int .i64 o.wh, .int .i64 o.A, .int .i64 o.B, .int .i64 o.C, .int .i64 o.D, .bool o.on, .bool o.ef.gr, .int .i64 o.ef.dom, .int .i64 o.ef.ref, .int .i64 o.ef.gpfn, .int .i64 o.ef.off, .bool o.et.gr, .int .i64 o.et.dom, .int .i64 o.et.ref, .int .i64 o.et.gpfn, .int .i64 o.et.off, .slice o.bA o.zs.length o.bc, .int .i64 o.e.dom, .int .i64 o.e.ref, .int .i64 o.e.g.kd, .bool o.e.g.ro, .bool o.e.g.sb, .int .i64 o.e.g.dom, .int .i64 o.e.g.gp, .int .i64 o.e.g.of, .int .i64 o.e.g.le, .int .u8 o.e.fl, .slice o.pA o.ps.length o.pc]
/-- What an op is. -/
structure OkO (w0 : World) (o : OpV) : Prop where
  i : okI o.A ∧ okI o.B ∧ okI o.C ∧ okI o.D ∧ okI o.ef.dom ∧ okI o.et.dom
  z : Bytes w0 o.bA o.zs
  zl : o.zs ≠ [] → ∀ x, o.bA = some x → x.block < w0.heap.size
  z47 : o.zs.length ≤ 140737488355328
  p : GwE.Pks w0 o.pA o.ps
section
variable {w0 W W' : World} {a : BX} {P Q : Value} {σ τ σ' τ' : SS} {v : VP} {rp rd : Nat}
/-- The addresses, and one more block kept. -/
def bxo (a : BX) (n : Nat) (o : OpV) : BX := ⟨a.toBA, (n, opC o) :: a.ko⟩
theorem _root_.Go.Proofs.YthlejchcnfdcpaaGreat.GzC.JV.box (h : JV w0 W a P Q σ τ v rp rd) {n : Nat} {o : OpV} (hn : W.heap[n]? = some (.cells (opC o) 37 (0, 0))) : JV w0 W (bxo a n o) P Q σ τ v rp rd := ⟨h.j.box hn, h.b, h.u, h.k, h.h64, h.lo⟩
theorem _root_.Go.Proofs.YthlejchcnfdcpaaGreat.GzC.JV.unbox {n : Nat} {o : OpV} (h : JV w0 W (bxo a n o) P Q σ τ v rp rd) : JV w0 W a P Q σ τ v rp rd := ⟨J.unbox h.j, h.b, h.u, h.k, h.h64, h.lo⟩
/-- A view's count of reads. -/
theorem reads_blk {vb mb db r : Nat} (hb : W.heap[vb]? = some (.cells #[.pointer (some ⟨mb, 0, none⟩), .map (some db), .int .i64 (GvA.cr r)] 144 (0, 0))) : Calls Tryz.prog 24 #[.pointer (some ⟨vb, 0, none⟩)] W fun e w' => e = .returned (.int .i64 (GvA.cr r)) ∧ w' = W := by
  have C0 := fun i => blk_cell hb i
  have L0 := blk_lt hb
  have hn : Calls Tryz.prog 73 #[.pointer (some ⟨vb, 0, none⟩)] W fun e w' => e = .returned (.bool false) ∧ w' = W := by
    go_enter Tryz.func73, Tryz.ntmps73
    go_wp2
    go_ret
    exact ⟨by first | rfl | (simp; done), rfl⟩
  go_enter Tryz.func24, Tryz.ntmps24
  go_wp2_with (first
    | (go_at_call 73; (with_reducible refine hn.mono ?_); rintro z w1 ⟨rfl, hw1⟩; obtain rfl := hw1.symm)
    | go_in)
  go_ret
  exact ⟨by first | rfl | (simp; done), rfl⟩
theorem xb1 (h : J w0 W a P Q σ τ) (hx : a.xb = w0.heap.size) : W.cell? ⟨w0.heap.size, 0, none⟩ = some (.pointer (some ⟨a.mb, 0, none⟩)) ∧ W.cell? ⟨w0.heap.size, 1, none⟩ = some (.pointer (some ⟨a.gb, 0, none⟩)) ∧ W.cell? ⟨w0.heap.size, 3, none⟩ = some (.pointer (some ⟨a.rb, 0, none⟩)) ∧ W.cell? ⟨w0.heap.size, 4, none⟩ = some (.pointer (some ⟨a.hb, 0, none⟩)) := by
  have hb := jblk h hx
  exact ⟨blk_cell hb 0, blk_cell hb 1, blk_cell hb 3, blk_cell hb 4⟩
theorem obx {n : Nat} {o : OpV} (h : J w0 W (bxo a n o) P Q σ τ) : W.heap[n]? = some (.cells (opC o) 37 (0, 0)) := h.x.kp (n, opC o) (List.mem_cons_self ..)
theorem obc {n : Nat} {o : OpV} (h : J w0 W (bxo a n o) P Q σ τ) (i : Nat) : W.cell? ⟨n, i, none⟩ = (opC o)[i]? := blk_cell (obx h) i
set_option maxHeartbeats 8000000 in
set_option maxRecDepth 100000 in
theorem moves_copy (hs : St w0.heap.size a) (hp : Pu a σ) (hx : a.xb = w0.heap.size) (o : OpV) (ok : OkO w0 o) (hw : o.wh = 4) (h : JV w0 W a P Q σ σ v 0 0) (h3 : V3 W v.B v.vb v.db v.cb a.mb 0 v.ps) :
    Calls Tryz.prog 35 #[.pointer (some ⟨w0.heap.size, 0, none⟩), .pointer (some ⟨v.vb, 0, none⟩), .pointer (some ⟨v.ub, 0, none⟩), .agg (opC o)] W fun e w' => ∃ σ' r, Pu a σ' ∧ e = .returned (.bool true) ∧ JV w0 w' a P Q σ' σ' v r r := by
  have hb1 := below_alloc (Below.refl W.heap.size W) (.cells (opC o) 37)
  have h1 := (h.below hb1).box (blk_new W (.cells (opC o) 37))
  have h31 := V3.below h3 hb1
  obtain ⟨x, y, σ', r, hpu, hP, hD⟩ := copy_both (v := v) (a := bxo a W.heap.size o) (P := P) (Q := Q) hs hp o.A o.D o.ef o.et ok.i.2.2.2.2.1 ok.i.2.2.2.2.2
  have HS : ∀ W' σ τ r r', JV w0 W' (bxo a W.heap.size o) P Q σ τ v r r' → W'.cell? ⟨w0.heap.size, 1, none⟩ = some (.pointer (some ⟨a.gb, 0, none⟩)) ∧ W'.cell? ⟨w0.heap.size, 4, none⟩ = some (.pointer (some ⟨a.hb, 0, none⟩)) ∧ W'.cell? ⟨W.heap.size, 1, none⟩ = some (.int .i64 o.A) ∧ W'.cell? ⟨W.heap.size, 4, none⟩ = some (.int .i64 o.D) ∧
      W'.cell? ⟨W.heap.size, 6, none⟩ = some (.bool o.ef.gr) ∧ W'.cell? ⟨W.heap.size, 7, none⟩ = some (.int .i64 o.ef.dom) ∧ W'.cell? ⟨W.heap.size, 8, none⟩ = some (.int .i64 o.ef.ref) ∧ W'.cell? ⟨W.heap.size, 9, none⟩ = some (.int .i64 o.ef.gpfn) ∧ W'.cell? ⟨W.heap.size, 10, none⟩ = some (.int .i64 o.ef.off) ∧
      W'.cell? ⟨W.heap.size, 11, none⟩ = some (.bool o.et.gr) ∧ W'.cell? ⟨W.heap.size, 12, none⟩ = some (.int .i64 o.et.dom) ∧ W'.cell? ⟨W.heap.size, 13, none⟩ = some (.int .i64 o.et.ref) ∧ W'.cell? ⟨W.heap.size, 14, none⟩ = some (.int .i64 o.et.gpfn) ∧ W'.cell? ⟨W.heap.size, 15, none⟩ = some (.int .i64 o.et.off) :=
    fun W' σ τ r r' hj => ⟨(xb1 hj.j hx).2.1, (xb1 hj.j hx).2.2.2, obc hj.j 1, obc hj.j 4, obc hj.j 6, obc hj.j 7, obc hj.j 8, obc hj.j 9, obc hj.j 10, obc hj.j 11, obc hj.j 12, obc hj.j 13, obc hj.j 14, obc hj.j 15⟩
  have HL : ∀ W' σ τ r r', JV w0 W' (bxo a W.heap.size o) P Q σ τ v r r' → w0.heap.size < W'.heap.size ∧ W.heap.size < W'.heap.size := fun W' σ τ r r' hj => ⟨blk_lt (jblk hj.j hx), blk_lt (obx hj.j)⟩
  have HU : ∀ W' σ τ r r', JV w0 W' (bxo a W.heap.size o) P Q σ τ v r r' → JV w0 W' a P Q σ τ v r r' := fun W' σ τ r r' hj => hj.unbox
  have H0 : Base.Aside (Pu a σ' ∧ ∀ W' σ τ r r', JV w0 W' (bxo a W.heap.size o) P Q σ τ v r r' → JV w0 W' a P Q σ τ v r r') := ⟨⟨hpu, HU⟩⟩
  have hP2 : ∀ W', JV w0 W' (bxo a W.heap.size o) P Q σ σ v 0 0 → V3 W' v.B v.vb v.db v.cb a.mb 0 v.ps → Calls Tryz.prog 82 #[.pointer (some ⟨a.gb, 0, none⟩), .pointer (some ⟨v.vb, 0, none⟩), .int .i64 o.A, .agg #[.bool o.ef.gr, .int .i64 o.ef.dom, .int .i64 o.ef.ref, .int .i64 o.ef.gpfn, .int .i64 o.ef.off], .agg #[.bool o.et.gr, .int .i64 o.et.dom, .int .i64 o.et.ref, .int .i64 o.et.gpfn, .int .i64 o.et.off], .int .i64 o.D] W' fun e w' => e = .returned (.int .i64 x) ∧ JV w0 w' (bxo a W.heap.size o) P Q σ' σ v r 0 := hP
  have hD2 : ∀ W', JV w0 W' (bxo a W.heap.size o) P Q σ' σ v r 0 → Calls Tryz.prog 83 #[.pointer (some ⟨a.hb, 0, none⟩), .pointer (some ⟨v.ub, 0, none⟩), .int .i64 o.A, .agg #[.bool o.ef.gr, .int .i64 o.ef.dom, .int .i64 o.ef.ref, .int .i64 o.ef.gpfn, .int .i64 o.ef.off], .agg #[.bool o.et.gr, .int .i64 o.et.dom, .int .i64 o.et.ref, .int .i64 o.et.gpfn, .int .i64 o.et.off], .int .i64 o.D] W' fun e w' => e = .returned (.int .i64 x) ∧ JV w0 w' (bxo a W.heap.size o) P Q σ' σ' v r r := hD
  have E1 := Base.Aside.mk (And.intro h1 h31)
  generalize hax : bxo a W.heap.size o = ax at HS HL hP2 hD2 H0 E1
  have HP2 := Base.Aside.mk hP2
  unfold opC
  clear hP hD h1 h31 h h3 hb1 HU hpu hax ok hp hs hP2
  obtain ⟨wh, A, B, C, D, on, ⟨fg, fd, fr, fp, fo⟩, ⟨tg, td, tr, tp, to_⟩, bA, bc, zs, e, pA, pc, ps⟩ := o
  simp only at hw HS hD2 HP2 E1 ⊢
  subst hw
  go_enter Tryz.func35, Tryz.ntmps35
  go_upto_region 3 with fail
  refine wp_world (fun W2 => JV w0 W2 ax P Q σ σ v 0 0 ∧ V3 W2 v.B v.vb v.db v.cb a.mb 0 v.ps) E1.out ?_
  intro W2 ⟨hj, hv3⟩
  have hk := HS W2 _ _ _ _ hj
  obtain ⟨L1, L2⟩ := HL W2 _ _ _ _ hj
  have hP3 := fun W' (hW : Below W2.heap.size W2 W') => HP2.out W' (hj.below hW) (V3.below hv3 hW)
  have E2 := Base.Aside.mk hj
  clear hj hv3
  go_cut [8] from 17 to 46 (fun u wx => u = .bool true ∧ Base.Aside (JV w0 wx ax P Q σ' σ' v r r))
  case first =>
    go_region_held3 (fun W' => W'.cell? ⟨w0.heap.size, 1, none⟩ = some (.pointer (some ⟨a.gb, 0, none⟩)) ∧ W'.cell? ⟨w0.heap.size, 4, none⟩ = some (.pointer (some ⟨a.hb, 0, none⟩)) ∧ W'.cell? ⟨W.heap.size, 1, none⟩ = some (.int .i64 A) ∧ W'.cell? ⟨W.heap.size, 4, none⟩ = some (.int .i64 D) ∧
      W'.cell? ⟨W.heap.size, 6, none⟩ = some (.bool fg) ∧ W'.cell? ⟨W.heap.size, 7, none⟩ = some (.int .i64 fd) ∧ W'.cell? ⟨W.heap.size, 8, none⟩ = some (.int .i64 fr) ∧ W'.cell? ⟨W.heap.size, 9, none⟩ = some (.int .i64 fp) ∧ W'.cell? ⟨W.heap.size, 10, none⟩ = some (.int .i64 fo) ∧
      W'.cell? ⟨W.heap.size, 11, none⟩ = some (.bool tg) ∧ W'.cell? ⟨W.heap.size, 12, none⟩ = some (.int .i64 td) ∧ W'.cell? ⟨W.heap.size, 13, none⟩ = some (.int .i64 tr) ∧ W'.cell? ⟨W.heap.size, 14, none⟩ = some (.int .i64 tp) ∧ W'.cell? ⟨W.heap.size, 15, none⟩ = some (.int .i64 to_))
      (first
        | go_keep
        | (with_reducible exact hk)
        | (with_reducible exact HS _ _ _ _ _ E6.out)
        | (with_reducible exact HS _ _ _ _ _ E7.out)
        | (refine HS _ _ _ _ _ (E2.out.below ?_); (repeat (with_reducible first | exact Below.refl _ _ | refine below_drew ?_ | refine below_alloc ?_ _)); done)
        | (refine HS _ _ _ _ _ (E6.out.below ?_); (repeat (with_reducible first | exact Below.refl _ _ | refine below_drew ?_ | refine below_alloc ?_ _)); done)
        | (refine HS _ _ _ _ _ (E7.out.below ?_); (repeat (with_reducible first | exact Below.refl _ _ | refine below_drew ?_ | refine below_alloc ?_ _)); done))
      ((first
        | (go_at_call 82; (with_reducible refine (hP3 _ ?_).mono ?_); (focus (repeat (with_reducible first | exact Below.refl _ _ | refine below_drew ?_ | refine below_alloc ?_ _))); rintro z w6 ⟨rfl, hj6⟩; have E6 := Base.Aside.mk hj6; clear hj6)
        | (go_at_call 83; (with_reducible refine (hD2 _ ?_).mono ?_); (focus (refine JV.below E6.out ?_; (repeat (with_reducible first | exact Below.refl _ _ | refine below_drew ?_ | refine below_alloc ?_ _)))); rintro z w7 ⟨rfl, hj7⟩; have E7 := Base.Aside.mk hj7; clear hj7)))
    all_goals
      go_wp2_with fail
      go_meet
    all_goals
      refine ⟨by first | rfl | (simp; done), ⟨JV.below E7.out ?_⟩⟩
      (repeat (with_reducible first | exact Below.refl _ _ | refine below_drew ?_ | refine below_alloc ?_ _))
  case rest =>
    obtain ⟨rfl, hA⟩ := hcut
    go_wp2
    go_ret
    exact ⟨σ', r, H0.out.1, by first | rfl | (simp; done), H0.out.2 _ _ _ _ _ hA.out⟩
end
end Go.Proofs.YthlejchcnfdcpaaGreat.GzM
