/- Proved: what begin's calls do to the two worlds (contracts for the laws of the grants). -/
import Derived.Test.YtjeobbhaoahdcaaGbA
namespace Go.Proofs.Ytjeobbhaoahdcaa.GbB
open Go.RowKit Go.Maps Go.Proofs.Ytjeobbhaoahdcaa.Base Go.Proofs.Ytjeobbhaoahdcaa.GaA Go.Proofs.Ytjeobbhaoahdcaa.GaB Go.Proofs.Ytjeobbhaoahdcaa.GaC Go.Proofs.Ytjeobbhaoahdcaa.GaD Go.Proofs.Ytjeobbhaoahdcaa.GmA Go.Proofs.Ytjeobbhaoahdcaa.GpA Go.Proofs.Ytjeobbhaoahdcaa.GgA Go.Proofs.Ytjeobbhaoahdcaa.RpA Go.Proofs.Ytjeobbhaoahdcaa.RmA Go.Proofs.Ytjeobbhaoahdcaa.RmB Go.Proofs.Ytjeobbhaoahdcaa.RmC Go.Proofs.Ytjeobbhaoahdcaa.RgA Go.Proofs.Ytjeobbhaoahdcaa.GnA Go.Proofs.Ytjeobbhaoahdcaa.GfC Go.Proofs.Ytjeobbhaoahdcaa.GfD Go.Proofs.Ytjeobbhaoahdcaa.GbA
set_option linter.unusedVariables false
set_option linter.unusedSimpArgs false

/-- The two worlds since w0. -/
structure Bd (w0 W : World) (a : BA) (s t : MS) (n : Cn) (P Q : Value) : Prop where
  bo : Bo w0.heap.size W a s t n P Q
  bel : Below w0.heap.size w0 W
/-- .. while a domain gets its frames and places. -/
structure In (w0 W : World) (a : BA) (s t : MS) (k i j : Nat) (P Q : Value) (N : Nat) : Prop where
  bd : Bd w0 W a s t ⟨k, k, k, k, k⟩ P Q
  cur : Cur W a k i j N
  old : Old a k P Q N
  ge : w0.heap.size ≤ N
section
variable {w0 W W' : World} {a : BA} {s t s' t' : MS} {n : Cn} {P Q : Value} {k i j N : Nat}
theorem Bd.below (h : Bd w0 W a s t n P Q) (hb : Below W.heap.size W W') : Bd w0 W' a s t n P Q := ⟨h.bo.below hb, h.bel.trans (hb.mono h.bel.size)⟩
theorem Bd.out (h : Bd w0 W a s t n P Q) {F : Nat → Prop} (hc : Chg F W W') (hF : ∀ x, F x → w0.heap.size ≤ x) : Below w0.heap.size w0 W' := hc.out h.bel h.bel.size hF
theorem In.below (h : In w0 W a s t k i j P Q N) (hb : Below W.heap.size W W') : In w0 W' a s t k i j P Q N := ⟨h.bd.below hb, h.cur.below hb, h.old, h.ge⟩
theorem In.drew (h : In w0 W a s t k i j P Q N) : In w0 W.drew a s t k i j P Q N := h.below (Below.refl _ _).drew
theorem in_alloc (h : In w0 W a (msB k i) t k i j P Q N) (hk : k < 3) (hi : i < 4) : Calls Try.prog 39 #[.pointer (some ⟨a.mb, 0, none⟩), .int .i64 k] W fun e w' => (∃ x : Int, e = .returned (.tuple #[.int .i64 x, .int .i64 0])) ∧ In w0 w' a (msB k (i + 1)) t k i j P Q N :=
  (GaD.alloc_calls W a.mb a.fb (msB k i) k (by omega) (by omega) h.bd.bo.m (4 * k + i) (by show 4 * k + i < 13; omega) (msB_own k i) (fun j hj => msB_low k i j hj)).mono fun e w' ⟨h1, h2, h3, h4⟩ => by
    rw [msB_alloc k i hi] at h2
    have hc : Chg (fun x => x = a.fb) W w' := ⟨h3.1, h3.2.1, h3.2.2.1, h3.2.2.2, fun x hx hn => h4 x hx hn⟩
    exact ⟨⟨_, h1⟩, ⟨h.bd.bo.mach hc h2, h.bd.out hc (by rintro x rfl; exact h.bd.bo.ge.2.1)⟩, h.cur.chg hc (by rintro x rfl; exact h.old.m.2.1), h.old, h.ge⟩
theorem in_ralloc (h : In w0 W a s (msB k i) k i j P Q N) (hk : k < 3) (hi : i < 4) : Calls Try.prog 40 #[.pointer (some ⟨a.rb, 0, none⟩), .int .i64 k] W fun e w' => (∃ x : Int, e = .returned (.tuple #[.int .i64 x, .int .i64 0])) ∧ In w0 w' a s (msB k (i + 1)) k i j P Q N :=
  (RmB.alloc_calls h.bd.bo.w k (by omega) (by omega) (4 * k + i) (by show 4 * k + i < 13; omega) (msB_own k i) (fun j hj => msB_low k i j hj)).mono fun e w' ⟨h1, h2, hc⟩ => by
    rw [msB_alloc k i hi] at h2
    exact ⟨⟨_, h1⟩, ⟨h.bd.bo.rmach hc h2, h.bd.out hc (by rintro x rfl; exact h.bd.bo.ge.2.2.2.2.1)⟩, h.cur.chg hc (by rintro x rfl; exact h.old.m.2.2.2.1), h.old, h.ge⟩
theorem in_pset (h : In w0 W a s t k i j P Q N) (hk : k < 3) (hi : i < 4) : Calls Try.prog 41 #[.pointer (some ⟨a.pb k, 0, none⟩), .int .i64 i, .int .i64 (4 * (k : Int) + i)] W fun e w' => e = .returned (.int .i64 0) ∧ In w0 w' a s t k (i + 1) j P Q N := by
  have hc := GpA.set_calls h.cur.p i (4 * k + i) (by omega) (by omega) (by omega) (frD_none k i) (plD_none k i) (by omega)
  rw [frD_put, plD_put] at hc
  rw [show ((4 * k + i : Nat) : Int) = 4 * (k : Int) + i by omega] at hc
  refine hc.mono fun e w' ⟨h1, h2, h3⟩ => ⟨h1, ⟨h.bd.bo.young h3 (by rintro x (rfl | rfl); exact h.cur.ge.2.1; exact h.cur.ge.2.2.1) h.old, h.bd.out h3 (by rintro x (rfl | rfl); exact Nat.le_trans h.ge h.cur.ge.2.1; exact Nat.le_trans h.ge h.cur.ge.2.2.1)⟩, ⟨h2, h.cur.q.chg h3 ?_ ?_, h.cur.ge⟩, h.old, h.ge⟩
  · rintro (e1 | e1)
    · have := ty_cells h.cur.q.blk; rw [e1, ty_imap h.cur.p.mf] at this; cases this
    · have := ty_cells h.cur.q.blk; rw [e1, ty_imap h.cur.p.mp] at this; cases this
  · rintro (e1 | e1)
    · have := ty_row h.cur.q.row rfl; rw [e1, ty_imap h.cur.p.mf] at this; cases this
    · have := ty_row h.cur.q.row rfl; rw [e1, ty_imap h.cur.p.mp] at this; cases this
theorem in_qset (h : In w0 W a s t k i j P Q N) (hk : k < 3) (hj : j < 4) : Calls Try.prog 42 #[.pointer (some ⟨a.qb k, 0, none⟩), .int .i64 j, .int .i64 (4 * (k : Int) + j)] W fun e w' => e = .returned (.int .i64 0) ∧ In w0 w' a s t k i (j + 1) P Q N := by
  have hc := RpA.set_calls h.cur.q (by rw [lstD_len]; omega) j (by rw [lstD_len]; omega) (by rw [lstD_get _ _ _ (by omega), if_neg (by omega)]; omega) (4 * k + j) (by omega) (by
    intro x hx
    rw [lstD_len] at hx
    rw [lstD_get _ _ _ hx]
    split <;> omega)
  rw [lstD_put k j (by omega)] at hc
  rw [show ((4 * k + j : Nat) : Int) = 4 * (k : Int) + j by omega] at hc
  refine hc.mono fun e w' ⟨h1, h2, h3⟩ => ⟨h1, ⟨h.bd.bo.young h3 (by rintro x rfl; exact h.cur.ge.2.2.2.2) h.old, h.bd.out h3 (by rintro x rfl; exact Nat.le_trans h.ge h.cur.ge.2.2.2.2)⟩, ⟨h.cur.p.chg h3 ?_ ?_ ?_, h2, h.cur.ge⟩, h.old, h.ge⟩
  · intro e1; have := ty_cells h.cur.p.blk; rw [e1, ty_row h.cur.q.row rfl] at this; exact absurd this (by decide)
  · intro e1; have := ty_imap h.cur.p.mf; rw [e1, ty_row h.cur.q.row rfl] at this; cases this
  · intro e1; have := ty_imap h.cur.p.mp; rw [e1, ty_row h.cur.q.row rfl] at this; cases this
theorem bd_joinG (h : Bd w0 W a (msB k 4) t ⟨k + 1, k + 1, k + 1, k, k⟩ P Q) (hk : k < 3) : Calls Try.prog 34 #[.pointer (some ⟨a.gb, 0, none⟩), .int .i64 k, .int .i64 (4 * (k : Int)), .pointer (some ⟨a.pb k, 0, none⟩)] W fun e w' => e = .returned (.int .i64 0) ∧ Bd w0 w' a (msB (k + 1) 0) t ⟨k + 1, k + 1, k + 1, k + 1, k⟩ P Q := by
  have hf := msB_first k
  obtain ⟨cs, m2, _⟩ := h.bo.m.lst
  have hc := GgA.join_calls h.bo.g h.bo.m (h.bo.p k (Nat.lt_succ_self k)) k (by omega) (by omega) (4 * k) (by show 4 * k < 13; omega) (plD_neg k 4) (if_neg (by simp)) (by show k < 1000; omega)
    (by rw [hf]; simp [getE]) (by rw [hf]; simp [Fr.few]) (blk_ne h.bo.g.blk m2 (by decide)) (fun e => by have := ty_imap h.bo.g.mem; rw [e, ty_cells m2] at this; cases this)
  rw [hf, memG_put] at hc
  have hg : getF ⟨(k : Int), 0, 0, 0⟩ 1 = ⟨k, 1, 1, 1⟩ := rfl
  rw [hg, msB_join] at hc
  rw [show ((4 * k : Nat) : Int) = 4 * (k : Int) by omega] at hc
  exact hc.mono fun e w' ⟨h1, h2, h3, h4⟩ => ⟨h1, h.bo.joinG h4 h2 h3, h.out h4 (by rintro x (rfl | rfl); exact h.bo.ge.2.1; exact h.bo.ge.2.2.1)⟩
theorem bd_joinH (h : Bd w0 W a s (msB k 4) ⟨k + 1, k + 1, k + 1, k + 1, k⟩ P Q) (hk : k < 3) : Calls Try.prog 43 #[.pointer (some ⟨a.hb, 0, none⟩), .int .i64 k, .int .i64 (4 * (k : Int)), .pointer (some ⟨a.qb k, 0, none⟩)] W fun e w' => e = .returned (.int .i64 0) ∧ Bd w0 w' a s (msB (k + 1) 0) ⟨k + 1, k + 1, k + 1, k + 1, k + 1⟩ P Q := by
  obtain ⟨f1, f2, _⟩ := h.bo.w.frs
  obtain ⟨r1, r2, _⟩ := h.bo.w.rows
  obtain ⟨d1, d2, _⟩ := h.bo.h.mem
  have hc := RgA.join_calls h.bo.h h.bo.w (blk_ne h.bo.h.blk f2 (by decide)) (blk_ne d2 f2 (by decide)) (blk_ne d2 h.bo.w.blk (by decide)) (blk_ne d2 r2 (by decide)) (fun b hb => by obtain ⟨cs, hp⟩ := h.bo.page hb; exact blk_ne hp d2 (by decide)) k (by omega) (if_neg (by simp)) (4 * k) (by show 4 * k < 13; omega) (msB_first k) (a.qb k)
  have e1 := memR_put a.qb k
  rw [msB_join] at hc
  have hc2 := hc.mono (R' := fun e w' => e = .returned (.int .i64 0) ∧ R6 w' a.hb a.Db a.cD a.rb (memR a.qb (k + 1)) ∧ RMach w' a.rb a.Fb a.Bb a.cF a.cB a.bs (msB (k + 1) 0) ∧ Chg (fun x => x = a.Fb ∨ x = a.Db) W w') (fun e w' ⟨h1, h2, h3, h4⟩ => ⟨h1, by rw [← e1]; exact h2, h3, h4⟩)
  rw [show ((4 * k : Nat) : Int) = 4 * (k : Int) by omega] at hc2
  exact hc2.mono fun e w' ⟨h1, h2, h3, h4⟩ => ⟨h1, h.bo.joinH h4 h2 h3, h.out h4 (by rintro x (rfl | rfl); exact h.bo.ge.2.2.2.2.1; exact h.bo.ge.2.2.2.2.2.1)⟩
end
end Go.Proofs.Ytjeobbhaoahdcaa.GbB
