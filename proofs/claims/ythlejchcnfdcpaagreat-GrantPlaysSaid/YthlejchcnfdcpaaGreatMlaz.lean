/- Proved: the document's end: where an end lies (a contract for the laws of the grants). Proved: the document's end, at every argument (a contract for the laws of the grants). Proved: the document's Map where it is refused (contracts for the laws of the grants). -/
import Derived.Test.YthlejchcnfdcpaaGreatMlai
import Derived.Test.YthlejchcnfdcpaaGreatMlao
import Derived.Test.YthlejchcnfdcpaaGreatMlax
import Derived.Test.YthlejchcnfdcpaaGreatMlay
namespace Go.Proofs.YthlejchcnfdcpaaGreat.GyH
open Go.RowKit Go.Maps Base GaA GaB GaC GaD GmB GmC GpA GeA GeB GfA GfB GfC GfD GfE GfF GjA GjC GwA GwB RpA RmA RmB RgA GxA GxB GxC GxD GyA GyB GyC GyD GyE GyF
set_option linter.unusedVariables false
set_option linter.unusedSimpArgs false

section
variable {w0 w w' W W0 W' : World} {a : DA} {v : DVA} {A : Option Addr} {cap : Nat} {s s' : MS} {f : Int → Option (Int × Nat)} {pi : Nat → PI} {qq : Nat → Nat × Nat × Nat} {L : List Mp} {F : Int × Int → Option Mp} {r : Nat}
/-- A place as the document tells it: q is the program's. -/
def placed (q : (Int × Int) × Int) (e : Ending) : Prop := ∃ m o : Int, e = .returned (.tuple #[.int .i64 m, .int .i64 o, .int .i64 q.2]) ∧ (q.2 = 0 → m = q.1.1 ∧ o = q.1.2)
def EndLow (W : World) (q : (Int × Int) × Int) (e : Ending) (w' : World) : Prop := placed q e ∧ Below W.heap.size W w'
set_option maxHeartbeats 8000000 in
set_option maxRecDepth 100000 in
theorem rend_bad (W : World) (hb vp : Option Addr) (caller n : Int) (t : En) (wr : Bool) (hbad : endBad caller n t) :
    Calls Tryz.prog 110 #[.pointer hb, .pointer vp, .int .i64 caller, .agg #[.bool t.gr, .int .i64 t.dom, .int .i64 t.ref, .int .i64 t.gpfn, .int .i64 t.off], .int .i64 n, .bool wr] W (EndLow W ((0, 0), 1)) := by
  have hdo := fun W => domain_any caller W
  obtain ⟨dm, hdm⟩ : ∃ dm, dm = (decide (0 ≤ caller) && decide (caller < 8)) := ⟨_, rfl⟩
  rw [← hdm] at hdo
  have hcase : dm = false ∨ (dm = true ∧ decide (n < 0) = true) ∨ (dm = true ∧ decide (n < 0) = false ∧ decide (t.off < 0) = true) := by
    cases dm with
    | false => exact .inl rfl
    | true =>
      have hd2 : 0 ≤ caller ∧ caller < 8 := by simpa using hdm.symm
      by_cases q : n < 0
      · exact .inr (.inl ⟨rfl, decide_eq_true q⟩)
      · refine .inr (.inr ⟨rfl, decide_eq_false q, decide_eq_true ?_⟩)
        rcases hbad with h | h | h
        · exact absurd hd2 h
        · exact absurd h q
        · exact h
  clear hbad hdm
  rcases hcase with rfl | ⟨rfl, d1⟩ | ⟨rfl, d1, d2⟩
  all_goals
    go_enter Tryz.func110, Tryz.ntmps110
    go_wp2_with (first
      | (go_at_call 48; (with_reducible refine (hdo _).mono ?_); rintro z w1 ⟨rfl, hw1⟩; obtain rfl := hw1.symm)
      | go_in)
    refine bodyPost_ret (v := .tuple #[.int .i64 0, .int .i64 0, .int .i64 1]) (by simp only [results, Tryz.results110]; go_simp; try rfl) rfl ⟨⟨0, 0, rfl, fun _ => ⟨rfl, rfl⟩⟩, below_alloc (Below.refl _ _) _⟩
set_option maxHeartbeats 8000000 in
set_option maxRecDepth 100000 in
theorem rend_own (h : DW W a A cap s f pi qq L) (vp : Option Addr) (caller n : Int) (t : En) (wr : Bool) (hgood : ¬ endBad caller n t) (hg : t.gr = false) :
    Calls Tryz.prog 110 #[.pointer (some ⟨a.hb, 0, none⟩), .pointer vp, .int .i64 caller, .agg #[.bool t.gr, .int .i64 t.dom, .int .i64 t.ref, .int .i64 t.gpfn, .int .i64 t.off], .int .i64 n, .bool wr] W (EndLow W (ownR f pi caller t.gpfn t.off n)) := by
  have hb1 := below_alloc (Below.refl W.heap.size W) (.cells #[.bool t.gr, .int .i64 t.dom, .int .i64 t.ref, .int .i64 t.gpfn, .int .i64 t.off] 29)
  have h1 := h.below hb1
  have hdo := fun W => domain_any caller W
  have hc8 : 0 ≤ caller ∧ caller < 8 := by unfold endBad at hgood; omega
  have d1 : decide (n < 0) = false := decide_eq_false (by unfold endBad at hgood; omega)
  have d2 : decide (t.off < 0) = false := decide_eq_false (by unfold endBad at hgood; omega)
  rw [decide_eq_true hc8.1, decide_eq_true hc8.2] at hdo
  have hj := rjoined h1 caller
  have hwi := fun W => rwithin t.off n 256 (by omega) (by omega) W
  have C1 := fun i => blk_cell h1.blk i
  have L1 := blk_lt h1.blk
  have L2 := h1.ldb
  obtain ⟨e, rfl⟩ : ∃ e : Nat, caller = e := ⟨caller.toNat, by omega⟩
  have i0 : (0 : Int) ≤ (e : Int) := hc8.1
  have i1 : (e : Int) < 8 := hc8.2
  rw [hg]
  rw [hg] at hb1 h1 hj C1 L1 L2
  cases hf : f e with
  | none =>
    rw [hf] at hj
    have hR : ownR f pi e t.gpfn t.off n = ((0, 0), 1) := by unfold ownR; rw [hf]
    rw [hR]
    clear h h1 hf hR hb1
    go_enter Tryz.func110, Tryz.ntmps110
    go_wp2_with (first
      | (go_at_call 48; (with_reducible refine (hdo _).mono ?_); rintro z w1 ⟨rfl, hw1⟩; obtain rfl := hw1.symm)
      | (go_at_call 68; (with_reducible refine hj.mono ?_); rintro z w1 ⟨rfl, hw1⟩; obtain rfl := hw1.symm)
      | go_in)
    refine bodyPost_ret (v := .tuple #[.int .i64 0, .int .i64 0, .int .i64 1]) (by simp only [results, Tryz.results110]; go_simp; try rfl) rfl ⟨⟨0, 0, rfl, fun _ => ⟨rfl, rfl⟩⟩, below_alloc (Below.refl _ _) _⟩
  | some x =>
    rw [hf] at hj
    have c1 := h1.ptr e (by omega)
    have hfD : fD f qq e = (x.1, some (qq x.2).1) := by unfold fD; rw [hf]
    rw [hfD] at c1
    simp only [Option.map_some] at c1
    have hge := fun m => get_any ((h1.q e x hf).below (below_drewN (Below.refl _ _) m)) t.gpfn
    obtain ⟨q, hq⟩ : ∃ q, q = getV (pi x.2).size (pi x.2).fr t.gpfn := ⟨_, rfl⟩
    have hR : ownR f pi e t.gpfn t.off n = if q.2 = 0 ∧ inn t.off n 256 = false then ((q.1, t.off), 63) else ((q.1, t.off), q.2) := by unfold ownR; rw [hf, hq]
    rw [hR]
    simp only [← hq] at hge
    obtain ⟨q1, q2⟩ := q
    have HB := Base.Aside.mk hb1
    have hcase : (q2 ≠ 0 ∧ (q2 != 0) = true) ∨ (q2 = 0 ∧ inn t.off n 256 = false) ∨ (q2 = 0 ∧ inn t.off n 256 = true) := by
      by_cases q : q2 = 0
      · cases hi : inn t.off n 256 with
        | false => exact .inr (.inl ⟨q, rfl⟩)
        | true => exact .inr (.inr ⟨q, rfl⟩)
      · exact .inl ⟨q, by simp [q]⟩
    clear h h1 hf hR hb1 hfD hq
    simp only at hge ⊢
    rcases hcase with ⟨p1, p2⟩ | ⟨rfl, p2⟩ | ⟨rfl, p2⟩
    · rw [if_neg (fun h => p1 h.1)]
      clear p1
      go_enter Tryz.func110, Tryz.ntmps110
      go_wp2_with (first
        | (go_at_call 48; (with_reducible refine (hdo _).mono ?_); rintro z w1 ⟨rfl, hw1⟩; obtain rfl := hw1.symm)
        | (go_at_call 68; (with_reducible refine hj.mono ?_); rintro z w1 ⟨rfl, hw1⟩; obtain rfl := hw1.symm)
        | go_in)
      go_quiet ((go_at_call 102; refine Calls.quiet_of_same (hge _)))
      go_wp2
      refine bodyPost_ret (v := .tuple #[.int .i64 0, .int .i64 0, .int .i64 q2]) (by simp only [results, Tryz.results110]; go_simp; try rfl) rfl ⟨⟨0, 0, rfl, fun h => ?_⟩, ?_⟩
      · simp only at h
        rw [h] at p2
        cases p2
      · exact below_drewN HB.out _
    · rw [if_pos ⟨rfl, p2⟩]
      rw [p2] at hwi
      go_enter Tryz.func110, Tryz.ntmps110
      go_wp2_with (first
        | (go_at_call 48; (with_reducible refine (hdo _).mono ?_); rintro z w1 ⟨rfl, hw1⟩; obtain rfl := hw1.symm)
        | (go_at_call 68; (with_reducible refine hj.mono ?_); rintro z w1 ⟨rfl, hw1⟩; obtain rfl := hw1.symm)
        | go_in)
      go_quiet ((go_at_call 102; refine Calls.quiet_of_same (hge _)))
      go_wp2_with (first
        | (go_at_call 80; (with_reducible refine (hwi _).mono ?_); rintro z w6 ⟨rfl, hw6⟩; obtain rfl := hw6.symm)
        | go_in)
      refine bodyPost_ret (v := .tuple #[.int .i64 0, .int .i64 0, .int .i64 63]) (by simp only [results, Tryz.results110]; go_simp; try rfl) rfl ⟨⟨0, 0, rfl, fun h => by simp at h⟩, ?_⟩
      exact below_drewN HB.out _
    · rw [if_neg (by rw [p2]; simp)]
      rw [p2] at hwi
      go_enter Tryz.func110, Tryz.ntmps110
      go_wp2_with (first
        | (go_at_call 48; (with_reducible refine (hdo _).mono ?_); rintro z w1 ⟨rfl, hw1⟩; obtain rfl := hw1.symm)
        | (go_at_call 68; (with_reducible refine hj.mono ?_); rintro z w1 ⟨rfl, hw1⟩; obtain rfl := hw1.symm)
        | go_in)
      go_quiet ((go_at_call 102; refine Calls.quiet_of_same (hge _)))
      go_wp2_with (first
        | (go_at_call 80; (with_reducible refine (hwi _).mono ?_); rintro z w6 ⟨rfl, hw6⟩; obtain rfl := hw6.symm)
        | go_in)
      go_quiet (fail)
      go_wp2
      refine bodyPost_ret (v := .tuple #[.int .i64 q1, .int .i64 t.off, .int .i64 0]) (by simp only [results, Tryz.results110]; go_simp; try rfl) rfl ⟨⟨q1, t.off, rfl, fun _ => ⟨rfl, rfl⟩⟩, ?_⟩
      repeat (with_reducible first | exact HB.out | refine below_drewN ?_ _)
end
end Go.Proofs.YthlejchcnfdcpaaGreat.GyH
namespace Go.Proofs.YthlejchcnfdcpaaGreat.GyI
open Go.RowKit Go.Maps Base GaA GaB GaC GaD GmB GmC GpA GeA GeB GfA GfB GfC GfD GfE GfF GjA GjC GwA GwB GwF RpA RmA RmB RgA GxA GxB GxC GxD GyA GyB GyC GyD GyE GyF GyH
set_option linter.unusedVariables false
set_option linter.unusedSimpArgs false

theorem perm60 (l : List Int) (c : Int) (h : permE l c ≠ 0) : permE l c = 60 := by
  unfold permE entE at h ⊢
  by_cases q : GuA.bad l
  · simp only [if_pos q] at h ⊢
    split <;> rfl
  · simp only [if_neg q] at h ⊢
    split at h
    · rename_i q2
      rw [if_pos q2]
    · exact absurd rfl h
theorem frame60 (s : MS) (size : Nat) (fr : Int → Option Int) (d g : Int) : ((frameR s size fr d g).2 = 60) ∨ ((frameR s size fr d g).2 = 0 ∧ 0 ≤ (frameR s size fr d g).1) := by
  unfold frameR
  by_cases h1 : (getV size fr g).2 ≠ 0
  · rw [if_pos h1]; exact .inl rfl
  · rw [if_neg h1]
    by_cases h2 : (frV s (getV size fr g).1).2 ≠ 0 ∨ (frV s (getV size fr g).1).1.own ≠ d
    · rw [if_pos h2]; exact .inl rfl
    · rw [if_neg h2]
      refine .inr ⟨rfl, ?_⟩
      have h3 : (frV s (getV size fr g).1).2 = 0 := by
        by_cases q : (frV s (getV size fr g).1).2 = 0
        · exact q
        · exact absurd (.inl q) h2
      unfold frV at h3
      by_cases q : 0 ≤ (getV size fr g).1 ∧ (getV size fr g).1 < s.n
      · exact q.1
      · rw [if_neg q] at h3
        cases h3
/-- What an end that an entry lends comes to, in a walk's words. -/
theorem lent_cases (s : MS) (P : PI) (k : Nat) (caller d : Int) (ref : Nat) (off : Int) (wr : Bool) (n : Int) (R : Gr × Int × Int) (hR : R = rdR s P k caller d ref) (q : (Int × Int) × Int) (hq : q = lentS s P k caller d ref off wr n) :
    (R.2.2 = 60 ∧ q.2 = 60) ∨ (R.2.2 = 0 ∧ decide (R.2.1 < 0) = true ∧ q.2 = 60) ∨ (R.2.2 = 0 ∧ decide (R.2.1 < 0) = false ∧ wr = true ∧ R.1.ro = true ∧ q.2 = 62) ∨
    (R.2.2 = 0 ∧ decide (R.2.1 < 0) = false ∧ (wr = false ∨ (wr = true ∧ R.1.ro = false)) ∧ inn off n R.1.le = false ∧ q.2 = 63) ∨
    (R.2.2 = 0 ∧ decide (R.2.1 < 0) = false ∧ (wr = false ∨ (wr = true ∧ R.1.ro = false)) ∧ inn off n R.1.le = true ∧ q = ((R.2.1, R.1.of + off), 0)) := by
  unfold rdR at hR
  unfold lentS at hq
  by_cases h1 : permE (ent s k ref) caller ≠ 0
  · rw [if_pos h1] at hR hq
    exact .inl ⟨by rw [hR], by rw [hq]; exact perm60 _ _ h1⟩
  · rw [if_neg h1] at hR hq
    rcases frame60 s P.size P.fr d (entG (ent s k ref)).gp with h2 | ⟨h2, h3⟩
    · rw [if_neg (by rw [h2]; decide)] at hR
      rw [if_pos (by rw [h2]; decide)] at hq
      exact .inr (.inl ⟨by rw [hR], by rw [hR]; rfl, by rw [hq]; exact h2⟩)
    · rw [if_pos h2] at hR
      rw [if_neg (by rw [h2]; decide)] at hq
      have hd : decide (R.2.1 < 0) = false := by rw [hR]; exact decide_eq_false (by simp only; omega)
      by_cases h4 : (wr && (entG (ent s k ref)).ro) = true
      · rw [if_pos h4] at hq
        have h5 : wr = true ∧ (entG (ent s k ref)).ro = true := by simpa using h4
        exact .inr (.inr (.inl ⟨by rw [hR], hd, h5.1, by rw [hR]; exact h5.2, by rw [hq]⟩))
      · rw [if_neg h4] at hq
        have h5 : wr = false ∨ (wr = true ∧ R.1.ro = false) := by
          rw [hR]
          simp only
          cases wr with
          | false => exact .inl rfl
          | true =>
            refine .inr ⟨rfl, ?_⟩
            simpa using h4
        cases h6 : inn off n (entG (ent s k ref)).le with
        | false =>
          rw [if_pos h6] at hq
          exact .inr (.inr (.inr (.inl ⟨by rw [hR], hd, h5, by rw [hR]; exact h6, by rw [hq]⟩)))
        | true =>
          rw [if_neg (by rw [h6]; decide)] at hq
          exact .inr (.inr (.inr (.inr ⟨by rw [hR], hd, h5, by rw [hR]; exact h6, by rw [hq, hR]⟩)))
theorem rd_of (s : MS) (P : PI) (k : Nat) (caller d : Int) (ref : Nat) : 0 ≤ (rdR s P k caller d ref).1.of ∧ 0 ≤ (rdR s P k caller d ref).1.le ∧ (rdR s P k caller d ref).1.of + (rdR s P k caller d ref).1.le ≤ 256 := by
  unfold rdR
  by_cases h1 : permE (ent s k ref) caller ≠ 0
  · rw [if_pos h1]
    decide
  · rw [if_neg h1]
    exact ent_of s k ref
section
variable {w0 w w' W W0 W' : World} {a : DA} {v : DVA} {A : Option Addr} {cap : Nat} {s s' : MS} {f : Int → Option (Int × Nat)} {pi : Nat → PI} {qq : Nat → Nat × Nat × Nat} {L : List Mp} {F : Int × Int → Option Mp} {r : Nat}
def EndOut (w0 : World) (a : DA) (v : DVA) (W : World) (A : Option Addr) (cap : Nat) (s : MS) (f : Int → Option (Int × Nat)) (pi : Nat → PI) (qq : Nat → Nat × Nat × Nat) (L : List Mp) (r : Nat) (q : (Int × Int) × Int) (e : Ending) (w' : World) : Prop := placed q e ∧ DV w0 a v W w' A cap s f pi qq L r
set_option maxHeartbeats 8000000 in
set_option maxRecDepth 100000 in
theorem rend_arg (h : DW W a A cap s f pi qq L) (vp : Option Addr) (caller n : Int) (t : En) (wr : Bool) (hgood : ¬ endBad caller n t) (hg : t.gr = true) (hno : f t.dom = none ∨ slotB t.ref = false) :
    Calls Tryz.prog 110 #[.pointer (some ⟨a.hb, 0, none⟩), .pointer vp, .int .i64 caller, .agg #[.bool t.gr, .int .i64 t.dom, .int .i64 t.ref, .int .i64 t.gpfn, .int .i64 t.off], .int .i64 n, .bool wr] W (EndLow W ((0, 0), 1)) := by
  have hb1 := below_alloc (Below.refl W.heap.size W) (.cells #[.bool t.gr, .int .i64 t.dom, .int .i64 t.ref, .int .i64 t.gpfn, .int .i64 t.off] 29)
  have h1 := h.below hb1
  have hdo := fun W => domain_any caller W
  have hc8 : 0 ≤ caller ∧ caller < 8 := by unfold endBad at hgood; omega
  have d1 : decide (n < 0) = false := decide_eq_false (by unfold endBad at hgood; omega)
  have d2 : decide (t.off < 0) = false := decide_eq_false (by unfold endBad at hgood; omega)
  rw [decide_eq_true hc8.1, decide_eq_true hc8.2] at hdo
  have hj := rjoined h1 t.dom
  have hsl := fun W => rslot_any t.ref W
  rw [hg]
  rw [hg] at hb1 h1 hj
  have hcase : (f t.dom).isSome = false ∨ ((f t.dom).isSome = true ∧ slotB t.ref = false) := by
    rcases hno with hno | hno
    · rw [hno]; exact .inl rfl
    · cases hf : (f t.dom).isSome with
      | false => exact .inl rfl
      | true => exact .inr ⟨rfl, hno⟩
  clear h h1 hb1 hgood hno
  rcases hcase with p1 | ⟨p1, p2⟩
  all_goals
    rw [p1] at hj
    (try rw [p2] at hsl)
    clear p1
    go_enter Tryz.func110, Tryz.ntmps110
    go_wp2_with (first
      | (go_at_call 48; (with_reducible refine (hdo _).mono ?_); rintro z w1 ⟨rfl, hw1⟩; obtain rfl := hw1.symm)
      | (go_at_call 68; (with_reducible refine hj.mono ?_); rintro z w1 ⟨rfl, hw1⟩; obtain rfl := hw1.symm)
      | (go_at_call 69; (with_reducible refine (hsl _).mono ?_); rintro z w1 ⟨rfl, hw1⟩; obtain rfl := hw1.symm)
      | go_in)
    refine bodyPost_ret (v := .tuple #[.int .i64 0, .int .i64 0, .int .i64 1]) (by simp only [results, Tryz.results110]; go_simp; try rfl) rfl ⟨⟨0, 0, rfl, fun _ => ⟨rfl, rfl⟩⟩, below_alloc (Below.refl _ _) _⟩
set_option maxHeartbeats 8000000 in
set_option maxRecDepth 100000 in
theorem rend_lent (h : DV w0 a v W W A cap s f pi qq L r) (caller n : Int) (t : En) (wr : Bool) (hgood : ¬ endBad caller n t) (hg : t.gr = true) (k pb : Nat) (hf : f t.dom = some ((k : Int), pb)) (ref : Nat) (hr : t.ref = ref) (h32 : ref < 32) :
    Calls Tryz.prog 110 #[.pointer (some ⟨a.hb, 0, none⟩), .pointer (some ⟨v.ub, 0, none⟩), .int .i64 caller, .agg #[.bool t.gr, .int .i64 t.dom, .int .i64 t.ref, .int .i64 t.gpfn, .int .i64 t.off], .int .i64 n, .bool wr] W (EndOut w0 a v W A cap (pokeS s v.ps r) f pi qq L (r + 1) (lentS (pokeS s v.ps r) (pi pb) k caller t.dom ref t.off wr n)) := by
  have hb1 := below_alloc (Below.refl W.heap.size W) (.cells #[.bool t.gr, .int .i64 t.dom, .int .i64 t.ref, .int .i64 t.gpfn, .int .i64 t.off] 29)
  have h1 := (h.below hb1).re
  have hdo := fun W => domain_any caller W
  have hc8 : 0 ≤ caller ∧ caller < 8 := by unfold endBad at hgood; omega
  have d1 : decide (n < 0) = false := decide_eq_false (by unfold endBad at hgood; omega)
  have d2 : decide (t.off < 0) = false := decide_eq_false (by unfold endBad at hgood; omega)
  rw [decide_eq_true hc8.1, decide_eq_true hc8.2] at hdo
  have hj := rjoined h1.dw t.dom
  rw [hf] at hj
  simp only [Option.isSome_some] at hj
  have hsl := fun W => rslot_any t.ref W
  have hsB : slotB t.ref = true := by unfold slotB; rw [hr]; simp; omega
  rw [hsB] at hsl
  have hrd := rread h1 t.dom k pb hf ref h32 caller
  rw [← hr] at hrd
  obtain ⟨s1, hs1⟩ : ∃ s1, s1 = pokeS s v.ps r := ⟨_, rfl⟩
  rw [← hs1] at hrd ⊢
  obtain ⟨q, hq⟩ : ∃ q, q = lentS s1 (pi pb) k caller t.dom ref t.off wr n := ⟨_, rfl⟩
  rw [← hq]
  obtain ⟨R, hR⟩ : ∃ R, R = rdR s1 (pi pb) k caller t.dom ref := ⟨_, rfl⟩
  rw [← hR] at hrd
  have hcase := lent_cases s1 (pi pb) k caller t.dom ref t.off wr n R hR q hq
  have hof := rd_of s1 (pi pb) k caller t.dom ref
  rw [← hR] at hof
  obtain ⟨g, mf, er⟩ := R
  simp only at hcase hof hrd
  have hwi := fun W => rwithin t.off n g.le hof.2.1 (by omega) W
  unfold aggv at hrd
  rw [hg]
  rw [hg] at hb1 h1 hj hrd
  have hlv := h.lt
  have HR := fun (w1 : World) (hc : DV w0 a v (W.alloc (.cells #[.bool true, .int .i64 t.dom, .int .i64 t.ref, .int .i64 t.gpfn, .int .i64 t.off] 29)) w1 A cap s1 f pi qq L (r + 1)) => hc.bl (blk_new W _) hlv.1 hlv.2
  have HB := Base.Aside.mk hb1
  have o1 := hof.1
  have o2 : g.of ≤ 256 := by omega
  have o3 : inn t.off n g.le = true → 0 ≤ t.off ∧ t.off ≤ 256 := by
    intro hi
    simp [inn] at hi
    omega
  clear h h1 hb1 hq hR hs1 hf hsB hlv hof hr h32 hg hgood
  rcases hcase with ⟨rfl, hq⟩ | ⟨rfl, p1, hq⟩ | ⟨rfl, p1, rfl, p2, hq⟩ | ⟨rfl, p1, p2, p3, hq⟩ | ⟨rfl, p1, p2, p3, hq⟩
  · have HQ := Base.Aside.mk hq
    clear hq o3
    go_enter Tryz.func110, Tryz.ntmps110
    go_wp2_with (first
      | (go_at_call 48; (with_reducible refine (hdo _).mono ?_); rintro z w1 ⟨rfl, hw1⟩; obtain rfl := hw1.symm)
      | (go_at_call 68; (with_reducible refine hj.mono ?_); rintro z w1 ⟨rfl, hw1⟩; obtain rfl := hw1.symm)
      | (go_at_call 69; (with_reducible refine (hsl _).mono ?_); rintro z w1 ⟨rfl, hw1⟩; obtain rfl := hw1.symm)
      | (go_at_call 71; (with_reducible refine hrd.mono ?_); rintro z w2 ⟨rfl, hV2⟩; have hres := HR w2 hV2; have C2 := fun i => blk_cell hres i; have L2 := blk_lt hres; have E1 := Base.Aside.mk hV2; clear hV2 hres)
      | (go_at_call 80; (with_reducible refine (hwi _).mono ?_); rintro z w6 ⟨rfl, hw6⟩; obtain rfl := hw6.symm)
      | go_in)
    refine bodyPost_ret (v := .tuple #[.int .i64 0, .int .i64 0, .int .i64 60]) (by simp only [results, Tryz.results110]; go_simp; try rfl) rfl ⟨⟨0, 0, by rw [HQ.out], fun h => absurd (HQ.out.symm.trans h) (by decide)⟩, ?_⟩
    exact (DV.pre HB.out E1.out).below (below_alloc (Below.refl _ _) _)
  · have HQ := Base.Aside.mk hq
    clear hq o3
    go_enter Tryz.func110, Tryz.ntmps110
    go_wp2_with (first
      | (go_at_call 48; (with_reducible refine (hdo _).mono ?_); rintro z w1 ⟨rfl, hw1⟩; obtain rfl := hw1.symm)
      | (go_at_call 68; (with_reducible refine hj.mono ?_); rintro z w1 ⟨rfl, hw1⟩; obtain rfl := hw1.symm)
      | (go_at_call 69; (with_reducible refine (hsl _).mono ?_); rintro z w1 ⟨rfl, hw1⟩; obtain rfl := hw1.symm)
      | (go_at_call 71; (with_reducible refine hrd.mono ?_); rintro z w2 ⟨rfl, hV2⟩; have hres := HR w2 hV2; have C2 := fun i => blk_cell hres i; have L2 := blk_lt hres; have E1 := Base.Aside.mk hV2; clear hV2 hres)
      | (go_at_call 80; (with_reducible refine (hwi _).mono ?_); rintro z w6 ⟨rfl, hw6⟩; obtain rfl := hw6.symm)
      | go_in)
    refine bodyPost_ret (v := .tuple #[.int .i64 0, .int .i64 0, .int .i64 60]) (by simp only [results, Tryz.results110]; go_simp; try rfl) rfl ⟨⟨0, 0, by rw [HQ.out], fun h => absurd (HQ.out.symm.trans h) (by decide)⟩, ?_⟩
    exact (DV.pre HB.out E1.out).below (below_alloc (Below.refl _ _) _)
  · have HQ := Base.Aside.mk hq
    clear hq o3
    go_enter Tryz.func110, Tryz.ntmps110
    go_wp2_with (first
      | (go_at_call 48; (with_reducible refine (hdo _).mono ?_); rintro z w1 ⟨rfl, hw1⟩; obtain rfl := hw1.symm)
      | (go_at_call 68; (with_reducible refine hj.mono ?_); rintro z w1 ⟨rfl, hw1⟩; obtain rfl := hw1.symm)
      | (go_at_call 69; (with_reducible refine (hsl _).mono ?_); rintro z w1 ⟨rfl, hw1⟩; obtain rfl := hw1.symm)
      | (go_at_call 71; (with_reducible refine hrd.mono ?_); rintro z w2 ⟨rfl, hV2⟩; have hres := HR w2 hV2; have C2 := fun i => blk_cell hres i; have L2 := blk_lt hres; have E1 := Base.Aside.mk hV2; clear hV2 hres)
      | (go_at_call 80; (with_reducible refine (hwi _).mono ?_); rintro z w6 ⟨rfl, hw6⟩; obtain rfl := hw6.symm)
      | go_in)
    refine bodyPost_ret (v := .tuple #[.int .i64 0, .int .i64 0, .int .i64 62]) (by simp only [results, Tryz.results110]; go_simp; try rfl) rfl ⟨⟨0, 0, by rw [HQ.out], fun h => absurd (HQ.out.symm.trans h) (by decide)⟩, ?_⟩
    exact (DV.pre HB.out E1.out).below (below_alloc (Below.refl _ _) _)
  · have HQ := Base.Aside.mk hq
    rw [p3] at hwi
    clear hq o3 p3
    rcases p2 with rfl | ⟨rfl, p2⟩
    · go_enter Tryz.func110, Tryz.ntmps110
      go_wp2_with (first
        | (go_at_call 48; (with_reducible refine (hdo _).mono ?_); rintro z w1 ⟨rfl, hw1⟩; obtain rfl := hw1.symm)
        | (go_at_call 68; (with_reducible refine hj.mono ?_); rintro z w1 ⟨rfl, hw1⟩; obtain rfl := hw1.symm)
        | (go_at_call 69; (with_reducible refine (hsl _).mono ?_); rintro z w1 ⟨rfl, hw1⟩; obtain rfl := hw1.symm)
        | (go_at_call 71; (with_reducible refine hrd.mono ?_); rintro z w2 ⟨rfl, hV2⟩; have hres := HR w2 hV2; have C2 := fun i => blk_cell hres i; have L2 := blk_lt hres; have E1 := Base.Aside.mk hV2; clear hV2 hres)
        | (go_at_call 80; (with_reducible refine (hwi _).mono ?_); rintro z w6 ⟨rfl, hw6⟩; obtain rfl := hw6.symm)
        | go_in)
      refine bodyPost_ret (v := .tuple #[.int .i64 0, .int .i64 0, .int .i64 63]) (by simp only [results, Tryz.results110]; go_simp; try rfl) rfl ⟨⟨0, 0, by rw [HQ.out], fun h => absurd (HQ.out.symm.trans h) (by decide)⟩, ?_⟩
      exact (DV.pre HB.out E1.out).below (below_alloc (Below.refl _ _) _)
    · go_enter Tryz.func110, Tryz.ntmps110
      go_wp2_with (first
        | (go_at_call 48; (with_reducible refine (hdo _).mono ?_); rintro z w1 ⟨rfl, hw1⟩; obtain rfl := hw1.symm)
        | (go_at_call 68; (with_reducible refine hj.mono ?_); rintro z w1 ⟨rfl, hw1⟩; obtain rfl := hw1.symm)
        | (go_at_call 69; (with_reducible refine (hsl _).mono ?_); rintro z w1 ⟨rfl, hw1⟩; obtain rfl := hw1.symm)
        | (go_at_call 71; (with_reducible refine hrd.mono ?_); rintro z w2 ⟨rfl, hV2⟩; have hres := HR w2 hV2; have C2 := fun i => blk_cell hres i; have L2 := blk_lt hres; have E1 := Base.Aside.mk hV2; clear hV2 hres)
        | (go_at_call 80; (with_reducible refine (hwi _).mono ?_); rintro z w6 ⟨rfl, hw6⟩; obtain rfl := hw6.symm)
        | go_in)
      refine bodyPost_ret (v := .tuple #[.int .i64 0, .int .i64 0, .int .i64 63]) (by simp only [results, Tryz.results110]; go_simp; try rfl) rfl ⟨⟨0, 0, by rw [HQ.out], fun h => absurd (HQ.out.symm.trans h) (by decide)⟩, ?_⟩
      exact (DV.pre HB.out E1.out).below (below_alloc (Below.refl _ _) _)
  · subst hq
    obtain ⟨o4, o5⟩ := o3 p3
    rw [p3] at hwi
    clear o3 p3
    rcases p2 with rfl | ⟨rfl, p2⟩
    · go_enter Tryz.func110, Tryz.ntmps110
      go_wp2_with (first
        | (go_at_call 48; (with_reducible refine (hdo _).mono ?_); rintro z w1 ⟨rfl, hw1⟩; obtain rfl := hw1.symm)
        | (go_at_call 68; (with_reducible refine hj.mono ?_); rintro z w1 ⟨rfl, hw1⟩; obtain rfl := hw1.symm)
        | (go_at_call 69; (with_reducible refine (hsl _).mono ?_); rintro z w1 ⟨rfl, hw1⟩; obtain rfl := hw1.symm)
        | (go_at_call 71; (with_reducible refine hrd.mono ?_); rintro z w2 ⟨rfl, hV2⟩; have hres := HR w2 hV2; have C2 := fun i => blk_cell hres i; have L2 := blk_lt hres; have E1 := Base.Aside.mk hV2; clear hV2 hres)
        | (go_at_call 80; (with_reducible refine (hwi _).mono ?_); rintro z w6 ⟨rfl, hw6⟩; obtain rfl := hw6.symm)
        | go_in)
      go_quiet (fail)
      go_wp2
      refine bodyPost_ret (v := .tuple #[.int .i64 mf, .int .i64 (g.of + t.off), .int .i64 0]) (by simp only [results, Tryz.results110]; go_simp; try rfl) rfl ⟨⟨mf, g.of + t.off, rfl, fun _ => ⟨rfl, rfl⟩⟩, ?_⟩
      exact (DV.pre HB.out E1.out).below (below_drewN (below_alloc (Below.refl _ _) _) _)
    · go_enter Tryz.func110, Tryz.ntmps110
      go_wp2_with (first
        | (go_at_call 48; (with_reducible refine (hdo _).mono ?_); rintro z w1 ⟨rfl, hw1⟩; obtain rfl := hw1.symm)
        | (go_at_call 68; (with_reducible refine hj.mono ?_); rintro z w1 ⟨rfl, hw1⟩; obtain rfl := hw1.symm)
        | (go_at_call 69; (with_reducible refine (hsl _).mono ?_); rintro z w1 ⟨rfl, hw1⟩; obtain rfl := hw1.symm)
        | (go_at_call 71; (with_reducible refine hrd.mono ?_); rintro z w2 ⟨rfl, hV2⟩; have hres := HR w2 hV2; have C2 := fun i => blk_cell hres i; have L2 := blk_lt hres; have E1 := Base.Aside.mk hV2; clear hV2 hres)
        | (go_at_call 80; (with_reducible refine (hwi _).mono ?_); rintro z w6 ⟨rfl, hw6⟩; obtain rfl := hw6.symm)
        | go_in)
      go_quiet (fail)
      go_wp2
      refine bodyPost_ret (v := .tuple #[.int .i64 mf, .int .i64 (g.of + t.off), .int .i64 0]) (by simp only [results, Tryz.results110]; go_simp; try rfl) rfl ⟨⟨mf, g.of + t.off, rfl, fun _ => ⟨rfl, rfl⟩⟩, ?_⟩
      exact (DV.pre HB.out E1.out).below (below_drewN (below_alloc (Below.refl _ _) _) _)
/-- The document's end, at every argument. -/
theorem rend_any (h : DV w0 a v W W A cap s f pi qq L r) (caller n : Int) (t : En) (wr : Bool) :
    Calls Tryz.prog 110 #[.pointer (some ⟨a.hb, 0, none⟩), .pointer (some ⟨v.ub, 0, none⟩), .int .i64 caller, .agg #[.bool t.gr, .int .i64 t.dom, .int .i64 t.ref, .int .i64 t.gpfn, .int .i64 t.off], .int .i64 n, .bool wr] W (EndOut w0 a v W A cap (pkn s v.ps r (findN f caller t n)) f pi qq L (r + findN f caller t n) (findR (pokeS s v.ps r) f pi caller t n wr)) := by
  by_cases hb : endBad caller n t
  · have e1 : findR (pokeS s v.ps r) f pi caller t n wr = ((0, 0), 1) := if_pos hb
    have e2 : findN f caller t n = 0 := if_pos hb
    rw [e1, e2]
    exact (rend_bad W _ _ caller n t wr hb).mono fun e w' h1 => ⟨h1.1, h.below h1.2⟩
  · have e1 : findR (pokeS s v.ps r) f pi caller t n wr = if t.gr then lentR (pokeS s v.ps r) f pi caller t.dom t.ref t.off wr n else ownR f pi caller t.gpfn t.off n := if_neg hb
    have e2 : findN f caller t n = if t.gr then lentN f t.dom t.ref else 0 := if_neg hb
    cases hg : t.gr with
    | false =>
      rw [hg, if_neg (by decide)] at e1 e2
      rw [e1, e2, ← hg]
      exact (rend_own h.dw _ caller n t wr hb hg).mono fun e w' h1 => ⟨h1.1, h.below h1.2⟩
    | true =>
      rw [hg, if_pos rfl] at e1 e2
      rw [e1, e2, ← hg]
      cases hf : f t.dom with
      | none =>
        have e3 : lentR (pokeS s v.ps r) f pi caller t.dom t.ref t.off wr n = ((0, 0), 1) := by unfold lentR; rw [hf]
        have e4 : lentN f t.dom t.ref = 0 := by unfold lentN; rw [hf]; rfl
        rw [e3, e4]
        exact (rend_arg h.dw _ caller n t wr hb hg (.inl hf)).mono fun e w' h1 => ⟨h1.1, h.below h1.2⟩
      | some x =>
        cases hs : slotB t.ref with
        | false =>
          have e3 : lentR (pokeS s v.ps r) f pi caller t.dom t.ref t.off wr n = ((0, 0), 1) := by unfold lentR; rw [hf]; simp [hs]
          have e4 : lentN f t.dom t.ref = 0 := by unfold lentN; rw [hs]; simp
          rw [e3, e4]
          exact (rend_arg h.dw _ caller n t wr hb hg (.inr hs)).mono fun e w' h1 => ⟨h1.1, h.below h1.2⟩
        | true =>
          have e4 : lentN f t.dom t.ref = 1 := by unfold lentN; rw [hf, hs]; rfl
          obtain ⟨x1, pb⟩ := x
          obtain ⟨k, hk1, hk⟩ := (h.dw.d t.dom _ hf).2
          simp only at hk1
          subst hk1
          have hs2 := hs
          simp [slotB] at hs2
          obtain ⟨ref, hr⟩ : ∃ ref : Nat, t.ref = ref := ⟨t.ref.toNat, by omega⟩
          have e3 : lentR (pokeS s v.ps r) f pi caller t.dom t.ref t.off wr n = lentS (pokeS s v.ps r) (pi pb) k caller t.dom ref t.off wr n := by
            unfold lentR
            rw [hf]
            simp only [hr, Int.toNat_natCast]
            rw [if_neg (by rw [← hr, hs]; decide)]
          rw [e3, e4]
          exact rend_lent h caller n t wr hb hg k pb hf ref hr (by omega)
end
end Go.Proofs.YthlejchcnfdcpaaGreat.GyI
namespace Go.Proofs.YthlejchcnfdcpaaGreat.GyN
open Go.RowKit Go.Maps Base GaA GaB GaC GaD GmB GmC GpA GeA GeB GfA GfB GfC GfD GjA GjC GwA GwB GwF RpA RmA RmB RgA GxA GxB GxC GxD GyA GyB GyC GyD GyE GyF
set_option linter.unusedVariables false
set_option linter.unusedSimpArgs false

/-- n is a caller's least free handle, 16 if all are taken. -/
structure Least (F : Int × Int → Option Mp) (c : Int) (n : Nat) : Prop where
  le : n ≤ 16
  lo : ∀ j : Nat, j < n → (F (c, (j : Int))).isSome = true
  hi : n < 16 → F (c, (n : Int)) = none
section
variable {w0 w w' W W0 W' : World} {a : DA} {v : DVA} {A : Option Addr} {cap : Nat} {s s' : MS} {f : Int → Option (Int × Nat)} {pi : Nat → PI} {qq : Nat → Nat × Nat × Nat} {L : List Mp} {F : Int × Int → Option Mp} {r : Nat}
theorem rread_any (h : DV w0 a v W W A cap s f pi qq L r) (d : Int) (k pb : Nat) (hd : f d = some ((k : Int), pb)) (ref : Nat) (h32 : ref < 32) (caller : Int) :
    Calls Tryz.prog 71 #[.pointer (some ⟨a.hb, 0, none⟩), .pointer (some ⟨v.ub, 0, none⟩), .int .i64 caller, .int .i64 d, .int .i64 ref] W fun e w' =>
      e = .returned (.tuple #[aggv (rdR (pokeS s v.ps r) (pi pb) k caller d ref).1, .int .i64 (rdR (pokeS s v.ps r) (pi pb) k caller d ref).2.1, .int .i64 (rdR (pokeS s v.ps r) (pi pb) k caller d ref).2.2]) ∧ DV w0 a v W w' A cap (pokeS s v.ps r) f pi qq L (r + 1) := by
  by_cases hp : permE (ent (pokeS s v.ps r) k ref) caller = 0
  · exact rread_ok h d k pb hd ref h32 caller hp
  · exact rread_no h d k pb hd ref h32 caller hp
/-- find, told by a number. -/
theorem rfind_n (h : DW W a A cap s f pi qq L) (hL : Lk F L) (d : Int) (j : Nat) :
    Calls Tryz.prog 70 #[.pointer (some ⟨a.hb, 0, none⟩), .int .i64 d, .int .i64 j] W fun e w' => (∃ x : Int, e = .returned (.int .i64 x) ∧ decide (0 ≤ x) = (F (d, (j : Int))).isSome) ∧ w' = W := by
  refine (rfind h hL d j).mono ?_
  rintro e w' ⟨⟨i, hi, h1, h2⟩ | ⟨h1, h2⟩, hw⟩
  · exact ⟨⟨i, h2, by rw [h1]; simp⟩, hw⟩
  · exact ⟨⟨-1, h2, by rw [h1]; rfl⟩, hw⟩
set_option maxHeartbeats 8000000 in
set_option maxRecDepth 100000 in
theorem rmap_arg (h : DW W a A cap s f pi qq L) (ub : Nat) (caller owner ref : Int) (wr : Bool) (hb : ¬ (0 ≤ caller ∧ caller < 8) ∨ f owner = none ∨ slotB ref = false) :
    Calls Tryz.prog 23 #[.pointer (some ⟨a.hb, 0, none⟩), .pointer (some ⟨ub, 0, none⟩), .int .i64 caller, .int .i64 owner, .int .i64 ref, .bool wr] W fun e w' => e = .returned (.tuple #[.int .i64 0, .int .i64 1]) ∧ w' = W := by
  have hjo := rjoined h owner
  have hso := rslot_any ref
  have hdo := fun W => domain_any caller W
  have hcase : (decide (0 ≤ caller) && decide (caller < 8)) = false ∨ ((decide (0 ≤ caller) && decide (caller < 8)) = true ∧ (f owner).isSome = false) ∨ ((decide (0 ≤ caller) && decide (caller < 8)) = true ∧ (f owner).isSome = true ∧ slotB ref = false) := by
    by_cases hc : 0 ≤ caller ∧ caller < 8
    · have e1 : (decide (0 ≤ caller) && decide (caller < 8)) = true := by simp [hc]
      cases h2 : f owner with
      | none => exact .inr (.inl ⟨e1, rfl⟩)
      | some x =>
        rcases hb with hb | hb | hb
        · exact absurd hc hb
        · rw [h2] at hb; cases hb
        · exact .inr (.inr ⟨e1, rfl, hb⟩)
    · exact .inl (by simp; omega)
  generalize (decide (0 ≤ caller) && decide (caller < 8)) = b1 at hdo hcase
  generalize (f owner).isSome = b2 at hjo hcase
  generalize slotB ref = b3 at hso hcase
  clear h hb
  rcases hcase with rfl | ⟨rfl, rfl⟩ | ⟨rfl, rfl, rfl⟩
  all_goals
    go_enter Tryz.func23, Tryz.ntmps23
    go_wp2_with (first
      | (go_at_call 48; (with_reducible refine (hdo _).mono ?_); rintro z w9 ⟨rfl, hw9⟩; obtain rfl := hw9.symm)
      | (go_at_call 68; (with_reducible refine hjo.mono ?_); rintro z w1 ⟨rfl, hw1⟩; obtain rfl := hw1.symm)
      | (go_at_call 69; (with_reducible refine (hso _).mono ?_); rintro z w9 ⟨rfl, hw9⟩; obtain rfl := hw9.symm)
      | go_in)
    go_ret2
    exact ⟨by first | rfl | (simp; done), by first | rfl | trivial⟩
set_option maxHeartbeats 8000000 in
set_option maxRecDepth 100000 in
theorem rmap_full (h : DW W a A cap s f pi qq L) (hL : Lk F L) (ub : Nat) (caller : Int) (hc : 0 ≤ caller ∧ caller < 8) (owner : Int) (hf : (f owner).isSome = true) (ref : Nat) (h32 : ref < 32) (wr : Bool) (hl : Least F caller 16) :
    Calls Tryz.prog 23 #[.pointer (some ⟨a.hb, 0, none⟩), .pointer (some ⟨ub, 0, none⟩), .int .i64 caller, .int .i64 owner, .int .i64 ref, .bool wr] W fun e w' => e = .returned (.tuple #[.int .i64 0, .int .i64 64]) ∧ w' = W := by
  have hjo := rjoined h owner
  rw [hf] at hjo
  have hsl : slotB (ref : Int) = true := by unfold slotB; simp; omega
  have hso := rslot_any ref
  rw [hsl] at hso
  have hdo := fun W => domain_any caller W
  have hb : (decide (0 ≤ caller) && decide (caller < 8)) = true := by simp [hc]
  rw [hb] at hdo
  have hfi := rfind_n h hL caller
  have HL := Base.Aside.mk hl.lo
  clear h hf hsl hb hl
  go_enter Tryz.func23, Tryz.ntmps23
  go_wp2_with (first
    | (go_at_call 48; (with_reducible refine (hdo _).mono ?_); rintro z w9 ⟨rfl, hw9⟩; obtain rfl := hw9.symm)
    | (go_at_call 68; (with_reducible refine hjo.mono ?_); rintro z w1 ⟨rfl, hw1⟩; obtain rfl := hw1.symm)
    | (go_at_call 69; (with_reducible refine (hso _).mono ?_); rintro z w9 ⟨rfl, hw9⟩; obtain rfl := hw9.symm)
    | go_in)
  go_loopw [14] (fun i wr => ∃ j : Nat, j ≤ 16 ∧ i = .int .i64 j ∧ wr = W) (fun i _ => 16 - (intOf i).toNat)
  case atStart => exact ⟨0, Nat.zero_le _, rfl, rfl⟩
  case round =>
    obtain ⟨j, hj, rfl, hwr⟩ := hrel
    obtain rfl := hwr.symm
    by_cases hlt : j < 16
    · have hf2 := hfi j
      rw [HL.out j hlt] at hf2
      go_wp2_with (first
        | (go_at_call 70; (with_reducible refine hf2.mono ?_); rintro z w9 ⟨⟨x, rfl, hx⟩, hw9⟩; obtain rfl := hw9.symm)
        | go_in)
      exact ⟨⟨j + 1, by omega, by simp, trivial⟩, by simp [intOf]; omega⟩
    · obtain rfl : j = 16 := by omega
      clear hlt hj
      go_wp2
      go_ret2
      exact ⟨by first | rfl | (simp; done), by first | rfl | trivial⟩
set_option maxHeartbeats 8000000 in
set_option maxRecDepth 100000 in
theorem rmap_no (h : DV w0 a v W W A cap s f pi qq L r) (hL : Lk F L) (caller : Int) (hc : 0 ≤ caller ∧ caller < 8) (owner : Int) (k pb : Nat) (hd : f owner = some ((k : Int), pb)) (ref : Nat) (h32 : ref < 32) (wr : Bool) (n : Nat) (hl : Least F caller n) (hn : n < 16)
    (R : Gr × Int × Int) (hR : rdR (pokeS s v.ps r) (pi pb) k caller owner ref = R) (er : Int) (her : er = if R.2.2 ≠ 0 then R.2.2 else if R.1.sb = true then 61 else if (wr && R.1.ro) = true then 62 else 60) (hbad : R.2.2 ≠ 0 ∨ R.1.sb = true ∨ (wr && R.1.ro) = true ∨ R.2.1 < 0) :
    Calls Tryz.prog 23 #[.pointer (some ⟨a.hb, 0, none⟩), .pointer (some ⟨v.ub, 0, none⟩), .int .i64 caller, .int .i64 owner, .int .i64 ref, .bool wr] W fun e w' => e = .returned (.tuple #[.int .i64 0, .int .i64 er]) ∧ DV w0 a v W w' A cap (pokeS s v.ps r) f pi qq L (r + 1) := by
  have hjo := rjoined h.dw owner
  rw [hd] at hjo
  simp only [Option.isSome_some] at hjo
  have hsl : slotB (ref : Int) = true := by unfold slotB; simp; omega
  have hso := rslot_any ref
  rw [hsl] at hso
  have hdo := fun W => domain_any caller W
  have hb : (decide (0 ≤ caller) && decide (caller < 8)) = true := by simp [hc]
  rw [hb] at hdo
  have hfi := rfind_n h.dw hL caller
  have hrd := rread_any h owner k pb hd ref h32 caller
  rw [hR] at hrd
  have HL := Base.Aside.mk (And.intro hl.lo hl.hi)
  clear h hd hsl hb hl hR
  obtain ⟨⟨g1, g2, g3, g4, g5, g6, g7⟩, R1, R2⟩ := R
  unfold aggv at hrd
  simp only at hrd hbad her
  have hcase : (R2 ≠ 0 ∧ (R2 != 0) = true ∧ er = R2) ∨ ((R2 != 0) = false ∧ g3 = true ∧ er = 61) ∨ ((R2 != 0) = false ∧ g3 = false ∧ wr = true ∧ g2 = true ∧ er = 62) ∨ ((R2 != 0) = false ∧ g3 = false ∧ wr = true ∧ g2 = false ∧ decide (R1 < 0) = true ∧ er = 60) ∨ ((R2 != 0) = false ∧ g3 = false ∧ wr = false ∧ decide (R1 < 0) = true ∧ er = 60) := by
    by_cases q : R2 = 0
    · rw [if_neg (fun h => h q)] at her
      have q1 : (R2 != 0) = false := by simp [q]
      cases g3 with
      | true => exact .inr (.inl ⟨q1, rfl, by simpa using her⟩)
      | false =>
        cases wr with
        | true =>
          cases g2 with
          | true => exact .inr (.inr (.inl ⟨q1, rfl, rfl, rfl, by simpa using her⟩))
          | false => exact .inr (.inr (.inr (.inl ⟨q1, rfl, rfl, rfl, by simpa [q] using hbad, by simpa using her⟩)))
        | false => exact .inr (.inr (.inr (.inr ⟨q1, rfl, rfl, by simpa [q] using hbad, by simpa using her⟩)))
    · exact .inl ⟨q, by simp [q], by rw [if_pos q] at her; exact her⟩
  clear hbad her
  rcases hcase with ⟨_, d1, rfl⟩ | ⟨d1, rfl, rfl⟩ | ⟨d1, rfl, rfl, rfl, rfl⟩ | ⟨d1, rfl, rfl, rfl, d2, rfl⟩ | ⟨d1, rfl, rfl, d2, rfl⟩
  all_goals
    go_enter Tryz.func23, Tryz.ntmps23
    go_wp2_with (first
      | (go_at_call 48; (with_reducible refine (hdo _).mono ?_); rintro z w9 ⟨rfl, hw9⟩; obtain rfl := hw9.symm)
      | (go_at_call 68; (with_reducible refine hjo.mono ?_); rintro z w1 ⟨rfl, hw1⟩; obtain rfl := hw1.symm)
      | (go_at_call 69; (with_reducible refine (hso _).mono ?_); rintro z w9 ⟨rfl, hw9⟩; obtain rfl := hw9.symm)
      | go_in)
    go_loopw [14] (fun i wr => ∃ j : Nat, j ≤ n ∧ i = .int .i64 j ∧ wr = W) (fun i _ => 16 - (intOf i).toNat)
    case atStart => exact ⟨0, Nat.zero_le _, rfl, rfl⟩
    case round =>
      obtain ⟨j, hj, rfl, hwr⟩ := hrel
      obtain rfl := hwr.symm
      have e3 : (j : Int) < 16 := by omega
      by_cases hlt : j < n
      · have hf2 := hfi j
        rw [HL.out.1 j hlt] at hf2
        clear hrd
        go_wp2_with (first
          | (go_at_call 70; (with_reducible refine hf2.mono ?_); rintro z w9 ⟨⟨x, rfl, hx⟩, hw9⟩; obtain rfl := hw9.symm)
          | go_in)
        exact ⟨⟨j + 1, by omega, by simp, trivial⟩, by simp [intOf]; omega⟩
      · obtain rfl : j = n := by omega
        have hf2 := hfi j
        rw [HL.out.2 hn] at hf2
        simp only [Option.isSome_none] at hf2
        have d9 : ((j : Int) == 16) = false := by simp; omega
        clear hlt hj
        go_wp2_with (first
          | (go_at_call 70; (with_reducible refine hf2.mono ?_); rintro z w9 ⟨⟨x, rfl, hx⟩, hw9⟩; obtain rfl := hw9.symm)
          | (go_at_call 71; (with_reducible refine hrd.mono ?_); rintro z w2 ⟨rfl, hV2⟩; have E2 := Base.Aside.mk hV2; clear hV2)
          | go_in)
        go_ret2
        exact ⟨by first | rfl | (simp; done), E2.out.below (below_alloc (Below.refl _ _) _)⟩
end
end Go.Proofs.YthlejchcnfdcpaaGreat.GyN
