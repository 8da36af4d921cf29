/- Proved: find, at every argument (a contract for the laws of the grants). -/
import Derived.Test.YtjeobbhaoahdcaaGfE
import Derived.Deep.RegionWith
import Derived.Outline
namespace Go.Proofs.Ytjeobbhaoahdcaa.GfF
open Go.RowKit Go.Maps Go.Proofs.Ytjeobbhaoahdcaa.Base Go.Proofs.Ytjeobbhaoahdcaa.GaA Go.Proofs.Ytjeobbhaoahdcaa.GaB Go.Proofs.Ytjeobbhaoahdcaa.GaC Go.Proofs.Ytjeobbhaoahdcaa.GmA Go.Proofs.Ytjeobbhaoahdcaa.GmB Go.Proofs.Ytjeobbhaoahdcaa.GpA Go.Proofs.Ytjeobbhaoahdcaa.GgA Go.Proofs.Ytjeobbhaoahdcaa.GeA Go.Proofs.Ytjeobbhaoahdcaa.GeB Go.Proofs.Ytjeobbhaoahdcaa.GfA Go.Proofs.Ytjeobbhaoahdcaa.GfB Go.Proofs.Ytjeobbhaoahdcaa.GfC Go.Proofs.Ytjeobbhaoahdcaa.GfD Go.Proofs.Ytjeobbhaoahdcaa.GfE Go.Proofs.Ytjeobbhaoahdcaa.GvA
set_option linter.unusedVariables false
set_option linter.unusedSimpArgs false

/-- An end. -/
structure En where
  gr : Bool
  dom : Int
  ref : Int
  gpfn : Int
  off : Int
def env (t : En) : Value := .agg #[.bool t.gr, .int .i64 t.dom, .int .i64 t.ref, .int .i64 t.gpfn, .int .i64 t.off]
def endBad (caller n : Int) (t : En) : Prop := ¬ (0 ≤ caller ∧ caller < 8) ∨ n < 0 ∨ t.off < 0
instance (caller n : Int) (t : En) : Decidable (endBad caller n t) := by unfold endBad; infer_instance
def findR (s : MS) (f : Int → Option (Int × Nat)) (pi : Nat → PI) (caller : Int) (t : En) (n : Int) (wr : Bool) : (Int × Int) × Int :=
  if endBad caller n t then ((0, 0), 1) else if t.gr then lentR s f pi caller t.dom t.ref t.off wr n else ownR f pi caller t.gpfn t.off n
def findN (f : Int → Option (Int × Nat)) (caller : Int) (t : En) (n : Int) : Nat := if endBad caller n t then 0 else if t.gr then lentN f t.dom t.ref else 0
theorem assert_lent (W : World) (a b c : Int) (x : Bool) : (Instr.typeAssert (.iface 171 (.agg #[.int .i64 a, .int .i64 b, .int .i64 c, .bool x])) 169 171 true).run Try.prog W = .ok (.tuple #[.agg #[.int .i64 a, .int .i64 b, .int .i64 c, .bool x], .bool true]) W := by kernel_rfl
theorem assert_own (W : World) (a b : Int) : (Instr.typeAssert (.iface 167 (.agg #[.int .i64 a, .int .i64 b])) 169 171 true).run Try.prog W = .ok (.tuple #[.agg #[.int .i64 0, .int .i64 0, .int .i64 0, .bool false], .bool false]) W := by kernel_rfl
theorem method_lent (W : World) (a b c : Int) (x : Bool) : (method 293 171 (.agg #[.int .i64 a, .int .i64 b, .int .i64 c, .bool x]) "tenement/grant.find").run Try.prog W = .ok (111, .agg #[.int .i64 a, .int .i64 b, .int .i64 c, .bool x]) W := by kernel_rfl
theorem method_own (W : World) (a b : Int) : (method 293 167 (.agg #[.int .i64 a, .int .i64 b]) "tenement/grant.find").run Try.prog W = .ok (110, .agg #[.int .i64 a, .int .i64 b]) W := by kernel_rfl
section
variable {w w' W : World} {gb mm hm mb fb : Nat} {f : Int → Option (Int × Nat)} {c : Nat} {s : MS} {pi : Nat → PI} {vb db r r' : Nat}
set_option maxHeartbeats 8000000 in
set_option maxRecDepth 100000 in
theorem find_bad (h : GW w gb mm hm mb fb s f c pi) (hV : V2 w vb db mb r) (caller n : Int) (t : En) (wr : Bool) (hb : endBad caller n t) :
    Calls Try.prog 50 #[.pointer (some ⟨gb, 0, none⟩), .pointer (some ⟨vb, 0, none⟩), .int .i64 caller, .agg #[.bool t.gr, .int .i64 t.dom, .int .i64 t.ref, .int .i64 t.gpfn, .int .i64 t.off], .int .i64 n, .bool wr] w fun e w' =>
      e = .returned (.tuple #[.agg #[.int .i64 0, .int .i64 0], .int .i64 1]) ∧ Vw vb db mb w w' r := by
  have hb2 : Below w.heap.size w ((w.alloc (.cells #[.bool t.gr, .int .i64 t.dom, .int .i64 t.ref, .int .i64 t.gpfn, .int .i64 t.off] 24)).alloc (.cells #[.int .i64 0, .int .i64 0] 123)) := below_alloc (below_alloc (Below.refl _ _) _) _
  have hno := GgA.none_calls (h.below hb2).g
  have hun := unmade_calls (hV.below hb2)
  have hdo := fun W => GgA.domain_calls caller W
  have HB := Base.Aside.mk (Vw.refl hV)
  obtain ⟨gr, dom, ref, gpfn, off⟩ := t
  simp only at hb ⊢
  clear h hV hb2
  have hcase : (decide (0 ≤ caller) && decide (caller < 8)) = false ∨ ((decide (0 ≤ caller) && decide (caller < 8)) = true ∧ decide (n < 0) = true) ∨ ((decide (0 ≤ caller) && decide (caller < 8)) = true ∧ decide (n < 0) = false ∧ decide (off < 0) = true) := by
    unfold endBad at hb
    simp only at hb
    by_cases h1 : 0 ≤ caller ∧ caller < 8
    · by_cases h2 : n < 0
      · exact .inr (.inl ⟨by simp [h1.1, h1.2], by simp [h2]⟩)
      · exact .inr (.inr ⟨by simp [h1.1, h1.2], by simp; omega, by simp; omega⟩)
    · refine .inl ?_
      simp
      omega
  clear hb
  rcases hcase with hc | ⟨hc, hc2⟩ | ⟨hc, hc2, hc3⟩
  all_goals
    rw [hc] at hdo
    clear hc
    go_enter Try.func50, Try.ntmps50
    go_wp2_with (first
      | (go_at_call 53; refine hno.mono ?_; rintro z w1 ⟨rfl, hw1⟩; obtain rfl := hw1.symm)
      | (go_at_call 54; refine hun.mono ?_; rintro z w1 ⟨rfl, hw1⟩; obtain rfl := hw1.symm)
      | (go_at_call 55; refine (hdo _).mono ?_; rintro z w1 ⟨rfl, hw1⟩; obtain rfl := hw1.symm)
      | go_in)
    refine bodyPost_ret (v := .tuple #[.agg #[.int .i64 0, .int .i64 0], .int .i64 1]) ?_ rfl ⟨rfl, ?_⟩
    · simp only [results, Try.results50]
      first | (go_simp; done) | (go_simp; rfl)
    · repeat (with_reducible first | exact HB.out | refine Vw.alloc ?_ _ | (refine Vw.set ?_ ?_ _ _; rotate_left; omega))
set_option maxHeartbeats 8000000 in
set_option maxRecDepth 100000 in
theorem find_lent (h : GW w gb mm hm mb fb s f c pi) (hV : V2 w vb db mb r) (hr : 0 ≤ r) (caller n : Int) (t : En) (ht : t.gr = true) (hd : okI t.dom) (wr : Bool) (hb : ¬ endBad caller n t) :
    Calls Try.prog 50 #[.pointer (some ⟨gb, 0, none⟩), .pointer (some ⟨vb, 0, none⟩), .int .i64 caller, .agg #[.bool t.gr, .int .i64 t.dom, .int .i64 t.ref, .int .i64 t.gpfn, .int .i64 t.off], .int .i64 n, .bool wr] w fun e w' =>
      e = .returned (.tuple #[.agg #[.int .i64 (lentR s f pi caller t.dom t.ref t.off wr n).1.1, .int .i64 (lentR s f pi caller t.dom t.ref t.off wr n).1.2], .int .i64 (lentR s f pi caller t.dom t.ref t.off wr n).2]) ∧ Vw vb db mb w w' (r + lentN f t.dom t.ref) := by
  have hb2 : Below w.heap.size w ((w.alloc (.cells #[.bool t.gr, .int .i64 t.dom, .int .i64 t.ref, .int .i64 t.gpfn, .int .i64 t.off] 24)).alloc (.cells #[.int .i64 0, .int .i64 0] 123)) := below_alloc (below_alloc (Below.refl _ _) _) _
  have hno := GgA.none_calls (h.below hb2).g
  have hun := unmade_calls (hV.below hb2)
  unfold endBad at hb
  have hdo := fun W => GgA.domain_in caller (by omega) (by omega) W
  have hle := fun W hW => lent_any (h.below (w' := W) hW) (hV.below hW) hr t.dom t.ref caller t.off n hd wr
  have hta := assert_lent
  have hme := method_lent
  have HB := Base.Aside.mk (Vw.refl hV)
  obtain ⟨gr, dom, ref, gpfn, off⟩ := t
  simp only at hb ht hle hno hun ⊢
  subst ht
  generalize lentR s f pi caller dom ref off wr n = R at hle ⊢
  have d1 : decide (n < 0) = false := decide_eq_false (by omega)
  have d2 : decide (off < 0) = false := decide_eq_false (by omega)
  have hVlt := blk_lt hV.blk
  have hDlt := hV.due.lt
  have hle2 : ∀ W, Below w.heap.size w W → W.heap[w.heap.size + 1]? = some (.cells #[.int .i64 0, .int .i64 0] 123 (0, 0)) → Calls Try.prog 111 #[.agg #[.int .i64 dom, .int .i64 ref, .int .i64 off, .bool wr], .pointer (some ⟨gb, 0, none⟩), .pointer (some ⟨vb, 0, none⟩), .int .i64 caller, .int .i64 n] W fun e w' =>
      e = .returned (.tuple #[.agg #[.int .i64 R.1.1, .int .i64 R.1.2], .int .i64 R.2]) ∧ Vw vb db mb w w' (r + lentN f dom ref) ∧ w'.heap[w.heap.size + 1]? = some (.cells #[.int .i64 0, .int .i64 0] 123 (0, 0)) := fun W hW hk => (hle W hW).mono fun e w' ⟨h1, h2⟩ => ⟨h1, Vw.pre hW hVlt hDlt h2, h2.blk hk (by omega)⟩
  clear h hV hb2 hb hle
  go_enter Try.func50, Try.ntmps50
  go_wp2_with (first
    | (go_at_call 53; refine hno.mono ?_; rintro z w1 ⟨rfl, hw1⟩; obtain rfl := hw1.symm)
    | (go_at_call 54; refine hun.mono ?_; rintro z w1 ⟨rfl, hw1⟩; obtain rfl := hw1.symm)
    | (go_at_call 55; refine (hdo _).mono ?_; rintro z w1 ⟨rfl, hw1⟩; obtain rfl := hw1.symm)
    | (go_at_call 111; with_reducible refine (hle2 _ ?_ ?_).mono ?_; (focus (repeat (with_reducible first | exact Below.refl _ _ | refine below_alloc ?_ _))); (focus exact blk_alloc (blk_newest (by simp) _) _); rintro z w2 ⟨rfl, hv2, hk2⟩; have D2 := (fun i => blk_cell hk2 i); have G2 := (fun i => blk_frozen hk2 i); have M2 := blk_lt hk2; have E2 := Base.Aside.mk hv2; clear hv2)
    | go_in)
  refine bodyPost_ret (v := .tuple #[.agg #[.int .i64 R.1.1, .int .i64 R.1.2], .int .i64 R.2]) ?_ rfl ⟨rfl, ?_⟩
  · simp only [results, Try.results50]
    first | (go_simp; done) | (go_simp; rfl)
  · repeat (with_reducible first | exact E2.out | refine Vw.alloc ?_ _ | (refine Vw.set ?_ ?_ _ _; rotate_left; omega))
set_option maxHeartbeats 8000000 in
set_option maxRecDepth 100000 in
theorem find_own (h : GW w gb mm hm mb fb s f c pi) (hV : V2 w vb db mb r) (caller n : Int) (t : En) (ht : t.gr = false) (wr : Bool) (hb : ¬ endBad caller n t) :
    Calls Try.prog 50 #[.pointer (some ⟨gb, 0, none⟩), .pointer (some ⟨vb, 0, none⟩), .int .i64 caller, .agg #[.bool t.gr, .int .i64 t.dom, .int .i64 t.ref, .int .i64 t.gpfn, .int .i64 t.off], .int .i64 n, .bool wr] w fun e w' =>
      e = .returned (.tuple #[.agg #[.int .i64 (ownR f pi caller t.gpfn t.off n).1.1, .int .i64 (ownR f pi caller t.gpfn t.off n).1.2], .int .i64 (ownR f pi caller t.gpfn t.off n).2]) ∧ Vw vb db mb w w' r := by
  have hb2 : Below w.heap.size w ((w.alloc (.cells #[.bool t.gr, .int .i64 t.dom, .int .i64 t.ref, .int .i64 t.gpfn, .int .i64 t.off] 24)).alloc (.cells #[.int .i64 0, .int .i64 0] 123)) := below_alloc (below_alloc (Below.refl _ _) _) _
  have hno := GgA.none_calls (h.below hb2).g
  have hun := unmade_calls (hV.below hb2)
  unfold endBad at hb
  have hdo := fun W => GgA.domain_in caller (by omega) (by omega) W
  have hle := fun W hW => own_any (h.below (w' := W) hW) caller t.gpfn t.off n ⟨by omega, by omega⟩ (some ⟨vb, 0, none⟩)
  have hta := assert_own
  have hme := method_own
  have HB := Base.Aside.mk (Vw.refl hV)
  obtain ⟨gr, dom, ref, gpfn, off⟩ := t
  simp only at hb ht hle hno hun ⊢
  subst ht
  generalize ownR f pi caller gpfn off n = R at hle ⊢
  have d1 : decide (n < 0) = false := decide_eq_false (by omega)
  have d2 : decide (off < 0) = false := decide_eq_false (by omega)
  have hVlt := blk_lt hV.blk
  have hDlt := hV.due.lt
  have hle2 : ∀ W, Below w.heap.size w W → W.heap[w.heap.size + 1]? = some (.cells #[.int .i64 0, .int .i64 0] 123 (0, 0)) → Calls Try.prog 110 #[.agg #[.int .i64 gpfn, .int .i64 off], .pointer (some ⟨gb, 0, none⟩), .pointer (some ⟨vb, 0, none⟩), .int .i64 caller, .int .i64 n] W fun e w' =>
      e = .returned (.tuple #[.agg #[.int .i64 R.1.1, .int .i64 R.1.2], .int .i64 R.2]) ∧ Vw vb db mb w w' r ∧ w'.heap[w.heap.size + 1]? = some (.cells #[.int .i64 0, .int .i64 0] 123 (0, 0)) := fun W hW hk => (hle W hW).mono fun e w' ⟨h1, h2⟩ => ⟨h1, (HB.out.below hW).below h2, blk_below hk (blk_lt hk) h2⟩
  clear h hV hb2 hb hle
  go_enter Try.func50, Try.ntmps50
  go_wp2_with (first
    | (go_at_call 53; refine hno.mono ?_; rintro z w1 ⟨rfl, hw1⟩; obtain rfl := hw1.symm)
    | (go_at_call 54; refine hun.mono ?_; rintro z w1 ⟨rfl, hw1⟩; obtain rfl := hw1.symm)
    | (go_at_call 55; refine (hdo _).mono ?_; rintro z w1 ⟨rfl, hw1⟩; obtain rfl := hw1.symm)
    | (go_at_call 110; with_reducible refine (hle2 _ ?_ ?_).mono ?_; (focus (repeat (with_reducible first | exact Below.refl _ _ | refine below_alloc ?_ _))); (focus exact blk_alloc (blk_newest (by simp) _) _); rintro z w2 ⟨rfl, hv2, hk2⟩; have D2 := (fun i => blk_cell hk2 i); have G2 := (fun i => blk_frozen hk2 i); have M2 := blk_lt hk2; have E2 := Base.Aside.mk hv2; clear hv2)
    | go_in)
  refine bodyPost_ret (v := .tuple #[.agg #[.int .i64 R.1.1, .int .i64 R.1.2], .int .i64 R.2]) ?_ rfl ⟨rfl, ?_⟩
  · simp only [results, Try.results50]
    first | (go_simp; done) | (go_simp; rfl)
  · repeat (with_reducible first | exact E2.out | refine Vw.alloc ?_ _ | (refine Vw.set ?_ ?_ _ _; rotate_left; omega))
/-- find, at every argument. -/
theorem find_any (h : GW w gb mm hm mb fb s f c pi) (hV : V2 w vb db mb r) (hr : 0 ≤ r) (caller n : Int) (t : En) (hd : okI t.dom) (wr : Bool) :
    Calls Try.prog 50 #[.pointer (some ⟨gb, 0, none⟩), .pointer (some ⟨vb, 0, none⟩), .int .i64 caller, .agg #[.bool t.gr, .int .i64 t.dom, .int .i64 t.ref, .int .i64 t.gpfn, .int .i64 t.off], .int .i64 n, .bool wr] w fun e w' =>
      e = .returned (.tuple #[.agg #[.int .i64 (findR s f pi caller t n wr).1.1, .int .i64 (findR s f pi caller t n wr).1.2], .int .i64 (findR s f pi caller t n wr).2]) ∧ Vw vb db mb w w' (r + findN f caller t n) := by
  by_cases hb : endBad caller n t
  · have e1 : findR s f pi caller t n wr = ((0, 0), 1) := if_pos hb
    have e2 : findN f caller t n = 0 := if_pos hb
    rw [e1, e2]
    exact find_bad h hV caller n t wr hb
  · have e1 : findR s f pi caller t n wr = if t.gr then lentR s f pi caller t.dom t.ref t.off wr n else ownR f pi caller t.gpfn t.off n := if_neg hb
    have e2 : findN f caller t n = if t.gr then lentN f t.dom t.ref else 0 := if_neg hb
    rw [e1, e2]
    cases ht : t.gr with
    | true =>
      rw [← ht]
      simp only [ht, if_true]
      have := find_lent h hV hr caller n t ht hd wr hb
      rw [ht] at this
      exact this
    | false =>
      rw [← ht]
      simp only [ht, Bool.false_eq_true, if_false]
      have := find_own h hV caller n t ht wr hb
      rw [ht] at this
      exact this
end
end Go.Proofs.Ytjeobbhaoahdcaa.GfF
