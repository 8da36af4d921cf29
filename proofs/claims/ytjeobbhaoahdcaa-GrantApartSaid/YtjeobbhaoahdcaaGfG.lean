/- Proved: Pull, at every argument (a contract for the laws of the grants). -/
import Derived.Test.YtjeobbhaoahdcaaGfF
namespace Go.Proofs.Ytjeobbhaoahdcaa.GfG
open Go.RowKit Go.Maps Go.Proofs.Ytjeobbhaoahdcaa.Base Go.Proofs.Ytjeobbhaoahdcaa.GaA Go.Proofs.Ytjeobbhaoahdcaa.GaB Go.Proofs.Ytjeobbhaoahdcaa.GaC Go.Proofs.Ytjeobbhaoahdcaa.GmA Go.Proofs.Ytjeobbhaoahdcaa.GmB Go.Proofs.Ytjeobbhaoahdcaa.GpA Go.Proofs.Ytjeobbhaoahdcaa.GgA Go.Proofs.Ytjeobbhaoahdcaa.GeA Go.Proofs.Ytjeobbhaoahdcaa.GeB Go.Proofs.Ytjeobbhaoahdcaa.GfA Go.Proofs.Ytjeobbhaoahdcaa.GfB Go.Proofs.Ytjeobbhaoahdcaa.GfC Go.Proofs.Ytjeobbhaoahdcaa.GfD Go.Proofs.Ytjeobbhaoahdcaa.GfE Go.Proofs.Ytjeobbhaoahdcaa.GfF Go.Proofs.Ytjeobbhaoahdcaa.GvA
set_option linter.unusedVariables false
set_option linter.unusedSimpArgs false

/-- What Pull comes to: q is the place. -/
def PullOk (B : Nat) (s : MS) (q : (Int × Int) × Int) (n : Int) (A : Option Addr) (l : Nat) (er : Int) (w' : World) : Prop :=
  (q.2 ≠ 0 ∧ er = q.2 ∧ A = none ∧ l = 0) ∨ (q.2 = 0 ∧ ∃ N, B ≤ N ∧ RdOk N s q.1.1 q.1.2 n A l er w')
theorem findN_le (f : Int → Option (Int × Nat)) (caller : Int) (t : En) (n : Int) : findN f caller t n ≤ 1 := by
  unfold findN lentN
  by_cases h1 : endBad caller n t
  · rw [if_pos h1]; omega
  · rw [if_neg h1]
    cases t.gr
    · simp
    · cases ((f t.dom).isSome && slotB t.ref) <;> simp
def pullN (q : (Int × Int) × Int) (r1 : Nat) : Nat := if q.2 = 0 then r1 + 1 else r1
def PullOut (w : World) (s : MS) (q : (Int × Int) × Int) (n : Int) (vb db mb r1 : Nat) (e : Ending) (w' : World) : Prop :=
  ∃ (A : Option Addr) (l : Nat) (er : Int), e = .returned (.tuple #[.slice A l l, .int .i64 er]) ∧ PullOk w.heap.size s q n A l er w' ∧ Vw vb db mb w w' (pullN q r1)
section
variable {w w' W : World} {gb mm hm mb fb : Nat} {f : Int → Option (Int × Nat)} {c : Nat} {s : MS} {pi : Nat → PI} {vb db r r' : Nat}
set_option maxHeartbeats 8000000 in
set_option maxRecDepth 100000 in
theorem pull_any (h : GW w gb mm hm mb fb s f c pi) (hV : V2 w vb db mb r) (hr : 0 ≤ r) (caller n : Int) (t : En) (hd : okI t.dom) :
    Calls Try.prog 19 #[.pointer (some ⟨gb, 0, none⟩), .pointer (some ⟨vb, 0, none⟩), .int .i64 caller, .agg #[.bool t.gr, .int .i64 t.dom, .int .i64 t.ref, .int .i64 t.gpfn, .int .i64 t.off], .int .i64 n] w (PullOut w s (findR s f pi caller t n false) n vb db mb (r + findN f caller t n)) := by
  have hVlt := blk_lt hV.blk
  have hDlt := hV.due.lt
  have hb2 : Below w.heap.size w (w.alloc (.cells #[.bool t.gr, .int .i64 t.dom, .int .i64 t.ref, .int .i64 t.gpfn, .int .i64 t.off] 24)) := below_alloc (Below.refl _ _) _
  have hf1 := find_any (h.below hb2) (hV.below hb2) (by omega) caller n t hd false
  have hrd : ∀ W, Vw vb db mb w W (r + findN f caller t n) → ∀ k o, Calls Try.prog 51 #[.pointer (some ⟨vb, 0, none⟩), .int .i64 k, .int .i64 o, .int .i64 n] W (VrOut W vb db mb (r + findN f caller t n) s k o n) := fun W hW k o =>
    vread_any hW.v (h.vw hV hW).m (by have := findN_le f caller t n; omega) k o n
  generalize findR s f pi caller t n false = q at hf1 ⊢
  generalize r + findN f caller t n = r1 at hf1 hrd ⊢
  have HB := Base.Aside.mk hb2
  clear h hV hb2
  by_cases hq : q.2 = 0
  · have HQ := Base.Aside.mk hq
    rw [hq] at hf1
    go_enter Try.func19, Try.ntmps19
    go_wp2_with (first
      | (go_at_call 50; refine hf1.mono ?_; rintro z w1 ⟨rfl, hv1⟩; have hv2 := (Vw.pre HB.out hVlt hDlt hv1); have hsz := hv2.c.size; have hrd2 := fun cs => hrd _ (hv2.alloc (.cells cs 123)); have E1 := Base.Aside.mk hv2; clear hv1 hv2)
      | (go_at_call 51; refine (hrd2 _ _ _).mono ?_; rintro z w2 ⟨A, l, er, rfl, ho, hv3⟩; have E2 := Base.Aside.mk (And.intro ho hv3); clear ho hv3)
      | go_in)
    go_ret2
    refine ⟨A, l, er, by first | rfl | (simp; done), .inr ⟨HQ.out, _, ?_, E2.out.1⟩, ?_⟩
    · rw [World.size_alloc]; omega
    · have e1 : pullN q r1 = r1 + 1 := if_pos HQ.out
      rw [e1]
      exact (E1.out.alloc _).trans E2.out.2
  · have hb1 : (q.2 != 0) = true := by simp [hq]
    have HQ := Base.Aside.mk hq
    clear hq
    go_enter Try.func19, Try.ntmps19
    go_wp2_with (first
      | (go_at_call 50; refine hf1.mono ?_; rintro z w1 ⟨rfl, hv1⟩; have E1 := Base.Aside.mk (Vw.pre HB.out hVlt hDlt hv1); clear hv1)
      | go_in)
    go_ret2
    refine ⟨none, 0, q.2, by first | rfl | (simp; done), .inl ⟨HQ.out, rfl, rfl, rfl⟩, ?_⟩
    have e1 : pullN q r1 = r1 := if_neg HQ.out
    rw [e1]
    exact E1.out.alloc _
end
end Go.Proofs.Ytjeobbhaoahdcaa.GfG
