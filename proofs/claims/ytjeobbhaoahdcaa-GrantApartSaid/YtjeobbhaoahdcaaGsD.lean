/- Proved: permits says yes where the entry permits (a contract for the law GrantApart). -/
import Derived.Test.YtjeobbhaoahdcaaGsB
import Derived.Test.YtjeobbhaoahdcaaGsC
namespace Go.Proofs.Ytjeobbhaoahdcaa.GsD
open Go.RowKit Go.Maps Go.Proofs.Ytjeobbhaoahdcaa.Base Go.Proofs.Ytjeobbhaoahdcaa.GaA Go.Proofs.Ytjeobbhaoahdcaa.GaB Go.Proofs.Ytjeobbhaoahdcaa.GaC Go.Proofs.Ytjeobbhaoahdcaa.GeA Go.Proofs.Ytjeobbhaoahdcaa.GeB Go.Proofs.Ytjeobbhaoahdcaa.GfC Go.Proofs.Ytjeobbhaoahdcaa.GsB Go.Proofs.Ytjeobbhaoahdcaa.GsC
set_option linter.unusedVariables false
set_option linter.unusedSimpArgs false

section
variable {w w' : World} {mo fo cap : Nat} {S : MS}
set_option maxHeartbeats 8000000 in
set_option maxRecDepth 100000 in
theorem permits_ok (h : MachC w mo fo S cap) (hn : S.n = 13) (e ref k : Nat) (he : e < 3) (hr : ref < 32) (caller gp of le mfn gpfn off : Int) (sb : Bool) (hb : ¬ GuA.bad (ent S (4 * e) ref)) (hG : entG (ent S (4 * e) ref) = ⟨1, false, sb, caller, gp, of, le⟩)
    (hm : 4 * (e : Int) + gp = mfn) (g0 : 0 ≤ gp) (g1 : gp ≤ 12) (o0 : 0 ≤ of) (o1 : of ≤ 256) (l1 : le ≤ 256) (l0 : 0 ≤ le) (h1 : of ≤ (k : Int)) (h2 : (k : Int) < of + le) :
    Calls Try.prog 14 #[.pointer (some ⟨mo, 0, none⟩), .int .i64 caller, .agg #[.bool true, .int .i64 e, .int .i64 ref, .int .i64 gpfn, .int .i64 off], .int .i64 e, .int .i64 mfn, .int .i64 k] w fun e w' => e = .returned (.bool true) ∧ Below w.heap.size w w' := by
  have hb2 := below_alloc (Below.refl w.heap.size w) (.cells #[.bool true, .int .i64 e, .int .i64 ref, .int .i64 gpfn, .int .i64 off] 24)
  have hrd := GsB.read_calls (h.below hb2) (4 * e) (by omega) (8 * ref) 8 (by omega)
  rw [show ((4 * e : Nat) : Int) = 4 * (e : Int) by omega, show ((8 * ref : Nat) : Int) = 8 * (ref : Int) by omega] at hrd
  simp only [World.size_alloc] at hrd
  have hun := fun W N (hN : W.heap[N]? = some (.cells (u8s (MS.rd S (4 * e) (8 * ref) 8)).toArray 5 (0, 0))) => refunpack_good ⟨N, 0, none⟩ 8 (ent S (4 * e) ref) W (ent_bytes hN) hb
  rw [hG] at hun
  unfold aggv at hun
  simp only at hun
  have d1 : decide (of ≤ (k : Int)) = true := decide_eq_true h1
  have d2 : decide ((k : Int) < of + le) = true := decide_eq_true h2
  have d3 : (mfn == 4 * (e : Int) + gp) = true := by rw [hm]; simp
  have HB := Base.Aside.mk hb2
  clear h hb hG hb2 h1 h2
  have hm2 := Base.Aside.mk hm
  clear hm
  go_enter Try.func14, Try.ntmps14
  go_wp2_with (first
    | (go_at_call 12; refine hrd.mono ?_; rintro z w1 ⟨rfl, hN1, hB1⟩; have hu := hun w1 _ hN1; have E1 := Base.Aside.mk (HB.out.trans (hB1.mono (Nat.le_succ _))); clear hN1 hB1)
    | (go_at_call 49; (with_reducible refine hu.mono ?_); rintro z w2 ⟨rfl, hB2⟩; have E2 := Base.Aside.mk (E1.out.trans (hB2.mono E1.out.size)); clear hB2)
    | go_in)
  go_ret
  exact ⟨by first | rfl | (simp; done), below_alloc E2.out _⟩
end
end Go.Proofs.Ytjeobbhaoahdcaa.GsD
