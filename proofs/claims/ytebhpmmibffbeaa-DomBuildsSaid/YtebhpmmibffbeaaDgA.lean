/- Proved: the laws of the domains are awake (a contract for the laws of the domains). -/
import Derived.Test.YtebhpmmibffbeaaDfF
namespace Go.Proofs.Ytebhpmmibffbeaa.DgA
open Go.RowKit Go.Maps Go.Proofs.Ytebhpmmibffbeaa.Base Go.Proofs.Ytebhpmmibffbeaa.GaA Go.Proofs.Ytebhpmmibffbeaa.GaB Go.Proofs.Ytebhpmmibffbeaa.GaC Go.Proofs.Ytebhpmmibffbeaa.GaD Go.Proofs.Ytebhpmmibffbeaa.DaB Go.Proofs.Ytebhpmmibffbeaa.DeA Go.Proofs.Ytebhpmmibffbeaa.DeB Go.Proofs.Ytebhpmmibffbeaa.DeC Go.Proofs.Ytebhpmmibffbeaa.DfB Go.Proofs.Ytebhpmmibffbeaa.DfF
set_option linter.unusedVariables false
set_option linter.unusedSimpArgs false

/-- A hypervisor of k domains, whatever its parts hold. -/
def Hv (w W : World) (hb mb fb xb t1 t5 t3 gb mm hm eb N k top : Nat) : Prop := ∃ s rt f st sz tb pp, Hy w W hb mb fb xb t1 t5 t3 gb mm hm eb N k top s rt f st sz tb pp
section
variable {w w' W W' : World} {hb mb fb xb t1 t5 t3 gb mm hm eb N k top : Nat}
theorem Hv.below (h : Hv w W hb mb fb xb t1 t5 t3 gb mm hm eb N k top) (hB : Below W.heap.size W W') : Hv w W' hb mb fb xb t1 t5 t3 gb mm hm eb N k top := by
  obtain ⟨s, rt, f, st, sz, tb, pp, h1⟩ := h
  exact ⟨s, rt, f, st, sz, tb, pp, h1.below hB⟩
theorem Hv.bel (h : Hv w W hb mb fb xb t1 t5 t3 gb mm hm eb N k top) : Below w.heap.size w W := by
  obtain ⟨s, rt, f, st, sz, tb, pp, h1⟩ := h
  exact h1.bel
theorem Hv.k8 (h : Hv w W hb mb fb xb t1 t5 t3 gb mm hm eb N k top) : k ≤ 8 ∧ top ≤ N ∧ N ≤ 256 := by
  obtain ⟨s, rt, f, st, sz, tb, pp, h1⟩ := h
  have := h1.n
  omega
theorem hv_machine (h : Hv w W hb mb fb xb t1 t5 t3 gb mm hm eb N k top) : Calls Try.prog 5 #[.pointer (some ⟨hb, 0, none⟩)] W fun e w' => e = .returned (.pointer (some ⟨mb, 0, none⟩)) ∧ w' = W := by
  obtain ⟨s, rt, f, st, sz, tb, pp, h1⟩ := h
  exact machine_calls h1.blk
theorem hv_left (h : Hv w W hb mb fb xb t1 t5 t3 gb mm hm eb N k top) : Calls Try.prog 6 #[.pointer (some ⟨mb, 0, none⟩)] W fun e w' => e = .returned (.int .i64 ((N - top : Nat) : Int)) ∧ Hv w w' hb mb fb xb t1 t5 t3 gb mm hm eb N k top := by
  obtain ⟨s, rt, f, st, sz, tb, pp, h1⟩ := h
  refine (left_calls _ h1.m).mono ?_
  rintro e w' ⟨q1, q2⟩
  rw [hy_left h1] at q1
  exact ⟨q1, s, rt, f, st, sz, tb, pp, h1.below q2⟩
/-- Build, and what Dom then tells. -/
theorem hv_build (h : Hv w W hb mb fb xb t1 t5 t3 gb mm hm eb N k top) (hk : k < 8) (m : Nat) (h1 : 1 ≤ m) (h2 : m ≤ 48) (hl : m + 2 ≤ N - top) : Calls Try.prog 7 #[.pointer (some ⟨hb, 0, none⟩), .int .i64 m] W fun e w' => e = .returned (.tuple #[.int .i64 k, .int .i64 0]) ∧ Hv w w' hb mb fb xb t1 t5 t3 gb mm hm eb N (k + 1) (top + (m + 2)) ∧ ∃ (a b : Int),
      Calls Try.prog 8 #[.pointer (some ⟨hb, 0, none⟩), .int .i64 k] w' fun e w'' => e = .returned (.tuple #[.agg #[.int .i64 1, .int .i64 m, .int .i64 ((m + 2 : Nat) : Int), .int .i64 a, .int .i64 b], .int .i64 0]) ∧ Hv w w'' hb mb fb xb t1 t5 t3 gb mm hm eb N (k + 1) (top + (m + 2)) := by
  obtain ⟨s, rt, f, st, sz, tb, pp, h3⟩ := h
  refine (build_ok h3 hk m h1 h2 hl).mono ?_
  rintro e w' ⟨q1, s', rt', f', st', sz', tb', pp', q2, q3, q4⟩
  refine ⟨q1, ⟨s', rt', f', st', sz', tb', pp', q2⟩, tb' k, rt' k, ?_⟩
  refine (dom_calls q2.blk q2.ds (by omega) k (by omega) q2.m q2.x).mono ?_
  rintro e w'' ⟨p1, p2⟩
  rw [q3, q4] at p1
  exact ⟨p1, s', rt', f', st', sz', tb', pp', q2.below p2⟩
end
set_option maxHeartbeats 4000000 in
set_option maxRecDepth 100000 in
theorem awake_calls (w : World) : Calls Try.prog 9 #[] w fun e w' => e = .returned (.bool true) ∧ Below w.heap.size w w' := by
  have hn : Calls Try.prog 4 #[.int .i64 10] w fun e w' => ∃ hb mb fb xb t1 t5 t3 gb mm hm eb, e = .returned (.tuple #[.pointer (some ⟨hb, 0, none⟩), .int .i64 0]) ∧ Hv w w' hb mb fb xb t1 t5 t3 gb mm hm eb 10 0 2 :=
    (dom_new w 10 (by omega) (by omega)).mono fun e w' ⟨hb, mb, fb, xb, t1, t5, t3, gb, mm, hm, eb, q1, q2⟩ => ⟨hb, mb, fb, xb, t1, t5, t3, gb, mm, hm, eb, q1, _, _, _, _, _, _, _, q2⟩
  have hbd : ∀ (hb mb fb xb t1 t5 t3 gb mm hm eb : Nat) W, Hv w W hb mb fb xb t1 t5 t3 gb mm hm eb 10 0 2 → Calls Try.prog 7 #[.pointer (some ⟨hb, 0, none⟩), .int .i64 3] W fun e w' => e = .returned (.tuple #[.int .i64 0, .int .i64 0]) ∧ Hv w w' hb mb fb xb t1 t5 t3 gb mm hm eb 10 1 7 := fun hb mb fb xb t1 t5 t3 gb mm hm eb W h =>
    (hv_build h (by omega) 3 (by omega) (by omega) (by omega)).mono fun e w' ⟨q1, q2, _⟩ => ⟨q1, q2⟩
  have hle : ∀ (hb mb fb xb t1 t5 t3 gb mm hm eb : Nat) W, Hv w W hb mb fb xb t1 t5 t3 gb mm hm eb 10 1 7 → Calls Try.prog 6 #[.pointer (some ⟨mb, 0, none⟩)] W fun e w' => e = .returned (.int .i64 3) ∧ Hv w w' hb mb fb xb t1 t5 t3 gb mm hm eb 10 1 7 := fun hb mb fb xb t1 t5 t3 gb mm hm eb W h => hv_left h
  go_enter Try.func9, Try.ntmps9
  go_wp2_with (first
    | (go_at_call 4; (with_reducible refine hn.mono ?_); rintro z w1 ⟨hb, mb, fb, xb, t1, t5, t3, gb, mm, hm, eb, rfl, hH⟩; have hbd1 := hbd _ _ _ _ _ _ _ _ _ _ _ _ hH; clear hH)
    | (go_at_call 7; (with_reducible refine hbd1.mono ?_); rintro z w2 ⟨rfl, hH2⟩; have hma := hv_machine hH2; have hle2 := hle _ _ _ _ _ _ _ _ _ _ _ _ hH2; clear hH2)
    | (go_at_call 5; refine hma.mono ?_; rintro z w3 ⟨rfl, hw3⟩; obtain rfl := hw3.symm)
    | (go_at_call 6; (with_reducible refine hle2.mono ?_); rintro z w4 ⟨rfl, hH4⟩; have E4 := Base.Aside.mk hH4; clear hH4)
    | go_in)
  go_ret
  exact ⟨by first | rfl | (simp; done), E4.out.bel⟩
end Go.Proofs.Ytebhpmmibffbeaa.DgA
