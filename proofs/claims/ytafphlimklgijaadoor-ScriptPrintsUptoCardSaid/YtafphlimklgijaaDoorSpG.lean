/- Proved: the walk of the law ScriptPrints. -/
import Derived.Test.YtafphlimklgijaaDoorSpF
namespace Go.Proofs.YtafphlimklgijaaDoor.SpG
open Go.RowKit Go.Shelf Go.Proofs.YtafphlimklgijaaDoor.Base Go.Proofs.YtafphlimklgijaaDoor.TdA Go.Proofs.YtafphlimklgijaaDoor.TdB Go.Proofs.YtafphlimklgijaaDoor.TdC Go.Proofs.YtafphlimklgijaaDoor.SpA Go.Proofs.YtafphlimklgijaaDoor.SpP Go.Proofs.YtafphlimklgijaaDoor.SpB Go.Proofs.YtafphlimklgijaaDoor.SpC Go.Proofs.YtafphlimklgijaaDoor.SpD
set_option linter.unusedVariables false
set_option linter.unusedSimpArgs false

theorem allSmall_four (d a b c : Int) : allSmall (four d a b c) 4 = (smallB d && (smallB a && (smallB b && smallB c))) := by
  simp [allSmall, List.range_succ, four, Bool.and_assoc]
/-- Both Prints tell the same of every act. -/
theorem both (what d a b c : Int) (T : ByteArray) (A : Option Addr) (l cc : Nat) (zs : List UInt8) (PA : Option Addr) (pl pc : Nat) (ps : List Pk) (hl : l ≤ 1048576) (hpl : pl ≤ 1048576) (hT : T.size ≤ 1048576) :
    ∃ (s : ByteArray) (n : Int), (∀ w : World, Arg w A l zs PA pl ps → Calls Tryd.prog 4 #[.agg #[.int .i64 what, .int .i64 d, .int .i64 a, .int .i64 b, .int .i64 c, .string T, .slice A l cc, .slice PA pl pc]] w fun e w' => e = .returned (.tuple #[.string s, .int .i64 n]) ∧ Below w.heap.size w w') ∧
      (∀ w : World, Arg w A l zs PA pl ps → Calls Tryd.prog 5 #[.agg #[.int .i64 what, .int .i64 d, .int .i64 a, .int .i64 b, .int .i64 c, .string T, .slice A l cc, .slice PA pl pc]] w fun e w' => e = .returned (.tuple #[.string s, .int .i64 n]) ∧ Below w.heap.size w w') := by
  by_cases h : what < 0 ∨ 23 ≤ what
  · exact ⟨⟨#[]⟩, 191, fun w hA => SpC.bad_what w what d a b c T A l cc PA pl pc hA.asc h, fun w hA => SpE.bad_what w what d a b c T A l cc PA pl pc h⟩
  · obtain ⟨k, rfl⟩ : ∃ k : Nat, what = k := ⟨what.toNat, by omega⟩
    have hk : k < 23 := by omega
    rcases hb : SpE.badF k d a b c T with _ | _
    · refine ⟨⟨#[]⟩, 4, fun w hA => SpC.bad_form w k d a b c T A l cc PA pl pc hA.asc hk ?_, fun w hA => SpE.bad_form w k d a b c T A l cc PA pl pc hT hk hb⟩
      rw [allSmall_four]
      exact hb
    · unfold SpE.badF at hb
      rw [← allSmall_four, Bool.and_eq_true, Bool.and_eq_true] at hb
      have hd : (k == 0 && d != 0) = false := by
        have h2 := hb.2.2
        rcases hx : (k == 0 && d != 0) with _ | _
        · rfl
        · rw [hx] at h2
          cases h2
      exact ⟨_, _, fun w hA => SpD.print_good w k d a b c T A l cc zs PA pl pc ps hA hk hb.1 hb.2.1 hd hl hpl hT, fun w hA => SpF.print_good w k d a b c T A l cc zs PA pl pc ps hA hk hb.1 hb.2.1 hd hl hpl hT⟩
set_option maxRecDepth 100000 in
theorem name0 : nameOf 0 = [98, 117, 105, 108, 100] := by decide +kernel
theorem awake_out : outOf (nameOf 0) (fOf 0 0 3 0 0) (trimK (fOf 0 0 3 0 0) (nOf 0)) (⟨#[]⟩ : ByteArray).data.toList [] [] = ([98, 117, 105, 108, 100, 32, 51], 0) := by
  have e : Lib.decDigits 3 = [51] := by rw [Lib.decDigits]; rfl
  have h1 : trimK (fOf 0 0 3 0 0) (nOf 0) = 1 := by decide
  rw [h1, name0]
  simp [outOf, lineOf, restW, numW, textW, byteW, tail, Lib.joinTail, dec, fOf, four, oOf, e]
theorem awake_print (w : World) (ha : Asc w) (hp : Pow w) : Calls Tryd.prog 4 #[.agg #[.int .i64 0, .int .i64 0, .int .i64 3, .int .i64 0, .int .i64 0, .string ⟨#[]⟩, .slice none 0 0, .slice none 0 0]] w fun e w' => e = .returned (.tuple #[.string ⟨#[98, 117, 105, 108, 100, 32, 51]⟩, .int .i64 0]) ∧ Below w.heap.size w w' := by
  have h := SpD.print_good w 0 0 3 0 0 ⟨#[]⟩ none 0 0 [] none 0 0 [] ⟨ha, hp, rfl, .inl rfl, ⟨rfl, .inl rfl, by simp⟩⟩ (by decide) (by decide) (by decide) (by decide) (by decide) (by decide) (by decide)
  rw [awake_out] at h
  exact h
set_option maxHeartbeats 4000000 in
set_option maxRecDepth 100000 in
theorem awake_calls (w : World) (ha : Asc w) (hp : Pow w) : Calls Tryd.prog 6 #[] w fun e w' => e = .returned (.bool true) ∧ Below w.heap.size w w' := by
  have hp := awake_print w ha hp
  go_enter Tryd.func6, Tryd.ntmps6
  go_wp2_with (first
    | (go_at_call 4; refine hp.mono ?_; rintro z w9 ⟨rfl, hB9⟩; have E9 := Base.Aside.mk hB9; clear hB9)
    | go_in)
  go_ret
  exact ⟨by first | rfl | (simp; done), E9.out⟩
set_option maxHeartbeats 8000000 in
set_option maxRecDepth 100000 in
theorem law (w : World) (what d a b c : Int) (T : ByteArray) (A : Option Addr) (l cc : Nat) (zs : List UInt8) (PA : Option Addr) (pl pc : Nat) (ps : List Pk) (hA : Arg w A l zs PA pl ps) (hl : l ≤ 1048576) (hpl : pl ≤ 1048576) (hT : T.size ≤ 1048576) :
    Calls Tryd.prog 3 #[.agg #[.int .i64 what, .int .i64 d, .int .i64 a, .int .i64 b, .int .i64 c, .string T, .slice A l cc, .slice PA pl pc]] w fun e w' => e = .returned (.bool true) ∧ Below w.heap.size w w' := by
  obtain ⟨s, n, h1, h2⟩ := both what d a b c T A l cc zs PA pl pc ps hl hpl hT
  have e0 := En.start w #[.int .i64 what, .int .i64 d, .int .i64 a, .int .i64 b, .int .i64 c, .string T, .slice A l cc, .slice PA pl pc]
  have c1 := h1 _ (hA.below e0.out)
  have C0 := fun i => blk_cell e0.blk i
  have E0 := Base.Aside.mk e0
  have HA := Base.Aside.mk hA
  have H2 := Base.Aside.mk h2
  clear e0 hA h1 h2
  go_enter Tryd.func3, Tryd.ntmps3
  go_wp2_with (first
    | (go_at_call 4; refine c1.mono ?_; rintro z w2 ⟨rfl, hB2⟩; have E2 := Base.Aside.mk (E0.out.step hB2); have C2 := fun i => blk_cell E2.out.blk i; have L2 := E2.out.lt; have c2 := H2.out w2 (HA.out.below E2.out.out); have c3 := hB2.size; clear hB2)
    | (go_at_call 5; refine c2.mono ?_; rintro z w3 ⟨rfl, hB3⟩; have E3 := Base.Aside.mk (E2.out.step hB3); have c4 := awake_calls w3 (HA.out.below E3.out.out).asc (HA.out.below E3.out.out).pow; clear hB3)
    | (go_at_call 6; refine c4.mono ?_; rintro z w4 ⟨rfl, hB4⟩; have E4 := Base.Aside.mk (E3.out.step hB4); clear hB4)
    | go_in)
  all_goals
    go_ret
    exact ⟨by first | rfl | (simp; done), E4.out.out⟩
end Go.Proofs.YtafphlimklgijaaDoor.SpG
