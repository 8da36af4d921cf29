/- Proved: a hypervisor and its domains in memory; the least free number (contracts for the laws of the domains). -/
import Derived.Test.YtebhpmmibffbeaaDdC
import Derived.Test.YtebhpmmibffbeaaDbA
import Derived.Test.YtebhpmmibffbeaaGgA
import Derived.Deep.MidRow
namespace Go.Proofs.Ytebhpmmibffbeaa.DeA
open Go.RowKit Go.Maps Go.Proofs.Ytebhpmmibffbeaa.Base Go.Proofs.Ytebhpmmibffbeaa.GaA Go.Proofs.Ytebhpmmibffbeaa.GaB Go.Proofs.Ytebhpmmibffbeaa.GaC Go.Proofs.Ytebhpmmibffbeaa.GaD Go.Proofs.Ytebhpmmibffbeaa.GpA Go.Proofs.Ytebhpmmibffbeaa.GgA Go.Proofs.Ytebhpmmibffbeaa.DbC
set_option linter.unusedVariables false
set_option linter.unusedSimpArgs false

/-- The hypervisor's cells: its parts, and eight domains of four cells each. -/
def hcL (mb xb gb eb : Nat) (st sz tb : Nat → Int) (pp : Nat → Value) : Array Value := #[.pointer (some ⟨mb, 0, none⟩), .pointer (some ⟨xb, 0, none⟩), .pointer (some ⟨gb, 0, none⟩), .pointer (some ⟨eb, 0, none⟩),
  .int .i64 (st 0), .int .i64 (sz 0), .int .i64 (tb 0), pp 0, .int .i64 (st 1), .int .i64 (sz 1), .int .i64 (tb 1), pp 1, .int .i64 (st 2), .int .i64 (sz 2), .int .i64 (tb 2), pp 2, .int .i64 (st 3), .int .i64 (sz 3), .int .i64 (tb 3), pp 3, .int .i64 (st 4), .int .i64 (sz 4), .int .i64 (tb 4), pp 4, .int .i64 (st 5), .int .i64 (sz 5), .int .i64 (tb 5), pp 5, .int .i64 (st 6), .int .i64 (sz 6), .int .i64 (tb 6), pp 6, .int .i64 (st 7), .int .i64 (sz 7), .int .i64 (tb 7), pp 7]
def lsL (st sz tb : Nat → Int) (pp : Nat → Value) : Array Value := #[.int .i64 (st 0), .int .i64 (sz 0), .int .i64 (tb 0), pp 0, .int .i64 (st 1), .int .i64 (sz 1), .int .i64 (tb 1), pp 1, .int .i64 (st 2), .int .i64 (sz 2), .int .i64 (tb 2), pp 2, .int .i64 (st 3), .int .i64 (sz 3), .int .i64 (tb 3), pp 3, .int .i64 (st 4), .int .i64 (sz 4), .int .i64 (tb 4), pp 4, .int .i64 (st 5), .int .i64 (sz 5), .int .i64 (tb 5), pp 5, .int .i64 (st 6), .int .i64 (sz 6), .int .i64 (tb 6), pp 6, .int .i64 (st 7), .int .i64 (sz 7), .int .i64 (tb 7), pp 7]
/-- Whether a number has a domain. -/
structure Ds (k : Nat) (st sz tb : Nat → Int) (pp : Nat → Value) : Prop where
  st : ∀ i, st i = if i < k then 1 else 0
  lo : ∀ i, i < k → ∃ p, pp i = .pointer (some p)
  hi : ∀ i, k ≤ i → sz i = 0 ∧ tb i = 0 ∧ pp i = .pointer none
set_option maxRecDepth 100000 in
theorem index_l (st sz tb : Nat → Int) (pp : Nat → Value) (i : Nat) (hi : i < 8) (W : World) : (Instr.index 49 (.agg (lsL st sz tb pp)) (.int .i64 i)).run Try.prog W = .ok (.agg #[.int .i64 (st i), .int .i64 (sz i), .int .i64 (tb i), pp i]) W := by
  have : i = 0 ∨ i = 1 ∨ i = 2 ∨ i = 3 ∨ i = 4 ∨ i = 5 ∨ i = 6 ∨ i = 7 := by omega
  rcases this with rfl | rfl | rfl | rfl | rfl | rfl | rfl | rfl
  all_goals first | rfl | (show (_ : Result Value) = _; kernel_rfl)
theorem range_l {w : World} {hb mb xb gb eb : Nat} {st sz tb : Nat → Int} {pp : Nat → Value} (h : w.heap[hb]? = some (.cells (hcL mb xb gb eb st sz tb pp) 51 (0, 0))) : w.rangeAt hb 4 (lsL st sz tb pp).toList := by
  intro j v hv
  rw [blk_cell h (4 + j)]
  have e : (hcL mb xb gb eb st sz tb pp)[4 + j]? = (lsL st sz tb pp).toList[j]? := by
    have h2 : (hcL mb xb gb eb st sz tb pp)[4 + j]? = ((hcL mb xb gb eb st sz tb pp).toList)[4 + j]? := by rw [Array.getElem?_toList]
    rw [h2]
    have h3 : (hcL mb xb gb eb st sz tb pp).toList = [Value.pointer (some ⟨mb, 0, none⟩), Value.pointer (some ⟨xb, 0, none⟩), Value.pointer (some ⟨gb, 0, none⟩), Value.pointer (some ⟨eb, 0, none⟩)] ++ (lsL st sz tb pp).toList := rfl
    rw [h3, List.getElem?_append_right (by show 4 ≤ 4 + j; omega)]
    congr 1
    show 4 + j - 4 = j
    omega
  rw [e]
  exact hv
theorem eq_none (W : World) : (binOp .eql 48 (.agg #[.int .i64 0, .int .i64 0, .int .i64 0, .pointer none]) (.agg #[.int .i64 0, .int .i64 0, .int .i64 0, .pointer none])).run Try.prog W = .ok (.bool true) W := by kernel_rfl
theorem eq_some (W : World) (a b : Int) (p : Addr) : (binOp .eql 48 (.agg #[.int .i64 1, .int .i64 a, .int .i64 b, .pointer (some p)]) (.agg #[.int .i64 0, .int .i64 0, .int .i64 0, .pointer none])).run Try.prog W = .ok (.bool false) W := by first | kernel_rfl | rfl
section
variable {w W : World} {hb mb xb gb eb k : Nat} {st sz tb : Nat → Int} {pp : Nat → Value}
set_option maxHeartbeats 8000000 in
set_option maxRecDepth 100000 in
theorem free_calls (h : w.heap[hb]? = some (.cells (hcL mb xb gb eb st sz tb pp) 51 (0, 0))) (hD : Ds k st sz tb pp) (hk : k ≤ 8) : Calls Try.prog 17 #[.pointer (some ⟨hb, 0, none⟩)] w fun e w' => e = .returned (.tuple #[.int .i64 (if k < 8 then (k : Int) else 0), .int .i64 (if k < 8 then 0 else 71)]) ∧ Below w.heap.size w w' := by
  have L0 := blk_lt h
  have hld := range_l h
  have hin : (Try.prog.info? 49).map (·.size) = some (lsL st sz tb pp).toList.length := by kernel_rfl
  have hix := fun i hi W => index_l st sz tb pp i hi W
  obtain ⟨A, hA⟩ : ∃ A, A = lsL st sz tb pp := ⟨_, rfl⟩
  rw [← hA] at hld hin
  simp only [← hA] at hix
  have HD := Base.Aside.mk (And.intro hD hix)
  have HL := Base.Aside.mk (And.intro hld hin)
  clear h hD hix hA hld hin
  go_enter Try.func17, Try.ntmps17
  go_wp2_with (first
    | (refine wpList_load_mid rfl 49 _ rfl hb 4 rfl A.toList _ HL.out.1 Try.underlying49 rfl HL.out.2 ?_)
    | go_in)
  clear L0 HL
  go_loopw [10] (fun v wr => ∃ (i : Nat) (W2 : World), i ≤ 8 ∧ i ≤ k ∧ v = .int .i64 i ∧ wr = W2 ∧ Base.Aside (Below w.heap.size w W2)) (fun v _ => 8 - (intOf v).toNat)
  case atStart => exact ⟨0, w, by omega, by omega, rfl, rfl, ⟨Below.refl _ _⟩⟩
  case round =>
    obtain ⟨i, W2, hi8, hik, rfl, hwr, hB⟩ := hrel
    obtain rfl := hwr.symm
    by_cases hlt : i < 8
    · have hix := HD.out.2 i hlt W2
      by_cases hk2 : i < k
      · have e1 : st i = 1 := by rw [HD.out.1.st i, if_pos hk2]
        obtain ⟨p, hp⟩ := HD.out.1.lo i hk2
        rw [e1, hp] at hix
        generalize sz i = a at hix
        generalize tb i = b at hix
        have hq := fun W => eq_some W a b p
        clear e1 hp
        go_wp2
        exact ⟨⟨i + 1, _, by omega, by omega, by simp, rfl, ⟨below_alloc hB.out _⟩⟩, by simp [intOf]; omega⟩
      · obtain rfl : i = k := by omega
        obtain ⟨z1, z2, z3⟩ := HD.out.1.hi i (Nat.le_refl _)
        have e1 : st i = 0 := by rw [HD.out.1.st i, if_neg (by omega)]
        rw [e1, z1, z2, z3] at hix
        have hq := eq_none
        clear e1 z1 z2 z3
        go_wp2
        go_ret2
        exact ⟨by first | rfl | (simp; done) | (simp [hlt]; done), below_alloc hB.out _⟩
    · obtain rfl : i = 8 := by omega
      obtain rfl : k = 8 := by omega
      go_wp2
      go_ret2
      exact ⟨by first | rfl | (simp; done), hB.out⟩
end
end Go.Proofs.Ytebhpmmibffbeaa.DeA
