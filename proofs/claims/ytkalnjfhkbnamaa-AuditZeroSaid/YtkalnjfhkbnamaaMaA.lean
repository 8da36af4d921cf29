/- Proved: what a machine's Size, of and the iterator behind it do (contracts for the laws). -/
import Derived.Test.YtkalnjfhkbnamaaPhys
import Derived.RangeFuncNested
import Derived.RangeFuncBound
import Derived.RangeFuncCalls
import Derived.RangeFuncLeaves
import Derived.RangeFuncFrom
import Derived.Shelf.Abstract
import Derived.WalkKit
import Derived.OwnWalkIn
import Derived.TacticsInMore
import Derived.LoopNIn
import Derived.LoopIn
import Derived.Stop.RegionWithIn
import Derived.Sort.QuietIn
namespace Go.Proofs.Ytkalnjfhkbnamaa.MaA
open Go.RowKit Go.Shelf Go.Proofs.Ytkalnjfhkbnamaa.Base Go.Proofs.Ytkalnjfhkbnamaa.Phys
attribute [local go_sem] Oper.semAt_some
set_option linter.unusedVariables false

/-- A machine of n frames: frame i belongs to (o i), and holds nothing else. -/
structure Mach (w : World) (mb fb n : Nat) (o : Nat → Int) : Prop where
  blk : w.heap[mb]? = some (.cells #[.bool true, .slice (some ⟨fb, 0, none⟩) n n] 95 (0, 0))
  lst : ∃ cs, w.heap[fb]? = some (.cells cs 115 (0, 0)) ∧ CellsAre cs n (fun i j => if j = 0 then .int .i64 (o i) else frame0 j)
section
variable {w w' : World} {mb fb n : Nat} {o : Nat → Int}
theorem Mach.below {B : Nat} (h : Mach w mb fb n o) (hm : mb < B) (hf : fb < B) (hb : Below B w w') : Mach w' mb fb n o := by
  obtain ⟨cs, h1, h2⟩ := h.lst
  exact ⟨blk_below h.blk hm hb, cs, blk_below h1 hf hb, h2⟩
theorem Mach.owner (h : Mach w mb fb n o) (i : Nat) (hi : i < n) : w.cell? ⟨fb, i * 260, none⟩ = some (.int .i64 (o i)) := by
  obtain ⟨cs, h1, h2⟩ := h.lst
  have := h2.2 i 0 hi (by omega)
  rw [Nat.add_zero] at this
  exact (blk_cell h1 _).trans this
theorem Mach.lt (h : Mach w mb fb n o) : mb < w.heap.size ∧ fb < w.heap.size := by
  obtain ⟨cs, h1, h2⟩ := h.lst
  exact ⟨blk_lt h.blk, blk_lt h1⟩
set_option maxHeartbeats 2000000 in
set_option maxRecDepth 100000 in
theorem none_calls (h : Mach w mb fb n o) : Calls Try.prog 31 #[.pointer (some ⟨mb, 0, none⟩)] w fun e w' => e = .returned (.bool false) ∧ w' = w := by
  have C0 := fun i => blk_cell h.blk i
  have L0 := blk_lt h.blk
  go_enter Try.func31, Try.ntmps31
  go_wp2
  go_ret
  exact ⟨by first | rfl | (simp; done), rfl⟩
set_option maxHeartbeats 2000000 in
set_option maxRecDepth 100000 in
theorem size_calls (h : Mach w mb fb n o) : Calls Try.prog 9 #[.pointer (some ⟨mb, 0, none⟩)] w fun e w' => e = .returned (.int .i64 n) ∧ w' = w := by
  have C0 := fun i => blk_cell h.blk i
  have L0 := blk_lt h.blk
  go_enter Try.func9, Try.ntmps9
  go_wp2_with (first
    | (go_at_call 31; refine (none_calls h).mono ?_; rintro z w1 ⟨rfl, hw1⟩; obtain rfl := hw1.symm)
    | go_in)
  go_ret
  exact ⟨by first | rfl | (simp; done), rfl⟩
set_option maxHeartbeats 2000000 in
set_option maxRecDepth 100000 in
theorem of_calls (mb : Nat) (owner : Int) (w : World) : Calls Try.prog 37 #[.pointer (some ⟨mb, 0, none⟩), .int .i64 owner] w fun e w' =>
    e = .returned (.func (.func 58) #[] #[.pointer (some ⟨w.heap.size, 0, none⟩), .pointer (some ⟨w.heap.size + 1, 0, none⟩)]) ∧ w' = (w.alloc (.cells #[.pointer (some ⟨mb, 0, none⟩)] 30)).alloc (.cells #[.int .i64 owner] 3) := by
  have hmf : ∀ (fn : Fn) (first cap : Array Value) (w : World), (Instr.makeFunc fn first cap).run Try.prog w = .ok (.func fn first cap) w := fun _ _ _ _ => rfl
  go_enter Try.func37, Try.ntmps37
  go_wp2
  go_ret
  exact ⟨by first | rfl | (simp; done), by first | rfl | (simp; done)⟩
end

/-- The numbers of the first k frames that are an owner's. -/
def mine (o : Nat → Int) (owner : Int) (k : Nat) : List Int := ((List.range k).filter (fun i => o i == owner)).map (fun i : Nat => (i : Int))
theorem mine_hit {o : Nat → Int} {owner : Int} {k : Nat} (h : (o k == owner) = true) : mine o owner (k + 1) = mine o owner k ++ [(k : Int)] := by
  unfold mine
  rw [List.range_succ, List.filter_append]
  simp [h]
theorem mine_miss {o : Nat → Int} {owner : Int} {k : Nat} (h : (o k == owner) = false) : mine o owner (k + 1) = mine o owner k := by
  unfold mine
  rw [List.range_succ, List.filter_append]
  simp [h]
theorem mine_len (o : Nat → Int) (owner : Int) (k : Nat) : (mine o owner k).length ≤ k := by
  unfold mine
  rw [List.length_map]
  have := List.length_filter_le (fun i => o i == owner) (List.range k)
  rwa [List.length_range] at this

set_option maxRecDepth 100000 in
set_option maxHeartbeats 4000000 in
/-- The iterator, for every loop body that keeps what lay below. -/
theorem of1_in (m : Nat) (hm : 1 ≤ m) (l B1 B2 mb fb n n₀ : Nat) (o : Nat → Int) (owner : Int) (hn : n ≤ 1000) (hmb : mb < n₀) (hfb : fb < n₀) (hB1 : B1 < n₀) (hB2 : B2 < n₀) (J Jx : List Int → World → Prop) (W : World) (hJ : AbidesFrom W.heap.size J)
    (hY : ∀ pre (x : Nat) W, x < n → o x = owner → J pre W → pre.length < n → YieldAt Fence.wide (m - 1) Try.prog l #[.int .i64 x] W fun e W' =>
      (e = .returned (.bool true) ∧ J (pre ++ [(x : Int)]) W' ∧ Below n₀ W W') ∨ (e = .returned (.bool false) ∧ Jx (pre ++ [(x : Int)]) W'))
    (hb1 : W.cell? ⟨B1, 0, none⟩ = some (.pointer (some ⟨mb, 0, none⟩))) (hb2 : W.cell? ⟨B2, 0, none⟩ = some (.int .i64 owner)) (hM : Mach W mb fb n o) (h0 : J [] W) :
    CallsIn Fence.wide m Try.prog 58 #[.func (.yield l) #[] #[], .pointer (some ⟨B1, 0, none⟩), .pointer (some ⟨B2, 0, none⟩)] W fun e W' => (∃ v, e = .returned v) ∧
      ((∃ ys, ys = mine o owner n ∧ J ys W') ∨ (∃ pre, (∃ k, k < n ∧ o k = owner ∧ pre = mine o owner k ++ [(k : Int)]) ∧ Jx pre W')) := by
  have hfn : ∀ f, Fence.wide.fn f := fun _ => trivial
  have hro : Fence.wide.round = none := rfl
  have hsz := fun n => callsIn_wide (n := n).2 (size_calls hM)
  refine callsIn_of_wp Try.func58 rfl trivial ?_ rfl
  simp only [Try.ntmps58, List.size_toArray, List.length_cons, List.length_nil, Nat.reduceAdd, Nat.reduceSub, Array.replicate_succ, Array.replicate_zero, List.push_toArray, List.append_toArray, List.nil_append, List.cons_append]
  gi_wp2_with (first
    | (gi_at_call 9; refine (hsz _).mono ?_; rintro z w1 ⟨rfl, hw1⟩; obtain rfl := hw1.symm)
    | gi_in)
  gi_loopw [7] (fun i wr => ∃ k : Nat, k ≤ n ∧ i = .int .i64 k ∧ J (mine o owner k) wr ∧ Below n₀ W wr) (fun i _ => n - (intOf i).toNat)
  case atStart => exact ⟨0, Nat.zero_le _, rfl, h0, Below.refl _ _⟩
  case round =>
    obtain ⟨k, hk, rfl, hJs, hnx⟩ := hrel
    have hM2 := hM.below hmb hfb hnx
    have D1 := (hnx.cell (p := ⟨B1, 0, none⟩) hB1).trans hb1
    have D2 := (hnx.cell (p := ⟨B2, 0, none⟩) hB2).trans hb2
    have C0 := fun i => blk_cell hM2.blk i
    have L0 := hM2.lt
    by_cases hlt : k < n
    · have CO := hM2.owner k hlt
      have hdJ : J (mine o owner k) wr.drew := hJ _ wr wr.drew none hJs ⟨rfl, rfl, rfl, Nat.le_refl _, fun _ _ _ => rfl⟩ (fun r e => by cases e)
      have hdB : Below n₀ W wr.drew := ⟨hnx.os, hnx.tape, hnx.output, hnx.size, hnx.block⟩
      by_cases ho : o k = owner
      · have hb : (o k == owner) = true := by simpa using ho
        obtain ⟨fn, tmps, assign, body, hy, hR⟩ := hY _ k wr.drew hlt ho hdJ (by have := mine_len o owner k; omega)
        have hR2 := hR.mono (R' := fun e W' => ∃ bb, e = .returned (.bool bb) ∧ ((bb = true ∧ J (mine o owner k ++ [(k : Int)]) W' ∧ Below n₀ wr.drew W') ∨ (bb = false ∧ Jx (mine o owner k ++ [(k : Int)]) W'))) (fun e W' h => h.elim (fun h => ⟨true, h.1, .inl ⟨rfl, h.2⟩⟩) (fun h => ⟨false, h.1, .inr ⟨rfl, h.2⟩⟩))
        clear hR
        gi_wp2
        gi_region_with (refine hR2.mono ?_; rintro e W3 ⟨bb, rfl, hbb⟩)
        all_goals
          rcases hbb with ⟨rfl, hJ3, hk3⟩ | ⟨rfl, hJx3⟩
          · gi_wp2
            go_roundw
            case rel => exact ⟨k + 1, by omega, by simp, by rw [mine_hit hb]; exact hJ3, hdB.trans hk3⟩
            case measure => simp [intOf]; omega
          · gi_wp2
            refine bodyPost_ret (results_none rfl _ _ _) rfl ?_
            exact ⟨⟨_, rfl⟩, .inr ⟨_, ⟨k, hlt, ho, rfl⟩, hJx3⟩⟩
      · have hb : (o k == owner) = false := beq_eq_false_iff_ne.2 ho
        gi_wp2
        gi_quiet (fail)
        gi_wp2
        go_roundw
        case rel => exact ⟨k + 1, by omega, by simp, by rw [mine_miss hb]; exact hJ _ wr _ none hJs ⟨rfl, rfl, rfl, Nat.le_refl _, fun _ _ _ => rfl⟩ (fun r e => by cases e), ⟨hnx.os, hnx.tape, hnx.output, hnx.size, hnx.block⟩⟩
        case measure => simp [intOf]; omega
    · obtain rfl : k = n := by omega
      gi_wp2
      go_end0
      exact ⟨⟨_, rfl⟩, .inl ⟨_, rfl, hJs⟩⟩
end Go.Proofs.Ytkalnjfhkbnamaa.MaA
