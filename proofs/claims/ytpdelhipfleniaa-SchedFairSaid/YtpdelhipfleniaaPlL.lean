/- Proved: a scheduler's numbers, rising: the range over its map, and the sort behind it (contracts for the laws of the scheduler). -/
import Derived.Test.YtpdelhipfleniaaPlK
import Derived.Test.YtpdelhipfleniaaShelfB
import Derived.Maps.RangeWalk
namespace Go.Proofs.Ytpdelhipfleniaa.PlL
open Go.RowKit Go.Maps Go.Sort Go.Proofs.Ytpdelhipfleniaa.Base Go.Proofs.Ytpdelhipfleniaa.SchA Go.Proofs.Ytpdelhipfleniaa.PlB Go.Proofs.Ytpdelhipfleniaa.PlC Go.Proofs.Ytpdelhipfleniaa.PlD Go.Proofs.Ytpdelhipfleniaa.PlE Go.Proofs.Ytpdelhipfleniaa.PlF Go.Proofs.Ytpdelhipfleniaa.PlG Go.Proofs.Ytpdelhipfleniaa.PlH Go.Proofs.Ytpdelhipfleniaa.PlI Go.Proofs.Ytpdelhipfleniaa.PlJ Go.Proofs.Ytpdelhipfleniaa.PlK
set_option linter.unusedVariables false

/-- The numbers of all entries, rising. -/
def keysS (s : Nat → Option Nat) : List Int := ((List.range 16).filter (fun k => (s k).isSome)).map (fun k : Nat => (k : Int))
theorem mem_keysS {s : Nat → Option Nat} {x : Int} : x ∈ keysS s ↔ ∃ k : Nat, x = k ∧ k < 16 ∧ (s k).isSome = true := by
  simp only [keysS, List.mem_map, List.mem_filter, List.mem_range]
  exact ⟨fun ⟨k, ⟨h1, h2⟩, h3⟩ => ⟨k, h3.symm, h1, h2⟩, fun ⟨k, h3, h1, h2⟩ => ⟨k, ⟨h1, h2⟩, h3.symm⟩⟩
theorem keysS_len (s : Nat → Option Nat) : (keysS s).length ≤ 16 := by
  rw [keysS, List.length_map]
  have := List.length_filter_le (fun k => (s k).isSome) (List.range 16)
  rwa [List.length_range] at this
theorem keysS_lt (s : Nat → Option Nat) : (keysS s).Pairwise (· < ·) := by
  refine List.pairwise_map.2 ((List.pairwise_lt_range.filter _).imp fun h => by omega)

/-- What was collected: the keys that are no longer to come. -/
structure Coll (D : DataW Unit) (left : Lit → Bool) (ss : List Int) : Prop where
  nodup : ss.Nodup
  mem : ∀ x, x ∈ ss ↔ (Maps.has D (.int .i64 x) = true ∧ left (.int .i64 x) = false)
  has : ∀ kl, left kl = true → Maps.has D kl = true
theorem Coll.start (D : DataW Unit) : Coll D (Maps.has D) [] := ⟨List.nodup_nil, fun x => by cases h : Maps.has D (.int .i64 x) <;> simp, fun _ h => h⟩
theorem same_int (x y : Int) : (Lit.int .i64 y).sameKey (.int .i64 x) = decide (y = x) := by
  simp [Lit.sameKey]
theorem Coll.step {D : DataW Unit} {left : Lit → Bool} {ss : List Int} (h : Coll D left ss) {x : Int} (hx : left (.int .i64 x) = true) : Coll D (fun z => left z && !z.sameKey (.int .i64 x)) (ss ++ [x]) := by
  have hn : x ∉ ss := fun hm => by
    have := ((h.mem x).1 hm).2
    rw [hx] at this
    cases this
  refine ⟨?_, fun y => ?_, fun kl hk => h.has kl (by simp only [Bool.and_eq_true] at hk; exact hk.1)⟩
  · rw [List.nodup_append]
    exact ⟨h.nodup, by simp, fun a ha b hb => by rw [List.mem_singleton] at hb; rintro rfl; exact hn (hb ▸ ha)⟩
  · rw [List.mem_append, List.mem_singleton, h.mem y, same_int]
    by_cases e : y = x
    · subst e
      simp [h.has _ hx]
    · simp [e]
theorem Coll.sorted {D : DataW Unit} {left : Lit → Bool} {ss : List Int} {s : Nat → Option Nat} (h : Coll D left ss) (hl : ∀ kl, left kl = false) (hD : ∀ k : Nat, Maps.has D (.int .i64 k) = (s k).isSome) (hneg : ∀ x : Int, x < 0 → Maps.has D (.int .i64 x) = false) (hhi : ∀ k, 16 ≤ k → s k = none) :
    (ss.mergeSort fun x y => decide (x ≤ y)) = keysS s := by
  have tr : ∀ a b c : Int, decide (a ≤ b) = true → decide (b ≤ c) = true → decide (a ≤ c) = true := fun a b c h1 h2 => by simp only [decide_eq_true_eq] at *; omega
  have to : ∀ a b : Int, (decide (a ≤ b) || decide (b ≤ a)) = true := fun a b => by simp only [Bool.or_eq_true, decide_eq_true_eq]; omega
  have hlt := keysS_lt s
  refine List.Perm.eq_of_pairwise (le := fun a b => decide (a ≤ b) = true) (fun a b _ _ h1 h2 => by simp only [decide_eq_true_eq] at h1 h2; omega) (List.pairwise_mergeSort tr to ss) (hlt.imp fun {a b} h => by simp only [decide_eq_true_eq]; omega) ((List.mergeSort_perm ss _).trans ?_)
  refine (List.perm_ext_iff_of_nodup h.nodup (hlt.imp fun {a b} h => by omega)).2 fun x => ?_
  rw [h.mem x, hl, mem_keysS]
  constructor
  · rintro ⟨hx, _⟩
    by_cases h0 : x < 0
    · rw [hneg x h0] at hx
      cases hx
    · have e1 : x = ((x.toNat : Nat) : Int) := by omega
      rw [e1, hD] at hx
      refine ⟨x.toNat, e1, ?_, hx⟩
      by_cases h16 : x.toNat < 16
      · exact h16
      · rw [hhi _ (by omega)] at hx
        cases hx
  · rintro ⟨k, rfl, _, hk⟩
    exact ⟨by rw [hD]; exact hk, rfl⟩
theorem pe_shape (v : Value) (y : DataW Unit × List MemPlace) (h : pe v = some y) : ∃ c : Option Nat, v = pv c := by
  unfold pe at h
  split at h
  · exact ⟨none, rfl⟩
  · rename_i g
    exact ⟨some g, rfl⟩
  · cases h
theorem row_ne_iter {w : World} {base e size n : Nat} {v : Value} {xs : List Value} {P : Program} {k : TypeId} {R : Value → Option (DataW Unit × List MemPlace)} {b r m cnt : Nat} {D : DataW Unit} {left : Lit → Bool} (hr : w.ownsRow base e size v n xs) (h : w.ranges P k R b r m D left cnt) : some r ≠ v.ownBlock := by
  obtain ⟨_, ⟨rfl, _⟩ | ⟨g, cap, cur, rfl, _, hg, _⟩⟩ := hr
  · simp [Value.ownBlock]
  · obtain ⟨es, clock, since, seen, c0, _, _, _, _, hr2, _⟩ := h
    intro e1
    have : r = g := Option.some.inj e1
    subst this
    rw [hg] at hr2
    cases hr2
theorem row_ne_low {w : World} {base e size n b : Nat} {v : Value} {xs : List Value} (hr : w.ownsRow base e size v n xs) (hb : b < base) : some b ≠ v.ownBlock := fun e1 => by
  have := (hr.lt b e1.symm).1
  omega

set_option maxHeartbeats 4000000 in
set_option maxRecDepth 100000 in
theorem numbers_calls {X : Nat → Prop} {w : World} {S M : Nat} {s : Nat → Option Nat} {e : Nat → V} {c : Nat} {qv : Value} {q : List Int} {t : Int} (h : Sch X w S M s e c qv q t) (hc16 : c ≤ 16) (hhi : ∀ k, 16 ≤ k → s k = none) :
    Calls Try.prog 30 #[.pointer (some ⟨S, 0, none⟩)] w fun z w' => ∃ v, z = .returned v ∧ Row w.heap.size w' v (keysS s) ∧ Below w.heap.size w w' := by
  obtain ⟨i0, hi, hz0, hz1, hz2⟩ := info_parts info3
  obtain ⟨D, hown, hsz, hat, hhas, hneg⟩ := h.map
  have C0 := fun i => blk_cell h.blk i
  have L0 := blk_lt h.blk
  have hbl := h.map.lt
  have HA := Aside.mk (And.intro hhas hneg)
  clear hat hhas hneg
  go_enter Try.func30, Try.ntmps30
  go_wp2_with (first
    | (at_range; refine wpList_range_own _ rfl _ 40 rfl 3 56 K3 Try.underlying40 pe M c _ rfl hown ?_; intro w0 hrg0 hg0 hs0)
    | go_in)
  go_frame
  go_loopw [3] (fun v wr => ∃ (left : Lit → Bool) (cnt : Nat) (ss : List Int), wr.ranges Try.prog 3 pe M w.heap.size c D left cnt ∧ ss.length + cnt ≤ c ∧ wr.ownsRow w.heap.size 3 1 v ss.length (ss.map (Value.int .i64)) ∧ Coll D left ss ∧ Below w.heap.size w wr)
    (fun _ wr => wr.rangeLeft M w.heap.size)
  case atStart =>
    exact ⟨_, _, [], hrg0, by simp [hsz], World.ownsRow_nil _ _ _ _, Coll.start D, (Below.refl _ _).grown hg0 (Nat.le_refl _) (fun j hj => by cases hj)⟩
  case round =>
    obtain ⟨left, cnt, ss, hrg, hcs, hrow, hC, hnx⟩ := hrel
    go_wp2_with (first
      | (at_next; refine wpList_next_ranges _ rfl _ rfl 3 K3 pe (Value.int .i64) pv (fun key kl hk => by obtain ⟨x, hx, _⟩ := Maps.keyOf_int_inv Try.underlying3 hk; exact ⟨x, hx⟩) pe_shape M w.heap.size c _ _ _ rfl hrg ?_ ?_)
      | go_in)
    · intro hc0 hl0
      have hsort := hC.sorted hl0 HA.out.1 HA.out.2 hhi
      rcases hrow.2 with ⟨rfl, h0⟩ | ⟨g, cap, cur, rfl, hbase, hb, h1, h2, h3, h4⟩
      · obtain rfl : ss = [] := List.length_eq_zero_iff.1 h0
        go_wp2_with (first
          | (go_at_call 49; refine (Try.slices_Sort_int_none none 0 _).mono ?_; rintro z w1 ⟨rfl, hw1⟩; obtain rfl := hw1.symm)
          | go_in)
        go_ret
        refine ⟨_, rfl, ?_, hnx⟩
        have hs0 : keysS s = [] := by rw [← hsort]; simp
        rw [hs0]
        exact World.ownsRow_nil _ _ _ _
      · have hH : Holds (Value.int .i64) wr g 0 ss.toArray := holds_of_blockI hb (by simpa using h4)
        have hgl := blk_lt hb
        have hl4 : ss.length < 4611686018427387904 := by omega
        have hsrt := Try.slices_Sort_int g 0 cap ss wr hH hgl hl4
        have hrow' := fun (n : Nat) (os : Array Obj) => ownsRow_sortedI (ts := ss.mergeSort fun x y => decide (x ≤ y)) (os := os) (n := n) (ss := ss) (by simp) hbase hb h1 h2 h3
        clear hH hb h4
        go_wp2_with (first
          | (go_at_call 49; refine hsrt.mono ?_; rintro z w1 ⟨rfl, nn, os, hw1⟩)
          | go_in)
        go_ret
        refine ⟨_, rfl, ?_, ?_⟩
        · have := hrow' nn os
          have e1 : ss.length = (keysS s).length := by rw [← hsort, List.length_mergeSort]
          rw [hsort, e1] at this
          show World.ownsRow _ _ _ _ (.slice (some ⟨g, 0, none⟩) ss.length cap) _ _
          rw [e1]
          exact this
        · exact hnx.grown (grownBy_sortedI _) hnx.size (fun j hj => by cases hj; exact hbase)
    · intro x o kl yd yp w2 cnt2 hkey hlk hv hat hrg2 hlt hg2 hs2 hen
      obtain ⟨x', ex, rfl, _⟩ := Maps.keyOf_int_inv Try.underlying3 hkey
      cases ex
      have hrow2 := hrow.kept hg2 (Or.inr (row_ne_iter hrow hrg).symm)
      clear hs2
      go_wp2_with (first
        | (at_builtin; refine wpList_append_own_at _ rfl _ _ 29 rfl w.heap.size 3 i0 (.int .i64 0) 1 8 Try.underlying29 hi hz0 hz1 hz2 rfl (by decide) _ ss.length _ rfl (hrow2.alloc _) ⟨w2.heap.size, 0, none⟩ 1 1 [.int .i64 x] rfl rfl (cell_one_new _ _ _) (ints_oneCell .i64 [x]) (by unfold maxLen; omega) (by omega) (by have := hnx.size; have := hg2.size; simp; omega) ?_; intro v' w3 hown' hg3 hnil3 hloc3; go_frame)
        | go_in)
      have hrg3 := (hrg2.alloc _).kept hg3 (row_ne_low hrow2 hbl) (row_ne_iter hrow2 hrg2)
      go_roundw
      case rel =>
        refine ⟨_, cnt2, ss ++ [x], hrg3, by simp; omega, by simpa using hown', hC.step hlk, ?_⟩
        exact ((hnx.grown hg2 hnx.size (fun j hj => by cases hj; exact Nat.le_refl _)).alloc (by have := hnx.size; have := hg2.size; omega) _).grown hg3 (by have := hnx.size; have := hg2.size; simp; omega) (fun j hj => (hrow2.lt j hj).1)
      case measure => rw [hrg3.left_eq, hrg.left_eq]; exact hlt
end Go.Proofs.Ytpdelhipfleniaa.PlL
