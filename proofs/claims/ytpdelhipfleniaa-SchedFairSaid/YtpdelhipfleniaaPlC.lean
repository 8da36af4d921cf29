/- Proved: what the queue's out and last do in memory (contracts for the laws of the scheduler). -/
import Derived.Test.YtpdelhipfleniaaPlB
import Derived.Test.YtpdelhipfleniaaShelf
import Derived.Sort.OwnSortedInts
import Derived.Lib.Strings
import Derived.Lib.Slices
import Derived.Lib.Walk
import Derived.Maps.AppendAt
namespace Go.Proofs.Ytpdelhipfleniaa.PlC
open Go.RowKit Go.Maps Go.Proofs.Ytpdelhipfleniaa.Base Go.Proofs.Ytpdelhipfleniaa.SchA Go.Proofs.Ytpdelhipfleniaa.PlB
set_option linter.unusedVariables false

def ints (q : List Int) : List Value := q.map (Value.int .i64)
def Row (base : Nat) (W : World) (qv : Value) (q : List Int) : Prop := W.ownsRow base 3 1 qv q.length (q.map (Value.int .i64))
theorem Row.form {base : Nat} {W : World} {qv : Value} {q : List Int} (h : Row base W qv q) : (qv = .slice none 0 0 ∧ q = []) ∨ ∃ g cap cur, qv = .slice (some ⟨g, 0, none⟩) q.length cap ∧ base ≤ g ∧ W.heap[g]? = some (.cells cur 3 (0, 0)) ∧ q.length ≤ cap ∧ cap ≤ maxLen ∧ cur.size = cap * 1 ∧ cur.toList.take q.length = q.map (Value.int .i64) := by
  obtain ⟨_, ⟨h1, h2⟩ | ⟨g, cap, cur, h1, h2, h3, h4, h5, h6, h7⟩⟩ := h
  · exact .inl ⟨h1, List.length_eq_zero_iff.1 h2⟩
  · exact .inr ⟨g, cap, cur, h1, h2, h3, h4, h5, h6, by rw [Nat.mul_one] at h7; exact h7⟩
theorem Row.cell {base g cap : Nat} {W : World} {q : List Int} (h : Row base W (.slice (some ⟨g, 0, none⟩) q.length cap) q) (j : Nat) (hj : j < q.length) : W.cell? ⟨g, j, none⟩ = some (.int .i64 (q.getD j 0)) := by
  have := World.ownsRow.cellAt h j (by omega)
  rw [this, List.getElem?_map, List.getElem?_eq_getElem hj, List.getD_eq_getElem?_getD, List.getElem?_eq_getElem hj]
  rfl

set_option maxHeartbeats 2000000 in
set_option maxRecDepth 100000 in
theorem index_calls {base : Nat} {w : World} {qv : Value} {q : List Int} (h : Row base w qv q) (x : Int) : Calls Try.prog 47 #[qv, .int .i64 x] w fun e w' => e = .returned (.int .i64 (Lib.idxOf q x)) ∧ w' = w := by
  rcases h.form with ⟨rfl, rfl⟩ | ⟨g, cap, cur, rfl, _, hb, hcap, hmax, _, _⟩
  · go_enter Try.func47, Try.ntmps47
    go_wp2
    go_loop [5, 8] (fun _ i => i = .int .i64 0) (fun _ _ => 0)
    case atStart => rfl
    case round =>
      subst hrel
      go_wp2
      go_ret
      exact ⟨rfl, rfl⟩
  · have hc := fun j hj => h.cell j hj
    have lt := blk_lt hb
    have hbig : q.length ≤ 9223372036854775807 := by unfold maxLen at hmax; omega
    clear h hb
    go_enter Try.func47, Try.ntmps47
    go_wp2
    go_loopw [5, 8] (fun _ i wr => ∃ k : Nat, k ≤ q.length ∧ i = .int .i64 k ∧ wr = w ∧ Aside (∀ j, j < k → q.getD j 0 ≠ x)) (fun _ i _ => q.length - (intOf i).toNat)
    case atStart => exact ⟨0, Nat.zero_le _, rfl, rfl, fun j hj => absurd hj (Nat.not_lt_zero _)⟩
    case round =>
      obtain ⟨k, hk, rfl, hwr, hne⟩ := hrel
      obtain rfl := hwr.symm
      by_cases hlt : k < q.length
      · have hcell := hc k hlt
        have hget : q.getD k 0 = q[k] := by rw [List.getD_eq_getElem?_getD, List.getElem?_eq_getElem hlt]; rfl
        rw [hget] at hcell
        by_cases hx : x = q[k]
        · have hb2 : (x == q[k]) = true := by rw [hx]; simp
          go_wp2
          go_ret
          refine ⟨?_, rfl⟩
          have := Lib.idxOf_hit q q.length k x hlt (Nat.le_refl _) (hget.trans hx.symm) hne.out
          rw [List.take_of_length_le (Nat.le_refl _), hx] at this
          rw [this]
          rfl
        · have hb2 : (x == q[k]) = false := beq_eq_false_iff_ne.2 hx
          go_wp2
          refine ⟨⟨k + 1, by omega, by simp, trivial, fun j hj => ?_⟩, by simp [intOf]; omega⟩
          by_cases e : j = k
          · subst e
            rw [hget]
            exact fun e => hx e.symm
          · exact hne.out j (by omega)
      · go_wp2
        go_ret
        refine ⟨?_, rfl⟩
        have hk2 : k = q.length := by omega
        subst hk2
        have := Lib.idxOf_miss q q.length x hne.out
        rw [List.take_of_length_le (Nat.le_refl _)] at this
        rw [this]
        rfl

theorem Row.shrink {base g cap n : Nat} {W : World} {q : List Int} (h : W.ownsRow base 3 1 (.slice (some ⟨g, 0, none⟩) n cap) n (q.map (Value.int .i64))) (hn : q.length = n) (m : Nat) (hm : m ≤ n) : Row base W (.slice (some ⟨g, 0, none⟩) (q.take m).length cap) (q.take m) := by
  obtain ⟨_, ⟨h1, _⟩ | ⟨g', cap', cur, h1, h2, h3, h4, h5, h6, h7⟩⟩ := h
  · cases h1
  · cases h1
    have hl : (q.take m).length = m := by rw [List.length_take]; omega
    refine ⟨by simp, .inr ⟨g, cap, cur, rfl, h2, h3, by omega, h5, h6, ?_⟩⟩
    rw [hl, Nat.mul_one, List.map_take, ← h7, Nat.mul_one, List.take_take, Nat.min_eq_left hm]

/-- The element at i goes. -/
theorem delete_calls {base : Nat} {w : World} {qv : Value} {q : List Int} (h : Row base w qv q) (i : Nat) (hi : i < q.length) :
    Calls Try.prog 48 #[qv, .int .i64 i, .int .i64 ((i : Int) + 1)] w fun e w' => ∃ g n cap, e = .returned (.slice (some ⟨g, 0, none⟩) n cap) ∧ Row base w' (.slice (some ⟨g, 0, none⟩) n cap) (q.take i ++ q.drop (i + 1)) ∧ w.grownBy w' qv.ownBlock ∧ (Value.slice (some ⟨g, 0, none⟩) n cap).ownBlock = qv.ownBlock := by
  rcases h.form with ⟨_, rfl⟩ | ⟨g, cap, cur, rfl, hbase, hb, hcap, hmax, hsz, htake⟩
  · simp at hi
  · have hc := Try.slices_Delete_int g 0 cap i (i + 1) q w (holds_of_blockI hb htake) hcap (by unfold maxLen at hmax; omega) (by omega) (by omega)
    rw [show ((i + 1 : Nat) : Int) = (i : Int) + 1 by omega] at hc
    refine hc.mono ?_
    rintro e w' ⟨rfl, n, rfl⟩
    have hl : (q.take i ++ q.drop (i + 1) ++ List.replicate (i + 1 - i) 0).length = q.length := by
      simp only [List.length_append, List.length_take, List.length_drop, List.length_replicate]
      omega
    have ho := ownsRow_sortedI (os := #[]) (n := n) hl hbase hb hcap hmax hsz
    have hg := grownBy_sortedI (w := w) (g := g) (n := n) (os := #[]) (q.take i ++ q.drop (i + 1) ++ List.replicate (i + 1 - i) 0).toArray
    rw [Sort.grow_empty] at ho hg
    have hm : (q.take i ++ q.drop (i + 1)).length = q.length - (i + 1 - i) := by
      simp only [List.length_append, List.length_take, List.length_drop]
      omega
    have hs := Row.shrink ho hl (q.length - (i + 1 - i)) (by omega)
    rw [← hm, List.take_left, hm] at hs
    exact ⟨_, _, _, rfl, hs, hg, rfl⟩
end Go.Proofs.Ytpdelhipfleniaa.PlC
