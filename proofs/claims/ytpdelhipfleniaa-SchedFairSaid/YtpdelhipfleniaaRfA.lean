/- Proved: how the document's answer for the scheduler lies in memory, and what its New, Is and Vcpu do (contracts for the laws of the scheduler). -/
import Derived.Test.YtpdelhipfleniaaPlL
namespace Go.Proofs.Ytpdelhipfleniaa.RfA
open Go.RowKit Go.Maps Go.Proofs.Ytpdelhipfleniaa.Base Go.Proofs.Ytpdelhipfleniaa.SchA Go.Proofs.Ytpdelhipfleniaa.PlB Go.Proofs.Ytpdelhipfleniaa.PlC Go.Proofs.Ytpdelhipfleniaa.PlD Go.Proofs.Ytpdelhipfleniaa.PlE Go.Proofs.Ytpdelhipfleniaa.PlF Go.Proofs.Ytpdelhipfleniaa.PlG Go.Proofs.Ytpdelhipfleniaa.PlH Go.Proofs.Ytpdelhipfleniaa.PlI Go.Proofs.Ytpdelhipfleniaa.PlJ Go.Proofs.Ytpdelhipfleniaa.PlK Go.Proofs.Ytpdelhipfleniaa.PlL
set_option linter.unusedVariables false

/-- The cells of a slot. -/
def scells (p : Bool) (v : V) : List Value := if p then .bool true :: (vcells v).toList else .bool false :: (vcells zeroV).toList
/-- The document's scheduler in memory: its struct lies in block R, its slots in block L; slot k is there where (p k), and holds (e k); the queue is q; t ticks. -/
structure Ref (X : Nat → Prop) (w : World) (R L : Nat) (cs : Array Value) (p : Nat → Bool) (e : Nat → V) (qv : Value) (q : List Int) (t : Int) : Prop where
  blk : w.heap[R]? = some (.cells #[.slice (some ⟨L, 0, none⟩) 16 16, qv, .int .i64 t] 64 (0, 0))
  lst : w.heap[L]? = some (.cells cs 71 (0, 0))
  size : cs.size = 112
  slot : ∀ k, k < 16 → ∀ j, j < 7 → cs[k * 7 + j]? = (scells (p k) (e k))[j]?
  row : w.ownsRow 0 3 1 qv q.length (q.map (Value.int .i64))
  bR : ¬ X R
  bL : ¬ X L
  bQ : ∀ g, qv.ownBlock = some g → ¬ X g
section
variable {X : Nat → Prop} {w w' : World} {R L : Nat} {cs : Array Value} {p : Nat → Bool} {e : Nat → V} {qv : Value} {q : List Int} {t : Int}
theorem Ref.cell (h : Ref X w R L cs p e qv q t) (k : Nat) (hk : k < 16) (j : Nat) (hj : j < 7) : w.cell? ⟨L, k * 7 + j, none⟩ = (scells (p k) (e k))[j]? := by
  rw [← h.slot k hk j hj]
  exact blk_cell h.lst _

theorem Ref.is (h : Ref X w R L cs p e qv q t) (k : Nat) (hk : k < 16) : w.cell? ⟨L, k * 7, none⟩ = some (.bool (p k)) := by
  have := h.cell k hk 0 (by omega)
  rw [Nat.add_zero] at this
  rw [this]
  cases hp : p k <;> rfl
theorem Ref.at (h : Ref X w R L cs p e qv q t) (k : Nat) (hk : k < 16) (hp : p k = true) (j : Nat) (hj : j < 6) : w.cell? ⟨L, k * 7 + 1 + j, none⟩ = (vcells (e k))[j]? := by
  have := h.cell k hk (1 + j) (by omega)
  rw [← Nat.add_assoc] at this
  rw [this, scells, hp, if_pos rfl, Nat.add_comm 1 j, List.getElem?_cons_succ, Array.getElem?_toList]

set_option maxHeartbeats 2000000 in
set_option maxRecDepth 100000 in
theorem is_calls (h : Ref X w R L cs p e qv q t) (k : Nat) (hk : k < 16) :
    Calls Try.prog 50 #[.pointer (some ⟨R, 0, none⟩), .int .i64 k] w fun z w' => z = .returned (.bool (p k)) ∧ w' = w := by
  have C0 := fun i => blk_cell h.blk i
  have L0 := blk_lt h.blk
  have L1 := blk_lt h.lst
  have C1 := h.is k hk
  go_enter Try.func50, Try.ntmps50
  go_wp2
  go_ret
  exact ⟨by first | rfl | (simp; done), rfl⟩
set_option maxHeartbeats 2000000 in
set_option maxRecDepth 100000 in
theorem is_none (h : Ref X w R L cs p e qv q t) (n : Int) (h1 : n < 0 ∨ 16 ≤ n) :
    Calls Try.prog 50 #[.pointer (some ⟨R, 0, none⟩), .int .i64 n] w fun z w' => z = .returned (.bool false) ∧ w' = w := by
  have C0 := fun i => blk_cell h.blk i
  have L0 := blk_lt h.blk
  have L1 := blk_lt h.lst
  rcases h1 with h1 | h1
  · have a1 : (decide (0 ≤ n)) = false := decide_eq_false (by omega)
    go_enter Try.func50, Try.ntmps50
    go_wp2
    go_ret
    exact ⟨by first | rfl | (simp; done), rfl⟩
  · have a1 : (decide (0 ≤ n)) = true := decide_eq_true (by omega)
    have a2 : (decide (n < 16)) = false := decide_eq_false (by omega)
    go_enter Try.func50, Try.ntmps50
    go_wp2
    go_ret
    exact ⟨by first | rfl | (simp; done), rfl⟩
/-- Is there such a number? -/
def isn (p : Nat → Bool) (n : Int) : Bool := decide (0 ≤ n) && decide (n < 16) && p n.toNat
theorem is_any (h : Ref X w R L cs p e qv q t) (n : Int) :
    Calls Try.prog 50 #[.pointer (some ⟨R, 0, none⟩), .int .i64 n] w fun z w' => z = .returned (.bool (isn p n)) ∧ w' = w := by
  by_cases h1 : n < 0 ∨ 16 ≤ n
  · have e1 : isn p n = false := by
      unfold isn
      rcases h1 with h1 | h1
      · rw [decide_eq_false (by omega)]; rfl
      · rw [decide_eq_false (p := n < 16) (by omega), Bool.and_false]; rfl
    rw [e1]
    exact is_none h n h1
  · obtain ⟨k, rfl⟩ : ∃ k : Nat, n = (k : Int) := ⟨n.toNat, by omega⟩
    have e1 : isn p k = p k := by
      unfold isn
      rw [decide_eq_true (by omega), decide_eq_true (by omega)]
      simp
    rw [e1]
    exact is_calls h k (by omega)

set_option maxHeartbeats 2000000 in
set_option maxRecDepth 100000 in
theorem Ref.below (h : Ref X w R L cs p e qv q t) (hb : Below w.heap.size w w') : Ref X w' R L cs p e qv q t :=
  ⟨blk_below h.blk (blk_lt h.blk) hb, blk_below h.lst (blk_lt h.lst) hb, h.size, h.slot, h.row.kept (row := none) ⟨hb.os, hb.tape, hb.output, hb.size, fun k hk _ => hb.block k hk⟩ (by cases hq : qv.ownBlock; exact .inl rfl; exact .inr (by simp)), h.bR, h.bL, h.bQ⟩

set_option maxHeartbeats 2000000 in
set_option maxRecDepth 100000 in
theorem rvcpu_none (h : Ref X w R L cs p e qv q t) (n : Int) (hn : isn p n = false) :
    Calls Try.prog 36 #[.pointer (some ⟨R, 0, none⟩), .int .i64 n] w fun z w' => z = .returned (.tuple #[.agg (vcells zeroV), .int .i64 6]) ∧ Below w.heap.size w w' := by
  have hb0 := Below.alloc (Below.refl w.heap.size w) (Nat.le_refl _) (.cells #[.int .i64 0, .int .i64 0, .int .i64 0, .int .i64 0, .bool false, .int .i64 0] 36)
  have h1' := h.below hb0
  have hN := blk_new w (.cells #[.int .i64 0, .int .i64 0, .int .i64 0, .int .i64 0, .bool false, .int .i64 0] 36)
  have CN := fun i => blk_cell hN i
  have FN := fun i => blk_frozen hN i
  go_enter Try.func36, Try.ntmps36
  go_wp2_with (first
    | (go_at_call 50; refine (is_any h1' n).mono ?_; rw [hn]; rintro z w1 ⟨rfl, hw1⟩; obtain rfl := hw1.symm)
    | go_in)
  refine bodyPost_ret (v := .tuple #[.agg (vcells zeroV), .int .i64 6]) ?_ rfl ⟨rfl, ?_⟩
  · simp only [results, Try.results36]
    go_simp
    rfl
  · exact Below.alloc (Below.refl _ _) (Nat.le_refl _) _
set_option maxHeartbeats 2000000 in
set_option maxRecDepth 100000 in
theorem rvcpu_calls (h : Ref X w R L cs p e qv q t) (k : Nat) (hk : k < 16) (hp : p k = true) :
    Calls Try.prog 36 #[.pointer (some ⟨R, 0, none⟩), .int .i64 k] w fun z w' => z = .returned (.tuple #[.agg (vcells (e k)), .int .i64 0]) ∧ Below w.heap.size w w' := by
  have hb0 := Below.alloc (Below.refl w.heap.size w) (Nat.le_refl _) (.cells #[.int .i64 0, .int .i64 0, .int .i64 0, .int .i64 0, .bool false, .int .i64 0] 36)
  have h1' := h.below hb0
  have hN := blk_new w (.cells #[.int .i64 0, .int .i64 0, .int .i64 0, .int .i64 0, .bool false, .int .i64 0] 36)
  have CN := fun i => blk_cell hN i
  have FN := fun i => blk_frozen hN i
  have C0 := fun i => blk_cell h1'.blk i
  have L0 := blk_lt h1'.blk
  have L1 := blk_lt h1'.lst
  have C1 := h1'.at k hk hp 0 (by omega)
  have C2 := h1'.at k hk hp 1 (by omega)
  have C3 := h1'.at k hk hp 2 (by omega)
  have C4 := h1'.at k hk hp 3 (by omega)
  have C5 := h1'.at k hk hp 4 (by omega)
  have C6 := h1'.at k hk hp 5 (by omega)
  simp only [vcells, Nat.add_zero] at C1 C2 C3 C4 C5 C6
  go_enter Try.func36, Try.ntmps36
  go_wp2_with (first
    | (go_at_call 50; refine (is_calls h1' k hk).mono ?_; rw [hp]; rintro z w1 ⟨rfl, hw1⟩; obtain rfl := hw1.symm)
    | go_in)
  refine bodyPost_ret (v := .tuple #[.agg (vcells (e k)), .int .i64 0]) ?_ rfl ⟨rfl, ?_⟩
  · simp only [results, Try.results36]
    go_simp
    rfl
  · exact Below.alloc (Below.refl _ _) (Nat.le_refl _) _
end
end Go.Proofs.Ytpdelhipfleniaa.RfA
