/- Proved: what view.New, grant.New make of a machine, and what grants that nobody made tell (contracts for the laws). -/
import Derived.Test.YtdndglceaceblaaPhys
namespace Go.Proofs.Ytdndglceaceblaa.New0
open Go.RowKit Go.Proofs.Ytdndglceaceblaa.Base Go.Proofs.Ytdndglceaceblaa.Phys
set_option linter.unusedVariables false

/-- Grants that nobody made: nil, or of zeroes. -/
def Nobody (w : World) (p : Value) : Prop := p = .pointer none ∨ ∃ g, p = .pointer (some ⟨g, 0, none⟩) ∧ w.cell? ⟨g, 0, none⟩ = some (.pointer none) ∧ g < w.heap.size
theorem Nobody.below {w w1 : World} {p : Value} (h : Nobody w p) (hb : Below w.heap.size w w1) : Nobody w1 p := by
  rcases h with h | ⟨g, hp, hc, hlt⟩
  · exact .inl h
  · exact .inr ⟨g, hp, cell_below hb hc, Nat.lt_of_lt_of_le hlt hb.size⟩

set_option maxHeartbeats 2000000 in
set_option maxRecDepth 100000 in
theorem held_nobody (p : Value) (a b : Int) (w : World) (hp : Nobody w p) : Calls Try.prog 61 #[p, .int .i64 a, .int .i64 b] w fun e w' => e = .returned (.tuple #[.agg #[.int .i64 0, .int .i64 0, .int .i64 0, .int .i64 0, .int .i64 0, .bool false], .int .i64 7]) ∧ Below w.heap.size w w' := by
  rcases hp with rfl | ⟨g, rfl, hc, hlt⟩
  all_goals
    go_enter Try.func61, Try.ntmps61
    go_wp2
    refine bodyPost_ret (v := .tuple #[.agg #[.int .i64 0, .int .i64 0, .int .i64 0, .int .i64 0, .int .i64 0, .bool false], .int .i64 7]) ?_ rfl ⟨rfl, ?_⟩
    · simp only [results, Try.results61]; go_simp
    · repeat (with_reducible first | exact Below.refl _ _ | apply below_alloc | apply below_drewN | apply below_drew | refine below_set ?_ (by omega) _)

set_option maxHeartbeats 2000000 in
set_option maxRecDepth 100000 in
theorem find_nobody (p v : Value) (a n : Int) (t0 : Bool) (t1 t2 t3 t5 : Int) (wr : Bool) (w : World) (hp : Nobody w p) : Calls Try.prog 81 #[p, v, .int .i64 a, .agg #[.bool t0, .int .i64 t1, .int .i64 t2, .int .i64 t3, .int .i64 t5], .int .i64 n, .bool wr] w fun e w' => e = .returned (.tuple #[.agg #[.int .i64 0, .int .i64 0], .int .i64 7]) ∧ Below w.heap.size w w' := by
  rcases hp with rfl | ⟨g, rfl, hc, hlt⟩
  all_goals
    go_enter Try.func81, Try.ntmps81
    go_wp2
    refine bodyPost_ret (v := .tuple #[.agg #[.int .i64 0, .int .i64 0], .int .i64 7]) ?_ rfl ⟨rfl, ?_⟩
    · simp only [results, Try.results81]; go_simp
    · repeat (with_reducible first | exact Below.refl _ _ | apply below_alloc | apply below_drewN | apply below_drew | refine below_set ?_ (by omega) _)

set_option maxHeartbeats 2000000 in
set_option maxRecDepth 100000 in
theorem grantNew (mb fb n c : Nat) (w : World) (hm : w.heap[mb]? = some (.cells #[.bool true, .slice (some ⟨fb, 0, none⟩) n c] 49 (0, 0))) (hn : ((n : Int) == 0) = false) :
    Calls Try.prog 9 #[.pointer (some ⟨mb, 0, none⟩)] w fun e w' => ∃ gb d1 d2, e = .returned (.pointer (some ⟨gb, 0, none⟩)) ∧ w.heap.size ≤ gb ∧ w.heap.size ≤ d1 ∧ w.heap.size ≤ d2 ∧ gb ≠ d1 ∧ gb ≠ d2 ∧ d1 ≠ d2 ∧ w'.heap[gb]? = some (.cells #[.pointer (some ⟨mb, 0, none⟩), .map (some d1), .map (some d2)] 95 (0, 0)) ∧ w'.heap[d1]? = some (.map #[] 0) ∧ w'.heap[d2]? = some (.map #[] 0) ∧ Below w.heap.size w w' := by
  have hmm := @run_makeMap Try.prog
  have C1 := fun i => blk_cell hm i
  have L1 := blk_lt hm
  clear hm
  go_enter Try.func9, Try.ntmps9
  go_wp2
  go_ret
  refine ⟨_, _, _, rfl, ?_, ?_, ?_, ?_, ?_, ?_, blk_newest ?_ _, blk_alloc (blk_alloc (blk_new _ _) _) _, blk_alloc (blk_newest ?_ _) _, ?_⟩
  · omega
  · omega
  · omega
  · omega
  · omega
  · omega
  · simp
  · simp
  · exact below_alloc (below_alloc (below_alloc (Below.refl _ _) _) _) _

set_option maxHeartbeats 2000000 in
set_option maxRecDepth 100000 in
theorem grantNew_nil (w : World) : Calls Try.prog 9 #[.pointer none] w fun e w' => e = .returned (.pointer none) ∧ Below w.heap.size w w' := by
  go_enter Try.func9, Try.ntmps9
  go_wp2
  go_ret
  exact ⟨rfl, by repeat (with_reducible first | exact Below.refl _ _ | apply below_alloc | apply below_drewN | apply below_drew)⟩

set_option maxHeartbeats 2000000 in
set_option maxRecDepth 100000 in
theorem grantNew_zero (g : Nat) (w : World) (hc : w.cell? ⟨g, 0, none⟩ = some (.bool false)) : Calls Try.prog 9 #[.pointer (some ⟨g, 0, none⟩)] w fun e w' => e = .returned (.pointer none) ∧ Below w.heap.size w w' := by
  go_enter Try.func9, Try.ntmps9
  go_wp2
  go_ret
  exact ⟨rfl, by repeat (with_reducible first | exact Below.refl _ _ | apply below_alloc | apply below_drewN | apply below_drew)⟩

set_option maxHeartbeats 2000000 in
set_option maxRecDepth 100000 in
theorem find_zeroview (gb vb : Nat) (mp : Addr) (a n : Int) (t0 : Bool) (t1 t2 t3 t5 : Int) (wr : Bool) (w : World) (h1 : w.cell? ⟨gb, 0, none⟩ = some (.pointer (some mp))) (h2 : w.cell? ⟨vb, 0, none⟩ = some (.pointer none)) (l1 : gb < w.heap.size) (l2 : vb < w.heap.size) :
    Calls Try.prog 81 #[.pointer (some ⟨gb, 0, none⟩), .pointer (some ⟨vb, 0, none⟩), .int .i64 a, .agg #[.bool t0, .int .i64 t1, .int .i64 t2, .int .i64 t3, .int .i64 t5], .int .i64 n, .bool wr] w fun e w' => e = .returned (.tuple #[.agg #[.int .i64 0, .int .i64 0], .int .i64 7]) ∧ Below w.heap.size w w' := by
  go_enter Try.func81, Try.ntmps81
  go_wp2
  refine bodyPost_ret (v := .tuple #[.agg #[.int .i64 0, .int .i64 0], .int .i64 7]) ?_ rfl ⟨rfl, ?_⟩
  · simp only [results, Try.results81]; go_simp
  · repeat (with_reducible first | exact Below.refl _ _ | apply below_alloc | apply below_drewN | apply below_drew | refine below_set ?_ (by omega) _)

set_option maxHeartbeats 2000000 in
set_option maxRecDepth 100000 in
theorem viewNew0 (mb fb n c : Nat) (w : World) (hm : w.heap[mb]? = some (.cells #[.bool true, .slice (some ⟨fb, 0, none⟩) n c] 49 (0, 0))) (hn : ((n : Int) == 0) = false) :
    Calls Try.prog 5 #[.pointer (some ⟨mb, 0, none⟩), .slice none 0 0] w fun e w' => ∃ vb db, e = .returned (.tuple #[.pointer (some ⟨vb, 0, none⟩), .int .i64 0]) ∧ w.heap.size ≤ vb ∧ w.heap.size ≤ db ∧ vb ≠ db ∧ w'.heap[vb]? = some (.cells #[.pointer (some ⟨mb, 0, none⟩), .map (some db), .int .i64 0] 60 (0, 0)) ∧ w'.heap[db]? = some (.map #[] 0) ∧ Below w.heap.size w w' := by
  have hmm := @run_makeMap Try.prog
  have C1 := fun i => blk_cell hm i
  have L1 := blk_lt hm
  clear hm
  go_enter Try.func5, Try.ntmps5
  go_wp2
  refine wp_loop_once ?_
  go_wp2
  go_ret2
  refine ⟨_, _, rfl, ?_, ?_, ?_, blk_alloc (blk_newest ?_ _) _, blk_alloc (blk_alloc (blk_new _ _) _) _, ?_⟩
  · omega
  · omega
  · omega
  · simp
  · exact below_alloc (below_alloc (below_alloc (Below.refl _ _) _) _) _

end Go.Proofs.Ytdndglceaceblaa.New0
