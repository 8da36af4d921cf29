/- Proved: a scheduler that nobody made answers nothing, whatever it is asked: the walk through the law; no condition. -/
import Derived.Test.YtpdelhipfleniaaRows
import Derived.WalkKit
import Derived.WalkSpells
import Derived.WalkLawsBesides
import Derived.ProofKit
import Derived.Below
import Derived.Laws.Pointers
namespace Go.Proofs.Ytpdelhipfleniaa.SZ
open Go.RowKit

set_option maxHeartbeats 2000000 in
set_option maxRecDepth 100000 in
theorem vcpu (g : Nat) (n : Int) (w : World) (h : w.cell? ⟨g, 0, none⟩ = some (.map none)) : Calls Try.prog 14 #[.pointer (some ⟨g, 0, none⟩), .int .i64 n] w fun e w' => e = .returned (.tuple #[.agg #[.int .i64 0, .int .i64 0, .int .i64 0, .int .i64 0, .bool false, .int .i64 0], .int .i64 7]) ∧ Below w.heap.size w w' := by
  have q40 : ∀ (w : World) (r : Option Nat), (binOp .eql 40 (.map r) (.map none)).run Try.prog w = .ok (.bool r.isNone) w := fun w r => run_eql_map_nil w _ _ _ r Try.underlying40
  have hlt := World.block_lt_of_cell? w _ h
  go_enter Try.func14, Try.ntmps14
  go_wp2
  refine bodyPost_ret (v := .tuple #[.agg #[.int .i64 0, .int .i64 0, .int .i64 0, .int .i64 0, .bool false, .int .i64 0], .int .i64 7]) ?_ rfl ⟨rfl, ?_⟩
  · simp only [results, Try.results14]; go_simp
  · repeat (with_reducible first | exact Below.refl _ _ | refine Below.alloc ?_ (by simp) _)

set_option maxHeartbeats 2000000 in
set_option maxRecDepth 100000 in
theorem law (a b c : Int) (w : World) : Calls Try.prog 5 #[.int .i64 a, .int .i64 b, .int .i64 c] w fun e w' => e = .returned (.bool true) ∧ Below w.heap.size w w' := by
  have q40 : ∀ (w : World) (r : Option Nat), (binOp .eql 40 (.map r) (.map none)).run Try.prog w = .ok (.bool r.isNone) w := fun w r => run_eql_map_nil w _ _ _ r Try.underlying40
  go_enter Try.func5, Try.ntmps5
  go_wp2_with (first | (go_at_call 14; refine (vcpu _ _ _ (by go_simp)).mono ?_; rintro e w1 ⟨rfl, hb⟩; have C1 := fun i => cell_of_row w1 w.heap.size i _ _ _ ((hb.block w.heap.size (by simp)).trans (heap_alloc_new w _)); have HB : Hid (Below w.heap.size w w1) := (Below.alloc (Below.refl _ _) (Nat.le_refl _) _).trans (hb.mono (by simp)); have L1 : w.heap.size < w1.heap.size := (by have h9 := hb.size; simp at h9; omega); clear hb) | go_in)
  go_ret
  exact ⟨by first | rfl | (simp; done), HB.out.alloc (by have := HB.out.size; omega) _⟩
end Go.Proofs.Ytpdelhipfleniaa.SZ
