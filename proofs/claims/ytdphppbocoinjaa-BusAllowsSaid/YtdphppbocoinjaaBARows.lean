/- Proved: the program's table of allowed steps, and that it allows what the document allows. -/
import Derived.Test.YtdphppbocoinjaaOBusAllowsx1
import Derived.Test.YtdphppbocoinjaaBase
import Derived.Outline
namespace Go.Proofs.Ytdphppbocoinjaa.BA
open Go.RowKit Go.Proofs.Ytdphppbocoinjaa.PBusAllows Go.Proofs.YtdphppbocoinjaaW.PrintWords Go.Proofs.YtdphppbocoinjaaW.PrintLast Go.Proofs.YtdphppbocoinjaaW.PrintMore
set_option linter.unusedVariables false

def ofv (xs : List Int) : Int := (bus_of.f 9 xs).getD 0
theorem blk_newest {w : World} {g : Nat} (h : g = w.heap.size) (o : Obj) : (w.alloc o).heap[g]? = some o := by subst h; exact blk_new w o

theorem C_block {w : World} {g : Nat} {xs : List Int} {cs : Array Value} (hb : w.heap[g]? = some (.cells cs 3 (0, 0))) (hc : cs = (xs.map (Value.int .i64)).toArray) (hl : xs.length ≤ 4) : (Kd.int .i64).C w (some ⟨g, 0, none⟩) xs.length xs := by
  refine Kd.C_of_reads (d := (0 : Int)) (h1 := fun _ => rfl) ⟨rfl, by omega, fun hn => ⟨_, rfl, fun i hi => ?_⟩⟩
  rw [add_plain, blk_cell hb, hc]
  simp [hi]
theorem of_block {w : World} {g : Nat} (xs : List Int) {cs : Array Value} (hb : w.heap[g]? = some (.cells cs 3 (0, 0))) (hc : cs = (xs.map (Value.int .i64)).toArray) (hl : xs.length ≤ 4) (h : bus_of.f 9 xs = some (ofv xs)) :
    Calls Try.prog 54 #[.slice (some ⟨g, 0, none⟩) xs.length xs.length] w fun e w' => e = .returned (.int .u8 (ofv xs)) ∧ Drawn0 w w' :=
  bus_of.calls 9 _ _ xs _ w (C_block hb hc hl) (Nat.le_refl _) h

theorem v06 : ofv [0, 6] = 65 := by decide +kernel
theorem v0126 : ofv [0, 1, 2, 6] = 71 := by decide +kernel
theorem v1 : ofv [1] = 2 := by decide +kernel
theorem v0123 : ofv [0, 1, 2, 3] = 15 := by decide +kernel
theorem v2 : ofv [2] = 4 := by decide +kernel
theorem v23 : ofv [2, 3] = 12 := by decide +kernel
theorem v34 : ofv [3, 4] = 24 := by decide +kernel
theorem v1234 : ofv [1, 2, 3, 4] = 30 := by decide +kernel
theorem v5 : ofv [5] = 32 := by decide +kernel
theorem v056 : ofv [0, 5, 6] = 97 := by decide +kernel
theorem of1 (x : Int) (hx : x = 1 ∨ x = 2 ∨ x = 5) (g : Nat) (w : World) (hb : w.heap[g]? = some (.cells #[.int .i64 x] 3 (0, 0))) : Calls Try.prog 54 #[.slice (some ⟨g, 0, none⟩) 1 1] w fun e w' => e = .returned (.int .u8 (ofv [x])) ∧ Drawn0 w w' :=
  of_block [x] hb rfl (by simp) (by rcases hx with rfl | rfl | rfl <;> decide +kernel)
theorem of2 (x y : Int) (hx : (x = 0 ∧ y = 6) ∨ (x = 2 ∧ y = 3) ∨ (x = 3 ∧ y = 4)) (g : Nat) (w : World) (hb : w.heap[g]? = some (.cells #[.int .i64 x, .int .i64 y] 3 (0, 0))) : Calls Try.prog 54 #[.slice (some ⟨g, 0, none⟩) 2 2] w fun e w' => e = .returned (.int .u8 (ofv [x, y])) ∧ Drawn0 w w' :=
  of_block [x, y] hb rfl (by simp) (by rcases hx with ⟨rfl, rfl⟩ | ⟨rfl, rfl⟩ | ⟨rfl, rfl⟩ <;> decide +kernel)
theorem of3 (g : Nat) (w : World) (hb : w.heap[g]? = some (.cells #[.int .i64 0, .int .i64 5, .int .i64 6] 3 (0, 0))) : Calls Try.prog 54 #[.slice (some ⟨g, 0, none⟩) 3 3] w fun e w' => e = .returned (.int .u8 (ofv [0, 5, 6])) ∧ Drawn0 w w' :=
  of_block [0, 5, 6] hb rfl (by simp) (by decide +kernel)
theorem of4 (x y z u : Int) (hx : (x = 0 ∧ y = 1 ∧ z = 2 ∧ u = 6) ∨ (x = 0 ∧ y = 1 ∧ z = 2 ∧ u = 3) ∨ (x = 1 ∧ y = 2 ∧ z = 3 ∧ u = 4)) (g : Nat) (w : World) (hb : w.heap[g]? = some (.cells #[.int .i64 x, .int .i64 y, .int .i64 z, .int .i64 u] 3 (0, 0))) : Calls Try.prog 54 #[.slice (some ⟨g, 0, none⟩) 4 4] w fun e w' => e = .returned (.int .u8 (ofv [x, y, z, u])) ∧ Drawn0 w w' :=
  of_block [x, y, z, u] hb rfl (by simp) (by rcases hx with ⟨rfl, rfl, rfl, rfl⟩ | ⟨rfl, rfl, rfl, rfl⟩ | ⟨rfl, rfl, rfl, rfl⟩ <;> decide +kernel)

/-- What the walk carries: all below is as it was; the table's own block is there. -/
structure Env (w W : World) (cs : Array Value) : Prop where
  bel : Below w.heap.size w W
  b : W.heap[w.heap.size]? = some (.cells cs 85 (0, 0))
theorem Env.alloc {w W : World} {cs : Array Value} (h : Env w W cs) (o : Obj) : Env w (W.alloc o) cs := ⟨below_alloc h.bel o, blk_alloc h.b o⟩
theorem Env.next {w W W' : World} {cs : Array Value} (h : Env w W cs) (hd : Drawn0 W W') : Env w W' cs := ⟨below_step h.bel hd.below, blk_below h.b hd.below⟩

theorem below_step' {B : Nat} {w W W' : World} (h : Below B w W) (k : Below B W W') : Below B w W' := h.trans k
def rowsC : Array Value := #[.int .u8 65, .int .i64 1, .int .u8 71, .int .u8 2, .int .i64 2, .int .u8 15, .int .u8 2, .int .i64 3, .int .u8 4, .int .u8 4, .int .i64 3, .int .u8 12, .int .u8 12, .int .i64 4, .int .u8 24, .int .u8 30, .int .i64 5, .int .u8 127, .int .u8 32, .int .i64 6, .int .u8 97]
def rowsV : Value := .agg rowsC

set_option maxHeartbeats 4000000 in
set_option maxRecDepth 100000 in
theorem rows_calls (w : World) : Calls Try.prog 50 #[] w fun e w' => e = .returned rowsV ∧ Below w.heap.size w w' := by
  obtain ⟨Z, hZ⟩ : ∃ Z, Z = (#[.int .u8 0, .int .i64 0, .int .u8 0, .int .u8 0, .int .i64 0, .int .u8 0, .int .u8 0, .int .i64 0, .int .u8 0, .int .u8 0, .int .i64 0, .int .u8 0, .int .u8 0, .int .i64 0, .int .u8 0, .int .u8 0, .int .i64 0, .int .u8 0, .int .u8 0, .int .i64 0, .int .u8 0] : Array Value) := ⟨_, rfl⟩
  have E := Aside0.mk (show Env w (w.alloc (.cells Z 85)) Z from ⟨below_alloc (Below.refl _ _) _, blk_new w _⟩)
  rw [hZ] at E
  clear hZ Z
  go_enter Try.func50, Try.ntmps50
  go_wp2_with (first | (go_at_call 54; (first | (with_reducible refine (of1 _ ?_ _ _ (blk_newest ?_ _)).mono ?_) | (with_reducible refine (of2 _ _ ?_ _ _ (blk_newest ?_ _)).mono ?_) | (with_reducible refine (of3 _ _ (blk_newest ?_ _)).mono ?_) | (with_reducible refine (of4 _ _ _ _ ?_ _ _ (blk_newest ?_ _)).mono ?_)); (try (focus (decide))); (focus (first | rfl | (simp; done))); rintro e w9 ⟨rfl, hd9⟩; have E' := Aside0.mk (Env.next (by repeat (with_reducible first | exact E.out | apply Env.alloc)) hd9); clear E hd9; have E := E'; clear E'; simp only [v06, v0126, v1, v0123, v2, v23, v34, v1234, v5, v056]) | ((with_reducible refine gate_store (t := 85) (p := 0) rfl ?_); refine Base.wpList_store_row ?_ ?_ 85 (.tmp 0) (.tmp 34) ?_ w.heap.size ?_ rowsC ?_ 85 _ E.out.b ?_ ?_ ?_ ?_; (focus rfl); (focus rfl); (focus rfl); (focus rfl); (focus rfl); (focus kernel_rfl); (focus rfl); (focus kernel_rfl); intro W hW hz hk hB; have BW := Aside0.mk (below_step' E.out.bel (hB w.heap.size (Nat.le_refl _))); have RW := Aside0.mk hW; clear hW hz hk hB E))
  refine bodyPost_ret (v := rowsV) (results_cell_row rfl _ _ w.heap.size 85 _ (0, 0) _ rfl RW.out Try.underlying85 rfl (by kernel_rfl)) rfl ⟨rfl, ?_⟩
  exact BW.out
end Go.Proofs.Ytdphppbocoinjaa.BA
