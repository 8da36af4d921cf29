/- Proved: the program's table of allowed steps, read row by row. -/
import Derived.Test.YtdphppbocoinjaaBARows
namespace Go.Proofs.Ytdphppbocoinjaa.BA
open Go.RowKit Go.Proofs.Ytdphppbocoinjaa.PBusAllows Go.Proofs.YtdphppbocoinjaaW.PrintWords Go.Proofs.YtdphppbocoinjaaW.PrintLast Go.Proofs.YtdphppbocoinjaaW.PrintMore
set_option linter.unusedVariables false

def ta (k : Nat) : Int := match k with | 0 => 65 | 1 => 2 | 2 => 2 | 3 => 4 | 4 => 12 | 5 => 30 | _ => 32
def tb (k : Nat) : Int := match k with | 0 => 1 | 1 => 2 | 2 => 3 | 3 => 3 | 4 => 4 | 5 => 5 | _ => 6
def tc (k : Nat) : Int := match k with | 0 => 71 | 1 => 15 | 2 => 4 | 3 => 12 | 4 => 24 | 5 => 127 | _ => 97
def rowOf (k : Nat) : Value := .agg #[.int .u8 (ta k), .int .i64 (tb k), .int .u8 (tc k)]
theorem ix0 (w : World) : (Instr.index 85 rowsV (.int .i64 0)).run Try.prog w = .ok (rowOf 0) w := by kernel_rfl
theorem ix1 (w : World) : (Instr.index 85 rowsV (.int .i64 1)).run Try.prog w = .ok (rowOf 1) w := by kernel_rfl
theorem ix2 (w : World) : (Instr.index 85 rowsV (.int .i64 2)).run Try.prog w = .ok (rowOf 2) w := by kernel_rfl
theorem ix3 (w : World) : (Instr.index 85 rowsV (.int .i64 3)).run Try.prog w = .ok (rowOf 3) w := by kernel_rfl
theorem ix4 (w : World) : (Instr.index 85 rowsV (.int .i64 4)).run Try.prog w = .ok (rowOf 4) w := by kernel_rfl
theorem ix5 (w : World) : (Instr.index 85 rowsV (.int .i64 5)).run Try.prog w = .ok (rowOf 5) w := by kernel_rfl
theorem ix6 (w : World) : (Instr.index 85 rowsV (.int .i64 6)).run Try.prog w = .ok (rowOf 6) w := by kernel_rfl
theorem ix (k : Nat) (h : k < 7) (w : World) : (Instr.index 85 rowsV (.int .i64 k)).run Try.prog w = .ok (.agg #[.int .u8 (ta k), .int .i64 (tb k), .int .u8 (tc k)]) w := by
  have : k = 0 ∨ k = 1 ∨ k = 2 ∨ k = 3 ∨ k = 4 ∨ k = 5 ∨ k = 6 := by omega
  rcases this with rfl | rfl | rfl | rfl | rfl | rfl | rfl
  · exact ix0 w
  · exact ix1 w
  · exact ix2 w
  · exact ix3 w
  · exact ix4 w
  · exact ix5 w
  · exact ix6 w
def hasV (a b : Int) : Bool := (bus_set_has.f a b).getD false
theorem has_some (a b : Int) : bus_set_has.f a b = some (hasV a b) := by
  unfold hasV bus_set_has.f
  by_cases h0 : b ≥ 0
  · by_cases h6 : b ≤ 6
    · simp [h0, h6]
    · simp [h0, h6]
  · simp [h0]
theorem has_calls (a b : Int) (w : World) : Calls Try.prog 51 #[.int .u8 a, .int .i64 b] w fun e w' => e = .returned (.bool (hasV a b)) ∧ Drawn0 w w' :=
  bus_set_has.calls a b _ w (has_some a b)
def hit (f t o : Int) (k : Nat) : Bool := decide (tb k = t) && (hasV (ta k) f && hasV (tc k) o)
def allowedV (f t o : Int) : Bool := hit f t o 0 || (hit f t o 1 || (hit f t o 2 || (hit f t o 3 || (hit f t o 4 || (hit f t o 5 || hit f t o 6)))))
theorem allowed_true {f t o : Int} {k : Nat} (hk : k < 7) (h : hit f t o k = true) : allowedV f t o = true := by
  unfold allowedV
  have : k = 0 ∨ k = 1 ∨ k = 2 ∨ k = 3 ∨ k = 4 ∨ k = 5 ∨ k = 6 := by omega
  rcases this with rfl | rfl | rfl | rfl | rfl | rfl | rfl <;> simp [h]
theorem allowed_false {f t o : Int} (h : ∀ j, j < 7 → hit f t o j = false) : allowedV f t o = false := by
  unfold allowedV
  simp [h 0, h 1, h 2, h 3, h 4, h 5, h 6]
def Rel (w : World) (f t o : Int) (k : Nat) (W : World) : Prop := (∀ j, j < k → hit f t o j = false) ∧ Below w.heap.size w W
theorem rel_step {f t o : Int} {k : Nat} (h : ∀ j, j < k → hit f t o j = false) (hk : hit f t o k = false) : ∀ j, j < k + 1 → hit f t o j = false := by
  intro j hj
  by_cases e : j = k
  · rw [e]; exact hk
  · exact h j (by omega)
def AllowedOut (w : World) (f t o : Int) (e : Ending) (w' : World) : Prop := e = .returned (.bool (allowedV f t o)) ∧ Below w.heap.size w w'
def Round (k : Nat) (W W' : World) : Prop := W'.heap[W.heap.size]? = some (.cells #[.int .u8 (ta k), .int .i64 (tb k), .int .u8 (tc k)] 84 (0, 0)) ∧ Below W.heap.size W W'

theorem alloc_lt (w : World) (o : Obj) : w.heap.size < (w.alloc o).heap.size := by simp
set_option maxHeartbeats 4000000 in
set_option maxRecDepth 100000 in
theorem allowed_calls (f t o : Int) (w : World) : Calls Try.prog 37 #[.int .i64 f, .int .i64 t, .int .i64 o] w (AllowedOut w f t o) := by
  have HB := Aside0.mk (Below.refl w.heap.size w)
  go_enter Try.func37, Try.ntmps37
  go_wp2_with (first | (go_at_call 50; (with_reducible refine (rows_calls _).mono ?_); rintro e w9 ⟨rfl, hb9⟩; have HB9 := Aside0.mk hb9; clear hb9) | go_in)
  have HS := Aside0.mk (show Rel w f t o 0 w9 from ⟨fun j hj => absurd hj (by omega), HB9.out⟩)
  clear HB9 HB
  go_loopw [10] (fun v wr => ∃ k : Nat, k ≤ 7 ∧ v = .int .i64 k ∧ Rel w f t o k wr) (fun v _ => 7 - (intOf v).toNat)
  case atStart => exact ⟨0, Nat.zero_le _, rfl, HS.out⟩
  case round =>
    obtain ⟨k, hk, rfl, hm, hbl⟩ := hrel
    by_cases hlt : k < 7
    · have I := ix k hlt
      have HB := Aside0.mk hbl
      have HM := Aside0.mk hm
      clear hbl hm HS
      go_wp2_with (first | (go_at_call 51; (with_reducible refine (has_calls _ _ _).mono ?_); rintro e w9 ⟨rfl, hd9⟩; have C9 := fun i => blk_cell (blk_below (blk_new wr _) hd9.below) i; have BW := Aside0.mk (below_step (below_alloc HB.out _) hd9.below); clear hd9) | (go_at_call 51; (with_reducible refine (has_calls _ _ _).mono ?_); rintro e w9 ⟨rfl, hd9⟩; have BW' := Aside0.mk (below_step BW.out hd9.below); clear BW hd9; have BW := BW'; clear BW') | go_in)
      all_goals first
        | (refine ⟨⟨k + 1, by omega, by simp, rel_step HM.out ?_, ?_⟩, by simp [intOf]; omega⟩
           · first | (simp [hit, *]; done) | (simp_all [hit]; done)
           · first | (with_reducible exact BW.out) | exact below_alloc HB.out _)
        | (go_ret
           refine ⟨?_, BW.out⟩
           rw [allowed_true (k := k) hlt]
           · rfl
           · first | (simp [hit, *]; done) | (simp_all [hit]; done))
    · have : k = 7 := by omega
      subst this
      have HB := Aside0.mk hbl
      have HM := Aside0.mk hm
      clear hbl hm HS
      go_wp2
      go_ret
      exact ⟨by rw [allowed_false HM.out]; rfl, HB.out⟩
end Go.Proofs.Ytdphppbocoinjaa.BA
