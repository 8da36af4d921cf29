/- Proved: small functions of the grants: slot, within, joined, unmade, Unpack (contracts for the laws of the grants). -/
import Derived.Test.YtjeobbhaoahdcaaGgA
import Derived.Test.YtjeobbhaoahdcaaGuA
import Derived.Test.YtjeobbhaoahdcaaGvA
namespace Go.Proofs.Ytjeobbhaoahdcaa.GeA
open Go.RowKit Go.Maps Go.Proofs.Ytjeobbhaoahdcaa.Base Go.Proofs.Ytjeobbhaoahdcaa.GaA Go.Proofs.Ytjeobbhaoahdcaa.GaB Go.Proofs.Ytjeobbhaoahdcaa.GmA Go.Proofs.Ytjeobbhaoahdcaa.GpA Go.Proofs.Ytjeobbhaoahdcaa.GgA
set_option linter.unusedVariables false
set_option linter.unusedSimpArgs false

section
variable {w w' : World} {gb mm hm mb fb : Nat} {f : Int → Option (Int × Nat)} {c : Nat} {s : MS}
theorem slot_in (k : Nat) (hk : k < 32) (w : World) : Calls Try.prog 57 #[.int .i64 k] w fun e w' => e = .returned (.bool true) ∧ w' = w := by
  have k0 : decide ((0 : Int) ≤ (k : Int)) = true := decide_eq_true (by omega)
  have k1 : decide ((k : Int) < 32) = true := decide_eq_true (by omega)
  go_enter Try.func57, Try.ntmps57
  go_wp2
  go_ret
  exact ⟨by first | rfl | (simp; done), rfl⟩
/-- Does a part lie in so many bytes? -/
def inn (off n size : Int) : Bool := decide (0 ≤ off) && (decide (0 ≤ n) && (decide (off ≤ size) && decide (n ≤ size - off)))
set_option maxHeartbeats 2000000 in
set_option maxRecDepth 100000 in
theorem within_calls (off n size : Int) (s0 : 0 ≤ size) (s1 : size ≤ 256) (w : World) : Calls Try.prog 64 #[.int .i64 off, .int .i64 n, .int .i64 size] w fun e w' => e = .returned (.bool (inn off n size)) ∧ w' = w := by
  by_cases h0 : 0 ≤ off
  · have d0 : decide (0 ≤ off) = true := decide_eq_true h0
    by_cases h1 : 0 ≤ n
    · have d1 : decide (0 ≤ n) = true := decide_eq_true h1
      by_cases h2 : off ≤ size
      · have d2 : decide (off ≤ size) = true := decide_eq_true h2
        go_enter Try.func64, Try.ntmps64
        go_wp2
        go_ret
        exact ⟨by simp [inn, d0, d1, d2], by first | rfl | trivial⟩
      · have d2 : decide (off ≤ size) = false := decide_eq_false h2
        go_enter Try.func64, Try.ntmps64
        go_wp2
        go_ret
        exact ⟨by simp [inn, d0, d1, d2], by first | rfl | trivial⟩
    · have d1 : decide (0 ≤ n) = false := decide_eq_false h1
      go_enter Try.func64, Try.ntmps64
      go_wp2
      go_ret
      exact ⟨by simp [inn, d0, d1], by first | rfl | trivial⟩
  · have d0 : decide (0 ≤ off) = false := decide_eq_false h0
    go_enter Try.func64, Try.ntmps64
    go_wp2
    go_ret
    exact ⟨by simp [inn, d0], by first | rfl | trivial⟩
set_option maxHeartbeats 2000000 in
set_option maxRecDepth 100000 in
theorem joined_in (h : G2 w gb mm hm mb f c) (d : Int) (d0 : 0 ≤ d) (d8 : d < 8) (x : Int × Nat) (hd : f d = some x) : Calls Try.prog 56 #[.pointer (some ⟨gb, 0, none⟩), .int .i64 d] w fun e w' => e = .returned (.bool true) ∧ Below w.heap.size w w' := by
  have C0 := fun i => blk_cell h.blk i
  have L0 := blk_lt h.blk
  have e1 : mvs f d = some (.agg #[.int .i64 x.1, .pointer (some ⟨x.2, 0, none⟩)]) := by unfold mvs; rw [hd]; rfl
  have hlk := h.mem.look_ok Try.underlying75 (zeroM w) d (by omega) (by omega)
  rw [e1] at hlk
  simp only [Option.getD_some, Option.isSome_some] at hlk
  clear h e1
  go_enter Try.func56, Try.ntmps56
  go_wp2
  go_ret
  exact ⟨by first | rfl | (simp; done), below_alloc (Below.refl _ _) _⟩
set_option maxHeartbeats 2000000 in
set_option maxRecDepth 100000 in
theorem joined_no (h : G2 w gb mm hm mb f c) (d : Int) (d0 : -1000000 ≤ d) (d8 : d ≤ 1000000) (hd : f d = none) : Calls Try.prog 56 #[.pointer (some ⟨gb, 0, none⟩), .int .i64 d] w fun e w' => e = .returned (.bool false) ∧ Below w.heap.size w w' := by
  have C0 := fun i => blk_cell h.blk i
  have L0 := blk_lt h.blk
  have e1 : mvs f d = none := by unfold mvs; rw [hd]; rfl
  have hlk := h.mem.look_ok Try.underlying75 (zeroM w) d (by omega) (by omega)
  rw [e1] at hlk
  simp only [Option.getD_none, Option.isSome_none] at hlk
  clear h e1
  go_enter Try.func56, Try.ntmps56
  go_wp2
  go_ret
  exact ⟨by first | rfl | (simp; done), below_alloc (Below.refl _ _) _⟩
theorem unpack_calls (ad : Addr) (cp : Nat) (l : List Int) (w : World) (hb : GuA.Bytes w ad 8 l) : Calls Try.prog 83 #[.slice (some ad) 8 cp] w (GuA.UnpOut w l) := by
  by_cases hs : (bits .and .i64 (GuA.rd l 0 + 256 * GuA.rd l 1) 8 != 0) = true
  · exact GuA.unpack_sub ad cp l w hb hs
  · exact GuA.unpack_whole ad cp l w hb (by simpa using hs)
theorem unmade_calls {vb db r : Nat} (h : GvA.V2 w vb db mb r) : Calls Try.prog 54 #[.pointer (some ⟨vb, 0, none⟩)] w fun e w' => e = .returned (.bool false) ∧ w' = w := by
  have hm := GvA.machine_calls h
  clear h
  go_enter Try.func54, Try.ntmps54
  go_wp2_with (first
    | (go_at_call 80; refine hm.mono ?_; rintro z w1 ⟨rfl, hw1⟩; obtain rfl := hw1.symm)
    | go_in)
  go_ret
  exact ⟨by first | rfl | (simp; done), rfl⟩
end
end Go.Proofs.Ytjeobbhaoahdcaa.GeA
