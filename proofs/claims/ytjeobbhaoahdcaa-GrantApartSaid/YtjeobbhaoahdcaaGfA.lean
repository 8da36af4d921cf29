/- Proved: the frame that an entry names, whatever it names (a contract for the laws of the grants). -/
import Derived.Test.YtjeobbhaoahdcaaGeB
import Derived.Deep.Light
namespace Go.Proofs.Ytjeobbhaoahdcaa.GfA
open Go.RowKit Go.Maps Go.Proofs.Ytjeobbhaoahdcaa.Base Go.Proofs.Ytjeobbhaoahdcaa.GaA Go.Proofs.Ytjeobbhaoahdcaa.GaB Go.Proofs.Ytjeobbhaoahdcaa.GaC Go.Proofs.Ytjeobbhaoahdcaa.GmA Go.Proofs.Ytjeobbhaoahdcaa.GpA Go.Proofs.Ytjeobbhaoahdcaa.GgA Go.Proofs.Ytjeobbhaoahdcaa.GeA Go.Proofs.Ytjeobbhaoahdcaa.GeB
set_option linter.unusedVariables false
set_option linter.unusedSimpArgs false

/-- Frame's answer. -/
def frV (s : MS) (k : Int) : Fr × Int := if 0 ≤ k ∧ k < s.n then (s.fr k.toNat, 0) else (⟨0, 0, 0, 0⟩, 1)
section
variable {w w' : World} {gb mm hm mb fb : Nat} {f : Int → Option (Int × Nat)} {c : Nat} {s : MS}
theorem frame_any (h : Mach w mb fb s) (k : Int) : Calls Try.prog 13 #[.pointer (some ⟨mb, 0, none⟩), .int .i64 k] w fun e w' =>
    e = .returned (.tuple #[.agg #[.int .i64 (frV s k).1.own, .int .i64 (frV s k).1.typ, .int .i64 (frV s k).1.cnt, .int .i64 (frV s k).1.tot], .int .i64 (frV s k).2]) ∧ Below w.heap.size w w' := by
  by_cases hk : 0 ≤ k ∧ k < s.n
  · have hv : frV s k = (s.fr k.toNat, 0) := if_pos hk
    rw [hv]
    obtain ⟨j, rfl⟩ : ∃ j : Nat, k = j := ⟨k.toNat, by omega⟩
    exact frame_calls h j (by omega)
  · have hv : frV s k = (⟨0, 0, 0, 0⟩, 1) := if_neg hk
    rw [hv]
    exact frame_out h k (by omega)
/-- The frame that a place of a member's names. -/
def frameR (s : MS) (size : Nat) (fr : Int → Option Int) (d g : Int) : Int × Int :=
  if (getV size fr g).2 ≠ 0 then (0, 60) else if (frV s (getV size fr g).1).2 ≠ 0 ∨ (frV s (getV size fr g).1).1.own ≠ d then (0, 60) else ((getV size fr g).1, 0)
set_option maxHeartbeats 4000000 in
set_option maxRecDepth 100000 in
theorem frame_calls (h : G2 w gb mm hm mb f c) (hM : Mach w mb fb s) {pb fm pm size c2 : Nat} {fr pl : Int → Option Int} (hP : P2 w pb fm pm size fr pl c2) (hs : size ≤ 48) (d : Int) (d0 : 0 ≤ d) (d8 : d < 8) (k : Int) (hd : f d = some (k, pb)) (g : Int) :
    Calls Try.prog 59 #[.pointer (some ⟨gb, 0, none⟩), .int .i64 d, .int .i64 g] w fun e w' => e = .returned (.tuple #[.int .i64 (frameR s size fr d g).1, .int .i64 (frameR s size fr d g).2]) ∧ Below w.heap.size w w' := by
  have C0 := fun i => blk_cell h.blk i
  have L0 := blk_lt h.blk
  have e1 : mvs f d = some (.agg #[.int .i64 k, .pointer (some ⟨pb, 0, none⟩)]) := by unfold mvs; rw [hd]; rfl
  have hlk := h.mem.look Try.underlying75 (zeroM _) d (by omega) (by omega)
  rw [e1] at hlk
  simp only [Option.getD_some] at hlk
  have hfd : ∀ (W : World) (a b : Value), (Instr.field 142 (.agg #[a, b]) 1).run Try.prog W = .ok b W := fun _ _ _ => by kernel_rfl
  have hge := GpA.get_calls hP g hs
  obtain ⟨r, hr⟩ : ∃ r, r = frameR s size fr d g := ⟨_, rfl⟩
  obtain ⟨x, hx⟩ : ∃ x, x = getV size fr g := ⟨_, rfl⟩
  have hfr := frame_any hM x.1
  obtain ⟨y, hy⟩ : ∃ y, y = frV s x.1 := ⟨_, rfl⟩
  have hr2 : r = if x.2 ≠ 0 then (0, 60) else if y.2 ≠ 0 ∨ y.1.own ≠ d then (0, 60) else (x.1, 0) := by rw [hr, hy, hx]; rfl
  rw [← hr]
  rw [← hy] at hfr
  rw [← hx] at hge
  clear h e1 hM hP hr hx hy
  have HR := Base.Aside.mk hr2
  clear hr2
  go_enter Try.func59, Try.ntmps59
  go_wp2_with (first
    | (go_at_call 67; refine hge.mono ?_; rintro z w1 ⟨rfl, hw1⟩; obtain rfl := hw1.symm)
    | (go_at_call 13; refine hfr.mono ?_; rintro z w1 ⟨rfl, hw1⟩; have E1 := Base.Aside.mk hw1; clear hw1)
    | go_in)
  all_goals
    go_ret2
    refine ⟨?_, by first | exact Below.refl _ _ | exact below_alloc E1.out _⟩
    go_light
    have hr := HR.out
    clear HR hge hfr hlk hfd C0
    simp_all
end
end Go.Proofs.Ytjeobbhaoahdcaa.GfA
