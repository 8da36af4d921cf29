/- Proved: page table entries: Pack, Unpack, At, and name, of entries that are present and writable, or none (contracts for the laws of the domains). -/
import Derived.Test.YtebhpmmibffbeaaGfB
import Derived.BigQuiet
namespace Go.Proofs.Ytebhpmmibffbeaa.DbB
open Go.RowKit Go.Maps Go.Proofs.Ytebhpmmibffbeaa.Base Go.Proofs.Ytebhpmmibffbeaa.GaA Go.Proofs.Ytebhpmmibffbeaa.GaB Go.Proofs.Ytebhpmmibffbeaa.GaC Go.Proofs.Ytebhpmmibffbeaa.GfB
set_option linter.unusedVariables false
set_option linter.unusedSimpArgs false

/-- An entry's bits. -/
def entW : Option Nat → Int
  | none => 0
  | some m => (m : Int) * 256 + 3
def entZ : Option Nat → List UInt8
  | none => [0, 0, 0, 0]
  | some m => [3, UInt8.ofNat m, 0, 0]
theorem or_all : ∀ m : Fin 256, bits .or .u32 ((m.val : Int) * 256) 1 = (m.val : Int) * 256 + 1 ∧ bits .or .u32 ((m.val : Int) * 256 + 1) 2 = (m.val : Int) * 256 + 3 ∧ bits .or .u32 3 ((m.val : Int) * 256) = (m.val : Int) * 256 + 3 ∧ bits .or .u32 ((m.val : Int) * 256 + 3) 0 = (m.val : Int) * 256 + 3 ∧
    bits .and .u32 ((m.val : Int) * 256 + 3) 1 = 1 ∧ bits .and .u32 ((m.val : Int) * 256 + 3) 252 = 0 ∧ bits .and .u32 ((m.val : Int) * 256 + 3) 2 = 2 := by decide +kernel
theorem or_at (m : Nat) (hm : m < 256) : bits .or .u32 ((m : Int) * 256) 1 = (m : Int) * 256 + 1 ∧ bits .or .u32 ((m : Int) * 256 + 1) 2 = (m : Int) * 256 + 3 ∧ bits .or .u32 3 ((m : Int) * 256) = (m : Int) * 256 + 3 ∧ bits .or .u32 ((m : Int) * 256 + 3) 0 = (m : Int) * 256 + 3 ∧
    bits .and .u32 ((m : Int) * 256 + 3) 1 = 1 ∧ bits .and .u32 ((m : Int) * 256 + 3) 252 = 0 ∧ bits .and .u32 ((m : Int) * 256 + 3) 2 = 2 := or_all ⟨m, hm⟩
set_option maxHeartbeats 4000000 in
set_option maxRecDepth 100000 in
theorem pack_calls (m : Nat) (hm : m < 256) (w : World) : Calls Try.prog 46 #[.agg #[.bool true, .bool true, .int .i64 m]] w fun e w' => e = .returned (.tuple #[.int .u32 ((m : Int) * 256 + 3), .int .i64 0]) ∧ Below w.heap.size w w' := by
  obtain ⟨h1, h2, _⟩ := or_at m hm
  have d0 : decide ((m : Int) < 0) = false := decide_eq_false (by omega)
  have d1 : decide ((16777216 : Int) ≤ (m : Int)) = false := decide_eq_false (by omega)
  have e1 : IntKind.u32.wrap (m : Int) = m := by rw [IntKind.wrap_u32]; omega
  have e2 : IntKind.u32.wrap ((m : Int) * 256) = (m : Int) * 256 := by rw [IntKind.wrap_u32]; omega
  go_enter Try.func46, Try.ntmps46
  go_wp2
  go_ret2
  exact ⟨by first | rfl | (simp; done), below_alloc (Below.refl _ _) _⟩
theorem entV (x : Option Nat) (hx : ∀ m, x = some m → m < 256) : u8s (entZ x) = match x with | none => [.int .u8 0, .int .u8 0, .int .u8 0, .int .u8 0] | some m => [.int .u8 3, .int .u8 m, .int .u8 0, .int .u8 0] := by
  cases x with
  | none => rfl
  | some m =>
    have h := hx m rfl
    have e : (UInt8.ofNat m).toNat = m := by simp; omega
    simp [u8s, entZ, e]
set_option maxHeartbeats 4000000 in
set_option maxRecDepth 100000 in
theorem unpack_calls (x : Option Nat) (hx : ∀ m, x = some m → m < 256) (w : World) : Calls Try.prog 65 #[.int .u32 (entW x)] w fun e w' => e = .returned (.tuple #[.agg #[.bool x.isSome, .bool x.isSome, .int .i64 (x.getD 0 : Nat)], .int .i64 0]) ∧ Below w.heap.size w w' := by
  cases x with
  | none =>
    have a1 : bits .and .u32 0 1 = 0 := by decide +kernel
    have e0 : entW none = 0 := rfl
    rw [e0]
    go_enter Try.func65, Try.ntmps65
    go_wp2
    refine bodyPost_ret (v := .tuple #[.agg #[.bool false, .bool false, .int .i64 0], .int .i64 0]) ?_ rfl ⟨rfl, ?_⟩
    · simp only [results, Try.results65]; first | (go_simp; done) | (go_simp; rfl)
    · repeat (with_reducible first | exact Below.refl _ _ | apply below_alloc | apply below_drewN | apply below_drew | refine below_set (p := ⟨w.heap.size, _, none⟩) ?_ (Nat.le_refl _) _)
  | some m =>
    have hm := hx m rfl
    obtain ⟨_, _, _, _, h1, h2, h3⟩ := or_at m hm
    have e0 : entW (some m) = (m : Int) * 256 + 3 := rfl
    rw [e0]
    have e1 : ((m : Int) * 256 + 3) / 256 = m := by omega
    have e2 : IntKind.i64.wrap (m : Int) = m := by rw [IntKind.wrap_i64]; omega
    clear hx
    go_enter Try.func65, Try.ntmps65
    go_wp2
    refine bodyPost_ret (v := .tuple #[.agg #[.bool true, .bool true, .int .i64 m], .int .i64 0]) ?_ rfl ⟨rfl, ?_⟩
    · simp only [results, Try.results65]; first | (go_simp; done) | (go_simp; rfl)
    · repeat (with_reducible first | exact Below.refl _ _ | apply below_alloc | apply below_drewN | apply below_drew | refine below_set (p := ⟨w.heap.size, _, none⟩) ?_ (Nat.le_refl _) _)
section
variable {w w' : World} {mb fb : Nat} {s : MS}
set_option maxHeartbeats 4000000 in
set_option maxRecDepth 100000 in
theorem at_calls (h : Mach w mb fb s) (h1 : 1 ≤ s.n) (t k : Nat) (ht : t < s.n) (hk : k < 64) (x : Option Nat) (hx : ∀ m, x = some m → m < 256) (hz : MS.rd s t (4 * k) 4 = entZ x) : Calls Try.prog 59 #[.pointer (some ⟨mb, 0, none⟩), .int .i64 t, .int .i64 k] w fun e w' => e = .returned (.tuple #[.int .u32 (entW x), .int .i64 0]) ∧ Below w.heap.size w w' := by
  have hs := size_calls h
  have hr := GaC.read_calls h t ht (4 * k) 4 (by omega)
  rw [hz, entV x hx, show ((4 * k : Nat) : Int) = 4 * (k : Int) by omega] at hr
  have d0 : ((s.n : Int) == 0) = false := by simp; omega
  have d1 : decide ((k : Int) < 0) = false := decide_eq_false (by omega)
  have d2 : decide ((64 : Int) ≤ (k : Int)) = false := decide_eq_false (by omega)
  clear h hz h1
  cases x with
  | none =>
    have e0 : entW none = 0 := rfl
    have a1 : bits .or .u32 0 0 = 0 := by decide +kernel
    have hr2 : Calls Try.prog 64 #[.pointer (some ⟨mb, 0, none⟩), .int .i64 t, .int .i64 (4 * (k : Int)), .int .i64 4] w fun e w' => e = .returned (.tuple #[.slice (some ⟨w.heap.size, 0, none⟩) 4 4, .int .i64 0]) ∧ w'.heap[w.heap.size]? = some (.cells #[.int .u8 0, .int .u8 0, .int .u8 0, .int .u8 0] 5 (0, 0)) ∧ Below w.heap.size w w' := hr
    rw [e0]
    clear hr hx
    go_enter Try.func59, Try.ntmps59
    go_wp2_with (first
      | (go_at_call 32; refine hs.mono ?_; rintro z w1 ⟨rfl, hw1⟩; obtain rfl := hw1.symm)
      | (go_at_call 64; (with_reducible refine hr2.mono ?_); rintro z w2 ⟨rfl, hN, hB⟩; have C2 := (fun i => blk_cell hN i); have L2 := blk_lt hN; have E2 := Base.Aside.mk hB; clear hN hB)
      | go_in)
    go_quiet (fail)
    go_wp2
    go_ret2
    exact ⟨by first | rfl | (simp; done), below_drewN E2.out _⟩
  | some m =>
    have hm := hx m rfl
    obtain ⟨_, _, o1, o2, _⟩ := or_at m hm
    have e0 : entW (some m) = (m : Int) * 256 + 3 := rfl
    have e1 : IntKind.u32.wrap ((m : Int) * 256) = (m : Int) * 256 := by rw [IntKind.wrap_u32]; omega
    have hr2 : Calls Try.prog 64 #[.pointer (some ⟨mb, 0, none⟩), .int .i64 t, .int .i64 (4 * (k : Int)), .int .i64 4] w fun e w' => e = .returned (.tuple #[.slice (some ⟨w.heap.size, 0, none⟩) 4 4, .int .i64 0]) ∧ w'.heap[w.heap.size]? = some (.cells #[.int .u8 3, .int .u8 m, .int .u8 0, .int .u8 0] 5 (0, 0)) ∧ Below w.heap.size w w' := hr
    rw [e0]
    clear hr hx
    go_enter Try.func59, Try.ntmps59
    go_wp2_with (first
      | (go_at_call 32; refine hs.mono ?_; rintro z w1 ⟨rfl, hw1⟩; obtain rfl := hw1.symm)
      | (go_at_call 64; (with_reducible refine hr2.mono ?_); rintro z w2 ⟨rfl, hN, hB⟩; have C2 := (fun i => blk_cell hN i); have L2 := blk_lt hN; have E2 := Base.Aside.mk hB; clear hN hB)
      | go_in)
    go_quiet (fail)
    go_wp2
    go_ret2
    exact ⟨by first | rfl | (simp; done), below_drewN E2.out _⟩
theorem told_ok (w : World) : Calls Try.prog 35 #[.int .i64 0] w fun e w' => e = .returned (.int .i64 0) ∧ w' = w := by
  go_enter Try.func35, Try.ntmps35
  go_wp2
  go_ret
  exact ⟨by first | rfl | (simp; done), rfl⟩
end
end Go.Proofs.Ytebhpmmibffbeaa.DbB
