/- Proved: of a hypervisor without a domain there are no maps, and no frame is in use (contracts for the law AuditZero). -/
import Derived.Test.YtkalnjfhkbnamaaAuC
import Derived.Maps.OwnOps
namespace Go.Proofs.Ytkalnjfhkbnamaa.AuD
open Go.RowKit Go.Shelf Go.Proofs.Ytkalnjfhkbnamaa.Base Go.Proofs.Ytkalnjfhkbnamaa.Phys Go.Proofs.Ytkalnjfhkbnamaa.MaA Go.Proofs.Ytkalnjfhkbnamaa.MaB Go.Proofs.Ytkalnjfhkbnamaa.AuA Go.Proofs.Ytkalnjfhkbnamaa.AuB Go.Proofs.Ytkalnjfhkbnamaa.AuC
attribute [local go_sem] Oper.semAt_some
set_option linter.unusedVariables false

set_option maxRecDepth 100000 in
theorem check_g (em : Bool) (d : Nat) (w : World) (a b : Int) : (Instr.checkKey em (d + 1 + 1) 148 (.agg #[.int .i64 a, .int .i64 b])).run Try.prog w = .ok () w := by
  rw [Instr.checkKey]
  simp [go_sem, Instr.checkKey]
set_option maxRecDepth 100000 in
theorem look_g (w : World) (m : Nat) (a b : Int) (hm : w.heap[m]? = some (.map #[] 0)) :
    (Instr.lookup 132 (.map (some m)) (.agg #[.int .i64 a, .int .i64 b]) true).run Try.prog w = .ok (.tuple #[.agg #[.int .i64 0, .int .i64 0, .int .i64 0, .int .i64 0, .int .i64 0, .bool false], .bool false]) w := by
  have hc := fun em => check_g em 9998 w a b
  simp [Instr.lookup, go_sem, MapKept.run_getObj_map hm, Result.andThen, hc, Instr.findKey, Instr.findNow, Try.zeroValue85]
set_option maxRecDepth 100000 in
theorem check_a (em : Bool) (d : Nat) (w : World) (a b : Int) : (Instr.checkKey em (d + 1 + 1) 97 (.agg #[.int .i64 a, .int .i64 b])).run Try.prog w = .ok () w := by
  rw [Instr.checkKey]
  simp [go_sem, Instr.checkKey]
set_option maxRecDepth 100000 in
theorem look_a (w : World) (m : Nat) (a b : Int) (hm : w.heap[m]? = some (.map #[] 0)) :
    (Instr.lookup 45 (.map (some m)) (.agg #[.int .i64 a, .int .i64 b]) false).run Try.prog w = .ok (.int .i64 0) w := by
  have hc := fun em => check_a em 9998 w a b
  simp [Instr.lookup, go_sem, MapKept.run_getObj_map hm, Result.andThen, hc, Instr.findKey, Instr.findNow, Try.zeroValue3]

section
variable {w : World} {h n mb fb x g ev m1 m2 : Nat} {o : Nat → Int}
set_option maxHeartbeats 2000000 in
set_option maxRecDepth 100000 in
theorem gnone_calls (H : Hyp w h n mb fb x g ev m1 m2 o) : Calls Try.prog 51 #[.pointer (some ⟨g, 0, none⟩)] w fun e w' => e = .returned (.bool false) ∧ w' = w := by
  have C0 := fun i => blk_cell H.gr i
  have L0 := blk_lt H.gr
  go_enter Try.func51, Try.ntmps51
  go_wp2
  go_ret
  exact ⟨by first | rfl | (simp; done), rfl⟩
set_option maxHeartbeats 4000000 in
set_option maxRecDepth 100000 in
theorem maps_calls (H : Hyp w h n mb fb x g ev m1 m2 o) (d : Int) : Calls Try.prog 27 #[.pointer (some ⟨g, 0, none⟩), .int .i64 d] w fun e w' => e = .returned (.slice none 0 0) ∧ Below w.heap.size w w' := by
  have C0 := fun i => blk_cell H.gr i
  have L0 := blk_lt H.gr
  go_enter Try.func27, Try.ntmps27
  go_wp2_with (first
    | (go_at_call 51; refine (gnone_calls H).mono ?_; rintro z w1 ⟨rfl, hw1⟩; obtain rfl := hw1.symm)
    | go_in)
  go_loopw [5, 11] (fun l v wr => ∃ (k : Nat) (W2 : World), k ≤ 16 ∧ v = .int .i64 k ∧ l = .slice none 0 0 ∧ wr = W2 ∧ Aside (Below w.heap.size w W2)) (fun _ v _ => 16 - (intOf v).toNat)
  case atStart => exact ⟨0, w, Nat.zero_le _, rfl, rfl, rfl, Below.refl _ _⟩
  case round =>
    obtain ⟨k, W2, hk, rfl, rfl, hwr, hE⟩ := hrel
    obtain rfl := hwr.symm
    have H2 := H.below hE.out
    have C2 := fun i => blk_cell H2.gr i
    have L2 := blk_lt H2.gr
    by_cases hlt : k < 16
    · have hl := look_g W2 m2 d k H2.mp
      clear H2
      go_wp2
      exact ⟨⟨k + 1, _, by omega, by simp, rfl, rfl, below_alloc hE.out _⟩, by simp [intOf]; omega⟩
    · clear H2
      go_wp2
      go_ret
      exact ⟨by first | rfl | (simp; done), hE.out⟩
end
set_option maxHeartbeats 2000000 in
set_option maxRecDepth 100000 in
theorem ref_none (w : World) (c : Value) (kind : Int) : Calls Try.prog 22 #[c, .int .i64 (-1), .int .i64 kind] w fun e w' => e = .returned (.tuple #[]) ∧ w' = w := by
  go_enter Try.func22, Try.ntmps22
  go_wp2
  refine bodyPost_end (results_none rfl _ _ _) rfl ?_
  exact ⟨by first | rfl | (simp; done), rfl⟩
set_option maxHeartbeats 2000000 in
set_option maxRecDepth 100000 in
theorem inuse_calls (c : Nat) (h : Nat) (kind : Int) (w : World) : Calls Try.prog 29 #[.map (some c), .pointer (some ⟨h, 0, none⟩), .int .i64 kind] w fun e w' =>
    e = .returned (.func (.func 52) #[] #[.pointer (some ⟨w.heap.size + 1, 0, none⟩), .pointer (some ⟨w.heap.size, 0, none⟩), .pointer (some ⟨w.heap.size + 1 + 1, 0, none⟩)]) ∧
    w' = ((w.alloc (.cells #[.map (some c)] 45)).alloc (.cells #[.pointer (some ⟨h, 0, none⟩)] 29)).alloc (.cells #[.int .i64 kind] 3) := by
  have hmf : ∀ (fn : Fn) (first cap : Array Value) (w : World), (Instr.makeFunc fn first cap).run Try.prog w = .ok (.func fn first cap) w := fun _ _ _ _ => rfl
  go_enter Try.func29, Try.ntmps29
  go_wp2
  go_ret
  exact ⟨by first | rfl | (simp; done), by first | rfl | (simp; done)⟩
set_option maxRecDepth 100000 in
set_option maxHeartbeats 4000000 in
/-- Nothing is in use: the iterator gives nothing. -/
theorem inuse1_in (m : Nat) (hm : 2 ≤ m) (l Bh Bc Bk c : Nat) (kind : Int) {h n mb fb x g ev m1 m2 : Nat} {o : Nat → Int} (hn : n ≤ 1000) {α : Type} (J Jx : List α → World → Prop) (W : World) (H : Hyp W h n mb fb x g ev m1 m2 o) (hbh : W.cell? ⟨Bh, 0, none⟩ = some (.pointer (some ⟨h, 0, none⟩))) (hbc : W.cell? ⟨Bc, 0, none⟩ = some (.map (some c))) (hbk : W.cell? ⟨Bk, 0, none⟩ = some (.int .i64 kind)) (hc : W.heap[c]? = some (.map #[] 0)) (h0 : J [] W) :
    CallsIn Fence.wide m Try.prog 52 #[.func (.yield l) #[] #[], .pointer (some ⟨Bh, 0, none⟩), .pointer (some ⟨Bc, 0, none⟩), .pointer (some ⟨Bk, 0, none⟩)] W fun e W' => (∃ v, e = .returned v) ∧ ((∃ xs : List α, xs = [] ∧ J xs W') ∨ (∃ pre : List α, False ∧ Jx pre W')) := by
  have hfn : ∀ f, Fence.wide.fn f := fun _ => trivial
  have hro : Fence.wide.round = none := rfl
  have hm1 : 1 ≤ m := by omega
  have hmc := fun m => callsIn_wide (n := m).2 (machine_calls H)
  have hsz := fun m => callsIn_wide (n := m).2 (size_calls H.mach)
  refine callsIn_of_wp Try.func52 rfl trivial ?_ rfl
  simp only [Try.ntmps52, List.size_toArray, List.length_cons, List.length_nil, Nat.reduceAdd, Nat.reduceSub, Array.replicate_succ, Array.replicate_zero, List.push_toArray, List.append_toArray, List.nil_append, List.cons_append]
  gi_wp2_with (first
    | (gi_at_call 7; refine (hmc _).mono ?_; rintro z w1 ⟨rfl, hw1⟩; obtain rfl := hw1.symm)
    | (gi_at_call 9; refine (hsz _).mono ?_; rintro z w1 ⟨rfl, hw1⟩; obtain rfl := hw1.symm)
    | gi_in)
  gi_loopw [9] (fun v wr => ∃ k : Nat, k ≤ n ∧ v = .int .i64 k ∧ wr = W) (fun v _ => n - (intOf v).toNat)
  case atStart => exact ⟨0, Nat.zero_le _, rfl, rfl⟩
  case round =>
    obtain ⟨k, hk, rfl, hwr⟩ := hrel
    obtain rfl := hwr.symm
    by_cases hlt : k < n
    · have hl := look_a W c k kind hc
      gi_wp2
      go_roundw
      case rel => exact ⟨k + 1, by omega, by simp, trivial⟩
      case measure => simp [intOf]; omega
    · gi_wp2
      go_end0
      first
        | exact ⟨⟨_, rfl⟩, Or.inl ⟨[], rfl, h0⟩⟩
        | exact ⟨⟨_, rfl⟩, h0⟩
        | exact h0
end Go.Proofs.Ytkalnjfhkbnamaa.AuD
