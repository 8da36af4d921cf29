/- Proved: what the scheduler's Wake, Tick, Queue, Ticks and Vcpu do in memory (contracts for the laws of the scheduler). -/
import Derived.Test.YtpdelhipfleniaaPlG
namespace Go.Proofs.Ytpdelhipfleniaa.PlH
open Go.RowKit Go.Maps Go.Proofs.Ytpdelhipfleniaa.Base Go.Proofs.Ytpdelhipfleniaa.SchA Go.Proofs.Ytpdelhipfleniaa.PlB Go.Proofs.Ytpdelhipfleniaa.PlC Go.Proofs.Ytpdelhipfleniaa.PlD Go.Proofs.Ytpdelhipfleniaa.PlE Go.Proofs.Ytpdelhipfleniaa.PlF Go.Proofs.Ytpdelhipfleniaa.PlG
set_option linter.unusedVariables false

theorem wf_of {x : Int} (h1 : -9223372036854775808 ≤ x) (h2 : x ≤ 9223372036854775807) : (Lit.int .i64 x).wf = true := by
  have e1 : IntKind.i64.min = -9223372036854775808 := rfl
  have e2 : IntKind.i64.max = 9223372036854775807 := rfl
  simp [Lit.wf]
  omega
theorem hnot (x : Bool) (w : World) : (Op.unary .not (.bool x)).run Try.prog w = .ok (.bool (!x)) w := rfl

set_option maxHeartbeats 2000000 in
set_option maxRecDepth 100000 in
theorem at_none {X : Nat → Prop} {w : World} {S M : Nat} {s : Nat → Option Nat} {e : Nat → V} {c : Nat} {qv : Value} {q : List Int} {t : Int} (h : Sch X w S M s e c qv q t) (n : Int) (h1 : -9223372036854775808 ≤ n) (h2 : n ≤ 9223372036854775807) (hs : n < 0 ∨ s n.toNat = none) :
    Calls Try.prog 25 #[.pointer (some ⟨S, 0, none⟩), .int .i64 n] w fun e w' => e = .returned (.tuple #[.pointer none, .int .i64 6]) ∧ w' = w := by
  have C0 := fun i => blk_cell h.blk i
  have L0 := blk_lt h.blk
  have hl : (Instr.lookup 40 (.map (some M)) (.int .i64 n) true).run Try.prog w = .ok (.tuple #[.pointer none, .bool false]) w := by
    by_cases h0 : n < 0
    · exact h.map.look_neg n h0 (wf_of h1 h2)
    · have hs2 := hs.resolve_left h0
      have := h.map.look_ok n.toNat (by omega)
      rw [hs2, show ((n.toNat : Nat) : Int) = n by omega] at this
      simpa [pv] using this
  go_enter Try.func25, Try.ntmps25
  go_wp2_with (first
    | (go_at_call 24; refine (none_calls h).mono ?_; rintro z w1 ⟨rfl, hw1⟩; obtain rfl := hw1.symm)
    | go_in)
  go_ret2
  exact ⟨by first | rfl | (simp; done), rfl⟩

set_option maxHeartbeats 2000000 in
set_option maxRecDepth 100000 in
theorem wake_none {X : Nat → Prop} {w : World} {S M : Nat} {s : Nat → Option Nat} {e : Nat → V} {c : Nat} {qv : Value} {q : List Int} {t : Int} (h : Sch X w S M s e c qv q t) (n : Int) (h1 : -9223372036854775808 ≤ n) (h2 : n ≤ 9223372036854775807) (hs : n < 0 ∨ s n.toNat = none) :
    Calls Try.prog 10 #[.pointer (some ⟨S, 0, none⟩), .int .i64 n] w fun e w' => e = .returned (.int .i64 6) ∧ w' = w := by
  go_enter Try.func10, Try.ntmps10
  go_wp2_with (first
    | (go_at_call 25; refine (at_none h n h1 h2 hs).mono ?_; rintro z w1 ⟨rfl, hw1⟩; obtain rfl := hw1.symm)
    | go_in)
  go_ret
  exact ⟨by first | rfl | (simp; done), rfl⟩

set_option maxHeartbeats 2000000 in
set_option maxRecDepth 100000 in
theorem wake_ready {X : Nat → Prop} {w : World} {S M : Nat} {s : Nat → Option Nat} {e : Nat → V} {c : Nat} {qv : Value} {q : List Int} {t : Int} (h : Sch X w S M s e c qv q t) (k g : Nat) (hk : k < 16) (hs : s k = some g) (hr : (e k).ready = true) :
    Calls Try.prog 10 #[.pointer (some ⟨S, 0, none⟩), .int .i64 k] w fun e w' => e = .returned (.int .i64 0) ∧ w' = w := by
  have CE := fun i => blk_cell (h.ent k g hs) i
  have LE := blk_lt (h.ent k g hs)
  simp only [vcells, hr] at CE
  go_enter Try.func10, Try.ntmps10
  go_wp2_with (first
    | (go_at_call 25; refine (at_calls h k g (by omega) hs).mono ?_; rintro z w1 ⟨rfl, hw1⟩; obtain rfl := hw1.symm)
    | go_in)
  go_ret
  exact ⟨by first | rfl | (simp; done), rfl⟩

def setReady (v : V) (r : Bool) : V := { v with ready := r }
set_option maxHeartbeats 2000000 in
set_option maxRecDepth 100000 in
theorem wake_calls {X : Nat → Prop} {w : World} {S M : Nat} {s : Nat → Option Nat} {e : Nat → V} {c : Nat} {qv : Value} {q : List Int} {t : Int} (h : Sch X w S M s e c qv q t) (hb : Old X w) (hq : q.length ≤ 1000) (k g : Nat) (hk : k < 16) (hs : s k = some g) (hr : (e k).ready = false) :
    Calls Try.prog 10 #[.pointer (some ⟨S, 0, none⟩), .int .i64 k] w fun z w' => z = .returned (.int .i64 0) ∧ ∃ qv', Sch X w' S M s (fun j => if j = k then setReady (e k) true else e j) c qv' (outq q k ++ [(k : Int)]) t ∧ Kept X w w' := by
  have CE := fun i => blk_cell (h.ent k g hs) i
  have FE := fun i => blk_frozen (h.ent k g hs) i
  have LE := blk_lt (h.ent k g hs)
  have h2 := h.entry hs 4 (.bool true) (setReady (e k) true) rfl
  simp only [vcells, hr] at CE
  go_enter Try.func10, Try.ntmps10
  go_wp2_with (first
    | (go_at_call 25; refine (at_calls h k g (by omega) hs).mono ?_; rintro z w1 ⟨rfl, hw1⟩; obtain rfl := hw1.symm)
    | (go_at_call 26; refine (last_calls h2.1 (Old.up hb h2.2.size) k hq).mono ?_; rintro z w1 ⟨rfl, qv', h3, hB3⟩)
    | go_in)
  go_ret
  exact ⟨by first | rfl | (simp; done), _, h3, h2.2.trans hB3⟩

set_option maxHeartbeats 2000000 in
set_option maxRecDepth 100000 in
theorem ticks_calls {X : Nat → Prop} {w : World} {S M : Nat} {s : Nat → Option Nat} {e : Nat → V} {c : Nat} {qv : Value} {q : List Int} {t : Int} (h : Sch X w S M s e c qv q t) :
    Calls Try.prog 15 #[.pointer (some ⟨S, 0, none⟩)] w fun e w' => e = .returned (.int .i64 t) ∧ w' = w := by
  have C0 := fun i => blk_cell h.blk i
  have L0 := blk_lt h.blk
  go_enter Try.func15, Try.ntmps15
  go_wp2_with (first
    | (go_at_call 24; refine (none_calls h).mono ?_; rintro z w1 ⟨rfl, hw1⟩; obtain rfl := hw1.symm)
    | go_in)
  go_ret
  exact ⟨by first | rfl | (simp; done), rfl⟩
end Go.Proofs.Ytpdelhipfleniaa.PlH
