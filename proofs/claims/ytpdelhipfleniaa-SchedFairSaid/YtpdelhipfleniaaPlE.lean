/- Proved: what the queue's first and the scheduler's next do in memory (contracts for the laws of the scheduler). -/
import Derived.Test.YtpdelhipfleniaaPlD
namespace Go.Proofs.Ytpdelhipfleniaa.PlE
open Go.RowKit Go.Maps Go.Proofs.Ytpdelhipfleniaa.Base Go.Proofs.Ytpdelhipfleniaa.SchA Go.Proofs.Ytpdelhipfleniaa.PlB Go.Proofs.Ytpdelhipfleniaa.PlC Go.Proofs.Ytpdelhipfleniaa.PlD
set_option linter.unusedVariables false

/-- All in the queue are entries. -/
def Qok (q : List Int) (s : Nat → Option Nat) : Prop := ∀ x ∈ q, ∃ k g : Nat, x = (k : Int) ∧ k < 16 ∧ s k = some g
def pos (e : Nat → V) (x : Int) : Bool := decide (0 < (e x.toNat).credit)
def any (x : Int) : Bool := true
def tup : Option Int → Value
  | some x => .tuple #[.int .i64 x, .bool true]
  | none => .tuple #[.int .i64 0, .bool false]
theorem find_at (q : List Int) (p : Int → Bool) (j : Nat) (hj : j < q.length) (h : p q[j] = true) (hne : ∀ i, i < j → p (q.getD i 0) = false) : q.find? p = some q[j] := by
  rw [List.find?_eq_some_iff_getElem]
  refine ⟨h, j, hj, rfl, fun i hi => ?_⟩
  have := hne i hi
  rw [List.getD_eq_getElem?_getD, List.getElem?_eq_getElem (by omega)] at this
  simpa using this
theorem find_no (q : List Int) (p : Int → Bool) (hne : ∀ i, i < q.length → p (q.getD i 0) = false) : q.find? p = none := by
  rw [List.find?_eq_none]
  intro x hx
  obtain ⟨i, hi, rfl⟩ := List.getElem_of_mem hx
  have := hne i hi
  rw [List.getD_eq_getElem?_getD, List.getElem?_eq_getElem hi] at this
  simpa using this

set_option maxHeartbeats 2000000 in
set_option maxRecDepth 100000 in
theorem pos_calls {X : Nat → Prop} {w : World} {S M : Nat} {s : Nat → Option Nat} {e : Nat → V} {c : Nat} {qv : Value} {q : List Int} {t : Int} (h : Sch X w S M s e c qv q t) (B : Nat) (hB : w.heap[B]? = some (.cells #[.pointer (some ⟨S, 0, none⟩)] 22 (0, 0))) (hq : Qok q s) (x : Int) (hx : x ∈ q) :
    Calls Try.prog 42 #[.int .i64 x, .pointer (some ⟨B, 0, none⟩)] w fun z w' => z = .returned (.bool (pos e x)) ∧ w' = w := by
  obtain ⟨k, g, rfl, hk, hg⟩ := hq x hx
  have C0 := fun i => blk_cell h.blk i
  have L0 := blk_lt h.blk
  have CB := fun i => blk_cell hB i
  have LB := blk_lt hB
  have CE := fun i => blk_cell (h.ent k g hg) i
  have LE := blk_lt (h.ent k g hg)
  have hl := h.map.look k (by omega)
  rw [hg] at hl
  simp only [pv] at hl
  simp only [vcells] at CE
  have e0 : pos e k = decide (0 < (e k).credit) := by simp [pos]
  clear h
  go_enter Try.func42, Try.ntmps42
  go_wp2
  go_ret
  exact ⟨by rw [e0]; first | rfl | (simp; done), rfl⟩

set_option maxHeartbeats 2000000 in
set_option maxRecDepth 100000 in
theorem first_pos {X : Nat → Prop} {w : World} {S M : Nat} {s : Nat → Option Nat} {e : Nat → V} {c : Nat} {qv : Value} {q : List Int} {t : Int} (h : Sch X w S M s e c qv q t) (B : Nat) (hB : w.heap[B]? = some (.cells #[.pointer (some ⟨S, 0, none⟩)] 22 (0, 0))) (hq : Qok q s) :
    Calls Try.prog 41 #[.pointer (some ⟨S, 1, none⟩), .func (.func 42) #[] #[.pointer (some ⟨B, 0, none⟩)]] w fun z w' => z = .returned (tup (q.find? (pos e))) ∧ w' = w := by
  have C0 := fun i => blk_cell h.blk i
  have L0 := blk_lt h.blk
  rcases Row.form h.row with ⟨rfl, rfl⟩ | ⟨g, cap, cur, rfl, _, hb, hcap, hmax, _, _⟩
  · go_enter Try.func41, Try.ntmps41
    go_wp2
    go_loop [14] (fun i => i = .int .i64 0) (fun _ => 0)
    case atStart => rfl
    case round =>
      subst hrel
      go_wp2
      go_ret2
      exact ⟨by first | rfl | (simp; done), rfl⟩
  · have hc := fun j hj => Row.cell h.row j hj
    have lt := blk_lt hb
    have hbig : q.length ≤ 9223372036854775807 := by unfold maxLen at hmax; omega
    go_enter Try.func41, Try.ntmps41
    go_wp2
    go_loopw [7, 14] (fun _ i wr => ∃ k : Nat, k ≤ q.length ∧ i = .int .i64 k ∧ wr = w ∧ Aside (∀ j, j < k → (pos e) (q.getD j 0) = false)) (fun _ i _ => q.length - (intOf i).toNat)
    case atStart => exact ⟨0, Nat.zero_le _, rfl, rfl, fun j hj => absurd hj (Nat.not_lt_zero _)⟩
    case round =>
      obtain ⟨k, hk, rfl, hwr, hne⟩ := hrel
      obtain rfl := hwr.symm
      by_cases hlt : k < q.length
      · have hcell := hc k hlt
        have hget : q.getD k 0 = q[k] := by rw [List.getD_eq_getElem?_getD, List.getElem?_eq_getElem hlt]; rfl
        rw [hget] at hcell
        have hmem : q[k] ∈ q := List.getElem_mem hlt
        cases hp : (pos e) q[k] with
        | true =>
          go_wp2_with (first
            | (go_at_call 42; refine (pos_calls h B hB hq _ hmem).mono ?_; rw [hp]; rintro z w1 ⟨rfl, hw1⟩; obtain rfl := hw1.symm)
            | go_in)
          go_ret2
          refine ⟨?_, rfl⟩
          rw [find_at q (pos e) k hlt hp hne.out]
          first | rfl | (simp [tup]; done)
        | false =>
          go_wp2_with (first
            | (go_at_call 42; refine (pos_calls h B hB hq _ hmem).mono ?_; rw [hp]; rintro z w1 ⟨rfl, hw1⟩; obtain rfl := hw1.symm)
            | go_in)
          refine ⟨⟨k + 1, by omega, by simp, trivial, fun j hj => ?_⟩, by simp [intOf]; omega⟩
          by_cases e1 : j = k
          · subst e1
            rw [hget]
            exact hp
          · exact hne.out j (by omega)
      · go_wp2
        go_ret2
        refine ⟨?_, rfl⟩
        have hk2 : k = q.length := by omega
        subst hk2
        rw [find_no q (pos e) hne.out]
        first | rfl | (simp [tup]; done)

set_option maxHeartbeats 2000000 in
set_option maxRecDepth 100000 in
theorem first_any {X : Nat → Prop} {w : World} {S M : Nat} {s : Nat → Option Nat} {e : Nat → V} {c : Nat} {qv : Value} {q : List Int} {t : Int} (h : Sch X w S M s e c qv q t) :
    Calls Try.prog 41 #[.pointer (some ⟨S, 1, none⟩), .func (.func 43) #[] #[]] w fun z w' => z = .returned (tup (q.find? any)) ∧ w' = w := by
  have C0 := fun i => blk_cell h.blk i
  have L0 := blk_lt h.blk
  rcases Row.form h.row with ⟨rfl, rfl⟩ | ⟨g, cap, cur, rfl, _, hb, hcap, hmax, _, _⟩
  · go_enter Try.func41, Try.ntmps41
    go_wp2
    go_loop [14] (fun i => i = .int .i64 0) (fun _ => 0)
    case atStart => rfl
    case round =>
      subst hrel
      go_wp2
      go_ret2
      exact ⟨by first | rfl | (simp; done), rfl⟩
  · have hc := fun j hj => Row.cell h.row j hj
    have lt := blk_lt hb
    have hbig : q.length ≤ 9223372036854775807 := by unfold maxLen at hmax; omega
    go_enter Try.func41, Try.ntmps41
    go_wp2
    go_loopw [7, 14] (fun _ i wr => ∃ k : Nat, k ≤ q.length ∧ i = .int .i64 k ∧ wr = w ∧ Aside (∀ j, j < k → any (q.getD j 0) = false)) (fun _ i _ => q.length - (intOf i).toNat)
    case atStart => exact ⟨0, Nat.zero_le _, rfl, rfl, fun j hj => absurd hj (Nat.not_lt_zero _)⟩
    case round =>
      obtain ⟨k, hk, rfl, hwr, hne⟩ := hrel
      obtain rfl := hwr.symm
      by_cases hlt : k < q.length
      · have hcell := hc k hlt
        have hget : q.getD k 0 = q[k] := by rw [List.getD_eq_getElem?_getD, List.getElem?_eq_getElem hlt]; rfl
        rw [hget] at hcell
        have hmem : q[k] ∈ q := List.getElem_mem hlt
        cases hp : any q[k] with
        | true =>
          go_wp2_with (first
            | (fail)
            | go_in)
          go_ret2
          refine ⟨?_, rfl⟩
          rw [find_at q any k hlt hp hne.out]
          first | rfl | (simp [tup]; done)
        | false =>
          cases hp
      · go_wp2
        go_ret2
        refine ⟨?_, rfl⟩
        have hk2 : k = q.length := by omega
        subst hk2
        rw [find_no q any hne.out]
        first | rfl | (simp [tup]; done)

/-- Who runs. -/
def nextOf (q : List Int) (e : Nat → V) : Option Int := match q.find? (pos e) with
  | some x => some x
  | none => q.find? any

set_option maxHeartbeats 2000000 in
set_option maxRecDepth 100000 in
theorem next_calls {X : Nat → Prop} {w : World} {S M : Nat} {s : Nat → Option Nat} {e : Nat → V} {c : Nat} {qv : Value} {q : List Int} {t : Int} (h : Sch X w S M s e c qv q t) (hb : Old X w) (hq : Qok q s) :
    Calls Try.prog 27 #[.pointer (some ⟨S, 0, none⟩)] w fun z w' => z = .returned (tup (nextOf q e)) ∧ Sch X w' S M s e c qv q t ∧ Kept X w w' := by
  have hbel := Kept.alloc (Kept.refl X w) hb (.cells #[.pointer (some ⟨S, 0, none⟩)] 22)
  have h1 := h.below (Below.alloc (Below.refl w.heap.size w) (Nat.le_refl _) (.cells #[.pointer (some ⟨S, 0, none⟩)] 22))
  have hB := blk_new w (.cells #[.pointer (some ⟨S, 0, none⟩)] 22)
  have C1 := fun i => blk_cell h1.blk i
  have L1 := blk_lt h1.blk
  have CB := fun i => blk_cell hB i
  have hmf : ∀ (fn : Fn) (first cap : Array Value) (w : World), (Instr.makeFunc fn first cap).run Try.prog w = .ok (.func fn first cap) w := fun _ _ _ _ => rfl
  cases hn : q.find? (pos e) with
  | some x =>
    have e0 : nextOf q e = some x := by rw [nextOf, hn]
    go_enter Try.func27, Try.ntmps27
    go_wp2_with (first
      | (go_at_call 41; (with_reducible refine (first_pos h1 _ hB hq).mono ?_); rw [hn]; simp only [tup]; rintro z w1 ⟨rfl, hw1⟩; obtain rfl := hw1.symm)
      | go_in)
    go_ret2
    exact ⟨by rw [e0]; first | rfl | (simp [tup]; done), h1, hbel⟩
  | none =>
    have e0 : nextOf q e = q.find? any := by rw [nextOf, hn]
    cases hn2 : q.find? any with
    | some x =>
      go_enter Try.func27, Try.ntmps27
      go_wp2_with (first
        | (go_at_call 41; (with_reducible refine (first_pos h1 _ hB hq).mono ?_); rw [hn]; simp only [tup]; rintro z w1 ⟨rfl, hw1⟩; obtain rfl := hw1.symm)
        | (go_at_call 41; (with_reducible refine (first_any h1).mono ?_); rw [hn2]; simp only [tup]; rintro z w1 ⟨rfl, hw1⟩; obtain rfl := hw1.symm)
        | go_in)
      go_ret2
      exact ⟨by rw [e0, hn2]; first | rfl | (simp [tup]; done), h1, hbel⟩
    | none =>
      go_enter Try.func27, Try.ntmps27
      go_wp2_with (first
        | (go_at_call 41; (with_reducible refine (first_pos h1 _ hB hq).mono ?_); rw [hn]; simp only [tup]; rintro z w1 ⟨rfl, hw1⟩; obtain rfl := hw1.symm)
        | (go_at_call 41; (with_reducible refine (first_any h1).mono ?_); rw [hn2]; simp only [tup]; rintro z w1 ⟨rfl, hw1⟩; obtain rfl := hw1.symm)
        | go_in)
      go_ret2
      exact ⟨by rw [e0, hn2]; first | rfl | (simp [tup]; done), h1, hbel⟩
end Go.Proofs.Ytpdelhipfleniaa.PlE
