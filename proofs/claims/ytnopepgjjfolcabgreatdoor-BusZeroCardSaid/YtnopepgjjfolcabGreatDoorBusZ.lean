/- Proved: a device that nobody made answers nothing, and none is made on a store that nobody made: the walk through the law; no condition. -/
import Derived.Test.YtnopepgjjfolcabGreatDoorBase
namespace Go.Proofs.YtnopepgjjfolcabGreatDoor.BsZ
open Go.RowKit Go.Proofs.YtnopepgjjfolcabGreatDoor.Base
set_option linter.unusedVariables false

/-- A device that nobody made: nil, or of zeroes. -/
def Nobody (w : World) (p : Value) : Prop := p = .pointer none ∨ ∃ g, p = .pointer (some ⟨g, 0, none⟩) ∧ w.cell? ⟨g, 0, none⟩ = some (.pointer none) ∧ g < w.heap.size
theorem eqm (w : World) (r : Option Nat) : (binOp .eql 34 (.map r) (.map none)).run Tryz.prog w = .ok (.bool r.isNone) w := run_eql_map_nil w _ _ _ r Tryz.underlying34

set_option maxHeartbeats 4000000 in
set_option maxRecDepth 100000 in
theorem see_none (p : Value) (d : Int) (w : World) (hp : Nobody w p) : Calls Tryz.prog 4 #[p, .int .i64 d] w fun e w' => e = .returned (.tuple #[.int .i64 0, .int .i64 0, .int .i64 7]) ∧ Below w.heap.size w w' := by
  rcases hp with rfl | ⟨g, rfl, hc, hlt⟩
  all_goals
    go_enter Tryz.func4, Tryz.ntmps4
    go_wp2
    refine bodyPost_ret (v := .tuple #[.int .i64 0, .int .i64 0, .int .i64 7]) ?_ rfl ⟨rfl, ?_⟩
    · simp only [results, Tryz.results4]; first | (go_simp; done) | (go_simp; rfl)
    · repeat (with_reducible first | exact Below.refl _ _ | apply below_alloc | apply below_drewN | apply below_drew | refine below_set ?_ (by omega) _)

set_option maxHeartbeats 4000000 in
set_option maxRecDepth 100000 in
theorem switch_none (p : Value) (d t : Int) (w : World) (hp : Nobody w p) : Calls Tryz.prog 7 #[p, .int .i64 d, .int .i64 t] w fun e w' => e = .returned (.int .i64 7) ∧ Below w.heap.size w w' := by
  go_enter Tryz.func7, Tryz.ntmps7
  go_wp2_with (first
    | (go_at_call 4; refine (see_none _ _ _ hp).mono ?_; rintro e w1 ⟨rfl, hb⟩; have HB := Aside.mk hb; clear hb)
    | go_in)
  go_ret
  exact ⟨by first | rfl | (simp; done), by repeat (with_reducible first | exact HB.out | apply below_alloc | apply below_drewN | apply below_drew | refine below_set ?_ (by have := HB.out.size; omega) _)⟩

/-- What the law holds in memory: a device of zeroes, and whatever lies behind it. -/
structure Env (w W : World) (g : Nat) : Prop where
  bel : Below w.heap.size w W
  t : W.heap[g]? = some (.cells #[.pointer none, .int .i64 0, .int .i64 0, .int .i64 0] 25 (0, 0))
section
variable {w W W' : World} {g : Nat}
theorem Env.alloc (h : Env w W g) (o : Obj) : Env w (W.alloc o) g := ⟨below_alloc h.bel o, blk_alloc h.t o⟩
theorem Env.drewN (h : Env w W g) (n : Nat) : Env w (W.drewN n) g := ⟨below_drewN h.bel n, h.t⟩
theorem Env.drew (h : Env w W g) : Env w W.drew g := ⟨below_drew h.bel, h.t⟩
theorem Env.below (h : Env w W g) (hb : Below W.heap.size W W') : Env w W' g := ⟨below_step h.bel hb, blk_below h.t (blk_lt h.t) hb⟩
theorem Env.nobody (h : Env w W g) : Nobody W (.pointer (some ⟨g, 0, none⟩)) := .inr ⟨g, rfl, (blk_cell h.t 0).trans rfl, blk_lt h.t⟩
end

set_option maxHeartbeats 8000000 in
set_option maxRecDepth 100000 in
theorem law (a b : Int) (w : World) : Calls Tryz.prog 3 #[.int .i64 a, .int .i64 b] w fun e w' => e = .returned (.bool true) ∧ Below w.heap.size w w' := by
  have q := eqm
  have E0 : Env w (w.alloc (.cells #[.pointer none, .int .i64 0, .int .i64 0, .int .i64 0] 25)) w.heap.size := ⟨below_alloc (Below.refl _ _) _, blk_new _ _⟩
  have E := Aside.mk E0
  clear E0
  have Ct := True.intro
  have Lt := True.intro
  have Mt := True.intro
  go_enter Tryz.func3, Tryz.ntmps3
  go_wp2_with (first
    | (go_at_call 4; (with_reducible refine (see_none _ _ _ ?hp).mono ?_); (case hp => first | exact Or.inl rfl | exact Env.nobody (by repeat (with_reducible first | exact E.out | apply Env.alloc | apply Env.drewN | apply Env.drew))); rintro e w1 ⟨rfl, hb9⟩; have E' := Aside.mk (Env.below (by repeat (with_reducible first | exact E.out | apply Env.alloc | apply Env.drewN | apply Env.drew)) hb9); clear E hb9 Ct Lt Mt; have E := E'; clear E'; have Ct := fun i => blk_cell E.out.t i; have Lt := blk_lt E.out.t; have Mt := fun k => Nat.lt_add_right k Lt)
    | (go_at_call 7; (with_reducible refine (switch_none _ _ _ _ ?hp).mono ?_); (case hp => first | exact Or.inl rfl | exact Env.nobody (by repeat (with_reducible first | exact E.out | apply Env.alloc | apply Env.drewN | apply Env.drew))); rintro e w1 ⟨rfl, hb9⟩; have E' := Aside.mk (Env.below (by repeat (with_reducible first | exact E.out | apply Env.alloc | apply Env.drewN | apply Env.drew)) hb9); clear E hb9 Ct Lt Mt; have E := E'; clear E'; have Ct := fun i => blk_cell E.out.t i; have Lt := blk_lt E.out.t; have Mt := fun k => Nat.lt_add_right k Lt)
    | go_in)
  go_ret
  exact ⟨by first | rfl | (simp; done), by repeat (with_reducible first | exact E.out.bel | apply below_alloc | apply below_drewN | apply below_drew)⟩
end Go.Proofs.YtnopepgjjfolcabGreatDoor.BsZ
