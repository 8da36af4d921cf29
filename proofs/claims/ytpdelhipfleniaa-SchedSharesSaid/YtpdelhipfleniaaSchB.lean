/- Proved: what a scheduler's New, none, at and Add do in memory (contracts for the laws of the scheduler). -/
import Derived.Test.YtpdelhipfleniaaSchA
import Derived.OwnWalk
namespace Go.Proofs.Ytpdelhipfleniaa.SchB
open Go.RowKit Go.Maps Go.Proofs.Ytpdelhipfleniaa.Base Go.Proofs.Ytpdelhipfleniaa.SchA
set_option linter.unusedVariables false

/-- An entry. -/
structure V where
  dom : Int
  weight : Int
  cap : Int
  credit : Int
  ready : Bool
  ran : Int
def vcells (v : V) : Array Value := #[.int .i64 v.dom, .int .i64 v.weight, .int .i64 v.cap, .int .i64 v.credit, .bool v.ready, .int .i64 v.ran]

/-- A scheduler in memory: its struct lies in block S, its map in block M; entry k lies in block (s k) and holds (e k); there are c entries; the queue is q; t ticks. All of it lies from block 'base' on. -/
structure Sch (base : Nat) (W : World) (S M : Nat) (s : Nat → Option Nat) (e : Nat → V) (c : Nat) (qv : Value) (q : List Int) (t : Int) : Prop where
  blk : W.heap[S]? = some (.cells #[.map (some M), qv, .int .i64 t] 44 (0, 0))
  map : MapIs W M s c
  ent : ∀ k g, s k = some g → W.heap[g]? = some (.cells (vcells (e k)) 36 (0, 0))
  inj : ∀ k k' g, s k = some g → s k' = some g → k = k'
  row : W.ownsRow base 3 1 qv q.length (q.map (Value.int .i64))
  bS : base ≤ S
  bM : base ≤ M
  bE : ∀ k g, s k = some g → base ≤ g
section
variable {base : Nat} {W W' : World} {S M : Nat} {s : Nat → Option Nat} {e : Nat → V} {c : Nat} {qv : Value} {q : List Int} {t : Int}
theorem Sch.below (h : Sch base W S M s e c qv q t) (hb : Below W.heap.size W W') : Sch base W' S M s e c qv q t :=
  ⟨blk_below h.blk (blk_lt h.blk) hb, h.map.block (hb.block _ h.map.lt), fun k g hg => blk_below (h.ent k g hg) (blk_lt (h.ent k g hg)) hb, h.inj, h.row.kept (row := none) ⟨hb.os, hb.tape, hb.output, hb.size, fun k hk _ => hb.block k hk⟩ (by cases hq : qv.ownBlock; exact .inl rfl; exact .inr (by simp)), h.bS, h.bM, h.bE⟩
end

theorem _root_.Go.Proofs.Ytpdelhipfleniaa.SchA.MapIs.ne_cells {W : World} {M c : Nat} {s : Nat → Option Nat} (h : MapIs W M s c) {g : Nat} {cs : Array Value} {t : TypeId} {z : Nat × Nat} (hg : W.heap[g]? = some (.cells cs t z)) : g ≠ M := by
  rintro rfl
  obtain ⟨D, ⟨es, clock, h1, _⟩, _⟩ := h
  rw [h1] at hg
  cases hg
theorem own_ne_map {W : World} {M c n base e size : Nat} {s : Nat → Option Nat} {v : Value} {xs : List Value} (hr : W.ownsRow base e size v n xs) (h : MapIs W M s c) : v.ownBlock = none ∨ v.ownBlock ≠ some M := by
  obtain ⟨_, ⟨rfl, _⟩ | ⟨g, cap, cur, rfl, _, hg, _⟩⟩ := hr
  · exact .inl rfl
  · exact .inr (fun e => h.ne_cells hg (Option.some.inj e))

set_option maxHeartbeats 2000000 in
set_option maxRecDepth 100000 in
theorem new_calls (w : World) : Calls Try.prog 8 #[] w fun e w' => ∃ S M, e = .returned (.pointer (some ⟨S, 0, none⟩)) ∧ Sch w.heap.size w' S M (fun _ => none) (fun _ => ⟨0, 0, 0, 0, false, 0⟩) 0 (.slice none 0 0) [] 0 ∧ Below w.heap.size w w' := by
  have hmm := @run_makeMap Try.prog
  go_enter Try.func8, Try.ntmps8
  go_wp2
  go_ret
  refine ⟨_, _, rfl, ⟨blk_newest (by simp) _, (MapIs.made w).block (Below.heap_alloc _ _ _ (by simp)), fun k g h => by simp at h, fun k k' g h => by simp at h, World.ownsRow_nil _ _ _ _, by simp, Nat.le_refl _, fun k g h => by simp at h⟩, below_alloc (below_alloc (Below.refl _ _) _) _⟩

theorem eqm (w : World) (r : Option Nat) : (binOp .eql 40 (.map r) (.map none)).run Try.prog w = .ok (.bool r.isNone) w := run_eql_map_nil w _ _ _ r Try.underlying40

set_option maxHeartbeats 2000000 in
set_option maxRecDepth 100000 in
theorem none_calls {base : Nat} {w : World} {S M : Nat} {s : Nat → Option Nat} {e : Nat → V} {c : Nat} {qv : Value} {q : List Int} {t : Int} (h : Sch base w S M s e c qv q t) : Calls Try.prog 24 #[.pointer (some ⟨S, 0, none⟩)] w fun e w' => e = .returned (.bool false) ∧ w' = w := by
  have C0 := fun i => blk_cell h.blk i
  have L0 := blk_lt h.blk
  have q0 := eqm
  clear h
  go_enter Try.func24, Try.ntmps24
  go_wp2
  go_ret
  exact ⟨by first | rfl | (simp; done), rfl⟩

set_option maxHeartbeats 2000000 in
set_option maxRecDepth 100000 in
theorem at_calls {base : Nat} {w : World} {S M : Nat} {s : Nat → Option Nat} {e : Nat → V} {c : Nat} {qv : Value} {q : List Int} {t : Int} (h : Sch base w S M s e c qv q t) (k g : Nat) (hk : k < 9223372036854775808) (hs : s k = some g) :
    Calls Try.prog 25 #[.pointer (some ⟨S, 0, none⟩), .int .i64 k] w fun e w' => e = .returned (.tuple #[.pointer (some ⟨g, 0, none⟩), .int .i64 0]) ∧ w' = w := by
  have C0 := fun i => blk_cell h.blk i
  have L0 := blk_lt h.blk
  have hl := h.map.look_ok k hk
  rw [hs] at hl
  simp only [pv, Option.isSome_some] at hl
  go_enter Try.func25, Try.ntmps25
  go_wp2_with (first
    | (go_at_call 24; refine (none_calls h).mono ?_; rintro z w1 ⟨rfl, hw1⟩; obtain rfl := hw1.symm)
    | go_in)
  go_ret2
  exact ⟨by first | rfl | (simp; done), rfl⟩

set_option maxHeartbeats 4000000 in
set_option maxRecDepth 100000 in
/-- A new entry takes the least number that is free. -/
theorem add_calls {base : Nat} {w : World} {S M : Nat} {s : Nat → Option Nat} {e : Nat → V} {c : Nat} {qv : Value} {q : List Int} {t : Int} (h : Sch base w S M s e c qv q t) (hb : base ≤ w.heap.size) (k : Nat) (hk : k < 16) (hc : c < 16) (hlow : ∀ j, j < k → (s j).isSome = true) (hs : s k = none) (dom weight lim : Int)
    (h1 : 0 ≤ dom) (h2 : dom < 8) (h3 : 1 ≤ weight) (h4 : weight ≤ 1024) (h5 : 0 ≤ lim) (h6 : lim ≤ 100) :
    Calls Try.prog 9 #[.pointer (some ⟨S, 0, none⟩), .int .i64 dom, .int .i64 weight, .int .i64 lim] w fun z w' => z = .returned (.tuple #[.int .i64 k, .int .i64 0]) ∧
      Sch base w' S M (fun j => if j = k then some w.heap.size else s j) (fun j => if j = k then ⟨dom, weight, lim, 0, false, 0⟩ else e j) (c + 1) qv q t ∧ Below base w w' := by
  have C0 := fun i => blk_cell h.blk i
  have L0 := blk_lt h.blk
  have hlen := h.map.len
  have hA : MapIs (w.alloc (.cells (vcells ⟨dom, weight, lim, 0, false, 0⟩) 36)) M s c := h.map.block (Below.heap_alloc _ _ _ h.map.lt)
  obtain ⟨W', hrun, hm', hg⟩ := hA.store k w.heap.size (by omega) (by omega) hs
  simp only [vcells] at hrun
  have hcc : ((c : Int) == 16) = false := by simp; omega
  have a1 : (decide (dom < 0)) = false := decide_eq_false (by omega)
  have a2 : (decide (8 ≤ dom)) = false := decide_eq_false (by omega)
  have a3 : (decide (weight < 1)) = false := decide_eq_false (by omega)
  have a4 : (decide (1024 < weight)) = false := decide_eq_false (by omega)
  have a5 : (decide (lim < 0)) = false := decide_eq_false (by omega)
  have a6 : (decide (100 < lim)) = false := decide_eq_false (by omega)
  have HH := Aside.mk (And.intro hm' hg)
  clear hm' hg hA
  go_enter Try.func9, Try.ntmps9
  go_wp2_with (first
    | (go_at_call 24; refine (none_calls h).mono ?_; rintro z w1 ⟨rfl, hw1⟩; obtain rfl := hw1.symm)
    | go_in)
  go_loopw [10] (fun v wr => ∃ j : Nat, j ≤ k ∧ v = .int .i64 j ∧ wr = w) (fun v _ => k - (intOf v).toNat)
  case atStart => exact ⟨0, Nat.zero_le _, rfl, rfl⟩
  case round =>
    obtain ⟨j, hj, rfl, hwr⟩ := hrel
    obtain rfl := hwr.symm
    by_cases hjk : j = k
    · subst hjk
      have hl := h.map.look j (by omega)
      rw [hs] at hl
      simp only [pv] at hl
      go_wp2
      go_ret2
      have hG := HH.out.2
      have sz : (w.alloc (.cells (vcells ⟨dom, weight, lim, 0, false, 0⟩) 36)).heap.size = w.heap.size + 1 := by simp
      have old : ∀ (g : Nat) (o : Obj), w.heap[g]? = some o → g ≠ M → W'.heap[g]? = some o := fun g o ho hne => (hG.block g (by rw [sz]; have := blk_lt ho; omega) (fun e => hne (Option.some.inj e))).trans (blk_alloc ho _)
      have new : W'.heap[w.heap.size]? = some (.cells (vcells ⟨dom, weight, lim, 0, false, 0⟩) 36 (0, 0)) := (hG.block _ (by rw [sz]; omega) (fun e => by have := h.map.lt; have := Option.some.inj e; omega)).trans (blk_new _ _)
      refine ⟨by first | rfl | (simp; done), ⟨old S _ h.blk (h.map.ne_cells h.blk), HH.out.1, fun j' g hg => ?_, fun a b g ha hb' => ?_, (h.row.alloc _).kept hG (own_ne_map h.row h.map), h.bS, h.bM, fun j' g hg => ?_⟩, ?_⟩
      · show W'.heap[g]? = some (.cells (vcells (if j' = j then _ else e j')) _ (0, 0))
        change (if j' = j then some w.heap.size else s j') = some g at hg
        by_cases e1 : j' = j
        · rw [if_pos e1] at hg ⊢
          obtain rfl := Option.some.inj hg
          exact new
        · rw [if_neg e1] at hg ⊢
          exact old g _ (h.ent j' g hg) (h.map.ne_cells (h.ent j' g hg))
      · change (if a = j then some w.heap.size else s a) = some g at ha
        change (if b = j then some w.heap.size else s b) = some g at hb'
        by_cases e1 : a = j
        · by_cases e2 : b = j
          · omega
          · rw [if_pos e1] at ha
            rw [if_neg e2] at hb'
            have := blk_lt (h.ent b g hb')
            have := Option.some.inj ha
            omega
        · by_cases e2 : b = j
          · rw [if_neg e1] at ha
            rw [if_pos e2] at hb'
            have := blk_lt (h.ent a g ha)
            have := Option.some.inj hb'
            omega
          · rw [if_neg e1] at ha
            rw [if_neg e2] at hb'
            exact h.inj a b g ha hb'
      · change (if j' = j then some w.heap.size else s j') = some g at hg
        by_cases e1 : j' = j
        · rw [if_pos e1] at hg
          have := Option.some.inj hg
          omega
        · rw [if_neg e1] at hg
          exact h.bE j' g hg
      · exact ((Below.refl base w).alloc hb _).trans ⟨hG.os, hG.tape, hG.output, hG.size, fun x hx => hG.block x (by rw [sz]; omega) (fun e => by have := h.bM; have := Option.some.inj e; omega)⟩
    · have hj2 := hlow j (by omega)
      obtain ⟨g, hg⟩ := Option.isSome_iff_exists.1 hj2
      have hl := h.map.look j (by omega)
      rw [hg] at hl
      simp only [pv] at hl
      go_wp2
      exact ⟨⟨j + 1, by omega, by simp, trivial⟩, by simp [intOf]; omega⟩
end Go.Proofs.Ytpdelhipfleniaa.SchB
