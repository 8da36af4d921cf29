/- Proved: what a scheduler's New, none, at and Add do in memory (contracts for the laws of the scheduler). -/
import Derived.Test.YtpdelhipfleniaaSchA
import Derived.OwnWalk
namespace Go.Proofs.Ytpdelhipfleniaa.PlB
open Go.RowKit Go.Maps Go.Proofs.Ytpdelhipfleniaa.Base Go.Proofs.Ytpdelhipfleniaa.SchA
set_option linter.unusedVariables false

/-- An entry. -/
structure V where
  dom : Int
  weight : Int
  cap : Int
  credit : Int
  ready : Bool
  ran : Int
def vcells (v : V) : Array Value := #[.int .i64 v.dom, .int .i64 v.weight, .int .i64 v.cap, .int .i64 v.credit, .bool v.ready, .int .i64 v.ran]

/-- Blocks that stay as they are. -/
structure Kept (X : Nat → Prop) (w w' : World) : Prop where
  os : w'.os = w.os
  tape : w'.tape = w.tape
  output : w'.output = w.output
  size : w.heap.size ≤ w'.heap.size
  block : ∀ k, X k → w'.heap[k]? = w.heap[k]?
def Old (X : Nat → Prop) (w : World) : Prop := ∀ k, X k → k < w.heap.size
theorem Old.up {X : Nat → Prop} {w w' : World} (h : Old X w) (hs : w.heap.size ≤ w'.heap.size) : Old X w' := fun k hk => Nat.lt_of_lt_of_le (h k hk) hs
theorem Kept.refl (X : Nat → Prop) (w : World) : Kept X w w := ⟨rfl, rfl, rfl, Nat.le_refl _, fun _ _ => rfl⟩
theorem Kept.trans {X : Nat → Prop} {a b c : World} (h : Kept X a b) (k : Kept X b c) : Kept X a c := ⟨k.os.trans h.os, k.tape.trans h.tape, k.output.trans h.output, Nat.le_trans h.size k.size, fun i hi => (k.block i hi).trans (h.block i hi)⟩
theorem Kept.of_below {X : Nat → Prop} {w w' : World} (hb : Old X w) (h : Below w.heap.size w w') : Kept X w w' := ⟨h.os, h.tape, h.output, h.size, fun k hk => h.block k (hb k hk)⟩
theorem Kept.alloc {X : Nat → Prop} {a w : World} (h : Kept X a w) (hb : Old X w) (o : Obj) : Kept X a (w.alloc o) := h.trans (Kept.of_below hb (Below.alloc (Below.refl _ _) (Nat.le_refl _) o))
theorem Kept.setCell {X : Nat → Prop} {a w : World} {p : Addr} (h : Kept X a w) (hp : ¬ X p.block) (u : Value) : Kept X a (w.setCell p u) := h.trans ⟨rfl, rfl, rfl, Nat.le_of_eq (size_set w p u).symm, fun k hk => Below.heap_setCell w p u k (fun e => hp (by rw [← e]; exact hk))⟩
/-- A scheduler in memory: its struct lies in block S, its map in block M; entry k lies in block (s k) and holds (e k); there are c entries; the queue is q; t ticks. All of it lies from block 'base' on. -/
structure Sch (X : Nat → Prop) (W : World) (S M : Nat) (s : Nat → Option Nat) (e : Nat → V) (c : Nat) (qv : Value) (q : List Int) (t : Int) : Prop where
  blk : W.heap[S]? = some (.cells #[.map (some M), qv, .int .i64 t] 44 (0, 0))
  map : MapIs W M s c
  ent : ∀ k g, s k = some g → W.heap[g]? = some (.cells (vcells (e k)) 36 (0, 0))
  inj : ∀ k k' g, s k = some g → s k' = some g → k = k'
  row : W.ownsRow 0 3 1 qv q.length (q.map (Value.int .i64))
  bS : ¬ X S
  bM : ¬ X M
  bE : ∀ k g, s k = some g → ¬ X g
  bQ : ∀ g, qv.ownBlock = some g → ¬ X g
section
variable {X : Nat → Prop} {W W' : World} {S M : Nat} {s : Nat → Option Nat} {e : Nat → V} {c : Nat} {qv : Value} {q : List Int} {t : Int}
theorem Sch.below (h : Sch X W S M s e c qv q t) (hb : Below W.heap.size W W') : Sch X W' S M s e c qv q t :=
  ⟨blk_below h.blk (blk_lt h.blk) hb, h.map.block (hb.block _ h.map.lt), fun k g hg => blk_below (h.ent k g hg) (blk_lt (h.ent k g hg)) hb, h.inj, h.row.kept (row := none) ⟨hb.os, hb.tape, hb.output, hb.size, fun k hk _ => hb.block k hk⟩ (by cases hq : qv.ownBlock; exact .inl rfl; exact .inr (by simp)), h.bS, h.bM, h.bE, h.bQ⟩
end

theorem _root_.Go.Proofs.Ytpdelhipfleniaa.SchA.MapIs.ne_cells {W : World} {M c : Nat} {s : Nat → Option Nat} (h : MapIs W M s c) {g : Nat} {cs : Array Value} {t : TypeId} {z : Nat × Nat} (hg : W.heap[g]? = some (.cells cs t z)) : g ≠ M := by
  rintro rfl
  obtain ⟨D, ⟨es, clock, h1, _⟩, _⟩ := h
  rw [h1] at hg
  cases hg
theorem own_ne_map {W : World} {M c n e size : Nat} {s : Nat → Option Nat} {v : Value} {xs : List Value} (hr : W.ownsRow 0 e size v n xs) (h : MapIs W M s c) : v.ownBlock = none ∨ v.ownBlock ≠ some M := by
  obtain ⟨_, ⟨rfl, _⟩ | ⟨g, cap, cur, rfl, _, hg, _⟩⟩ := hr
  · exact .inl rfl
  · exact .inr (fun e => h.ne_cells hg (Option.some.inj e))

set_option maxHeartbeats 2000000 in
set_option maxRecDepth 100000 in
theorem new_calls {X : Nat → Prop} (w : World) (hb : Old X w) : Calls Try.prog 8 #[] w fun e w' => ∃ S M, e = .returned (.pointer (some ⟨S, 0, none⟩)) ∧ Sch X w' S M (fun _ => none) (fun _ => ⟨0, 0, 0, 0, false, 0⟩) 0 (.slice none 0 0) [] 0 ∧ Below w.heap.size w w' := by
  have hmm := @run_makeMap Try.prog
  go_enter Try.func8, Try.ntmps8
  go_wp2
  go_ret
  refine ⟨_, _, rfl, ⟨blk_newest (by simp) _, (MapIs.made w).block (Below.heap_alloc _ _ _ (by simp)), fun k g h => by simp at h, fun k k' g h => by simp at h, World.ownsRow_nil _ _ _ _, fun h => absurd (hb _ h) (by simp), fun h => absurd (hb _ h) (by simp), fun k g h => by simp at h, fun g h => by cases h⟩, below_alloc (below_alloc (Below.refl _ _) _) _⟩

theorem eqm (w : World) (r : Option Nat) : (binOp .eql 40 (.map r) (.map none)).run Try.prog w = .ok (.bool r.isNone) w := run_eql_map_nil w _ _ _ r Try.underlying40

set_option maxHeartbeats 2000000 in
set_option maxRecDepth 100000 in
theorem none_calls {X : Nat → Prop} {w : World} {S M : Nat} {s : Nat → Option Nat} {e : Nat → V} {c : Nat} {qv : Value} {q : List Int} {t : Int} (h : Sch X w S M s e c qv q t) : Calls Try.prog 24 #[.pointer (some ⟨S, 0, none⟩)] w fun e w' => e = .returned (.bool false) ∧ w' = w := by
  have C0 := fun i => blk_cell h.blk i
  have L0 := blk_lt h.blk
  have q0 := eqm
  clear h
  go_enter Try.func24, Try.ntmps24
  go_wp2
  go_ret
  exact ⟨by first | rfl | (simp; done), rfl⟩

set_option maxHeartbeats 2000000 in
set_option maxRecDepth 100000 in
theorem at_calls {X : Nat → Prop} {w : World} {S M : Nat} {s : Nat → Option Nat} {e : Nat → V} {c : Nat} {qv : Value} {q : List Int} {t : Int} (h : Sch X w S M s e c qv q t) (k g : Nat) (hk : k < 9223372036854775808) (hs : s k = some g) :
    Calls Try.prog 25 #[.pointer (some ⟨S, 0, none⟩), .int .i64 k] w fun e w' => e = .returned (.tuple #[.pointer (some ⟨g, 0, none⟩), .int .i64 0]) ∧ w' = w := by
  have C0 := fun i => blk_cell h.blk i
  have L0 := blk_lt h.blk
  have hl := h.map.look_ok k hk
  rw [hs] at hl
  simp only [pv, Option.isSome_some] at hl
  go_enter Try.func25, Try.ntmps25
  go_wp2_with (first
    | (go_at_call 24; refine (none_calls h).mono ?_; rintro z w1 ⟨rfl, hw1⟩; obtain rfl := hw1.symm)
    | go_in)
  go_ret2
  exact ⟨by first | rfl | (simp; done), rfl⟩

set_option maxHeartbeats 4000000 in
set_option maxRecDepth 100000 in
/-- A new entry takes the least number that is free. -/
theorem add_calls {X : Nat → Prop} {w : World} {S M : Nat} {s : Nat → Option Nat} {e : Nat → V} {c : Nat} {qv : Value} {q : List Int} {t : Int} (h : Sch X w S M s e c qv q t) (hb : Old X w) (k : Nat) (hk : k < 16) (hc : c < 16) (hlow : ∀ j, j < k → (s j).isSome = true) (hs : s k = none) (dom weight lim : Int)
    (h1 : 0 ≤ dom) (h2 : dom < 8) (h3 : 1 ≤ weight) (h4 : weight ≤ 1024) (h5 : 0 ≤ lim) (h6 : lim ≤ 100) :
    Calls Try.prog 9 #[.pointer (some ⟨S, 0, none⟩), .int .i64 dom, .int .i64 weight, .int .i64 lim] w fun z w' => z = .returned (.tuple #[.int .i64 k, .int .i64 0]) ∧
      Sch X w' S M (fun j => if j = k then some w.heap.size else s j) (fun j => if j = k then ⟨dom, weight, lim, 0, false, 0⟩ else e j) (c + 1) qv q t ∧ Kept X w w' := by
  have C0 := fun i => blk_cell h.blk i
  have L0 := blk_lt h.blk
  have hlen := h.map.len
  have hA : MapIs (w.alloc (.cells (vcells ⟨dom, weight, lim, 0, false, 0⟩) 36)) M s c := h.map.block (Below.heap_alloc _ _ _ h.map.lt)
  obtain ⟨W', hrun, hm', hg⟩ := hA.store k w.heap.size (by omega) (by omega) hs
  simp only [vcells] at hrun
  have hcc : ((c : Int) == 16) = false := by simp; omega
  have a1 : (decide (dom < 0)) = false := decide_eq_false (by omega)
  have a2 : (decide (8 ≤ dom)) = false := decide_eq_false (by omega)
  have a3 : (decide (weight < 1)) = false := decide_eq_false (by omega)
  have a4 : (decide (1024 < weight)) = false := decide_eq_false (by omega)
  have a5 : (decide (lim < 0)) = false := decide_eq_false (by omega)
  have a6 : (decide (100 < lim)) = false := decide_eq_false (by omega)
  have HH := Aside.mk (And.intro hm' hg)
  clear hm' hg hA
  go_enter Try.func9, Try.ntmps9
  go_wp2_with (first
    | (go_at_call 24; refine (none_calls h).mono ?_; rintro z w1 ⟨rfl, hw1⟩; obtain rfl := hw1.symm)
    | go_in)
  go_loopw [10] (fun v wr => ∃ j : Nat, j ≤ k ∧ v = .int .i64 j ∧ wr = w) (fun v _ => k - (intOf v).toNat)
  case atStart => exact ⟨0, Nat.zero_le _, rfl, rfl⟩
  case round =>
    obtain ⟨j, hj, rfl, hwr⟩ := hrel
    obtain rfl := hwr.symm
    by_cases hjk : j = k
    · subst hjk
      have hl := h.map.look j (by omega)
      rw [hs] at hl
      simp only [pv] at hl
      go_wp2
      go_ret2
      have hG := HH.out.2
      have sz : (w.alloc (.cells (vcells ⟨dom, weight, lim, 0, false, 0⟩) 36)).heap.size = w.heap.size + 1 := by simp
      have old : ∀ (g : Nat) (o : Obj), w.heap[g]? = some o → g ≠ M → W'.heap[g]? = some o := fun g o ho hne => (hG.block g (by rw [sz]; have := blk_lt ho; omega) (fun e => hne (Option.some.inj e))).trans (blk_alloc ho _)
      have new : W'.heap[w.heap.size]? = some (.cells (vcells ⟨dom, weight, lim, 0, false, 0⟩) 36 (0, 0)) := (hG.block _ (by rw [sz]; omega) (fun e => by have := h.map.lt; have := Option.some.inj e; omega)).trans (blk_new _ _)
      refine ⟨by first | rfl | (simp; done), ⟨old S _ h.blk (h.map.ne_cells h.blk), HH.out.1, fun j' g hg => ?_, fun a b g ha hb' => ?_, (h.row.alloc _).kept hG (own_ne_map h.row h.map), h.bS, h.bM, fun j' g hg => ?_, h.bQ⟩, ?_⟩
      · show W'.heap[g]? = some (.cells (vcells (if j' = j then _ else e j')) _ (0, 0))
        change (if j' = j then some w.heap.size else s j') = some g at hg
        by_cases e1 : j' = j
        · rw [if_pos e1] at hg ⊢
          obtain rfl := Option.some.inj hg
          exact new
        · rw [if_neg e1] at hg ⊢
          exact old g _ (h.ent j' g hg) (h.map.ne_cells (h.ent j' g hg))
      · change (if a = j then some w.heap.size else s a) = some g at ha
        change (if b = j then some w.heap.size else s b) = some g at hb'
        by_cases e1 : a = j
        · by_cases e2 : b = j
          · omega
          · rw [if_pos e1] at ha
            rw [if_neg e2] at hb'
            have := blk_lt (h.ent b g hb')
            have := Option.some.inj ha
            omega
        · by_cases e2 : b = j
          · rw [if_neg e1] at ha
            rw [if_pos e2] at hb'
            have := blk_lt (h.ent a g ha)
            have := Option.some.inj hb'
            omega
          · rw [if_neg e1] at ha
            rw [if_neg e2] at hb'
            exact h.inj a b g ha hb'
      · change (if j' = j then some w.heap.size else s j') = some g at hg
        by_cases e1 : j' = j
        · rw [if_pos e1] at hg
          have e2 := Option.some.inj hg
          intro hX
          have := hb _ hX
          omega
        · rw [if_neg e1] at hg
          exact h.bE j' g hg
      · exact ((Kept.refl X w).alloc hb _).trans ⟨hG.os, hG.tape, hG.output, hG.size, fun x hx => hG.block x (by rw [sz]; have := hb x hx; omega) (fun e => h.bM (by rw [← Option.some.inj e]; exact hx))⟩
    · have hj2 := hlow j (by omega)
      obtain ⟨g, hg⟩ := Option.isSome_iff_exists.1 hj2
      have hl := h.map.look j (by omega)
      rw [hg] at hl
      simp only [pv] at hl
      go_wp2
      exact ⟨⟨j + 1, by omega, by simp, trivial⟩, by simp [intOf]; omega⟩
end Go.Proofs.Ytpdelhipfleniaa.PlB
