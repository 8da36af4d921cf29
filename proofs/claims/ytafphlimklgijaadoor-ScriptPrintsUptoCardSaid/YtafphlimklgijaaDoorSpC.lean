/- Proved: an act's line, the program's own function: where there is none (contracts for the law ScriptPrints). -/
import Derived.Test.YtafphlimklgijaaDoorSpB
import Derived.Deep.Cut
import Derived.Deep.CutRange
import Derived.Deep.CutBlock
import Derived.Deep.DeepCutAuto
namespace Go.Proofs.YtafphlimklgijaaDoor.SpC
open Go.RowKit Go.Shelf Go.Proofs.YtafphlimklgijaaDoor.Base Go.Proofs.YtafphlimklgijaaDoor.TdA Go.Proofs.YtafphlimklgijaaDoor.TdB Go.Proofs.YtafphlimklgijaaDoor.TdC Go.Proofs.YtafphlimklgijaaDoor.SpA Go.Proofs.YtafphlimklgijaaDoor.SpP Go.Proofs.YtafphlimklgijaaDoor.SpB
set_option linter.unusedVariables false
set_option linter.unusedSimpArgs false

def four (d a b c : Int) : Nat → Int
  | 0 => d
  | 1 => a
  | 2 => b
  | _ => c
/-- What is known of the memory behind Print's beginning: the act lies in a block of its own; what was there before lies there still. -/
structure En (w W : World) (cs : Array Value) : Prop where
  bel : Below (w.heap.size + 1) (w.alloc (.cells cs 25)) W
section
variable {w W W' : World} {cs : Array Value}
theorem En.start (w : World) (cs : Array Value) : En w (w.alloc (.cells cs 25)) cs := ⟨Below.refl _ _⟩
theorem En.blk (E : En w W cs) : W.heap[w.heap.size]? = some (.cells cs 25 (0, 0)) := (E.bel.block _ (by omega)).trans (blk_new w _)
theorem En.size (E : En w W cs) : w.heap.size + 1 ≤ W.heap.size := by
  have := E.bel.size
  simpa using this
theorem En.step (E : En w W cs) (h : Below W.heap.size W W') : En w W' cs := ⟨E.bel.trans (h.mono E.size)⟩
theorem En.drew (E : En w W cs) : En w W.drew cs := E.step ⟨rfl, rfl, rfl, Nat.le_refl _, fun _ _ => rfl⟩
theorem En.alloc (E : En w W cs) (o : Obj) : En w (W.alloc o) cs := E.step (below_alloc (Below.refl _ _) o)
theorem En.out (E : En w W cs) : Below w.heap.size w W := (below_alloc (Below.refl _ _) _).trans (E.bel.mono (by omega))
theorem En.lt (E : En w W cs) : w.heap.size < W.heap.size := E.size
end
set_option maxHeartbeats 4000000 in
set_option maxRecDepth 100000 in
theorem bad_what (w : World) (what d a b c : Int) (T : ByteArray) (A : Option Addr) (l cc : Nat) (PA : Option Addr) (pl pc : Nat) (ha : Asc w) (h : what < 0 ∨ 23 ≤ what) :
    Calls Tryd.prog 4 #[.agg #[.int .i64 what, .int .i64 d, .int .i64 a, .int .i64 b, .int .i64 c, .string T, .slice A l cc, .slice PA pl pc]] w fun e w' => e = .returned (.tuple #[.string ⟨#[]⟩, .int .i64 191]) ∧ Below w.heap.size w w' := by
  by_cases h0' : what < 0
  · have d0 : decide (what < 0) = true := decide_eq_true h0'
    have h0 := Base.Aside.mk h0'
    clear h0' h
    go_enter Tryd.func4, Tryd.ntmps4
    go_wp2
    go_quiet (fail)
    go_wp2
    go_ret2
    refine ⟨by first | rfl | (simp; done), ?_⟩
    exact Base.below_drewN (below_alloc (Below.refl w.heap.size w) _) _
  · have d0 : decide (what < 0) = false := decide_eq_false h0'
    have d1 : (23 : Int) ≤ what := by omega
    have e0 := En.start w #[.int .i64 what, .int .i64 d, .int .i64 a, .int .i64 b, .int .i64 c, .string T, .slice A l cc, .slice PA pl pc]
    have hn := names_prog' _ (tab_below ha e0.drew.out)
    have E0 := Base.Aside.mk e0.drew
    clear h0' h e0
    go_enter Tryd.func4, Tryd.ntmps4
    go_wp2
    go_region_with (go_at_call 7; refine hn.mono ?_; rintro z w2 ⟨rfl, hN, hB2⟩; have E2 := Base.Aside.mk (E0.out.step hB2); have C2 := fun i => blk_cell E2.out.blk i; have L2 := E2.out.lt; clear hN hB2)
    all_goals
      go_wp2
      go_ret2
      exact ⟨by first | rfl | (simp; done), E2.out.out⟩
theorem four_cells {W : World} {g : Nat} {t : TypeId} {d a b c : Int} (h : W.heap[g]? = some (.cells #[.int .i64 d, .int .i64 a, .int .i64 b, .int .i64 c] t (0, 0))) : ∀ i, i < 4 → W.cell? ⟨g, i, none⟩ = some (.int .i64 (four d a b c i)) := by
  intro i hi
  rw [blk_cell h i]
  match i, hi with
  | 0, _ => rfl
  | 1, _ => rfl
  | 2, _ => rfl
  | 3, _ => rfl
set_option maxHeartbeats 4000000 in
set_option maxRecDepth 100000 in
theorem bad_form (w : World) (k : Nat) (d a b c : Int) (T : ByteArray) (A : Option Addr) (l cc : Nat) (PA : Option Addr) (pl pc : Nat) (ha : Asc w) (hk : k < 23) (h : (allSmall (four d a b c) 4 && (plainB T.data.toList && !(k == 0 && d != 0))) = false) :
    Calls Tryd.prog 4 #[.agg #[.int .i64 k, .int .i64 d, .int .i64 a, .int .i64 b, .int .i64 c, .string T, .slice A l cc, .slice PA pl pc]] w fun e w' => e = .returned (.tuple #[.string ⟨#[]⟩, .int .i64 4]) ∧ Below w.heap.size w w' := by
  have d0 : decide ((k : Int) < 0) = false := decide_eq_false (by omega)
  have d1 : (k : Int) < 23 := by omega
  have e0 := En.start w #[.int .i64 k, .int .i64 d, .int .i64 a, .int .i64 b, .int .i64 c, .string T, .slice A l cc, .slice PA pl pc]
  have hn := names_prog' _ (tab_below ha e0.drew.out)
  have E0 := Base.Aside.mk e0.drew
  have H := Base.Aside.mk h
  clear h e0
  go_enter Tryd.func4, Tryd.ntmps4
  go_upto_region 1 with (fail)
  go_cut [20] from 11 to 20 (fun v wx => v = .bool false ∧ Aside (En w wx #[.int .i64 k, .int .i64 d, .int .i64 a, .int .i64 b, .int .i64 c, .string T, .slice A l cc, .slice PA pl pc]))
  case first =>
    go_region_with (go_at_call 7; refine hn.mono ?_; rintro z w2 ⟨rfl, hN, hB2⟩; have E2 := Base.Aside.mk (E0.out.step hB2); have C2 := fun i => blk_cell E2.out.blk i; have L2 := E2.out.lt; clear hN hB2)
    all_goals
      go_wp2_with fail
      go_meet
      case rel => exact ⟨by rw [decide_eq_false (by omega)], E2.out⟩
  case rest =>
    obtain ⟨rfl, hE⟩ := hcut
    have E1 := Base.Aside.mk hE
    clear hE hn E0
    have C1 := fun i => blk_cell E1.out.blk i
    have L1 := E1.out.lt
    have hs := fun W g t h => small_prog W g 4 4 (four d a b c) (four_cells (t := t) h) (by omega)
    have hp := fun W => plain_prog W T
    rcases hS : allSmall (four d a b c) 4 with _ | _
    · clear H
      go_wp2_with (first
        | (go_at_call 8; refine (hs _ wc.heap.size _ (blk_new wc _)).mono ?_; rintro z w3 ⟨rfl, hw3⟩; obtain rfl := hw3.symm)
        | go_in)
      go_ret2
      exact ⟨by first | rfl | (simp; done), (E1.out.alloc _).out⟩
    · rcases hP : plainB T.data.toList with _ | _
      · clear H
        go_wp2_with (first
          | (go_at_call 8; refine (hs _ wc.heap.size _ (blk_new wc _)).mono ?_; rintro z w3 ⟨rfl, hw3⟩; obtain rfl := hw3.symm)
          | (go_at_call 9; refine (hp _).mono ?_; rintro z w4 ⟨rfl, hB4⟩; have E4 := Base.Aside.mk ((E1.out.alloc _).step hB4); clear hB4)
          | go_in)
        go_ret2
        exact ⟨by first | rfl | (simp; done), E4.out.out⟩
      · have HH : k = 0 ∧ d ≠ 0 := by
          have := H.out
          rw [hS, hP] at this
          simpa using this
        obtain ⟨rfl, hd⟩ := HH
        have hd0 : (d == 0) = false := by simpa using hd
        clear H hd
        go_wp2_with (first
          | (go_at_call 8; refine (hs _ wc.heap.size _ (blk_new wc _)).mono ?_; rintro z w3 ⟨rfl, hw3⟩; obtain rfl := hw3.symm)
          | (go_at_call 9; refine (hp _).mono ?_; rintro z w4 ⟨rfl, hB4⟩; have E4 := Base.Aside.mk ((E1.out.alloc _).step hB4); have C4 := fun i => blk_cell E4.out.blk i; have L4 := E4.out.lt; clear hB4)
          | go_in)
        go_ret2
        exact ⟨by first | rfl | (simp; done), E4.out.out⟩
end Go.Proofs.YtafphlimklgijaaDoor.SpC
