/- Proved: what mmu.New, grant.New, event.New and dom.New make of a machine that is new (contracts for the law AuditZero). -/
import Derived.Test.YtkalnjfhkbnamaaMaB
import Derived.Maps.OwnOps
namespace Go.Proofs.Ytkalnjfhkbnamaa.AuA
open Go.RowKit Go.Shelf Go.Proofs.Ytkalnjfhkbnamaa.Base Go.Proofs.Ytkalnjfhkbnamaa.Phys Go.Proofs.Ytkalnjfhkbnamaa.MaA Go.Proofs.Ytkalnjfhkbnamaa.MaB
set_option linter.unusedVariables false

set_option maxHeartbeats 4000000 in
set_option maxRecDepth 100000 in
theorem grant_new (w : World) (mb fb n : Nat) (o : Nat → Int) (hM : Mach w mb fb n o) (hn : 0 < n) (hn2 : n ≤ 1000) :
    Calls Try.prog 18 #[.pointer (some ⟨mb, 0, none⟩)] w fun e w' => ∃ g m1 m2, e = .returned (.pointer (some ⟨g, 0, none⟩)) ∧ w.heap.size ≤ g ∧ w'.heap[g]? = some (.cells #[.pointer (some ⟨mb, 0, none⟩), .map (some m1), .map (some m2)] 134 (0, 0)) ∧ w'.heap[m2]? = some (.map #[] 0) ∧ Below w.heap.size w w' := by
  have hmm := @run_makeMap Try.prog
  have hn0 : ((n : Int) == 0) = false := beq_eq_false_iff_ne.2 (by omega)
  go_enter Try.func18, Try.ntmps18
  go_wp2_with (first
    | (go_at_call 9; refine (size_calls hM).mono ?_; rintro z w1 ⟨rfl, hw1⟩; obtain rfl := hw1.symm)
    | go_in)
  go_ret
  exact ⟨_, _, _, by first | rfl | (simp; done), by omega, blk_newest (by simp) _, blk_alloc (blk_newest (by simp) _) _, below_alloc (below_alloc (below_alloc (Below.refl _ _) _) _) _⟩
set_option maxHeartbeats 4000000 in
set_option maxRecDepth 100000 in
theorem event_new (w : World) :
    Calls Try.prog 19 #[] w fun e w' => ∃ g, e = .returned (.pointer (some ⟨g, 0, none⟩)) ∧ Below w.heap.size w w' := by
  go_enter Try.func19, Try.ntmps19
  go_wp2
  go_ret
  exact ⟨_, by first | rfl | (simp; done), below_alloc (Below.refl _ _) _⟩

/-- The page tables' keeper: no pin, no root. -/
def MmuAt (w : World) (x mb : Nat) (k : Nat) : Prop := ∃ cs, w.heap[x]? = some (.cells cs 126 (0, 0)) ∧ cs.size = 26 ∧ cs[0]? = some (.pointer (some ⟨mb, 0, none⟩)) ∧ (∀ d, d < 8 → cs[10 + d]? = some (.slice none 0 0)) ∧ ∀ d, d < k → cs[18 + d]? = some (.int .i64 (-1))
theorem MmuAt.root {w : World} {x mb k : Nat} (h : MmuAt w x mb k) (hk : k < 8) : MmuAt (w.setCell ⟨x, 18 + k, none⟩ (.int .i64 (-1))) x mb (k + 1) := by
  obtain ⟨cs, h1, h2, h3, h4, h5⟩ := h
  refine ⟨_, blk_put h1 _ _ rfl, by simpa using h2, ?_, fun d hd => ?_, fun d hd => ?_⟩
  · rw [Array.getElem?_setIfInBounds, if_neg (by omega)]
    exact h3
  · rw [Array.getElem?_setIfInBounds, if_neg (by omega)]
    exact h4 d hd
  · rw [Array.getElem?_setIfInBounds]
    by_cases e : 18 + k = 18 + d
    · rw [if_pos e, if_pos (by omega)]
    · rw [if_neg e]
      exact h5 d (by omega)
theorem MmuAt.level {w : World} {x mb k : Nat} (h : MmuAt w x mb k) (i : Nat) (h1 : 1 ≤ i) (h2 : i < 10) (u : Value) : MmuAt (w.setCell ⟨x, i, none⟩ u) x mb k := by
  obtain ⟨cs, h1', h2', h3, h4, h5⟩ := h
  refine ⟨_, blk_put h1' _ _ rfl, by simpa using h2', ?_, fun d hd => ?_, fun d hd => ?_⟩
  · rw [Array.getElem?_setIfInBounds, if_neg (by omega)]
    exact h3
  · rw [Array.getElem?_setIfInBounds, if_neg (by omega)]
    exact h4 d hd
  · rw [Array.getElem?_setIfInBounds, if_neg (by omega)]
    exact h5 d hd
theorem MmuAt.below {w w' : World} {x mb k B : Nat} (h : MmuAt w x mb k) (hx : x < B) (hb : Below B w w') : MmuAt w' x mb k := by
  obtain ⟨cs, h1, h2⟩ := h
  exact ⟨cs, blk_below h1 hx hb, h2⟩
theorem MmuAt.some {w : World} {x mb k : Nat} (h : MmuAt w x mb k) (i : Nat) (hi : i < 26) : ∃ u, w.cell? ⟨x, i, none⟩ = some u := by
  obtain ⟨cs, h1, h2, _⟩ := h
  exact ⟨cs[i]'(by omega), (blk_cell h1 i).trans (Array.getElem?_eq_getElem (by omega))⟩
set_option maxHeartbeats 4000000 in
set_option maxRecDepth 100000 in
theorem mmu_new (w : World) (mb fb n : Nat) (o : Nat → Int) (hM : Mach w mb fb n o) (hn : 0 < n) (hn2 : n ≤ 1000) :
    Calls Try.prog 17 #[.pointer (some ⟨mb, 0, none⟩)] w fun e w' => ∃ x, e = .returned (.pointer (some ⟨x, 0, none⟩)) ∧ w.heap.size ≤ x ∧ MmuAt w' x mb 8 ∧ Below w.heap.size w w' := by
  have hmf : ∀ (fn : Fn) (first cap : Array Value) (w : World), (Instr.makeFunc fn first cap).run Try.prog w = .ok (.func fn first cap) w := fun _ _ _ _ => rfl
  have hsf : ∀ (a : Addr) (fn : Fn) (first cap : Array Value) (W : World), (store a (.func fn first cap)).run Try.prog W = stored Try.prog W a (.func fn first cap) .plain := fun a fn first cap W => run_store Try.prog W a _ .plain rfl
  have hn0 : ((n : Int) == 0) = false := beq_eq_false_iff_ne.2 (by omega)
  have hb0 := below_alloc (Below.refl w.heap.size w) (.cells #[.pointer (some ⟨mb, 0, none⟩)] 30)
  have hM1 := hM.below hM.lt.1 hM.lt.2 hb0
  go_enter Try.func17, Try.ntmps17
  go_wp2_with (first
    | (go_at_call 9; refine (size_calls hM1).mono ?_; rintro z w1 ⟨rfl, hw1⟩; obtain rfl := hw1.symm)
    | go_in)
  have hstart : MmuAt (((w.alloc (.cells #[.pointer (some ⟨mb, 0, none⟩)] 30)).alloc (.cells #[.pointer (some ⟨mb, 0, none⟩), .int .i64 0, .nilFunc, .nilFunc, .int .i64 0, .nilFunc, .nilFunc, .int .i64 0, .nilFunc, .nilFunc, .slice none 0 0, .slice none 0 0, .slice none 0 0, .slice none 0 0, .slice none 0 0, .slice none 0 0, .slice none 0 0, .slice none 0 0, .int .i64 0, .int .i64 0, .int .i64 0, .int .i64 0, .int .i64 0, .int .i64 0, .int .i64 0, .int .i64 0] 126)).alloc (.cells #[.pointer (some ⟨w.heap.size + 1, 0, none⟩)] 31)) (w.heap.size + 1) mb 0 :=
    ⟨_, blk_alloc (blk_newest (by simp) _) _, rfl, rfl, fun d hd => by match d, hd with | 0, _ => rfl | 1, _ => rfl | 2, _ => rfl | 3, _ => rfl | 4, _ => rfl | 5, _ => rfl | 6, _ => rfl | 7, _ => rfl, fun d hd => absurd hd (Nat.not_lt_zero _)⟩
  have hptr : (((w.alloc (.cells #[.pointer (some ⟨mb, 0, none⟩)] 30)).alloc (.cells #[.pointer (some ⟨mb, 0, none⟩), .int .i64 0, .nilFunc, .nilFunc, .int .i64 0, .nilFunc, .nilFunc, .int .i64 0, .nilFunc, .nilFunc, .slice none 0 0, .slice none 0 0, .slice none 0 0, .slice none 0 0, .slice none 0 0, .slice none 0 0, .slice none 0 0, .slice none 0 0, .int .i64 0, .int .i64 0, .int .i64 0, .int .i64 0, .int .i64 0, .int .i64 0, .int .i64 0, .int .i64 0] 126)).alloc (.cells #[.pointer (some ⟨w.heap.size + 1, 0, none⟩)] 31)).heap[w.heap.size + 1 + 1]? = some (.cells #[.pointer (some ⟨w.heap.size + 1, 0, none⟩)] 31 (0, 0)) := blk_newest (by simp) _
  have hbW : Below w.heap.size w (((w.alloc (.cells #[.pointer (some ⟨mb, 0, none⟩)] 30)).alloc (.cells #[.pointer (some ⟨mb, 0, none⟩), .int .i64 0, .nilFunc, .nilFunc, .int .i64 0, .nilFunc, .nilFunc, .int .i64 0, .nilFunc, .nilFunc, .slice none 0 0, .slice none 0 0, .slice none 0 0, .slice none 0 0, .slice none 0 0, .slice none 0 0, .slice none 0 0, .slice none 0 0, .int .i64 0, .int .i64 0, .int .i64 0, .int .i64 0, .int .i64 0, .int .i64 0, .int .i64 0, .int .i64 0] 126)).alloc (.cells #[.pointer (some ⟨w.heap.size + 1, 0, none⟩)] 31)) := below_alloc (below_alloc (below_alloc (Below.refl _ _) _) _) _
  have HS := Aside.mk (And.intro hstart (And.intro hptr hbW))
  clear hstart hptr hbW
  go_loopw [12] (fun v wr => ∃ (k : Nat) (W2 : World), k ≤ 8 ∧ v = .int .i64 k ∧ wr = W2 ∧ Aside (MmuAt W2 (w.heap.size + 1) mb k ∧ W2.heap[w.heap.size + 1 + 1]? = some (.cells #[.pointer (some ⟨w.heap.size + 1, 0, none⟩)] 31 (0, 0)) ∧ Below w.heap.size w W2)) (fun v _ => 8 - (intOf v).toNat)
  case atStart => exact ⟨0, _, Nat.zero_le _, rfl, rfl, HS.out⟩
  case round =>
    obtain ⟨k, W2, hk, rfl, hwr, hE⟩ := hrel
    obtain rfl := hwr.symm
    obtain ⟨hX, hpt, hbel⟩ := hE.out
    have C1 := fun i => blk_cell hpt i
    have L1 := blk_lt hpt
    have LX : w.heap.size + 1 < W2.heap.size := by
      obtain ⟨cs, h1, _⟩ := hX
      exact blk_lt h1
    have FX : ∀ i, W2.frozen? ⟨w.heap.size + 1, i, none⟩ = false := fun i => by
      obtain ⟨cs, h1, _⟩ := hX
      exact blk_frozen h1 i
    by_cases hlt : k < 8
    · obtain ⟨u, hu⟩ := hX.some (18 + k) (by omega)
      have hr := hX.root hlt
      have HR := Aside.mk (And.intro hr (And.intro (blk_far hpt (p := ⟨w.heap.size + 1, 18 + k, none⟩) (by show w.heap.size + 1 + 1 ≠ w.heap.size + 1; omega) (.int .i64 (-1))) (below_set (p := ⟨w.heap.size + 1, 18 + k, none⟩) hbel (by show w.heap.size ≤ w.heap.size + 1; omega) (.int .i64 (-1)))))
      clear hX hr hE hpt hbel
      go_wp2
      refine ⟨⟨k + 1, _, by omega, by simp, rfl, HR.out⟩, by simp [intOf]; omega⟩
    · obtain rfl : k = 8 := by omega
      obtain ⟨u4, D4⟩ := hX.some 4 (by omega)
      obtain ⟨u5, D5⟩ := hX.some 5 (by omega)
      obtain ⟨u6, D6⟩ := hX.some 6 (by omega)
      obtain ⟨u7, D7⟩ := hX.some 7 (by omega)
      obtain ⟨u8, D8⟩ := hX.some 8 (by omega)
      obtain ⟨u9, D9⟩ := hX.some 9 (by omega)
      have HX := Aside.mk (And.intro hX hbel)
      clear hX hE hpt hbel
      go_wp2
      go_ret
      have hl := fun u4 u5 u6 u7 u8 u9 => ((((((HX.out.1.level 4 (by omega) (by omega) u4).level 5 (by omega) (by omega) u5).level 6 (by omega) (by omega) u6).level 7 (by omega) (by omega) u7).level 8 (by omega) (by omega) u8).level 9 (by omega) (by omega) u9)
      have hle : w.heap.size ≤ w.heap.size + 1 := by omega
      have hbb := fun u4 u5 u6 u7 u8 u9 => below_set (p := ⟨w.heap.size + 1, 9, none⟩) (below_set (p := ⟨w.heap.size + 1, 8, none⟩) (below_set (p := ⟨w.heap.size + 1, 7, none⟩) (below_set (p := ⟨w.heap.size + 1, 6, none⟩) (below_set (p := ⟨w.heap.size + 1, 5, none⟩) (below_set (p := ⟨w.heap.size + 1, 4, none⟩) HX.out.2 hle u4) hle u5) hle u6) hle u7) hle u8) hle u9
      exact ⟨w.heap.size + 1, by first | rfl | (simp; done), by omega, (hl _ _ _ _ _ _).below (B := W2.heap.size) LX (by
        have hz : W2.heap.size = ((((((W2.setCell ⟨w.heap.size + 1, 4, none⟩ (.int .i64 2)).setCell ⟨w.heap.size + 1, 5, none⟩ (.func (.func 39) #[] #[.pointer (some ⟨w.heap.size, 0, none⟩), .pointer (some ⟨W2.heap.size, 0, none⟩)])).setCell ⟨w.heap.size + 1, 6, none⟩ (.func (.func 42) #[] #[.pointer (some ⟨w.heap.size, 0, none⟩), .pointer (some ⟨W2.heap.size, 0, none⟩)])).setCell ⟨w.heap.size + 1, 7, none⟩ (.int .i64 3)).setCell ⟨w.heap.size + 1, 8, none⟩ (.func (.func 44) #[] #[.pointer (some ⟨w.heap.size + 1 + 1, 0, none⟩)])).setCell ⟨w.heap.size + 1, 9, none⟩ (.func (.func 46) #[] #[.pointer (some ⟨w.heap.size + 1 + 1, 0, none⟩)])).heap.size := by simp
        exact Below.alloc (Below.refl _ _) (Nat.le_of_eq hz) _), below_alloc (hbb _ _ _ _ _ _) _⟩
end Go.Proofs.Ytkalnjfhkbnamaa.AuA
