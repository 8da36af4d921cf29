/- Proved: Alloc of a frame for the hypervisor (a contract for the laws of the domains). -/
import Derived.Test.YtebhpmmibffbeaaGaD
import Derived.RangeFuncNested
import Derived.RangeFuncBound
import Derived.RangeFuncCalls
import Derived.RangeFuncLeaves
import Derived.RangeFuncFrom
import Derived.Shelf.Abstract
import Derived.WalkKit
import Derived.OwnWalkIn
import Derived.TacticsInMore
import Derived.LoopNIn
import Derived.LoopIn
import Derived.Stop.RegionWithIn
import Derived.Sort.QuietIn
namespace Go.Proofs.Ytebhpmmibffbeaa.DaA
open Go.RowKit Go.Shelf Go.Proofs.Ytebhpmmibffbeaa.Base Go.Proofs.Ytebhpmmibffbeaa.GaA Go.Proofs.Ytebhpmmibffbeaa.GaB Go.Proofs.Ytebhpmmibffbeaa.GaC Go.Proofs.Ytebhpmmibffbeaa.GaD
attribute [local go_sem] Oper.semAt_some
set_option linter.unusedVariables false
set_option linter.unusedSimpArgs false


set_option maxRecDepth 100000 in
set_option maxHeartbeats 8000000 in
theorem halloc_in (m : Nat) (hm : 6 ≤ m) (w : World) (mb fb : Nat) (s : MS) (hM : Mach w mb fb s) (k : Nat) (hk : k < s.n) (hok : (s.fr k).own = -1) (hlow : ∀ j, j < k → (s.fr j).own ≠ -1) :
    CallsIn Fence.wide m Try.prog 11 #[.pointer (some ⟨mb, 0, none⟩), .int .i64 (-2)] w fun e w' => e = .returned (.tuple #[.int .i64 k, .int .i64 0]) ∧ Mach w' mb fb (give s k (-2)) ∧ (w'.os = w.os ∧ w'.tape = w.tape ∧ w'.output = w.output ∧ w.heap.size ≤ w'.heap.size) ∧ ∀ j, j < w.heap.size → j ≠ fb → w'.heap[j]? = w.heap[j]? := by
  have hfn : ∀ f, Fence.wide.fn f := fun _ => trivial
  have hro : Fence.wide.round = none := rfl
  have hm1 : 1 ≤ m := by omega
  have hm2 : 1 ≤ m - 1 := by omega
  refine callsIn_of_wp_marks Try.func11 rfl trivial ?_ rfl
  simp only [Try.ntmps11, List.size_toArray, List.length_cons, List.length_nil, Nat.reduceAdd, Nat.reduceSub, Array.replicate_succ, Array.replicate_zero, List.push_toArray, List.append_toArray, List.nil_append, List.cons_append]
  have hbm := hM.lt
  have hb0 : Below w.heap.size w ((((w.alloc (.cells #[.pointer (some ⟨mb, 0, none⟩)] 27)).alloc (.cells #[.int .i64 (-2)] 3)).alloc (.cells #[.int .i64 0] 3)).alloc (.cells #[.int .i64 0] 24)) := below_alloc (below_alloc (below_alloc (below_alloc (Below.refl _ _) _) _) _) _
  have hM4 := hM.below hb0
  have hno := fun m => callsIn_wide (n := m).2 (none_calls hM4)
  have hof := fun m => callsIn_wide (n := m).2 (of_calls mb (-1) ((((w.alloc (.cells #[.pointer (some ⟨mb, 0, none⟩)] 27)).alloc (.cells #[.int .i64 (-2)] 3)).alloc (.cells #[.int .i64 0] 3)).alloc (.cells #[.int .i64 0] 24)))
  have hdm := fun m w => callsIn_wide (n := m).2 (domain_calls (-2) w)
  gi_wp2_with (first
    | (gi_at_call 30; refine (hdm _ _).mono ?_; rintro z w1 ⟨rfl, hw1⟩; obtain rfl := hw1.symm)
    | (gi_at_call 29; refine (hno _).mono ?_; rintro z w1 ⟨rfl, hw1⟩; obtain rfl := hw1.symm)
    | (gi_at_call 31; refine (hof _).mono ?_; rintro z w1 ⟨rfl, hw1⟩; obtain rfl := hw1)
    | gi_in)
  have hA : AllocAt w ((((((w.alloc (.cells #[.pointer (some ⟨mb, 0, none⟩)] 27)).alloc (.cells #[.int .i64 (-2)] 3)).alloc (.cells #[.int .i64 0] 3)).alloc (.cells #[.int .i64 0] 24)).alloc (.cells #[.pointer (some ⟨mb, 0, none⟩)] 27)).alloc (.cells #[.int .i64 (-1)] 3)) mb fb s (-2) 0 0 := by
    have hb6 := below_alloc (below_alloc hb0 (.cells #[.pointer (some ⟨mb, 0, none⟩)] 27)) (.cells #[.int .i64 (-1)] 3)
    exact ⟨hM.below hb6, blk_alloc (blk_alloc (blk_alloc (blk_alloc (blk_alloc (blk_new _ _) _) _) _) _) _, blk_alloc (blk_alloc (blk_alloc (blk_alloc (blk_newest (by simp) _) _) _) _) _, blk_alloc (blk_alloc (blk_alloc (blk_newest (by simp) _) _) _) _, blk_alloc (blk_alloc (blk_newest (by simp) _) _) _, hb6.size, hb6.os, hb6.tape, hb6.output, fun j hj _ => hb6.block j hj⟩
  have hc4 : ((((((w.alloc (.cells #[.pointer (some ⟨mb, 0, none⟩)] 27)).alloc (.cells #[.int .i64 (-2)] 3)).alloc (.cells #[.int .i64 0] 3)).alloc (.cells #[.int .i64 0] 24)).alloc (.cells #[.pointer (some ⟨mb, 0, none⟩)] 27)).alloc (.cells #[.int .i64 (-1)] 3)).cell? ⟨w.heap.size + 1 + 1 + 1 + 1, 0, none⟩ = some (.pointer (some ⟨mb, 0, none⟩)) :=
    blk_cell (blk_alloc (blk_newest (by simp) _) _) 0
  have hc5 : ((((((w.alloc (.cells #[.pointer (some ⟨mb, 0, none⟩)] 27)).alloc (.cells #[.int .i64 (-2)] 3)).alloc (.cells #[.int .i64 0] 3)).alloc (.cells #[.int .i64 0] 24)).alloc (.cells #[.pointer (some ⟨mb, 0, none⟩)] 27)).alloc (.cells #[.int .i64 (-1)] 3)).cell? ⟨w.heap.size + 1 + 1 + 1 + 1 + 1, 0, none⟩ = some (.int .i64 (-1)) :=
    blk_cell (blk_newest (by simp) _) 0
  have hsz : ((((((w.alloc (.cells #[.pointer (some ⟨mb, 0, none⟩)] 27)).alloc (.cells #[.int .i64 (-2)] 3)).alloc (.cells #[.int .i64 0] 3)).alloc (.cells #[.int .i64 0] 24)).alloc (.cells #[.pointer (some ⟨mb, 0, none⟩)] 27)).alloc (.cells #[.int .i64 (-1)] 3)).heap.size = w.heap.size + 6 := by simp
  generalize ((((((w.alloc (.cells #[.pointer (some ⟨mb, 0, none⟩)] 27)).alloc (.cells #[.int .i64 (-2)] 3)).alloc (.cells #[.int .i64 0] 3)).alloc (.cells #[.int .i64 0] 24)).alloc (.cells #[.pointer (some ⟨mb, 0, none⟩)] 27)).alloc (.cells #[.int .i64 (-1)] 3)) = W0 at hA hc4 hc5 hsz ⊢
  clear hM4 hno hof hb0
  have hst := of_stops (m - 1) hm2 (w.heap.size + 1 + 1 + 1 + 1) (w.heap.size + 1 + 1 + 1 + 1 + 1) mb fb s.n W0.heap.size s rfl (owners s) rfl (-1) hM.few (by omega) (by omega) (by omega) (by omega) W0 (Nat.le_refl _) hc4 hc5 hA.mach
  refine wpIn_rangeFunc_ownF hro hm1 (gf := 54) (lb := #[.pointer (some ⟨w.heap.size + 1 + 1 + 1 + 1, 0, none⟩), .pointer (some ⟨w.heap.size + 1 + 1 + 1 + 1 + 1, 0, none⟩)]) rfl trivial (enters_of Try.func54 (by kernel_rfl) rfl)
    hst belowK_t (belowK_b (Nat.le_refl _)) (Below.refl _ _) (fun _ => rfl)
    (fun pre W => pre = [] ∧ AllocAt w W mb fb s (-2) 0 0)
    (fun c pre W => c = .ret ∧ ∃ j, j < s.n ∧ owners s j = -1 ∧ ints pre = [(j : Int)] ∧ AllocAt w W mb fb (give s j (-2)) (-2) j 0)
    (OwnFrom.and (fun s A B row hs hg hr => hs) (AllocAt.own hbm.1 hbm.2 (by omega)))
    (fun c s A B row hs hg hr => ⟨hs.1, hs.2.choose, hs.2.choose_spec.1, hs.2.choose_spec.2.1, hs.2.choose_spec.2.2.1, AllocAt.own (β := Unit) (B := W0.heap.size) hbm.1 hbm.2 (by omega) () A B row hs.2.choose_spec.2.2.2 hg hr⟩)
    ⟨rfl, hA⟩
    (fun x => { tmps := #[.pointer (some ⟨mb, 0, none⟩), .int .i64 (-2), .pointer (some ⟨w.heap.size, 0, none⟩), .pointer (some ⟨w.heap.size + 1, 0, none⟩), .pointer (some ⟨w.heap.size + 1 + 1, 0, none⟩), .pointer (some ⟨w.heap.size + 1 + 1 + 1, 0, none⟩), .int .i64 x.1, .bool false, .pointer (some ⟨mb, 0, none⟩), .bool false, .bool false, .int .i64 (-2), .bool false, .bool true, .bool true, .int .i64 (-2), .bool false, .bool false, .pointer (some ⟨mb, 0, none⟩), .func (.func 54) #[] #[.pointer (some ⟨w.heap.size + 1 + 1 + 1 + 1, 0, none⟩), .pointer (some ⟨w.heap.size + 1 + 1 + 1 + 1 + 1, 0, none⟩)], .int .i64 x.1, undef, undef, undef, undef, undef, undef, undef, undef, undef, undef], defers := [] }) ?assign ?body ?done ?stop
  case assign =>
    intro l x W K hK
    gi_wp2
    exact hK
  case body =>
    rintro l pre x W ⟨rfl, hW⟩ _
    have hx := x.2.1
    have hox := x.2.2
    have C0 := fun i => blk_cell hW.b0 i
    have C1 := fun i => blk_cell hW.b1 i
    have C2 := fun i => blk_cell hW.b2 i
    have C3 := fun i => blk_cell hW.b3 i
    have F2 := fun i => blk_frozen hW.b2 i
    have F3 := fun i => blk_frozen hW.b3 i
    have CM := fun i => blk_cell hW.mach.blk i
    have CO := hW.mach.own x.1 hx
    have FO : ∀ i, W.frozen? ⟨fb, i, none⟩ = false := fun i => by
      obtain ⟨cs, h1, h2⟩ := hW.mach.lst
      exact blk_frozen h1 i
    have hns : w.heap.size + 1 + 1 ≠ fb := by omega
    have hns3 : w.heap.size + 1 + 1 + 1 ≠ fb := by omega
    have hst2 := hW.step hbm.1 hbm.2 x.1 hx
    have HS := Aside.mk (And.intro hW hst2)
    clear hW hst2 hst
    gi_wp2
    gi_region_with (fail)
    all_goals gi_wp2
    all_goals exact ⟨(KeepsOthers.setCell W _ _).trans (((KeepsOthers.drew _).trans (KeepsOthers.setCell _ _ _)).trans (KeepsOthers.setCell _ _ _)), rfl, x.1, hx, hox, rfl, HS.out.2⟩
  case done =>
    rintro D ys W hD hys ⟨rfl, hW⟩ hK
    exact absurd hok (mine_nil hys.symm k hk)
  case stop =>
    rintro D c pre W hD ⟨k', hk', hok', hpre⟩ ⟨rfl, j, hj, hoj, hpj, hW⟩ hK
    rw [hpj] at hpre
    have hlen : (mine (owners s) (-1) k').length = 0 := by
      have := congrArg List.length hpre
      rw [List.length_append] at this
      simp only [List.length_cons, List.length_nil] at this
      omega
    have hmn : mine (owners s) (-1) k' = [] := List.length_eq_zero_iff.1 hlen
    rw [hmn] at hpre
    have hjk : j = k' := by
      have : (j : Int) = (k' : Int) := by simpa using hpre
      omega
    have hkk : j = k := by
      subst hjk
      rcases Nat.lt_trichotomy j k with h | h | h
      · exact absurd hoj (hlow j h)
      · exact h
      · exact absurd hok (mine_nil hmn k h)
    subst hkk
    have hP : AllocAt w (W.putObj D (.deferred none)) mb fb (GaD.give s j (-2)) (-2) j 0 := AllocAt.own (β := Unit) (B := W0.heap.size) hbm.1 hbm.2 (by omega) () W _ (some D) hW (grownBy_putObj' W D _) (fun r e => by cases e; exact ⟨hD, _, hK, rfl⟩)
    have C2 := blk_cell hP.b2 0
    have C3 := blk_cell hP.b3 0
    simp only [List.getElem?_toArray, List.getElem?_cons_zero] at C2 C3
    gi_wp2
    refine ⟨by simp, .inl ⟨_, _, rfl, run_takeDeferred hK, ?_⟩⟩
    refine ⟨.tuple #[.int .i64 j, .int .i64 0], ?_, rfl, hP.mach, ⟨hP.os, hP.tape, hP.output, hP.size⟩, hP.block⟩
    simp [results, Try.f11, go_sem, C2, C3]
/-- A domain takes the least free frame. -/
theorem halloc_calls (w : World) (mb fb : Nat) (s : MS) (hM : Mach w mb fb s) (k : Nat) (hk : k < s.n) (hok : (s.fr k).own = -1) (hlow : ∀ j, j < k → (s.fr j).own ≠ -1) :
    Calls Try.prog 11 #[.pointer (some ⟨mb, 0, none⟩), .int .i64 (-2)] w fun e w' => e = .returned (.tuple #[.int .i64 k, .int .i64 0]) ∧ Mach w' mb fb (give s k (-2)) ∧ (w'.os = w.os ∧ w'.tape = w.tape ∧ w'.output = w.output ∧ w.heap.size ≤ w'.heap.size) ∧ ∀ j, j < w.heap.size → j ≠ fb → w'.heap[j]? = w.heap[j]? :=
  callsIn_wide.1 (halloc_in 6 (Nat.le_refl _) w mb fb s hM k hk hok hlow)
end Go.Proofs.Ytebhpmmibffbeaa.DaA
