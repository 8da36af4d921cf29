/- Proved: what Tick and Drop of the document's answer for the scheduler do (contracts for the laws of the scheduler). -/
import Derived.Test.YtpdelhipfleniaaRfF
import Derived.Deep.RegionWith
namespace Go.Proofs.Ytpdelhipfleniaa.RfG
open Go.RowKit Go.Maps Go.Proofs.Ytpdelhipfleniaa.Base Go.Proofs.Ytpdelhipfleniaa.SchA Go.Proofs.Ytpdelhipfleniaa.PlB Go.Proofs.Ytpdelhipfleniaa.PlC Go.Proofs.Ytpdelhipfleniaa.PlD Go.Proofs.Ytpdelhipfleniaa.PlE Go.Proofs.Ytpdelhipfleniaa.PlF Go.Proofs.Ytpdelhipfleniaa.PlG Go.Proofs.Ytpdelhipfleniaa.PlH Go.Proofs.Ytpdelhipfleniaa.PlI Go.Proofs.Ytpdelhipfleniaa.PlJ Go.Proofs.Ytpdelhipfleniaa.PlK Go.Proofs.Ytpdelhipfleniaa.PlL Go.Proofs.Ytpdelhipfleniaa.RfA Go.Proofs.Ytpdelhipfleniaa.RfB Go.Proofs.Ytpdelhipfleniaa.RfC Go.Proofs.Ytpdelhipfleniaa.RfD Go.Proofs.Ytpdelhipfleniaa.RfE Go.Proofs.Ytpdelhipfleniaa.RfF
set_option linter.unusedVariables false

section
variable {X : Nat → Prop} {w w' W' : World} {R L : Nat} {cs : Array Value} {p : Nat → Bool} {e : Nat → V} {qv qv' : Value} {q q' : List Int} {t : Int}
theorem tickR_none (h : nextOf q e = none) : tickR e q = -1 := by rw [tickR, h]
theorem tickR_some {x : Int} (h : nextOf q e = some x) : tickR e q = x := by rw [tickR, h]
/-- One runs: what Tick does before the ticks are counted. -/
def runE (e : Nat → V) (k : Nat) : Nat → V := fun j => if j = k then runV (e k) else e j
theorem run_entry (h : Ref X w R L cs p e qv q t) (k : Nat) (hk : k < 16) (hp : p k = true) :
    (∃ cs', Ref X ((w.setCell ⟨L, k * 7 + 1 + 3, none⟩ (.int .i64 (wrap64 ((e k).credit - 100)))).drew.setCell ⟨L, k * 7 + 1 + 5, none⟩ (.int .i64 (wrap64 ((e k).ran + 1)))) R L cs' p (runE e k) qv q t) ∧
    Kept X w ((w.setCell ⟨L, k * 7 + 1 + 3, none⟩ (.int .i64 (wrap64 ((e k).credit - 100)))).drew.setCell ⟨L, k * 7 + 1 + 5, none⟩ (.int .i64 (wrap64 ((e k).ran + 1)))) := by
  obtain ⟨⟨cs2, h2⟩, hK2⟩ := h.entry k hk hp 3 (by omega) (.int .i64 (wrap64 ((e k).credit - 100))) { (e k) with credit := wrap64 ((e k).credit - 100) } rfl
  have h3 := h2.drewN 1
  obtain ⟨⟨cs4, h4⟩, hK4⟩ := h3.entry k hk hp 5 (by omega) (.int .i64 (wrap64 ((e k).ran + 1))) (runV (e k)) (by simp; rfl)
  rw [if2] at h4
  exact ⟨⟨cs4, h4⟩, (Kept.drewN hK2 1).trans hK4⟩
set_option maxHeartbeats 4000000 in
set_option maxRecDepth 100000 in
theorem rtick_none (h : Ref X w R L cs p e qv q t) (hb : Old X w) (hq : Qin q p) (hv : Vin p e) (hl : q.length ≤ 16) (hr : ∀ k, k < 16 → p k = true → (e k).ready = true → q ≠ []) (ht0 : 0 ≤ t) (ht1 : t < 9223372036854775807) (hn : nextOf q e = none) :
    Calls Try.prog 22 #[.pointer (some ⟨R, 0, none⟩)] w fun z w' => z = .returned (.int .i64 (-1)) ∧ ∃ cs', Ref X w' R L cs' p (if (t + 1) % 10 = 0 then giveP (sumW e q) p e 16 else e) qv q (t + 1) ∧ Kept X w w' := by
  have hR := tickR_none hn
  have L0 := blk_lt h.blk
  have C0 := fun i => blk_cell h.blk i
  have F0 := fun i => blk_frozen h.blk i
  have ht := fun n => (h.drewN n).ticked (t + 1)
  by_cases hm : (t + 1) % 10 = 0
  · have hm2 : ((t + 1) % 10 == 0) = true := by rw [hm]; rfl
    rw [if_pos hm]
    go_enter Try.func22, Try.ntmps22
    go_wp2_with (first
      | (go_at_call 38; refine (pick_calls h hq (Nat.le_trans hl (of_decide_eq_true rfl))).mono ?_; rw [hR]; rintro z w1 ⟨rfl, n, hw1⟩; obtain rfl := hw1)
      | (go_at_call 40; refine (period_calls (ht n).1 (Old.up hb ((Kept.drewN (Kept.refl X w) n).trans (ht n).2).size) hq hv hl hr).mono ?_; rintro z w2 ⟨rfl, cs', h5, hB5⟩)
      | go_in)
    go_ret
    exact ⟨by first | rfl | (simp; done), _, h5, ((Kept.drewN (Kept.refl X w) n).trans (ht n).2).trans hB5⟩
  · have hm2 : ((t + 1) % 10 == 0) = false := beq_eq_false_iff_ne.2 hm
    rw [if_neg hm]
    go_enter Try.func22, Try.ntmps22
    go_wp2_with (first
      | (go_at_call 38; refine (pick_calls h hq (Nat.le_trans hl (of_decide_eq_true rfl))).mono ?_; rw [hR]; rintro z w1 ⟨rfl, n, hw1⟩; obtain rfl := hw1)
      | go_in)
    go_ret
    refine ⟨by first | rfl | (simp; done), ?_⟩
    have h9 := ht n
    first
      | exact ⟨_, h9.1, (Kept.drewN (Kept.refl X w) n).trans h9.2⟩
      | exact ⟨⟨_, h9.1⟩, (Kept.drewN (Kept.refl X w) n).trans h9.2⟩
theorem pick_kept (h : Ref X w R L cs p e qv q t) (hq : Qin q p) (hl : q.length ≤ 16) :
    Calls Try.prog 38 #[.pointer (some ⟨R, 0, none⟩)] w fun z w' => z = .returned (.int .i64 (tickR e q)) ∧ Ref X w' R L cs p e qv q t ∧ Kept X w w' := by
  refine (pick_calls h hq (by omega)).mono ?_
  rintro z w1 ⟨h1, n, rfl⟩
  exact ⟨h1, h.drewN n, Kept.drewN (Kept.refl X w) n⟩
theorem outr_lt {x : Int} (hx : x ∈ q) : (outr q x).length < q.length := by
  unfold outr
  rcases Nat.lt_or_ge (q.filter (fun y => y != x)).length q.length with h | h
  · exact h
  · have h1 := List.length_filter_eq_length_iff.1 (Nat.le_antisymm (List.length_filter_le _ _) h) x hx
    simp at h1
theorem outr_in {x : Int} (hq : Qin q p) (hx : x ∈ q) : Qin (outr q x ++ [x]) p := by
  intro y hy
  rcases List.mem_append.1 hy with hy | hy
  · exact hq y (List.mem_filter.1 hy).1
  · rw [List.mem_singleton.1 hy]
    exact hq x hx
theorem runE_in {k : Nat} (hv : Vin p e) : Vin p (runE e k) := by
  intro j hj
  unfold runE
  by_cases h : j = k
  · subst h
    rw [if_pos rfl]
    exact hv j hj
  · rw [if_neg h]
    exact hv j hj
set_option maxHeartbeats 4000000 in
set_option maxRecDepth 100000 in
theorem rtick_some (h : Ref X w R L cs p e qv q t) (hb : Old X w) (hq : Qin q p) (hv : Vin p e) (hl : q.length ≤ 16) (ht0 : 0 ≤ t) (ht1 : t < 9223372036854775807) (k : Nat) (hk : k < 16) (hp : p k = true) (hn : nextOf q e = some (k : Int)) :
    Calls Try.prog 22 #[.pointer (some ⟨R, 0, none⟩)] w fun z w' => z = .returned (.int .i64 k) ∧ ∃ cs' qv', Ref X w' R L cs' p (if (t + 1) % 10 = 0 then giveP (sumW (runE e k) (outr q k ++ [(k : Int)])) p (runE e k) 16 else runE e k) qv' (outr q k ++ [(k : Int)]) (t + 1) ∧ Kept X w w' := by
  have hR := tickR_some hn
  obtain ⟨i0, hi, hz0, hz1, hz2⟩ := info_parts info3
  have hmem := nextOf_mem hn
  have hlt := outr_lt hmem
  have hq2 := outr_in hq hmem
  have hv2 := runE_in (k := k) hv
  have hl2 : (outr q (k : Int) ++ [(k : Int)]).length ≤ 16 := by simp; omega
  have hr2 : ∀ j, j < 16 → p j = true → (runE e k j).ready = true → outr q (k : Int) ++ [(k : Int)] ≠ [] := fun _ _ _ _ => by simp
  by_cases hm : (t + 1) % 10 = 0
  · have hm2 : ((t + 1) % 10 == 0) = true := by rw [hm]; rfl
    rw [if_pos hm]
    go_enter Try.func22, Try.ntmps22
    go_wp2_with (first
      | (go_at_call 38; refine (pick_kept h hq hl).mono ?_; rw [hR]; rintro z w1 ⟨rfl, h1, hK1⟩
         have C0 := fun i => blk_cell h1.blk i
         have L0 := blk_lt h1.blk
         have L1 := blk_lt h1.lst
         have F1 := fun i => blk_frozen h1.lst i
         have D3 := h1.at k hk hp 3 (of_decide_eq_true rfl)
         have D5 := h1.at k hk hp 5 (of_decide_eq_true rfl)
         simp only [vcells] at D3 D5
         have RL := h1.R_ne
         have H := Aside.mk (And.intro (run_entry h1 k hk hp) hK1)
         clear h1 hK1)
      | go_in)
    go_region
    obtain ⟨⟨cs3, h3⟩, hK3⟩ := H.out.1
    have H3 := Aside.mk (And.intro h3 (H.out.2.trans hK3))
    clear h3 hK3 H
    go_wp2_with (first
      | (go_at_call 39; refine (rout_calls H3.out.1 (Old.up hb H3.out.2.size) k (Nat.le_trans hl (of_decide_eq_true rfl))).mono ?_; rintro z w4 ⟨rfl, qv4, h4, hK4⟩
         have C4 := fun i => blk_cell h4.blk i
         have L4 := blk_lt h4.blk
         have H4 := Aside.mk (And.intro h4 (H3.out.2.trans hK4))
         clear h4 hK4)
      | (at_builtin; refine wpList_append_own_at _ rfl _ _ 29 rfl 0 3 i0 (.int .i64 0) 1 8 Try.underlying29 hi hz0 hz1 hz2 rfl (by decide) _ (outr q k).length _ rfl (H4.out.1.row.alloc _) ⟨w4.heap.size, 0, none⟩ 1 1 [.int .i64 k] rfl rfl (cell_one_new _ _ _) (ints_oneCell .i64 [(k : Int)]) (by unfold maxLen; omega) (by omega) (Nat.zero_le _) ?_)
      | go_in)
    intro v' w5 hown hg hnil hloc
    have hrow := row_snoc hown
    clear hown hnil
    obtain ⟨g2, n2, cap2, rfl⟩ : ∃ g2 n2 cap2, v' = .slice (some ⟨g2, 0, none⟩) n2 cap2 := row_plain hrow
    have hA := H4.out.1.below (Below.alloc (Below.refl _ _) (Nat.le_refl _) (.cells #[.int .i64 k] 3))
    have hb1 := Old.up hb H4.out.2.size
    have ht := Ref.turn hA (Old.up hb1 (by simp)) hg hrow (.inr (hloc.imp id (fun e => ⟨_, e, by simp⟩)))
    have ht2 := ht.1.ticked (t + 1)
    have HT := Aside.mk (And.intro ht2.1 (H4.out.2.trans (((Kept.alloc (Kept.refl _ _) hb1 (.cells #[.int .i64 k] 3)).trans ht.2).trans ht2.2)))
    have hS := (hg.block R hA.lt (ne_of_own hA.R_row)).trans hA.blk
    have C2 := fun i => blk_cell hS i
    have F2 := fun i => blk_frozen hS i
    have L2 := blk_lt hS
    clear hS hA ht ht2 hloc hg hrow
    go_wp2_with (first
      | (go_at_call 40; refine (period_calls HT.out.1 (Old.up hb HT.out.2.size) hq2 hv2 hl2 hr2).mono ?_; rintro z w6 ⟨rfl, cs', h6, hK6⟩)
      | go_in)
    go_ret
    exact ⟨by first | rfl | (simp; done), _, _, h6, HT.out.2.trans hK6⟩
  · have hm2 : ((t + 1) % 10 == 0) = false := beq_eq_false_iff_ne.2 hm
    rw [if_neg hm]
    go_enter Try.func22, Try.ntmps22
    go_wp2_with (first
      | (go_at_call 38; refine (pick_kept h hq hl).mono ?_; rw [hR]; rintro z w1 ⟨rfl, h1, hK1⟩
         have C0 := fun i => blk_cell h1.blk i
         have L0 := blk_lt h1.blk
         have L1 := blk_lt h1.lst
         have F1 := fun i => blk_frozen h1.lst i
         have D3 := h1.at k hk hp 3 (of_decide_eq_true rfl)
         have D5 := h1.at k hk hp 5 (of_decide_eq_true rfl)
         simp only [vcells] at D3 D5
         have RL := h1.R_ne
         have H := Aside.mk (And.intro (run_entry h1 k hk hp) hK1)
         clear h1 hK1)
      | go_in)
    go_region
    obtain ⟨⟨cs3, h3⟩, hK3⟩ := H.out.1
    have H3 := Aside.mk (And.intro h3 (H.out.2.trans hK3))
    clear h3 hK3 H
    go_wp2_with (first
      | (go_at_call 39; refine (rout_calls H3.out.1 (Old.up hb H3.out.2.size) k (Nat.le_trans hl (of_decide_eq_true rfl))).mono ?_; rintro z w4 ⟨rfl, qv4, h4, hK4⟩
         have C4 := fun i => blk_cell h4.blk i
         have L4 := blk_lt h4.blk
         have H4 := Aside.mk (And.intro h4 (H3.out.2.trans hK4))
         clear h4 hK4)
      | (at_builtin; refine wpList_append_own_at _ rfl _ _ 29 rfl 0 3 i0 (.int .i64 0) 1 8 Try.underlying29 hi hz0 hz1 hz2 rfl (by decide) _ (outr q k).length _ rfl (H4.out.1.row.alloc _) ⟨w4.heap.size, 0, none⟩ 1 1 [.int .i64 k] rfl rfl (cell_one_new _ _ _) (ints_oneCell .i64 [(k : Int)]) (by unfold maxLen; omega) (by omega) (Nat.zero_le _) ?_)
      | go_in)
    intro v' w5 hown hg hnil hloc
    have hrow := row_snoc hown
    clear hown hnil
    obtain ⟨g2, n2, cap2, rfl⟩ : ∃ g2 n2 cap2, v' = .slice (some ⟨g2, 0, none⟩) n2 cap2 := row_plain hrow
    have hA := H4.out.1.below (Below.alloc (Below.refl _ _) (Nat.le_refl _) (.cells #[.int .i64 k] 3))
    have hb1 := Old.up hb H4.out.2.size
    have ht := Ref.turn hA (Old.up hb1 (by simp)) hg hrow (.inr (hloc.imp id (fun e => ⟨_, e, by simp⟩)))
    have ht2 := ht.1.ticked (t + 1)
    have HT := Aside.mk (And.intro ht2.1 (H4.out.2.trans (((Kept.alloc (Kept.refl _ _) hb1 (.cells #[.int .i64 k] 3)).trans ht.2).trans ht2.2)))
    have hS := (hg.block R hA.lt (ne_of_own hA.R_row)).trans hA.blk
    have C2 := fun i => blk_cell hS i
    have F2 := fun i => blk_frozen hS i
    have L2 := blk_lt hS
    clear hS hA ht ht2 hloc hg hrow
    go_wp2
    go_ret
    refine ⟨by first | rfl | (simp; done), ?_⟩
    first
      | exact ⟨_, _, HT.out.1, HT.out.2⟩
      | exact ⟨⟨_, _, HT.out.1⟩, HT.out.2⟩
end
end Go.Proofs.Ytpdelhipfleniaa.RfG
