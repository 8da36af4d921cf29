/- Proved: none over runs while one under waits, and the queue has each ready entry once (the walk of the law SchedFair). -/
import Derived.Test.YtpdelhipfleniaaAbI
namespace Go.Proofs.Ytpdelhipfleniaa.AbJ
open Go.RowKit Go.Maps Go.Proofs.Ytpdelhipfleniaa.Base Go.Proofs.Ytpdelhipfleniaa.SchA Go.Proofs.Ytpdelhipfleniaa.PlB Go.Proofs.Ytpdelhipfleniaa.PlC Go.Proofs.Ytpdelhipfleniaa.PlD Go.Proofs.Ytpdelhipfleniaa.PlE Go.Proofs.Ytpdelhipfleniaa.PlF Go.Proofs.Ytpdelhipfleniaa.PlG Go.Proofs.Ytpdelhipfleniaa.PlH Go.Proofs.Ytpdelhipfleniaa.PlI Go.Proofs.Ytpdelhipfleniaa.PlJ Go.Proofs.Ytpdelhipfleniaa.PlK Go.Proofs.Ytpdelhipfleniaa.PlL Go.Proofs.Ytpdelhipfleniaa.RfA Go.Proofs.Ytpdelhipfleniaa.RfB Go.Proofs.Ytpdelhipfleniaa.RfC Go.Proofs.Ytpdelhipfleniaa.RfD Go.Proofs.Ytpdelhipfleniaa.RfE Go.Proofs.Ytpdelhipfleniaa.RfF Go.Proofs.Ytpdelhipfleniaa.RfG Go.Proofs.Ytpdelhipfleniaa.RfH Go.Proofs.Ytpdelhipfleniaa.AbA Go.Proofs.Ytpdelhipfleniaa.AbB Go.Proofs.Ytpdelhipfleniaa.AbC Go.Proofs.Ytpdelhipfleniaa.AbD Go.Proofs.Ytpdelhipfleniaa.AbE Go.Proofs.Ytpdelhipfleniaa.AbF Go.Proofs.Ytpdelhipfleniaa.AbG Go.Proofs.Ytpdelhipfleniaa.AbH Go.Proofs.Ytpdelhipfleniaa.AbI
set_option linter.unusedVariables false

theorem make_ints (w : World) : (Instr.makeSlice 29 (.int .i64 16) (.int .i64 16)).run Try.prog w = .ok (.slice (some ⟨w.heap.size, 0, none⟩) 16 16) (w.alloc (.cells (madeCells #[.int .i64 0] 16) 3)) := by
  obtain ⟨i0, hi, hz0, hz1, hz2⟩ := info_parts info3
  have := run_make (P := Try.prog) w 29 3 i0 _ Try.underlying29 hi hz0 .i64 .i64 16 16 (by omega) (by omega) (by rw [hz2]; decide) (by omega)
  rw [hz1] at this
  exact this
/-- Vcpu, told by the number itself. -/
theorem vcpu_of (σ : St) (hi : Inv σ) (k : Nat) (hk : k < 16) : ∃ (v : V) (c : Int), Go.Proofs.Ytpdelhipfleniaa.Base.Aside (v = vof σ k ∧ ((c = 0 ∧ isn σ.p k = true) ∨ (c = 6 ∧ isn σ.p k = false))) ∧
    (∀ (B : Nat → Prop) (w : World) (S R : Nat) (τ : St), Pair B w S R σ τ → Calls Try.prog 14 #[.pointer (some ⟨S, 0, none⟩), .int .i64 k] w fun z w' => z = .returned (.tuple #[.agg #[.int .i64 v.dom, .int .i64 v.weight, .int .i64 v.cap, .int .i64 v.credit, .bool v.ready, .int .i64 v.ran], .int .i64 c]) ∧ Below w.heap.size w w') := by
  obtain ⟨v, c, ⟨hv, hc⟩, hs, _⟩ := pVcpu σ hi k (by omega) (by omega)
  refine ⟨v, c, Aside.mk ⟨hv, ?_⟩, hs⟩
  rw [hc]
  cases isn σ.p k with
  | true => exact .inl ⟨rfl, rfl⟩
  | false => exact .inr ⟨rfl, rfl⟩
/-- The credits that were written down. -/
def Cred (w : World) (g : Nat) (σ : St) (k : Nat) : Prop := ∃ cs, w.heap[g]? = some (.cells cs 3 (0, 0)) ∧ cs.size = 16 ∧ ∀ j, j < k → cs[j]? = some (.int .i64 (vof σ j).credit)
theorem Cred.put {w : World} {g k : Nat} {σ : St} (h : Cred w g σ k) (hk : k < 16) {c : Int} (hc : c = (vof σ k).credit) : Cred (w.setCell ⟨g, k, none⟩ (.int .i64 c)) g σ (k + 1) := by
  obtain ⟨cs, h1, h2, h3⟩ := h
  refine ⟨_, blk_put h1 k _ rfl, by simpa using h2, fun j hj => ?_⟩
  rw [Array.getElem?_setIfInBounds]
  by_cases e : k = j
  · subst e
    rw [if_pos rfl, if_pos (by omega), hc]
  · rw [if_neg e]
    exact h3 j (by omega)
theorem Cred.below {w w' : World} {g k : Nat} {σ : St} (h : Cred w g σ k) (hb : Below w.heap.size w w') : Cred w' g σ k := by
  obtain ⟨cs, h1, h2⟩ := h
  exact ⟨cs, blk_below h1 (blk_lt h1) hb, h2⟩

theorem row_below {b : Nat} {w w' : World} {qv : Value} {q : List Int} (h : Row b w qv q) (hb : Below w.heap.size w w') : Row b w' qv q := row_move h (fun g hg => hb.block g (h.lt g hg).2)
set_option maxHeartbeats 16000000 in
set_option maxRecDepth 100000 in
theorem law (a : Option Addr) (n cap : Nat) (f : Nat → Int × Int × Int × Int) (w : World) (hn : n ≤ maxLen) (hs : Script w a n f) :
    Calls Try.prog 7 #[.slice a n cap] w fun z w' => z = .returned (.bool true) ∧ Below w.heap.size w w' := by
  have hb0 : Old (fun k => k < w.heap.size) w := fun k hk => hk
  unfold maxLen at hn
  have HS := Aside.mk hs
  clear hs
  have hmk := make_ints
  go_enter Try.func7, Try.ntmps7
  go_wp2_with (first
    | (go_at_call 8; refine (new_calls w hb0).mono ?_; rintro z w1 ⟨S, M, rfl, h1, hB1⟩; have H1 := Aside.mk (And.intro h1 hB1); clear h1 hB1)
    | (go_at_call 19; refine (rnew_calls w1).mono ?_; rintro z w2 ⟨R, L, cs, rfl, h2, hB2⟩; have H2 := Aside.mk (And.intro (pair_new H1.out.1 H1.out.2 h2 hB2) (below_step H1.out.2 hB2)); clear h2 hB2)
    | go_in)
  go_loopw [5] (fun v wr => ∃ (k : Nat) (W2 : World), k ≤ n ∧ v = .int .i64 k ∧ wr = W2 ∧ Aside (∃ σ, Pair (fun k => k < w.heap.size) W2 S R σ σ ∧ Inv σ ∧ σ.t ≤ k ∧ Below w.heap.size w W2)) (fun v _ => n - (intOf v).toNat)
  case atStart => exact ⟨0, w2, Nat.zero_le _, rfl, rfl, _, H2.out.1, Inv.start, Int.le_refl _, H2.out.2⟩
  case round =>
    obtain ⟨i, W2, hik, rfl, hwr, hE⟩ := hrel
    obtain rfl := hwr.symm
    obtain ⟨σ, hP, hi, ht, hbel⟩ := hE.out
    have hl16 := hi.len
    have HP := Aside.mk (And.intro hP hbel)
    clear hE
    by_cases hlt : i < n
    · have hqu : Calls Try.prog 12 #[.pointer (some ⟨S, 0, none⟩)] W2 fun z w' => ∃ qv2, z = .returned qv2 ∧ Row W2.heap.size w' qv2 σ.q ∧ Below W2.heap.size W2 w' := by
        obtain ⟨_, F1, F2, h1, h2⟩ := hP
        exact sQueue h1 hi
      clear hP hbel
      go_wp2_with (first
        | (go_at_call 12; refine hqu.mono ?_; rintro z w3 ⟨qv2, rfl, hrow, hB3⟩; obtain ⟨qa, qcap, rfl, hfo⟩ := row_form2 hrow; have HQ := Aside.mk (And.intro hrow hB3); clear hrow hB3 hfo)
        | go_in)
      go_loopw [7, 9] (fun u v wr => ∃ (k : Nat) (W4 : World), k ≤ 16 ∧ v = .int .i64 k ∧ u = .bool (uf σ k) ∧ wr = W4 ∧ Aside (Cred W4 w3.heap.size σ k ∧ Below w3.heap.size w3 W4)) (fun _ v _ => 16 - (intOf v).toNat)
      case atStart => exact ⟨0, _, Nat.zero_le _, rfl, rfl, rfl, ⟨_, blk_new _ _, by rw [size_madeCells], fun j hj => absurd hj (Nat.not_lt_zero _)⟩, below_alloc (Below.refl _ _) _⟩
      case round =>
        obtain ⟨k, W4, hk, rfl, rfl, hwr, hE⟩ := hrel
        obtain rfl := hwr.symm
        have HB4 := Aside.mk (below_step HQ.out.2 (hE.out.2))
        by_cases hlt2 : k < 16
        · obtain ⟨v, c, hvc, hvcpu⟩ := vcpu_of σ hi k hlt2
          have hvc2 := hvcpu _ _ _ _ _ (HP.out.1.kept HB4.out)
          go_wp2_with (first
            | (go_at_call 14; refine hvc2.mono ?_; rintro z w5 ⟨rfl, hB5⟩; have HC := Aside.mk (And.intro (hE.out.1.below hB5) (hE.out.2.trans (hB5.mono hE.out.2.size))); clear hB5)
            | go_in)
          obtain ⟨W6, hW6⟩ : ∃ W6, W6 = w5.alloc (.cells #[.int .i64 v.dom, .int .i64 v.weight, .int .i64 v.cap, .int .i64 v.credit, .bool v.ready, .int .i64 v.ran] 36) := ⟨_, rfl⟩
          rw [← hW6]
          have hN := blk_new w5 (.cells #[.int .i64 v.dom, .int .i64 v.weight, .int .i64 v.cap, .int .i64 v.credit, .bool v.ready, .int .i64 v.ran] 36)
          rw [← hW6] at hN
          have CN := fun i => blk_cell hN i
          have FN := fun i => blk_frozen hN i
          have LN := blk_lt hN
          have hne35 : w5.heap.size ≠ w3.heap.size := by
            obtain ⟨_, hh, _⟩ := HC.out.1
            have := blk_lt hh
            omega
          have hN2 := blk_far hN (p := ⟨w3.heap.size, k, none⟩) hne35 (.int .i64 v.credit)
          have CN2 := fun i => blk_cell hN2 i
          have h6 : Cred W6 w3.heap.size σ k ∧ Below w3.heap.size w3 W6 := by rw [hW6]; exact ⟨HC.out.1.below (Below.alloc (Below.refl _ _) (Nat.le_refl _) _), HC.out.2.alloc HC.out.2.size _⟩
          obtain ⟨ccs, hcb, hcs, _⟩ := id h6.1
          have CC : W6.cell? ⟨w3.heap.size, k, none⟩ = some (ccs[k]'(by omega)) := (blk_cell hcb k).trans (Array.getElem?_eq_getElem (by omega))
          have FC := fun i => blk_frozen hcb i
          have LC := blk_lt hcb
          obtain ⟨qa', qcap', hqe, hqc⟩ := ref_row (row_low (row_below HQ.out.1 h6.2))
          obtain ⟨rfl, _, rfl⟩ : qa = qa' ∧ σ.q.length = σ.q.length ∧ qcap = qcap' := by injection hqe with e1 e2 e3; exact ⟨e1, e2, e3⟩
          have H6 := Aside.mk h6
          clear h6 hcb hqe hW6 hE hN2
          go_loopw [12, 13] (fun s v wr => ∃ m : Nat, m ≤ σ.q.length ∧ v = .int .i64 m ∧ s = .int .i64 ((σ.q.take m).count (k : Int)) ∧ wr = W6) (fun _ v _ => σ.q.length - (intOf v).toNat)
          case atStart => exact ⟨0, Nat.zero_le _, rfl, rfl, rfl⟩
          case round =>
            obtain ⟨m, hm, rfl, rfl, hwr⟩ := hrel
            obtain rfl := hwr.symm
            by_cases hlt3 : m < σ.q.length
            · obtain ⟨g, rfl, lt, hcell⟩ := hqc m hlt3
              have hget : σ.q.getD m 0 = σ.q[m] := by rw [List.getD_eq_getElem?_getD, List.getElem?_eq_getElem hlt3]; rfl
              rw [hget] at hcell
              have hcl : (σ.q.take m).count (k : Int) ≤ 16 := Nat.le_trans List.count_le_length (by rw [List.length_take]; omega)
              have hst : (σ.q.take (m + 1)).count (k : Int) = (σ.q.take m).count (k : Int) + (if σ.q[m] = (k : Int) then 1 else 0) := by
                rw [take_snoc σ.q m hlt3, List.count_append, List.count_singleton]
                by_cases e : σ.q[m] = (k : Int)
                · rw [if_pos e, if_pos (by simpa using e)]
                · rw [if_neg e, if_neg (by simpa using e)]
              by_cases hx : σ.q[m] = (k : Int)
              · have hb : (σ.q[m] == (k : Int)) = true := by simpa using hx
                rw [if_pos hx] at hst
                have HST := Aside.mk hst
                clear hst hx
                go_wp2
                exact ⟨⟨m + 1, by omega, by simp, by rw [HST.out]; simp, trivial⟩, by simp [intOf]; omega⟩
              · have hb : (σ.q[m] == (k : Int)) = false := beq_eq_false_iff_ne.2 hx
                rw [if_neg hx] at hst
                have HST := Aside.mk hst
                clear hst hx
                go_wp2
                exact ⟨⟨m + 1, by omega, by simp, by rw [HST.out]; simp, trivial⟩, by simp [intOf]; omega⟩
            · obtain rfl : m = σ.q.length := by omega
              rw [List.take_length]
              have hcnt := count_is hi k
              rw [← hvc.out.1] at hcnt
              clear hqc hlt3 hm
              rcases hvc.out.2 with ⟨hc0, hpr⟩ | ⟨hc6, hab⟩
              · subst hc0
                cases hr : v.ready with
                | true =>
                  rw [hr, if_pos rfl] at hcnt
                  rw [hcnt]
                  cases hu : uf σ k with
                  | true =>
                    go_wp2
                    refine ⟨⟨k + 1, _, by omega, by simp, by rw [uf_succ, ← hvc.out.1, hu, Bool.true_or], rfl, H6.out.1.put hlt2 (by rw [hvc.out.1]), H6.out.2.setCell (p := ⟨w3.heap.size, k, none⟩) (Nat.le_refl _) _⟩, by simp [intOf]; omega⟩
                  | false =>
                    by_cases hd : 0 < v.credit
                    · have b1 : decide (0 < v.credit) = true := decide_eq_true hd
                      go_wp2
                      refine ⟨⟨k + 1, _, by omega, by simp, by rw [uf_succ, ← hvc.out.1, hu, hr, b1]; rfl, rfl, H6.out.1.put hlt2 (by rw [hvc.out.1]), H6.out.2.setCell (p := ⟨w3.heap.size, k, none⟩) (Nat.le_refl _) _⟩, by simp [intOf]; omega⟩
                    · have b1 : decide (0 < v.credit) = false := decide_eq_false hd
                      go_wp2
                      refine ⟨⟨k + 1, _, by omega, by simp, by rw [uf_succ, ← hvc.out.1, hu, hr, b1]; rfl, rfl, H6.out.1.put hlt2 (by rw [hvc.out.1]), H6.out.2.setCell (p := ⟨w3.heap.size, k, none⟩) (Nat.le_refl _) _⟩, by simp [intOf]; omega⟩
                | false =>
                  rw [hr, if_neg (by simp)] at hcnt
                  rw [hcnt]
                  cases hu : uf σ k with
                  | true =>
                    go_wp2
                    refine ⟨⟨k + 1, _, by omega, by simp, by rw [uf_succ, ← hvc.out.1, hu, Bool.true_or], rfl, H6.out.1.put hlt2 (by rw [hvc.out.1]), H6.out.2.setCell (p := ⟨w3.heap.size, k, none⟩) (Nat.le_refl _) _⟩, by simp [intOf]; omega⟩
                  | false =>
                    go_wp2
                    refine ⟨⟨k + 1, _, by omega, by simp, by rw [uf_succ, ← hvc.out.1, hu, hr]; rfl, rfl, H6.out.1.put hlt2 (by rw [hvc.out.1]), H6.out.2.setCell (p := ⟨w3.heap.size, k, none⟩) (Nat.le_refl _) _⟩, by simp [intOf]; omega⟩
              · subst hc6
                have hr : v.ready = false := by rw [hvc.out.1]; exact vof_absent hab
                rw [hr, if_neg (by simp)] at hcnt
                rw [hcnt]
                cases hu : uf σ k with
                | true =>
                  go_wp2
                  refine ⟨⟨k + 1, _, by omega, by simp, by rw [uf_succ, ← hvc.out.1, hu, Bool.true_or], rfl, H6.out.1.put hlt2 (by rw [hvc.out.1]), H6.out.2.setCell (p := ⟨w3.heap.size, k, none⟩) (Nat.le_refl _) _⟩, by simp [intOf]; omega⟩
                | false =>
                  go_wp2
                  refine ⟨⟨k + 1, _, by omega, by simp, by rw [uf_succ, ← hvc.out.1, hu, hr]; rfl, rfl, H6.out.1.put hlt2 (by rw [hvc.out.1]), H6.out.2.setCell (p := ⟨w3.heap.size, k, none⟩) (Nat.le_refl _) _⟩, by simp [intOf]; omega⟩
        · obtain rfl : k = 16 := by omega
          obtain ⟨⟨x, rfl, c0, c1, c2, c3⟩, n1, n2⟩ := HS.out i hlt
          have hbw := below_step HP.out.2 HB4.out
          have D0 := cell_below hbw c0
          have D1 : W4.cell? ⟨(x.add (i * 4)).block, (x.add (i * 4)).off + 1, none⟩ = some (.int .i64 (f i).2.1) := by
            have h := cell_below hbw c1
            rw [← add_add'] at h
            exact h
          have D2 : W4.cell? ⟨(x.add (i * 4)).block, (x.add (i * 4)).off + 2, none⟩ = some (.int .i64 (f i).2.2.1) := by
            have h := cell_below hbw c2
            rw [← add_add'] at h
            exact h
          have D3 : W4.cell? ⟨(x.add (i * 4)).block, (x.add (i * 4)).off + 3, none⟩ = some (.int .i64 (f i).2.2.2) := by
            have h := cell_below hbw c3
            rw [← add_add'] at h
            exact h
          have HBW := Aside.mk hbw
          clear hbw c0 c1 c2 c3
          by_cases ho : (f i).1 = 0
          · rw [ho] at D0
            clear D1 D2 D3
            have hB' : Pair (fun k => k < w.heap.size ∨ (W2.heap.size ≤ k ∧ k < W4.heap.size)) W4 S R σ σ := HP.out.1.more HB4.out (fun k hk => hk.imp id (fun h => h.1)) (fun k hk => hk.elim (fun h => Nat.lt_of_lt_of_le h HBW.out.size) (fun h => h.2))
            have hts := pTickS hB' hi (by omega)
            have hrow4 := row_below HQ.out.1 hE.out.2
            obtain ⟨ccs, hcb, hcs, hcv⟩ := id hE.out.1
            have hC2 : w3.heap.size < W4.heap.size := blk_lt hcb
            have hC1 : W2.heap.size ≤ w3.heap.size := HQ.out.2.size
            have HE := Aside.mk (And.intro hrow4 hcb)
            clear hrow4 hcb hE hB'
            cases hnx : nextOf σ.q σ.e with
            | none =>
              have hR := tickR_none hnx
              have hq0 : σ.q.length = 0 := by rw [nextOf_none hnx]; rfl
              rw [hR] at hts
              go_wp2_with (first
                | (go_at_call 11; refine hts.mono ?_; rintro z w5 ⟨rfl, h5, hB5⟩; have htr := pTickR h5 hi (by omega); have H5 := Aside.mk hB5; clear h5 hB5)
                | (go_at_call 22; refine htr.mono ?_; rintro z w6 ⟨rfl, h6, hB6⟩; have H6 := Aside.mk (And.intro (h6.less (B' := fun k => k < w.heap.size) (fun _ h => Or.inl h)) (Kept.less (H5.out.trans hB6) (B' := fun k => k < w.heap.size) (fun _ h => Or.inl h))); clear h6 hB6)
                | go_in)
              refine ⟨⟨i + 1, w6, by omega, by simp, rfl, tickS σ, H6.out.1, Inv.tick hi, by rw [tick_t]; omega, HBW.out.trans (Kept.below H6.out.2)⟩, by simp [intOf]; omega⟩
            | some y =>
              obtain ⟨m, rfl, h16, hpm⟩ := hi.qin y (nextOf_mem hnx)
              have hR := tickR_some hnx
              have hmem := nextOf_mem hnx
              have hq0 : 0 < σ.q.length := List.length_pos_of_mem hmem
              rw [hR] at hts
              have d1 : decide ((16 : Int) ≤ (m : Int)) = false := decide_eq_false (by omega)
              cases hu : uf σ 16 with
              | true =>
                have hcr := under_runs hi hu m hnx
                have d2 : decide ((vof σ m).credit ≤ 0) = false := decide_eq_false (by omega)
                go_wp2_with (first
                  | (go_at_call 11; refine hts.mono ?_; rintro z w5 ⟨rfl, h5, hB5⟩; have htr := pTickR h5 hi (by omega); rw [hR] at htr; have H5 := Aside.mk hB5; clear h5 hB5)
                  | (go_at_call 22; refine htr.mono ?_; rintro z w6 ⟨rfl, h6, hB6⟩; have hK6 := H5.out.trans hB6; have hcb6 := (hK6.block _ (Or.inr ⟨hC1, hC2⟩)).trans HE.out.2; have hcm := (blk_cell hcb6 m).trans (hcv m h16); have hL6 := blk_lt hcb6; have hrow6 := row_move HE.out.1 (fun g hg => hK6.block g (Or.inr (HE.out.1.lt g hg))); have H6 := Aside.mk (And.intro (h6.less (B' := fun k => k < w.heap.size) (fun _ h => Or.inl h)) (Kept.less hK6 (B' := fun k => k < w.heap.size) (fun _ h => Or.inl h))); clear h6 hB6 hK6)
                  | (go_at_call 23; refine (has_calls hrow6 (Nat.le_trans hl16 (of_decide_eq_true rfl)) m hmem).mono ?_; rintro z w7 ⟨rfl, hw7⟩; obtain rfl := hw7.symm)
                  | go_in)
                refine ⟨⟨i + 1, w6, by omega, by simp, rfl, tickS σ, H6.out.1, Inv.tick hi, by rw [tick_t]; omega, HBW.out.trans (Kept.below H6.out.2)⟩, by simp [intOf]; omega⟩
              | false =>
                go_wp2_with (first
                  | (go_at_call 11; refine hts.mono ?_; rintro z w5 ⟨rfl, h5, hB5⟩; have htr := pTickR h5 hi (by omega); rw [hR] at htr; have H5 := Aside.mk hB5; clear h5 hB5)
                  | (go_at_call 22; refine htr.mono ?_; rintro z w6 ⟨rfl, h6, hB6⟩; have hK6 := H5.out.trans hB6; have hcb6 := (hK6.block _ (Or.inr ⟨hC1, hC2⟩)).trans HE.out.2; have hcm := (blk_cell hcb6 m).trans (hcv m h16); have hL6 := blk_lt hcb6; have hrow6 := row_move HE.out.1 (fun g hg => hK6.block g (Or.inr (HE.out.1.lt g hg))); have H6 := Aside.mk (And.intro (h6.less (B' := fun k => k < w.heap.size) (fun _ h => Or.inl h)) (Kept.less hK6 (B' := fun k => k < w.heap.size) (fun _ h => Or.inl h))); clear h6 hB6 hK6)
                  | (go_at_call 23; refine (has_calls hrow6 (Nat.le_trans hl16 (of_decide_eq_true rfl)) m hmem).mono ?_; rintro z w7 ⟨rfl, hw7⟩; obtain rfl := hw7.symm)
                  | go_in)
                refine ⟨⟨i + 1, w6, by omega, by simp, rfl, tickS σ, H6.out.1, Inv.tick hi, by rw [tick_t]; omega, HBW.out.trans (Kept.below H6.out.2)⟩, by simp [intOf]; omega⟩
          · have hb : ((f i).1 == 0) = false := beq_eq_false_iff_ne.2 ho
            have hpl := play_calls (HP.out.1.kept HB4.out) hi (by omega) (f i).1 (f i).2.1 (f i).2.2.1 (f i).2.2.2 n1 n2
            clear hE ho
            go_wp2_with (first
              | (go_at_call 20; refine hpl.mono ?_; rintro z w5 ⟨rfl, σ3, h3, hi3, ht3, hB3⟩; have H3 := Aside.mk (And.intro h3 (And.intro hi3 (And.intro ht3 (HBW.out.trans (Kept.below hB3))))); clear h3 hB3)
              | go_in)
            refine ⟨⟨i + 1, w5, by omega, by simp, rfl, σ3, H3.out.1, H3.out.2.1, by have := H3.out.2.2.1; omega, H3.out.2.2.2⟩, by simp [intOf]; omega⟩
    · clear hP hbel
      go_wp2_with (first
        | (go_at_call 13; refine (awake_calls W2).mono ?_; rintro z w4 ⟨rfl, hB4⟩; have H4 := Aside.mk hB4; clear hB4)
        | go_in)
      go_ret
      exact ⟨by first | rfl | (simp; done), below_step HP.out.2 H4.out⟩
end Go.Proofs.Ytpdelhipfleniaa.AbJ
