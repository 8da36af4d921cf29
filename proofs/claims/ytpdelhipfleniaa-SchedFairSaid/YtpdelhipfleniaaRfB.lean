/- Proved: what out, Wake, Sleep, Remove of the document's answer for the scheduler do (contracts for the laws of the scheduler). -/
import Derived.Test.YtpdelhipfleniaaRfA
namespace Go.Proofs.Ytpdelhipfleniaa.RfB
open Go.RowKit Go.Maps Go.Proofs.Ytpdelhipfleniaa.Base Go.Proofs.Ytpdelhipfleniaa.SchA Go.Proofs.Ytpdelhipfleniaa.PlB Go.Proofs.Ytpdelhipfleniaa.PlC Go.Proofs.Ytpdelhipfleniaa.PlD Go.Proofs.Ytpdelhipfleniaa.PlE Go.Proofs.Ytpdelhipfleniaa.PlF Go.Proofs.Ytpdelhipfleniaa.PlG Go.Proofs.Ytpdelhipfleniaa.PlH Go.Proofs.Ytpdelhipfleniaa.PlI Go.Proofs.Ytpdelhipfleniaa.PlJ Go.Proofs.Ytpdelhipfleniaa.PlK Go.Proofs.Ytpdelhipfleniaa.PlL Go.Proofs.Ytpdelhipfleniaa.RfA
set_option linter.unusedVariables false

theorem row_low {W : World} {b e size n : Nat} {v : Value} {xs : List Value} (h : W.ownsRow b e size v n xs) : W.ownsRow 0 e size v n xs := ⟨h.1, h.2.imp id fun ⟨g, cap, cur, h1, _, h2⟩ => ⟨g, cap, cur, h1, Nat.zero_le _, h2⟩⟩
section
variable {X : Nat → Prop} {w w' W' : World} {R L : Nat} {cs : Array Value} {p : Nat → Bool} {e : Nat → V} {qv qv' : Value} {q q' : List Int} {t : Int}
theorem _root_.Go.Proofs.Ytpdelhipfleniaa.RfA.Ref.lt (h : Ref X w R L cs p e qv q t) : R < w.heap.size := blk_lt h.blk
theorem _root_.Go.Proofs.Ytpdelhipfleniaa.RfA.Ref.R_ne (h : Ref X w R L cs p e qv q t) : R ≠ L := by
  rintro rfl
  have := h.lst
  rw [h.blk] at this
  injection this with h1
  injection h1 with _ h2
  exact absurd h2 (by decide)
theorem _root_.Go.Proofs.Ytpdelhipfleniaa.RfA.Ref.R_row (h : Ref X w R L cs p e qv q t) : qv.ownBlock = none ∨ qv.ownBlock ≠ some R := row_ne h.row h.blk (by decide)
theorem _root_.Go.Proofs.Ytpdelhipfleniaa.RfA.Ref.L_row (h : Ref X w R L cs p e qv q t) : qv.ownBlock = none ∨ qv.ownBlock ≠ some L := row_ne h.row h.lst (by decide)
/-- The queue becomes another. -/
theorem _root_.Go.Proofs.Ytpdelhipfleniaa.RfA.Ref.turn (h : Ref X w R L cs p e qv q t) (hb : Old X w) (hg : w.grownBy W' qv.ownBlock) (hr : W'.ownsRow 0 3 1 qv' q'.length (q'.map (Value.int .i64))) (ho : qv'.ownBlock = none ∨ qv'.ownBlock = qv.ownBlock ∨ (∃ n, qv'.ownBlock = some n ∧ w.heap.size ≤ n)) :
    Ref X (W'.setCell ⟨R, 1, none⟩ qv') R L cs p e qv' q' t ∧ Kept X w (W'.setCell ⟨R, 1, none⟩ qv') := by
  have keep : ∀ (g : Nat) (o : Obj), w.heap[g]? = some o → (some g ≠ qv.ownBlock) → W'.heap[g]? = some o := fun g o ho hne => (hg.block g (blk_lt ho) hne).trans ho
  have hR : W'.heap[R]? = some (.cells #[.slice (some ⟨L, 0, none⟩) 16 16, qv, .int .i64 t] 64 (0, 0)) := keep R _ h.blk (ne_of_own h.R_row)
  have hro : qv'.ownBlock = none ∨ qv'.ownBlock ≠ some R := row_ne hr hR (by decide)
  refine ⟨⟨blk_put hR 1 qv' rfl, blk_far (keep L _ h.lst (ne_of_own h.L_row)) (fun e => h.R_ne e.symm) _, h.size, h.slot, hr.kept (grown_set _ _ _) hro, h.bR, h.bL, fun g hg' => ?_⟩, ?_⟩
  · rcases ho with ho | ho | ⟨n, ho, hn⟩
    · rw [ho] at hg'
      cases hg'
    · exact h.bQ g (ho ▸ hg')
    · intro hX
      have := hb g hX
      rw [ho] at hg'
      have := Option.some.inj hg'
      omega
  exact Kept.setCell ⟨hg.os, hg.tape, hg.output, hg.size, fun k hk => hg.block k (hb k hk) (fun e => h.bQ k e.symm hk)⟩ h.bR _
/-- The ticks become others. -/
theorem _root_.Go.Proofs.Ytpdelhipfleniaa.RfA.Ref.ticked (h : Ref X w R L cs p e qv q t) (t' : Int) : Ref X (w.setCell ⟨R, 2, none⟩ (.int .i64 t')) R L cs p e qv q t' ∧ Kept X w (w.setCell ⟨R, 2, none⟩ (.int .i64 t')) := by
  exact ⟨⟨blk_put h.blk 2 _ rfl, blk_far h.lst (fun e => h.R_ne e.symm) _, h.size, h.slot, h.row.kept (grown_set _ _ _) h.R_row, h.bR, h.bL, h.bQ⟩, Kept.setCell (Kept.refl _ _) h.bR _⟩
/-- A cell of an entry becomes another. -/
theorem _root_.Go.Proofs.Ytpdelhipfleniaa.RfA.Ref.entry (h : Ref X w R L cs p e qv q t) (k : Nat) (hk : k < 16) (hp : p k = true) (i : Nat) (hi : i < 6) (u : Value) (v : V) (hv : (vcells (e k)).setIfInBounds i u = vcells v) :
    (∃ cs', Ref X (w.setCell ⟨L, k * 7 + 1 + i, none⟩ u) R L cs' p (fun j => if j = k then v else e j) qv q t) ∧ Kept X w (w.setCell ⟨L, k * 7 + 1 + i, none⟩ u) := by
  refine ⟨⟨cs.setIfInBounds (k * 7 + 1 + i) u, blk_far h.blk h.R_ne _, blk_put h.lst _ u rfl, by simpa using h.size, fun k' hk' j hj => ?_, h.row.kept (grown_set _ _ _) h.L_row, h.bR, h.bL, h.bQ⟩, Kept.setCell (Kept.refl _ _) h.bL _⟩
  rw [Array.getElem?_setIfInBounds]
  by_cases e1 : k' = k
  · subst e1
    simp only [if_pos]
    by_cases e2 : j = 1 + i
    · subst e2
      rw [if_pos (by omega), if_pos (by have := h.size; omega), scells, hp, if_pos rfl, ← hv, Nat.add_comm 1 i, List.getElem?_cons_succ, Array.getElem?_toList, Array.getElem?_setIfInBounds, if_pos rfl, if_pos (by simp [vcells]; omega)]
    · rw [if_neg (by omega), h.slot k' hk' j hj, scells, scells, hp, if_pos rfl, if_pos rfl, ← hv]
      cases j with
      | zero => rfl
      | succ j =>
        rw [List.getElem?_cons_succ, List.getElem?_cons_succ, Array.getElem?_toList, Array.getElem?_toList, Array.getElem?_setIfInBounds, if_neg (by omega)]
  · rw [if_neg (by omega), h.slot k' hk' j hj]
    simp only [if_neg e1]

/-- The queue without a number. -/
def outr (q : List Int) (x : Int) : List Int := q.filter (fun y => y != x)
set_option maxHeartbeats 2000000 in
set_option maxRecDepth 100000 in
theorem rout_calls (h : Ref X w R L cs p e qv q t) (hb : Old X w) (x : Int) (hq : q.length ≤ 1000) :
    Calls Try.prog 39 #[.pointer (some ⟨R, 0, none⟩), .int .i64 x] w fun z w' => z = .returned (.tuple #[]) ∧ ∃ qv', Ref X w' R L cs p e qv' (outr q x) t ∧ Kept X w w' := by
  have C0 := fun i => blk_cell h.blk i
  have F0 := fun i => blk_frozen h.blk i
  have L0 := blk_lt h.blk
  rcases Row.form h.row with ⟨rfl, rfl⟩ | ⟨g, cap, cur, rfl, _, hbk, hcap, hmax, _, _⟩
  · have ht := h.turn (W' := w) (qv' := .slice none 0 0) (q' := []) hb ⟨rfl, rfl, rfl, Nat.le_refl _, fun _ _ _ => rfl⟩ (World.ownsRow_nil _ _ _ _) (.inl rfl)
    go_enter Try.func39, Try.ntmps39
    go_wp2
    go_loop [4, 5] (fun v i => v = .slice none 0 0 ∧ i = .int .i64 0) (fun _ _ => 0)
    case atStart => exact ⟨rfl, rfl⟩
    case round =>
      obtain ⟨rfl, rfl⟩ := hrel
      go_wp2
      refine bodyPost_end (results_none rfl _ _ _) rfl ?_
      refine ⟨by first | rfl | (simp; done), ?_⟩
      first
        | exact ⟨_, ht.1, ht.2⟩
        | exact ⟨⟨_, ht.1⟩, ht.2⟩
  · have lt := blk_lt hbk
    obtain ⟨i0, hi, hz0, hz1, hz2⟩ := info_parts info3
    have hbig : q.length ≤ maxLen := by omega
    unfold maxLen at hbig
    obtain ⟨n, hn⟩ : ∃ n, n = q.length := ⟨_, rfl⟩
    rw [← hn] at h hcap C0
    go_enter Try.func39, Try.ntmps39
    go_wp2
    go_loopw [4, 5] (fun v i wr => ∃ (k : Nat) (ss : List Int) (W2 : World), k ≤ n ∧ i = .int .i64 k ∧ ss = outr (q.take k) x ∧ wr = W2 ∧ W2.ownsRow w.heap.size 3 1 v ss.length (ss.map (Value.int .i64)) ∧ Below w.heap.size w W2) (fun _ i _ => n - (intOf i).toNat)
    case atStart => exact ⟨0, [], w, Nat.zero_le _, rfl, rfl, rfl, World.ownsRow_nil _ _ _ _, Below.refl _ _⟩
    case round =>
      obtain ⟨k, ss, W2, hk, rfl, hss, hwr, hrow, hbel⟩ := hrel
      obtain rfl := hwr.symm
      have h2 := h.below hbel
      have C2 := fun i => blk_cell h2.blk i
      have F2 := fun i => blk_frozen h2.blk i
      have L2 := blk_lt h2.blk
      by_cases hlt : k < n
      · have hcell := Row.cell (by have := h2.row; rw [hn] at this; exact this) k (by omega)
        have hget : q.getD k 0 = q[k] := by rw [List.getD_eq_getElem?_getD, List.getElem?_eq_getElem (by omega)]; rfl
        rw [hget] at hcell
        have lt2 : g < W2.heap.size := Nat.lt_of_lt_of_le lt hbel.size
        have hl : ss.length ≤ 1000 := by
          rw [hss]
          have := List.length_filter_le (fun y => y != x) (q.take k)
          have := List.length_take_le k q
          unfold outr
          omega
        have hstep := take_snoc q k (by omega)
        by_cases hx : q[k] = x
        · have hb2 : (q[k] == x) = true := by simpa using hx
          go_wp2
          refine ⟨⟨k + 1, ss, W2, by omega, by simp, ?_, rfl, hrow, hbel⟩, by simp [intOf]; omega⟩
          rw [hss, hstep, outr, outr, List.filter_append]
          simp [hx]
        · have hb2 : (q[k] == x) = false := beq_eq_false_iff_ne.2 hx
          go_wp2_with (first
            | (at_builtin; refine wpList_append_own_at _ rfl _ _ 29 rfl w.heap.size 3 i0 (.int .i64 0) 1 8 Try.underlying29 hi hz0 hz1 hz2 rfl (by decide) _ ss.length _ rfl (hrow.alloc _) ⟨W2.heap.size, 0, none⟩ 1 1 [.int .i64 q[k]] rfl rfl (cell_one_new _ _ _) (ints_oneCell .i64 [q[k]]) (by unfold maxLen; omega) (by omega) (by have := hbel.size; simp; omega) ?_; intro v' w3 hown' hg3 hnil3 hloc3; go_frame)
            | go_in)
          refine ⟨⟨k + 1, ss ++ [q[k]], w3, by omega, by simp, ?_, rfl, by simpa using hown', ?_⟩, by simp [intOf]; omega⟩
          · rw [hss, hstep, outr, outr, List.filter_append]
            simp [hx]
          · exact (hbel.alloc hbel.size _).grown hg3 (by have := hbel.size; simp; omega) (fun j hj => (hrow.lt j hj).1)
      · have hall : outr q x = ss := by rw [hss, List.take_of_length_le (by omega)]
        have ht := fun v => h.turn (W' := W2) (qv' := v) (q' := ss) hb ⟨hbel.os, hbel.tape, hbel.output, hbel.size, fun k hk _ => hbel.block k hk⟩
        have hr0 := row_low hrow
        have HALL := Aside.mk hall
        clear hall hss
        obtain ⟨_, ⟨rfl, h0⟩ | ⟨g', cap', cur', rfl, hbase, hb', _⟩⟩ := hrow
        · have ht2 := ht _ hr0 (.inl rfl)
          clear ht
          go_wp2
          refine bodyPost_end (results_none rfl _ _ _) rfl ?_
          rw [HALL.out]
          refine ⟨by first | rfl | (simp; done), ?_⟩
          first
            | exact ⟨_, ht2.1, ht2.2⟩
            | exact ⟨⟨_, ht2.1⟩, ht2.2⟩
        · have ht2 := ht _ hr0 (.inr (.inr ⟨g', rfl, hbase⟩))
          clear ht
          obtain ⟨m, hm⟩ : ∃ m : Nat, Go.Proofs.Ytpdelhipfleniaa.Base.Aside (m = ss.length) := ⟨ss.length, Aside.mk (Eq.refl _)⟩
          rw [← hm.out] at ht2 ⊢
          go_wp2
          refine bodyPost_end (results_none rfl _ _ _) rfl ?_
          rw [HALL.out]
          refine ⟨by first | rfl | (simp; done), ?_⟩
          first
            | exact ⟨_, ht2.1, ht2.2⟩
            | exact ⟨⟨_, ht2.1⟩, ht2.2⟩
end
end Go.Proofs.Ytpdelhipfleniaa.RfB
