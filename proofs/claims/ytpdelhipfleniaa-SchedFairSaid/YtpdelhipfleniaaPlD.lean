/- Proved: what the queue's out and last do in memory (contracts for the laws of the scheduler). -/
import Derived.Test.YtpdelhipfleniaaPlC
namespace Go.Proofs.Ytpdelhipfleniaa.PlD
open Go.RowKit Go.Maps Go.Proofs.Ytpdelhipfleniaa.Base Go.Proofs.Ytpdelhipfleniaa.SchA Go.Proofs.Ytpdelhipfleniaa.PlB Go.Proofs.Ytpdelhipfleniaa.PlC
set_option linter.unusedVariables false

theorem grown_set (w : World) (p : Addr) (u : Value) : w.grownBy (w.setCell p u) (some p.block) :=
  ⟨rfl, rfl, rfl, Nat.le_of_eq (size_set w p u).symm, fun k _ hk => Below.heap_setCell w p u k (fun e => hk (congrArg some e))⟩
theorem row_ne {W : World} {g n e size : Nat} {t : TypeId} {v : Value} {xs : List Value} {cs : Array Value} (hr : W.ownsRow 0 e size v n xs) (hg : W.heap[g]? = some (.cells cs t (0, 0))) (ht : t ≠ e) : v.ownBlock = none ∨ v.ownBlock ≠ some g := by
  obtain ⟨_, ⟨rfl, _⟩ | ⟨g', cap, cur, rfl, _, hg', _⟩⟩ := hr
  · exact .inl rfl
  · refine .inr fun e => ?_
    have : g' = g := Option.some.inj e
    subst this
    rw [hg] at hg'
    injection hg' with h1
    injection h1 with _ h2
    exact ht h2
section
variable {X : Nat → Prop} {w W' : World} {S M : Nat} {s : Nat → Option Nat} {e : Nat → V} {c : Nat} {qv qv' : Value} {q q' : List Int} {t : Int}
theorem _root_.Go.Proofs.Ytpdelhipfleniaa.PlB.Sch.lt (h : Sch X w S M s e c qv q t) : S < w.heap.size := blk_lt h.blk
theorem _root_.Go.Proofs.Ytpdelhipfleniaa.PlB.Sch.S_ne (h : Sch X w S M s e c qv q t) {k g : Nat} (hk : s k = some g) : S ≠ g := by
  rintro rfl
  have := h.ent k S hk
  rw [h.blk] at this
  injection this with h1
  injection h1 with _ h2
  exact absurd h2 (by decide)
theorem _root_.Go.Proofs.Ytpdelhipfleniaa.PlB.Sch.S_row (h : Sch X w S M s e c qv q t) : qv.ownBlock = none ∨ qv.ownBlock ≠ some S := row_ne h.row h.blk (by decide)
theorem _root_.Go.Proofs.Ytpdelhipfleniaa.PlB.Sch.E_row (h : Sch X w S M s e c qv q t) {k g : Nat} (hk : s k = some g) : qv.ownBlock = none ∨ qv.ownBlock ≠ some g := row_ne h.row (h.ent k g hk) (by decide)
theorem ne_of_own {o : Option Nat} {k : Nat} (h : o = none ∨ o ≠ some k) : some k ≠ o := fun e => by
  rcases h with h | h
  · rw [h] at e
    cases e
  · exact h e.symm
/-- The queue becomes another. -/
theorem _root_.Go.Proofs.Ytpdelhipfleniaa.PlB.Sch.turn (h : Sch X w S M s e c qv q t) (hb : Old X w) (hg : w.grownBy W' qv.ownBlock) (hr : W'.ownsRow 0 3 1 qv' q'.length (q'.map (Value.int .i64))) (ho : qv'.ownBlock = qv.ownBlock ∨ (∃ n, qv'.ownBlock = some n ∧ w.heap.size ≤ n)) :
    Sch X (W'.setCell ⟨S, 1, none⟩ qv') S M s e c qv' q' t ∧ Kept X w (W'.setCell ⟨S, 1, none⟩ qv') := by
  have keep : ∀ (g : Nat) (o : Obj), w.heap[g]? = some o → (some g ≠ qv.ownBlock) → W'.heap[g]? = some o := fun g o ho hne => (hg.block g (blk_lt ho) hne).trans ho
  have hS : W'.heap[S]? = some (.cells #[.map (some M), qv, .int .i64 t] 44 (0, 0)) := keep S _ h.blk (ne_of_own h.S_row)
  have hM : W'.heap[M]? = w.heap[M]? := hg.block M h.map.lt (ne_of_own (own_ne_map h.row h.map))
  have hSM : S ≠ M := h.map.ne_cells h.blk
  have hro : qv'.ownBlock = none ∨ qv'.ownBlock ≠ some S := row_ne hr hS (by decide)
  refine ⟨⟨blk_put hS 1 qv' rfl, h.map.block ((Below.heap_setCell _ _ _ M (fun e => hSM e.symm)).trans hM), fun k g hk => blk_far (keep g _ (h.ent k g hk) (ne_of_own (h.E_row hk))) (fun e => h.S_ne hk e.symm) _, h.inj, hr.kept (grown_set _ _ _) hro, h.bS, h.bM, h.bE, fun g hg' => ?_⟩, ?_⟩
  · rcases ho with ho | ⟨n, ho, hn⟩
    · exact h.bQ g (ho ▸ hg')
    · intro hX
      have := hb g hX
      rw [ho] at hg'
      have := Option.some.inj hg'
      omega
  exact Kept.setCell ⟨hg.os, hg.tape, hg.output, hg.size, fun k hk => hg.block k (hb k hk) (fun e => h.bQ k e.symm hk)⟩ h.bS _
/-- A cell of an entry becomes another. -/
theorem _root_.Go.Proofs.Ytpdelhipfleniaa.PlB.Sch.entry (h : Sch X w S M s e c qv q t) {k g : Nat} (hk : s k = some g) (i : Nat) (u : Value) (v : V) (hv : (vcells (e k)).setIfInBounds i u = vcells v) :
    Sch X (w.setCell ⟨g, i, none⟩ u) S M s (fun j => if j = k then v else e j) c qv q t ∧ Kept X w (w.setCell ⟨g, i, none⟩ u) := by
  have hgM : g ≠ M := h.map.ne_cells (h.ent k g hk)
  refine ⟨⟨blk_far h.blk (h.S_ne hk) _, h.map.block (Below.heap_setCell _ _ _ M (fun e => hgM e.symm)), fun j g' hj => ?_, h.inj, h.row.kept (grown_set _ _ _) (h.E_row hk), h.bS, h.bM, h.bE, h.bQ⟩, Kept.setCell (Kept.refl _ _) (h.bE k g hk) _⟩
  show _ = some (Obj.cells (vcells (if j = k then v else e j)) _ (0, 0))
  by_cases e1 : j = k
  · subst e1
    rw [if_pos rfl]
    have : g = g' := Option.some.inj (hk.symm.trans hj)
    subst this
    exact blk_put (h.ent j g hj) i u hv
  · rw [if_neg e1]
    exact blk_far (h.ent j g' hj) (fun e2 => e1 (by
      have e3 : g' = g := e2
      subst e3
      exact h.inj j k g' hj hk)) _
/-- The ticks become others. -/
theorem _root_.Go.Proofs.Ytpdelhipfleniaa.PlB.Sch.ticked (h : Sch X w S M s e c qv q t) (t' : Int) : Sch X (w.setCell ⟨S, 2, none⟩ (.int .i64 t')) S M s e c qv q t' ∧ Kept X w (w.setCell ⟨S, 2, none⟩ (.int .i64 t')) := by
  have hSM : S ≠ M := h.map.ne_cells h.blk
  exact ⟨⟨blk_put h.blk 2 _ rfl, h.map.block (Below.heap_setCell _ _ _ M (fun e => hSM e.symm)), fun j g hj => blk_far (h.ent j g hj) (fun e => h.S_ne hj e.symm) _, h.inj, h.row.kept (grown_set _ _ _) h.S_row, h.bS, h.bM, h.bE, h.bQ⟩, Kept.setCell (Kept.refl _ _) h.bS _⟩
end

/-- A number is not in the queue any more. -/
def outq (q : List Int) (x : Int) : List Int := q.erase x
theorem outq_miss : ∀ (q : List Int) (x : Int), x ∉ q → Lib.idxOf q x = -1 ∧ outq q x = q := fun q x hx => ⟨by
  have := Lib.idxOf_miss q q.length x (fun j hj e => hx (by
    rw [← e, List.getD_eq_getElem?_getD, List.getElem?_eq_getElem hj]
    exact List.getElem_mem hj))
  rwa [List.take_of_length_le (Nat.le_refl _)] at this, List.erase_of_not_mem hx⟩
theorem idxFrom_erase (x : Int) : ∀ (q : List Int) (i : Nat), x ∈ q → ∃ k, k < q.length ∧ Lib.idxFrom q x i = ((i + k : Nat) : Int) ∧ q.erase x = q.take k ++ q.drop (k + 1)
  | [], _, h => by simp at h
  | z :: q, i, h => by
    by_cases e : z = x
    · subst e
      exact ⟨0, by simp, by simp [Lib.idxFrom], by simp⟩
    · have hx : x ∈ q := by
        rcases List.mem_cons.1 h with h | h
        · exact absurd h.symm e
        · exact h
      obtain ⟨k, h1, h2, h3⟩ := idxFrom_erase x q (i + 1) hx
      refine ⟨k + 1, by simp; omega, by rw [Lib.idxFrom, if_neg e, h2]; congr 1; omega, ?_⟩
      rw [List.erase_cons_tail (by simpa using e), h3]
      simp
theorem outq_hit (q : List Int) (x : Int) (h : x ∈ q) : ∃ k, k < q.length ∧ Lib.idxOf q x = (k : Int) ∧ outq q x = q.take k ++ q.drop (k + 1) := by
  obtain ⟨k, h1, h2, h3⟩ := idxFrom_erase x q 0 h
  exact ⟨k, h1, by rw [Lib.idxOf, h2, Nat.zero_add], h3⟩

theorem _root_.Go.Proofs.Ytpdelhipfleniaa.PlB.Sch.len {X : Nat → Prop} {w : World} {S M : Nat} {s : Nat → Option Nat} {e : Nat → V} {c : Nat} {qv : Value} {q : List Int} {t : Int} (h : Sch X w S M s e c qv q t) : q.length ≤ maxLen := by
  obtain ⟨_, ⟨_, h0⟩ | ⟨g, cap, cur, _, _, _, h1, h2, _⟩⟩ := h.row
  · rw [h0]; exact Nat.zero_le _
  · exact Nat.le_trans h1 h2

set_option maxHeartbeats 2000000 in
set_option maxRecDepth 100000 in
theorem out_calls {X : Nat → Prop} {w : World} {S M : Nat} {s : Nat → Option Nat} {e : Nat → V} {c : Nat} {qv : Value} {q : List Int} {t : Int} (h : Sch X w S M s e c qv q t) (hb : Old X w) (x : Int) :
    Calls Try.prog 29 #[.pointer (some ⟨S, 1, none⟩), .int .i64 x] w fun z w' => z = .returned (.tuple #[]) ∧ ∃ qv', Sch X w' S M s e c qv' (outq q x) t ∧ Kept X w w' := by
  have C0 := fun i => blk_cell h.blk i
  have F0 := fun i => blk_frozen h.blk i
  have L0 := blk_lt h.blk
  have hlen := h.len
  unfold maxLen at hlen
  by_cases hx : x ∈ q
  · obtain ⟨k, hk, hi, ho⟩ := outq_hit q x hx
    go_enter Try.func29, Try.ntmps29
    go_wp2_with (first
      | (go_at_call 47; refine (index_calls h.row x).mono ?_; rw [hi]; rintro z w1 ⟨rfl, hw1⟩; obtain rfl := hw1.symm)
      | (go_at_call 48; refine (delete_calls h.row k hk).mono ?_; rintro z w2 ⟨g', n', cap', rfl, hD⟩; have HD := Aside.mk hD; have L2 : S < w2.heap.size := Nat.lt_of_lt_of_le L0 hD.2.1.size; have C2 : ∀ i, w2.cell? ⟨S, i, none⟩ = _ := fun i => blk_cell ((hD.2.1.block S L0 (ne_of_own h.S_row)).trans h.blk) i; have F2 : ∀ i, w2.frozen? ⟨S, i, none⟩ = false := fun i => blk_frozen ((hD.2.1.block S L0 (ne_of_own h.S_row)).trans h.blk) i; clear hD)
      | go_in)
    refine bodyPost_end (results_none rfl _ _ _) rfl ?_
    have ht := h.turn (q' := outq q x) hb HD.out.2.1 (by rw [ho]; exact HD.out.1) (.inl HD.out.2.2)
    exact ⟨by first | rfl | (simp; done), _, ht.1, ht.2⟩
  · obtain ⟨hi, ho⟩ := outq_miss q x hx
    go_enter Try.func29, Try.ntmps29
    go_wp2_with (first
      | (go_at_call 47; refine (index_calls h.row x).mono ?_; rw [hi]; rintro z w1 ⟨rfl, hw1⟩; obtain rfl := hw1.symm)
      | go_in)
    refine bodyPost_end (results_none rfl _ _ _) rfl ?_
    exact ⟨by first | rfl | (simp; done), _, by rw [ho]; exact h, Kept.refl _ _⟩

theorem info3 : (Try.prog.info? 3).map (fun i => (i.zero, i.size, i.bytes)) = some (some (.int .i64 0), 1, 8) := by kernel_rfl
set_option maxHeartbeats 2000000 in
set_option maxRecDepth 100000 in
theorem last_calls {X : Nat → Prop} {w : World} {S M : Nat} {s : Nat → Option Nat} {e : Nat → V} {c : Nat} {qv : Value} {q : List Int} {t : Int} (h : Sch X w S M s e c qv q t) (hb : Old X w) (x : Int) (hq : q.length ≤ 1000) :
    Calls Try.prog 26 #[.pointer (some ⟨S, 1, none⟩), .int .i64 x] w fun z w' => z = .returned (.tuple #[]) ∧ ∃ qv', Sch X w' S M s e c qv' (outq q x ++ [x]) t ∧ Kept X w w' := by
  obtain ⟨i0, hi, hz0, hz1, hz2⟩ := info_parts info3
  have hl : (outq q x).length ≤ 1000 := Nat.le_trans (List.length_erase_le) hq
  go_enter Try.func26, Try.ntmps26
  go_wp2_with (first
    | (go_at_call 29; refine (out_calls h hb x).mono ?_; rintro z w1 ⟨rfl, qv1, h1, hbel⟩; have H1 := Aside.mk (And.intro h1 hbel); have C0 := fun i => blk_cell h1.blk i; have F0 := fun i => blk_frozen h1.blk i; have L0 := blk_lt h1.blk; clear h1 hbel)
    | (at_builtin; refine wpList_append_own_at _ rfl _ _ 29 rfl 0 3 i0 (.int .i64 0) 1 8 Try.underlying29 hi hz0 hz1 hz2 rfl (by decide) _ (outq q x).length _ rfl (H1.out.1.row.alloc _) ⟨w1.heap.size, 0, none⟩ 1 1 [.int .i64 x] rfl rfl (cell_one_new _ _ _) (ints_oneCell .i64 [x]) (by unfold maxLen; omega) (by omega) (Nat.zero_le _) ?_)
    | go_in)
  intro v' w2 hown hg hnil hloc
  have hb1 : Old X w1 := Old.up hb H1.out.2.size
  have e1 : (outq q x).length + 1 = (outq q x ++ [x]).length := by simp
  have e2 : (outq q x).map (Value.int .i64) ++ [Value.int .i64 x] = (outq q x ++ [x]).map (Value.int .i64) := by simp
  rw [e2] at hown
  have hrow : w2.ownsRow 0 3 1 v' (outq q x ++ [x]).length ((outq q x ++ [x]).map (Value.int .i64)) := by rw [← e1]; exact hown
  clear hown hnil
  obtain ⟨g2, n2, cap2, rfl⟩ : ∃ g2 n2 cap2, v' = .slice (some ⟨g2, 0, none⟩) n2 cap2 := by
    rcases Row.form hrow with ⟨_, h0⟩ | ⟨g2, cap2, cur2, rfl, _⟩
    · simp at h0
    · exact ⟨_, _, _, rfl⟩
  have hA := H1.out.1.below (Below.alloc (Below.refl _ _) (Nat.le_refl _) (.cells #[.int .i64 x] 3))
  have ht := Sch.turn hA (Old.up hb1 (by simp)) hg hrow (hloc.imp id (fun e => ⟨w1.heap.size + 1, e, by simp⟩))
  have HT := Aside.mk (And.intro ht.1 (H1.out.2.trans ((Kept.alloc (Kept.refl _ _) hb1 (.cells #[.int .i64 x] 3)).trans ht.2)))
  have hS := (hg.block S hA.lt (ne_of_own hA.S_row)).trans hA.blk
  have C2 := fun i => blk_cell hS i
  have F2 := fun i => blk_frozen hS i
  have L2 := blk_lt hS
  clear hS hA ht hloc hg hrow
  go_wp2
  refine bodyPost_end (results_none rfl _ _ _) rfl ?_
  exact ⟨by first | rfl | (simp; done), _, HT.out.1, HT.out.2⟩
end Go.Proofs.Ytpdelhipfleniaa.PlD
