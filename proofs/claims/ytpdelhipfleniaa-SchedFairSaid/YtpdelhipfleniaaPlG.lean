/- Proved: what the scheduler's share does in memory (contracts for the laws of the scheduler). -/
import Derived.Test.YtpdelhipfleniaaPlF
namespace Go.Proofs.Ytpdelhipfleniaa.PlG
open Go.RowKit Go.Maps Go.Proofs.Ytpdelhipfleniaa.Base Go.Proofs.Ytpdelhipfleniaa.SchA Go.Proofs.Ytpdelhipfleniaa.PlB Go.Proofs.Ytpdelhipfleniaa.PlC Go.Proofs.Ytpdelhipfleniaa.PlD Go.Proofs.Ytpdelhipfleniaa.PlE Go.Proofs.Ytpdelhipfleniaa.PlF
set_option linter.unusedVariables false

set_option maxHeartbeats 4000000 in
set_option maxRecDepth 100000 in
theorem each_sum {X : Nat → Prop} {w : World} {S M : Nat} {s : Nat → Option Nat} {e : Nat → V} {c : Nat} {qv : Value} {q : List Int} {t : Int} {B Wb : Nat} {x : Int} (h : Env X w S M s e c qv q t B Wb x) (hq : Qok q s) (hv : Vok s e) (hx : x = 0) (hl16 : q.length ≤ 16) :
    Calls Try.prog 44 #[.func (.func 45) #[] #[.pointer (some ⟨Wb, 0, none⟩)], .pointer (some ⟨B, 0, none⟩)] w fun z w' => z = .returned (.tuple #[]) ∧ Env X w' S M s e c qv q t B Wb (sumW e q) ∧ Kept X w w' := by
  have C0 := fun i => blk_cell h.sch.blk i
  have L0 := blk_lt h.sch.blk
  have CB := fun i => blk_cell h.box i
  have LB := blk_lt h.box
  rcases Row.form h.sch.row with ⟨rfl, rfl⟩ | ⟨g, cap, cur, rfl, _, hb, hcap, hmax, _, _⟩
  · have H := Aside.mk h
    clear h
    go_enter Try.func44, Try.ntmps44
    go_wp2
    go_loop [11] (fun i => i = .int .i64 0) (fun _ => 0)
    case atStart => rfl
    case round =>
      subst hrel
      go_wp2
      refine bodyPost_end (results_none rfl _ _ _) rfl ?_
      subst hx
      exact ⟨by first | rfl | (simp; done), H.out, Kept.refl _ _⟩
  · have hbig : q.length ≤ 9223372036854775807 := by unfold maxLen at hmax; omega
    have H := Aside.mk h
    have lt := blk_lt hb
    clear h
    go_enter Try.func44, Try.ntmps44
    go_wp2
    go_loopw [4, 11] (fun _ i wr => ∃ k : Nat, k ≤ q.length ∧ i = .int .i64 k ∧ Aside (Env X wr S M s e c (.slice (some ⟨g, 0, none⟩) q.length cap) q t B Wb (sumW e (q.take k)) ∧ Kept X w wr)) (fun _ i _ => q.length - (intOf i).toNat)
    case atStart => subst hx; exact ⟨0, Nat.zero_le _, rfl, H.out, Kept.refl _ _⟩
    case round =>
      rename_i wr
      obtain ⟨k, hk, rfl, hE⟩ := hrel
      have C1 := fun i => blk_cell hE.out.1.sch.blk i
      have L1 := blk_lt hE.out.1.sch.blk
      have CB1 := fun i => blk_cell hE.out.1.box i
      have LB1 := blk_lt hE.out.1.box
      have hc := fun j hj => Row.cell hE.out.1.sch.row j hj
      clear C0 L0 CB LB
      by_cases hlt : k < q.length
      · have hcell := hc k hlt
        have hget : q.getD k 0 = q[k] := by rw [List.getD_eq_getElem?_getD, List.getElem?_eq_getElem hlt]; rfl
        rw [hget] at hcell
        obtain ⟨n, gn, en, hn, hgn⟩ := hq _ (List.getElem_mem hlt)
        rw [en] at hcell
        have hl := hE.out.1.sch.map.look n (by omega)
        rw [hgn] at hl
        simp only [pv] at hl
        have Lr : g < wr.heap.size := by
          have := hE.out.1.sch.row
          rcases Row.form this with ⟨h0, _⟩ | ⟨g', cap', cur', h0, _, h1, _⟩
          · cases h0
          · cases h0
            exact blk_lt h1
        have hv1 := hv n gn hgn
        have hs := sumW_le s e hv (q.take k) (Qok.take hq k)
        rw [List.length_take] at hs
        go_wp2_with (first
          | (go_at_call 45; refine (plus_calls gn Wb (e n) (sumW e (q.take k)) (hE.out.1.sch.ent n gn hgn) hE.out.1.sum (by omega) (by omega) hv1.1 hv1.2.1).mono ?_; rintro z w1 ⟨rfl, hw1⟩)
          | go_in)
        refine ⟨⟨k + 1, by omega, by simp, ?_⟩, by simp [intOf]; omega⟩
        have h2 := hE.out.1.summed (sumW e (q.take k) + (e n).weight)
        have e1 : sumW e (q.take (k + 1)) = sumW e (q.take k) + (e n).weight := by rw [take_snoc q k hlt, sumW_snoc, en, Int.toNat_natCast]
        rw [e1]
        exact ⟨h2.1.drew, hE.out.2.trans ⟨h2.2.os, h2.2.tape, h2.2.output, h2.2.size, h2.2.block⟩⟩
      · have hk2 : k = q.length := by omega
        subst hk2
        go_wp2
        refine bodyPost_end (results_none rfl _ _ _) rfl ?_
        refine ⟨by first | rfl | (simp; done), ?_, hE.out.2⟩
        have := hE.out.1
        rw [List.take_length] at this
        exact this

set_option maxHeartbeats 4000000 in
set_option maxRecDepth 100000 in
theorem each_give {X : Nat → Prop} {w : World} {S M : Nat} {s : Nat → Option Nat} {e : Nat → V} {c : Nat} {qv : Value} {q : List Int} {t : Int} {B Wb : Nat} {x : Int} (h : Env X w S M s e c qv q t B Wb x) (hq : Qok q s) (hv : Vok s e) (hx0 : q ≠ [] → 0 < x) (hx1 : x ≤ 100000) :
    Calls Try.prog 44 #[.func (.func 46) #[] #[.pointer (some ⟨Wb, 0, none⟩)], .pointer (some ⟨B, 0, none⟩)] w fun z w' => z = .returned (.tuple #[]) ∧ Env X w' S M s (giveAll x e q) c qv q t B Wb x ∧ Kept X w w' := by
  have C0 := fun i => blk_cell h.sch.blk i
  have L0 := blk_lt h.sch.blk
  have CB := fun i => blk_cell h.box i
  have LB := blk_lt h.box
  rcases Row.form h.sch.row with ⟨rfl, rfl⟩ | ⟨g, cap, cur, rfl, _, hb, hcap, hmax, _, _⟩
  · have H := Aside.mk h
    clear h
    go_enter Try.func44, Try.ntmps44
    go_wp2
    go_loop [11] (fun i => i = .int .i64 0) (fun _ => 0)
    case atStart => rfl
    case round =>
      subst hrel
      go_wp2
      refine bodyPost_end (results_none rfl _ _ _) rfl ?_
      exact ⟨by first | rfl | (simp; done), H.out, Kept.refl _ _⟩
  · have hbig : q.length ≤ 9223372036854775807 := by unfold maxLen at hmax; omega
    have H := Aside.mk h
    have lt := blk_lt hb
    clear h
    go_enter Try.func44, Try.ntmps44
    go_wp2
    go_loopw [4, 11] (fun _ i wr => ∃ k : Nat, k ≤ q.length ∧ i = .int .i64 k ∧ Aside (Env X wr S M s (giveAll x e (q.take k)) c (.slice (some ⟨g, 0, none⟩) q.length cap) q t B Wb x ∧ Kept X w wr)) (fun _ i _ => q.length - (intOf i).toNat)
    case atStart => exact ⟨0, Nat.zero_le _, rfl, H.out, Kept.refl _ _⟩
    case round =>
      rename_i wr
      obtain ⟨k, hk, rfl, hE⟩ := hrel
      have C1 := fun i => blk_cell hE.out.1.sch.blk i
      have L1 := blk_lt hE.out.1.sch.blk
      have CB1 := fun i => blk_cell hE.out.1.box i
      have LB1 := blk_lt hE.out.1.box
      have hc := fun j hj => Row.cell hE.out.1.sch.row j hj
      clear C0 L0 CB LB
      by_cases hlt : k < q.length
      · have hcell := hc k hlt
        have hget : q.getD k 0 = q[k] := by rw [List.getD_eq_getElem?_getD, List.getElem?_eq_getElem hlt]; rfl
        rw [hget] at hcell
        obtain ⟨n, gn, en, hn, hgn⟩ := hq _ (List.getElem_mem hlt)
        rw [en] at hcell
        have hl := hE.out.1.sch.map.look n (by omega)
        rw [hgn] at hl
        simp only [pv] at hl
        have Lr : g < wr.heap.size := by
          have := hE.out.1.sch.row
          rcases Row.form this with ⟨h0, _⟩ | ⟨g', cap', cur', h0, _, h1, _⟩
          · cases h0
          · cases h0
            exact blk_lt h1
        have hv1 := hv n gn hgn
        have hsame := giveAll_same x n (q.take k) e
        have hx2 : 0 < x := hx0 (fun e0 => by rw [e0] at hlt; simp at hlt)
        go_wp2_with (first
          | (go_at_call 46; refine (give_calls gn Wb (giveAll x e (q.take k) n) x (hE.out.1.sch.ent n gn hgn) hE.out.1.sum hx2 hx1 (by omega) (by omega) (by omega) (by omega)).mono ?_; rintro z w1 ⟨rfl, hw1⟩)
          | go_in)
        refine ⟨⟨k + 1, by omega, by simp, ?_⟩, by simp [intOf]; omega⟩
        have h2 := hE.out.1.gave hgn 3 (.int .i64 (give (giveAll x e (q.take k) n) x).credit) (give (giveAll x e (q.take k) n) x) rfl
        have e1 : giveAll x e (q.take (k + 1)) = fun j => if j = n then give (giveAll x e (q.take k) n) x else giveAll x e (q.take k) j := by
          rw [take_snoc q k hlt, giveAll_snoc, en, Int.toNat_natCast]
          funext j
          by_cases hj : j = n
          · simp [hj]
          · simp [hj]
        rw [e1]
        exact ⟨h2.1.drew, hE.out.2.trans ⟨h2.2.os, h2.2.tape, h2.2.output, h2.2.size, h2.2.block⟩⟩
      · have hk2 : k = q.length := by omega
        subst hk2
        go_wp2
        refine bodyPost_end (results_none rfl _ _ _) rfl ?_
        refine ⟨by first | rfl | (simp; done), ?_, hE.out.2⟩
        have := hE.out.1
        rw [List.take_length] at this
        exact this

set_option maxHeartbeats 4000000 in
set_option maxRecDepth 100000 in
theorem share_calls {X : Nat → Prop} {w : World} {S M : Nat} {s : Nat → Option Nat} {e : Nat → V} {c : Nat} {qv : Value} {q : List Int} {t : Int} (h : Sch X w S M s e c qv q t) (hb : Old X w) (hq : Qok q s) (hv : Vok s e) (hl16 : q.length ≤ 16) :
    Calls Try.prog 28 #[.pointer (some ⟨S, 0, none⟩)] w fun z w' => z = .returned (.tuple #[]) ∧ Sch X w' S M s (giveAll (sumW e q) e q) c qv q t ∧ Kept X w w' := by
  have hmf : ∀ (fn : Fn) (first cap : Array Value) (w : World), (Instr.makeFunc fn first cap).run Try.prog w = .ok (.func fn first cap) w := fun _ _ _ _ => rfl
  have hE : Env X ((w.alloc (.cells #[.pointer (some ⟨S, 0, none⟩)] 22)).alloc (.cells #[.int .i64 0] 3)) S M s e c qv q t w.heap.size (w.heap.size + 1) 0 := by
    refine ⟨(h.below (Below.alloc (Below.refl w.heap.size w) (Nat.le_refl _) _)).below (Below.alloc (Below.refl _ _) (Nat.le_refl _) _), blk_alloc (blk_new _ _) _, blk_newest (by simp) _, ?_, fun h => by have := hb _ h; omega, fun h => by have := hb _ h; omega⟩
    intro e1
    have := (h.row.lt _ e1).2
    omega
  have hB : Kept X w ((w.alloc (.cells #[.pointer (some ⟨S, 0, none⟩)] 22)).alloc (.cells #[.int .i64 0] 3)) := Kept.alloc (Kept.alloc (Kept.refl _ _) hb _) (Old.up hb (by simp)) _
  have hs := sumW_le s e hv q hq
  have hpos : q ≠ [] → 0 < sumW e q := fun hne => by
    have := List.length_pos_iff.2 hne
    omega
  have C0 := fun i => blk_cell hE.sum i
  have L0 := blk_lt hE.sum
  go_enter Try.func28, Try.ntmps28
  go_wp2_with (first
    | (go_at_call 44; (with_reducible refine (each_sum hE hq hv rfl hl16).mono ?_); rintro z w1 ⟨rfl, hE1, hB1⟩)
    | (go_at_call 44; (with_reducible refine (each_give hE1 hq hv hpos (by omega)).mono ?_); rintro z w2 ⟨rfl, hE2, hB2⟩)
    | go_in)
  refine bodyPost_end (results_none rfl _ _ _) rfl ?_
  exact ⟨by first | rfl | (simp; done), hE2.sch, hB.trans (hB1.trans hB2)⟩
end Go.Proofs.Ytpdelhipfleniaa.PlG
