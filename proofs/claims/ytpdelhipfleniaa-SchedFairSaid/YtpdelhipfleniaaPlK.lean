/- Proved: what the scheduler's Sleep, Remove, Vcpu and Add do in memory where they refuse and where they do not (contracts for the laws of the scheduler). -/
import Derived.Test.YtpdelhipfleniaaPlJ
namespace Go.Proofs.Ytpdelhipfleniaa.PlK
open Go.RowKit Go.Maps Go.Proofs.Ytpdelhipfleniaa.Base Go.Proofs.Ytpdelhipfleniaa.SchA Go.Proofs.Ytpdelhipfleniaa.PlB Go.Proofs.Ytpdelhipfleniaa.PlC Go.Proofs.Ytpdelhipfleniaa.PlD Go.Proofs.Ytpdelhipfleniaa.PlE Go.Proofs.Ytpdelhipfleniaa.PlF Go.Proofs.Ytpdelhipfleniaa.PlG Go.Proofs.Ytpdelhipfleniaa.PlH Go.Proofs.Ytpdelhipfleniaa.PlI Go.Proofs.Ytpdelhipfleniaa.PlJ
set_option linter.unusedVariables false

section
variable {X : Nat → Prop} {w : World} {S M : Nat} {s : Nat → Option Nat} {e : Nat → V} {c : Nat} {qv : Value} {q : List Int} {t : Int}
set_option maxHeartbeats 2000000 in
set_option maxRecDepth 100000 in
theorem sleep_none (h : Sch X w S M s e c qv q t) (n : Int) (h1 : -9223372036854775808 ≤ n) (h2 : n ≤ 9223372036854775807) (hs : n < 0 ∨ s n.toNat = none) :
    Calls Try.prog 17 #[.pointer (some ⟨S, 0, none⟩), .int .i64 n] w fun e w' => e = .returned (.int .i64 6) ∧ w' = w := by
  go_enter Try.func17, Try.ntmps17
  go_wp2_with (first
    | (go_at_call 25; refine (at_none h n h1 h2 hs).mono ?_; rintro z w1 ⟨rfl, hw1⟩; obtain rfl := hw1.symm)
    | go_in)
  go_ret
  exact ⟨by first | rfl | (simp; done), rfl⟩
set_option maxHeartbeats 2000000 in
set_option maxRecDepth 100000 in
theorem remove_none (h : Sch X w S M s e c qv q t) (n : Int) (h1 : -9223372036854775808 ≤ n) (h2 : n ≤ 9223372036854775807) (hs : n < 0 ∨ s n.toNat = none) :
    Calls Try.prog 16 #[.pointer (some ⟨S, 0, none⟩), .int .i64 n] w fun e w' => e = .returned (.int .i64 6) ∧ w' = w := by
  go_enter Try.func16, Try.ntmps16
  go_wp2_with (first
    | (go_at_call 25; refine (at_none h n h1 h2 hs).mono ?_; rintro z w1 ⟨rfl, hw1⟩; obtain rfl := hw1.symm)
    | go_in)
  go_ret
  exact ⟨by first | rfl | (simp; done), rfl⟩
def zeroV : V := ⟨0, 0, 0, 0, false, 0⟩
set_option maxHeartbeats 2000000 in
set_option maxRecDepth 100000 in
theorem vcpu_none (h : Sch X w S M s e c qv q t) (n : Int) (h1 : -9223372036854775808 ≤ n) (h2 : n ≤ 9223372036854775807) (hs : n < 0 ∨ s n.toNat = none) :
    Calls Try.prog 14 #[.pointer (some ⟨S, 0, none⟩), .int .i64 n] w fun z w' => z = .returned (.tuple #[.agg (vcells zeroV), .int .i64 6]) ∧ Below w.heap.size w w' := by
  have hb0 := Below.alloc (Below.refl w.heap.size w) (Nat.le_refl _) (.cells #[.int .i64 0, .int .i64 0, .int .i64 0, .int .i64 0, .bool false, .int .i64 0] 36)
  have h1' := h.below hb0
  have hN := blk_new w (.cells #[.int .i64 0, .int .i64 0, .int .i64 0, .int .i64 0, .bool false, .int .i64 0] 36)
  have CN := fun i => blk_cell hN i
  have FN := fun i => blk_frozen hN i
  go_enter Try.func14, Try.ntmps14
  go_wp2_with (first
    | (go_at_call 25; refine (at_none h1' n h1 h2 hs).mono ?_; rintro z w1 ⟨rfl, hw1⟩; obtain rfl := hw1.symm)
    | go_in)
  refine bodyPost_ret (v := .tuple #[.agg (vcells zeroV), .int .i64 6]) ?_ rfl ⟨rfl, ?_⟩
  · simp only [results, Try.results14]
    go_simp
    rfl
  · exact Below.alloc (Below.refl _ _) (Nat.le_refl _) _

set_option maxHeartbeats 2000000 in
set_option maxRecDepth 100000 in
theorem sleep_calls (h : Sch X w S M s e c qv q t) (hb : Old X w) (k g : Nat) (hk : k < 16) (hs : s k = some g) :
    Calls Try.prog 17 #[.pointer (some ⟨S, 0, none⟩), .int .i64 k] w fun z w' => z = .returned (.int .i64 0) ∧ ∃ qv', Sch X w' S M s (fun j => if j = k then setReady (e k) false else e j) c qv' (outq q k) t ∧ Kept X w w' := by
  have CE := fun i => blk_cell (h.ent k g hs) i
  have FE := fun i => blk_frozen (h.ent k g hs) i
  have LE := blk_lt (h.ent k g hs)
  have h2 := h.entry hs 4 (.bool false) (setReady (e k) false) rfl
  simp only [vcells] at CE
  go_enter Try.func17, Try.ntmps17
  go_wp2_with (first
    | (go_at_call 25; refine (at_calls h k g (by omega) hs).mono ?_; rintro z w1 ⟨rfl, hw1⟩; obtain rfl := hw1.symm)
    | (go_at_call 29; refine (out_calls h2.1 (Old.up hb h2.2.size) k).mono ?_; rintro z w1 ⟨rfl, qv', h3, hB3⟩)
    | go_in)
  go_ret
  exact ⟨by first | rfl | (simp; done), _, h3, h2.2.trans hB3⟩

theorem MapIs.drop {W : World} {M c : Nat} {s : Nat → Option Nat} (h : MapIs W M s c) (k : Nat) (hk : k < 9223372036854775808) (ty : TypeId) (g : Nat) (hs : s k = some g) : ∃ W', (Builtin.delete_ #[40, 3] ty #[.map (some M), .int .i64 k]).run Try.prog W = .ok (.tuple #[]) W' ∧ MapIs W' M (fun j => if j = k then none else s j) (c - 1) ∧ W.grownBy W' (some M) := by
  obtain ⟨D, h1, h2, h3, h4, h5⟩ := h
  obtain ⟨W', hrun, ho, hg⟩ := h1.drop K3 Try.underlying40 (keyOf_int_mk Try.underlying3 (wf_nat k hk)) ty
  have hsz : Maps.size (D.del (.int .i64 k)) = c - 1 := by
    have := size_del (k := .int .i64 k) (h1.tidy K3)
    rw [h4 k, hs, h2] at this
    simp at this
    omega
  refine ⟨W', hrun, ⟨D.del (.int .i64 k), ?_, hsz, fun j => ?_, fun j => ?_, fun x hx => ?_⟩, hg.grown⟩
  · have := ownsMap_tight ho
    rw [hsz] at this
    exact this
  · show _ = pd (if j = k then none else s j)
    by_cases e : j = k
    · subst e
      rw [if_pos rfl, atKey_del_same]
      rfl
    · rw [if_neg e, atKey_del_other (int_ne (by omega)), h3 j]
  · show _ = (if j = k then none else s j).isSome
    by_cases e : j = k
    · subst e
      rw [if_pos rfl, has_del_same]
      rfl
    · rw [if_neg e, has_del_other (int_ne (by omega)), h4 j]
  · rw [has_del_other (int_ne (by omega)), h5 x hx]

set_option maxHeartbeats 2000000 in
set_option maxRecDepth 100000 in
theorem remove_calls (h : Sch X w S M s e c qv q t) (hb : Old X w) (k g : Nat) (hk : k < 16) (hs : s k = some g) :
    Calls Try.prog 16 #[.pointer (some ⟨S, 0, none⟩), .int .i64 k] w fun z w' => z = .returned (.int .i64 0) ∧ ∃ qv', Sch X w' S M (fun j => if j = k then none else s j) e (c - 1) qv' (outq q k) t ∧ Kept X w w' := by
  go_enter Try.func16, Try.ntmps16
  go_wp2_with (first
    | (go_at_call 25; refine (at_calls h k g (by omega) hs).mono ?_; rintro z w1 ⟨rfl, hw1⟩; obtain rfl := hw1.symm)
    | (go_at_call 29; refine (out_calls h hb k).mono ?_; rintro z w1 ⟨rfl, qv', h3, hB3⟩; have C0 := fun i => blk_cell h3.blk i; have L0 := blk_lt h3.blk; obtain ⟨W', hrun, hm', hg⟩ := MapIs.drop h3.map k (by omega) 0 g hs; have H3 := Aside.mk (And.intro (And.intro h3 hB3) (And.intro hm' hg)); clear h3 hB3 hm' hg)
    | go_in)
  go_ret
  obtain ⟨⟨h3, hB3⟩, hm', hG⟩ := H3.out
  have old : ∀ (g : Nat) (o : Obj), w1.heap[g]? = some o → g ≠ M → W'.heap[g]? = some o := fun g o ho hne => (hG.block g (blk_lt ho) (fun e => hne (Option.some.inj e))).trans ho
  refine ⟨by first | rfl | (simp; done), _, ⟨old S _ h3.blk (h3.map.ne_cells h3.blk), hm', fun j g' hg => ?_, fun a b g' ha hb' => ?_, h3.row.kept hG (own_ne_map h3.row h3.map), h3.bS, h3.bM, fun j g' hg => ?_, h3.bQ⟩, hB3.trans ⟨hG.os, hG.tape, hG.output, hG.size, fun x hx => hG.block x (Old.up hb hB3.size x hx) (fun e => h3.bM (by rw [← Option.some.inj e]; exact hx))⟩⟩
  · change (if j = k then none else s j) = some g' at hg
    by_cases e1 : j = k
    · rw [if_pos e1] at hg
      cases hg
    · rw [if_neg e1] at hg
      exact old g' _ (h3.ent j g' hg) (h3.map.ne_cells (h3.ent j g' hg))
  · change (if a = k then none else s a) = some g' at ha
    change (if b = k then none else s b) = some g' at hb'
    by_cases e1 : a = k
    · rw [if_pos e1] at ha
      cases ha
    · by_cases e2 : b = k
      · rw [if_pos e2] at hb'
        cases hb'
      · rw [if_neg e1] at ha
        rw [if_neg e2] at hb'
        exact h3.inj a b g' ha hb'
  · change (if j = k then none else s j) = some g' at hg
    by_cases e1 : j = k
    · rw [if_pos e1] at hg
      cases hg
    · rw [if_neg e1] at hg
      exact h3.bE j g' hg
end
end Go.Proofs.Ytpdelhipfleniaa.PlK
