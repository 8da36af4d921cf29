/- Proved: what the scheduler's Queue and Vcpu do in memory (contracts for the laws of the scheduler). -/
import Derived.Test.YtpdelhipfleniaaPlI
namespace Go.Proofs.Ytpdelhipfleniaa.PlJ
open Go.RowKit Go.Maps Go.Proofs.Ytpdelhipfleniaa.Base Go.Proofs.Ytpdelhipfleniaa.SchA Go.Proofs.Ytpdelhipfleniaa.PlB Go.Proofs.Ytpdelhipfleniaa.PlC Go.Proofs.Ytpdelhipfleniaa.PlD Go.Proofs.Ytpdelhipfleniaa.PlE Go.Proofs.Ytpdelhipfleniaa.PlF Go.Proofs.Ytpdelhipfleniaa.PlG Go.Proofs.Ytpdelhipfleniaa.PlH Go.Proofs.Ytpdelhipfleniaa.PlI
set_option linter.unusedVariables false

theorem below_grown {w w' : World} {o : Option Nat} (ho : o = none) (hg : w.grownBy w' o) : Below w.heap.size w w' := ⟨hg.os, hg.tape, hg.output, hg.size, fun k hk => hg.block k hk (by rw [ho]; exact fun e => by cases e)⟩
theorem cells_of_row {g cap : Nat} {W : World} {q : List Int} (h : Row 0 W (.slice (some ⟨g, 0, none⟩) q.length cap) q) : ∀ j u, (q.map (Value.int .i64))[j]? = some u → W.cell? ((⟨g, 0, none⟩ : Addr).add j) = some u := h.cells rfl

set_option maxHeartbeats 2000000 in
set_option maxRecDepth 100000 in
theorem queue_calls {X : Nat → Prop} {w : World} {S M : Nat} {s : Nat → Option Nat} {e : Nat → V} {c : Nat} {qv : Value} {q : List Int} {t : Int} (h : Sch X w S M s e c qv q t) (hq : q.length ≤ 1000) :
    Calls Try.prog 12 #[.pointer (some ⟨S, 0, none⟩)] w fun z w' => ∃ qv2, z = .returned qv2 ∧ Row w.heap.size w' qv2 q ∧ Below w.heap.size w w' := by
  have C0 := fun i => blk_cell h.blk i
  have L0 := blk_lt h.blk
  obtain ⟨i0, hi, hz0, hz1, hz2⟩ := info_parts info3
  rcases Row.form h.row with ⟨rfl, rfl⟩ | ⟨g, cap, cur, rfl, _, hg, hcap, hmax, _, _⟩
  · go_enter Try.func12, Try.ntmps12
    go_wp2_with (first
      | (go_at_call 24; refine (none_calls h).mono ?_; rintro z w1 ⟨rfl, hw1⟩; obtain rfl := hw1.symm)
      | go_in)
    go_ret
    exact ⟨_, rfl, World.ownsRow_nil _ _ _ _, Below.refl _ _⟩
  · have hcells := cells_of_row h.row
    go_enter Try.func12, Try.ntmps12
    go_wp2_with (first
      | (go_at_call 24; refine (none_calls h).mono ?_; rintro z w1 ⟨rfl, hw1⟩; obtain rfl := hw1.symm)
      | (at_builtin; refine wpList_append_own_at _ rfl _ _ 29 rfl w.heap.size 3 i0 (.int .i64 0) 1 8 Try.underlying29 hi hz0 hz1 hz2 rfl (by decide) (.slice none 0 0) 0 [] rfl (World.ownsRow_nil _ _ _ _) ⟨g, 0, none⟩ q.length cap (q.map (Value.int .i64)) rfl (by simp) hcells (ints_oneCell .i64 q) (by unfold maxLen; omega) (by omega) (Nat.le_refl _) ?_)
      | go_in)
    intro v' w2 hown hg2 hnil hloc
    have HH := Aside.mk (And.intro hown hg2)
    clear hown hg2 hnil hloc hcells hg
    go_wp2
    go_ret
    refine ⟨_, rfl, ?_, below_grown rfl HH.out.2⟩
    have := HH.out.1
    exact this

set_option maxHeartbeats 2000000 in
set_option maxRecDepth 100000 in
theorem vcpu_calls {X : Nat → Prop} {w : World} {S M : Nat} {s : Nat → Option Nat} {e : Nat → V} {c : Nat} {qv : Value} {q : List Int} {t : Int} (h : Sch X w S M s e c qv q t) (k g : Nat) (hk : k < 16) (hs : s k = some g) :
    Calls Try.prog 14 #[.pointer (some ⟨S, 0, none⟩), .int .i64 k] w fun z w' => z = .returned (.tuple #[.agg (vcells (e k)), .int .i64 0]) ∧ Below w.heap.size w w' := by
  have hb0 := Below.alloc (Below.refl w.heap.size w) (Nat.le_refl _) (.cells #[.int .i64 0, .int .i64 0, .int .i64 0, .int .i64 0, .bool false, .int .i64 0] 36)
  have h1 := h.below hb0
  have CE := fun i => blk_cell (h1.ent k g hs) i
  have LE := blk_lt (h1.ent k g hs)
  have hN := blk_new w (.cells #[.int .i64 0, .int .i64 0, .int .i64 0, .int .i64 0, .bool false, .int .i64 0] 36)
  have CN := fun i => blk_cell hN i
  have FN := fun i => blk_frozen hN i
  simp only [vcells] at CE
  go_enter Try.func14, Try.ntmps14
  go_wp2_with (first
    | (go_at_call 25; refine (at_calls h1 k g (by omega) hs).mono ?_; rintro z w1 ⟨rfl, hw1⟩; obtain rfl := hw1.symm)
    | go_in)
  refine bodyPost_ret (v := .tuple #[.agg (vcells (e k)), .int .i64 0]) ?_ rfl ⟨rfl, ?_⟩
  · simp only [results, Try.results14]
    go_simp
    rfl
  · exact Below.alloc (Below.refl _ _) (Nat.le_refl _) _
end Go.Proofs.Ytpdelhipfleniaa.PlJ
