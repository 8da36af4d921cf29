/- Proved: what image.New makes of no base and no blocks (a contract for the law). -/
import Derived.Test.YtdndglceaceblaaNew0
import Derived.RangeFuncNested
import Derived.RangeFuncBound
import Derived.RangeFuncCalls
import Derived.RangeFuncLeaves
import Derived.RangeFuncFrom
import Derived.Shelf.Abstract
import Derived.WalkKit
import Derived.OwnWalkIn
import Derived.TacticsInMore
import Derived.LoopNIn
import Derived.LoopIn
namespace Go.Proofs.Ytdndglceaceblaa.Img
open Go.RowKit Go.Shelf Go.Proofs.Ytdndglceaceblaa.Base
attribute [local go_sem] Oper.semAt_some
set_option linter.unusedVariables false

set_option maxRecDepth 100000 in
set_option maxHeartbeats 2000000 in
theorem chunk_in (F : Fence) (n : Nat) (h16 : F.fn 16) (hro : F.round = none) (w : World) :
    CallsIn F n Try.prog 16 #[.slice none 0 0, .int .i64 64] w fun e w' => e = .returned (.func (.func 31) #[] #[.pointer (some ⟨w.heap.size, 0, none⟩), .pointer (some ⟨w.heap.size + 1, 0, none⟩)]) ∧ w' = (w.alloc (.cells #[.slice none 0 0] 61)).alloc (.cells #[.int .i64 64] 3) := by
  refine callsIn_of_wp Try.func16 rfl h16 ?_ hro
  simp only [Try.ntmps16, List.size_toArray, List.length_cons, List.length_nil, Nat.reduceAdd, Nat.reduceSub, Array.replicate_succ, Array.replicate_zero, List.push_toArray, List.append_toArray, List.nil_append, List.cons_append]
  gi_wp2
  go_ret
  exact ⟨rfl, rfl⟩

set_option maxRecDepth 100000 in
set_option maxHeartbeats 2000000 in
theorem chunk1_in (F : Fence) (n : Nat) (h31 : F.fn 31) (hro : F.round = none) (l B1 B2 : Nat) (J Jx : List Value → World → Prop) (W : World) (hm : W.cell? ⟨B1, 0, none⟩ = some (.slice none 0 0)) (h0 : J [] W) :
    CallsIn F n Try.prog 31 #[.func (.yield l) #[] #[], .pointer (some ⟨B1, 0, none⟩), .pointer (some ⟨B2, 0, none⟩)] W fun e W' => (∃ v, e = .returned v) ∧ ((∃ xs : List Value, xs = [] ∧ J xs W') ∨ (∃ pre : List Value, False ∧ Jx pre W')) := by
  refine callsIn_of_wp Try.func31 rfl h31 ?_ hro
  simp only [Try.ntmps31, List.size_toArray, List.length_cons, List.length_nil, Nat.reduceAdd, Nat.reduceSub, Array.replicate_succ, Array.replicate_zero, List.push_toArray, List.append_toArray, List.nil_append, List.cons_append]
  gi_wp2
  refine wpIn_loop_rounds 1 ?_
  rw [roundsIn_succ]
  gi_wp2
  go_end0
  exact ⟨⟨_, rfl⟩, .inl ⟨[], rfl, h0⟩⟩

theorem keep_blk {B : Nat} {W W' : World} {row : Option Nat} {k : Nat} {o : Obj} (h : W.heap[k]? = some o) (hk : k < B) (hg : W.grownBy W' row) (hr : ∀ r, row = some r → B ≤ r ∧ ∃ o : Obj, W.heap[r]? = some o ∧ o.isCells = false) : W'.heap[k]? = some o :=
  (hg.block k (blk_lt h) (fun e => by have := (hr k e.symm).1; omega)).trans h

/-- What lies behind image.New. -/
def Made (w W : World) : Prop := (W.heap[w.heap.size + 1]? = some (.cells #[.bool true, .slice none 0 0, .map (some w.heap.size), .int .i64 0] 69 (0, 0)) ∧ W.heap[w.heap.size + 1 + 1]? = some (.cells #[.pointer (some ⟨w.heap.size + 1, 0, none⟩)] 25 (0, 0))) ∧ Below w.heap.size w W

set_option maxRecDepth 100000 in
set_option maxHeartbeats 4000000 in
theorem new_in (F : Fence) (n : Nat) (h6 : F.fn 6) (h16 : F.fn 16) (h31 : F.fn 31) (hro : F.round = none) (hn : 3 ≤ n) (w : World) :
    CallsIn F n Try.prog 6 #[.slice none 0 0, .int .i64 0] w fun e w' => e = .returned (.tuple #[.pointer (some ⟨w.heap.size + 1, 0, none⟩), .int .i64 0]) ∧ w'.heap[w.heap.size + 1]? = some (.cells #[.bool true, .slice none 0 0, .map (some w.heap.size), .int .i64 0] 69 (0, 0)) ∧ Below w.heap.size w w' := by
  have h1 : 1 ≤ n := by omega
  have hmm := @run_makeMap Try.prog
  refine callsIn_of_wp_marks Try.func6 rfl h6 ?_ hro
  simp only [Try.ntmps6, List.size_toArray, List.length_cons, List.length_nil, Nat.reduceAdd, Nat.reduceSub, Array.replicate_succ, Array.replicate_zero, List.push_toArray, List.append_toArray, List.nil_append, List.cons_append]
  gi_wp2_with (gi_at_call 16; refine (chunk_in F (n - 1) h16 hro _).mono ?_; rintro e w' ⟨rfl, rfl⟩)
  have hB0 : Below w.heap.size w (((((w.alloc (.map #[] 0)).alloc (.cells #[.bool true, .slice none 0 0, .map (some w.heap.size), .int .i64 0] 69)).alloc (.cells #[.pointer (some ⟨w.heap.size + 1, 0, none⟩)] 25)).alloc (.cells #[.slice none 0 0] 61)).alloc (.cells #[.int .i64 64] 3)) :=
    below_alloc (below_alloc (below_alloc (below_alloc (below_alloc (Below.refl _ w) _) _) _) _) _
  have hx1 : (((((w.alloc (.map #[] 0)).alloc (.cells #[.bool true, .slice none 0 0, .map (some w.heap.size), .int .i64 0] 69)).alloc (.cells #[.pointer (some ⟨w.heap.size + 1, 0, none⟩)] 25)).alloc (.cells #[.slice none 0 0] 61)).alloc (.cells #[.int .i64 64] 3)).heap[w.heap.size + 1]? = some (.cells #[.bool true, .slice none 0 0, .map (some w.heap.size), .int .i64 0] 69 (0, 0)) :=
    blk_alloc (blk_alloc (blk_alloc (blk_newest (by simp) _) _) _) _
  have hx2 : (((((w.alloc (.map #[] 0)).alloc (.cells #[.bool true, .slice none 0 0, .map (some w.heap.size), .int .i64 0] 69)).alloc (.cells #[.pointer (some ⟨w.heap.size + 1, 0, none⟩)] 25)).alloc (.cells #[.slice none 0 0] 61)).alloc (.cells #[.int .i64 64] 3)).heap[w.heap.size + 1 + 1]? = some (.cells #[.pointer (some ⟨w.heap.size + 1, 0, none⟩)] 25 (0, 0)) :=
    blk_alloc (blk_alloc (blk_newest (by simp) _) _) _
  have hx3 : (((((w.alloc (.map #[] 0)).alloc (.cells #[.bool true, .slice none 0 0, .map (some w.heap.size), .int .i64 0] 69)).alloc (.cells #[.pointer (some ⟨w.heap.size + 1, 0, none⟩)] 25)).alloc (.cells #[.slice none 0 0] 61)).alloc (.cells #[.int .i64 64] 3)).heap[w.heap.size + 1 + 1 + 1]? = some (.cells #[.slice none 0 0] 61 (0, 0)) :=
    blk_alloc (blk_newest (by simp) _) _
  have hsz : w.heap.size + 1 + 1 + 1 + 1 + 1 = (((((w.alloc (.map #[] 0)).alloc (.cells #[.bool true, .slice none 0 0, .map (some w.heap.size), .int .i64 0] 69)).alloc (.cells #[.pointer (some ⟨w.heap.size + 1, 0, none⟩)] 25)).alloc (.cells #[.slice none 0 0] 61)).alloc (.cells #[.int .i64 64] 3)).heap.size := by simp
  generalize (((((w.alloc (.map #[] 0)).alloc (.cells #[.bool true, .slice none 0 0, .map (some w.heap.size), .int .i64 0] 69)).alloc (.cells #[.pointer (some ⟨w.heap.size + 1, 0, none⟩)] 25)).alloc (.cells #[.slice none 0 0] 61)).alloc (.cells #[.int .i64 64] 3)) = W0 at hB0 hx1 hx2 hx3 hsz ⊢
  have hseq : SeqStopsK F (n - 1) Try.prog 31 #[.pointer (some ⟨w.heap.size + 1 + 1 + 1, 0, none⟩), .pointer (some ⟨w.heap.size + 1 + 1 + 1 + 1, 0, none⟩)] (fun x : Value => #[x]) (Below w.heap.size) (fun xs => xs = []) (fun _ => False) 0 W0 :=
    fun l J Jx W hW hJ hJx hY h0 => chunk1_in F (n - 1) h31 hro l (w.heap.size + 1 + 1 + 1) (w.heap.size + 1 + 1 + 1 + 1) J Jx W (blk_cell (blk_below hx3 (blk_lt hx3) hW) 0) h0
  refine wpIn_rangeFunc_ownF hro h1 (gf := 31) (lb := #[.pointer (some ⟨w.heap.size + 1 + 1 + 1, 0, none⟩), .pointer (some ⟨w.heap.size + 1 + 1 + 1 + 1, 0, none⟩)]) rfl h31 (enters_of Try.func31 (by kernel_rfl) rfl)
    hseq belowK_t (belowK_b (by omega)) (Below.refl _ _) (fun _ => rfl)
    (fun pre W => (W.heap[w.heap.size + 1]? = some (.cells #[.bool true, .slice none 0 0, .map (some w.heap.size), .int .i64 0] 69 (0, 0)) ∧ W.heap[w.heap.size + 1 + 1]? = some (.cells #[.pointer (some ⟨w.heap.size + 1, 0, none⟩)] 25 (0, 0))) ∧ Below w.heap.size w W)
    (fun _ _ _ => False)
    (OwnFrom.and (fun s A B row hs hg hr => ⟨keep_blk hs.1 (by omega) hg hr, keep_blk hs.2 (by omega) hg hr⟩) (ownFrom_below (Nat.le_refl _) (by omega)))
    (fun _ _ _ _ _ hs _ _ => hs)
    ⟨⟨hx1, hx2⟩, hB0⟩
    (fun x => { tmps := #[.slice none 0 0, .int .i64 0, undef, undef, .pointer none, .int .i64 0, .pointer (some ⟨w.heap.size + 1 + 1, 0, none⟩), x, .bool false, .slice none 0 0, .int .i64 0, .bool false, .bool false, .slice none 0 0, .int .i64 0, .int .i64 0, .bool false, .bool false, .int .i64 0, .bool false, .bool false, .bool false, .int .i64 0, .bool false, .bool false, .map (some w.heap.size), .int .i64 0, .agg #[.bool true, .slice none 0 0, .map (some w.heap.size), .int .i64 0], .pointer (some ⟨w.heap.size + 1, 0, none⟩), .slice none 0 0, .func (.func 31) #[] #[.pointer (some ⟨w.heap.size + 1 + 1 + 1, 0, none⟩), .pointer (some ⟨w.heap.size + 1 + 1 + 1 + 1, 0, none⟩)], x, undef, undef, undef, undef, undef, undef, undef, undef, undef, undef, undef, undef, undef], defers := [] }) ?assign ?body ?done ?stop
  case assign =>
    intro l x W K hK
    gi_wp2
    exact hK
  case body =>
    intro l pre x W _ h
    exact absurd h (Nat.not_lt_zero _)
  case done =>
    rintro D ys W hD rfl ⟨⟨hc, hd⟩, hB⟩ hK
    have C1 := fun i => blk_cell hd i
    have L1 := blk_lt hd
    gi_wp2
    refine ⟨by simp, .inl ⟨_, _, rfl, run_takeDeferred hK, ?_⟩⟩
    refine ⟨.tuple #[.pointer (some ⟨w.heap.size + 1, 0, none⟩), .int .i64 0], ?_, rfl, ?_, hB.trans (belowK_b (w := w) (Nat.le_refl _) W D _ _ (by omega) hK rfl rfl)⟩
    · simp [results, Try.f6, go_sem]
    · exact ((grownBy_putObj' W D (.deferred none)).block _ (blk_lt hc) (fun e => by have := Option.some.inj e; omega)).trans hc
  case stop =>
    rintro D c pre W _ h _ _
    exact h.elim
/-- An image of no base and no blocks. -/
theorem imageNew (w : World) : Calls Try.prog 6 #[.slice none 0 0, .int .i64 0] w fun e w' => ∃ xb mb, e = .returned (.tuple #[.pointer (some ⟨xb, 0, none⟩), .int .i64 0]) ∧ w.heap.size ≤ xb ∧ w'.heap[xb]? = some (.cells #[.bool true, .slice none 0 0, .map (some mb), .int .i64 0] 69 (0, 0)) ∧ Below w.heap.size w w' :=
  (callsIn_wide.1 (new_in Fence.wide 6 trivial trivial trivial rfl (by decide) w)).mono fun e w' h => ⟨_, _, h.1, by omega, h.2.1, h.2.2⟩
end Go.Proofs.Ytdndglceaceblaa.Img
