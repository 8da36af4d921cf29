/- Proved: what a view without rewrites does (contracts for the laws of the grants). -/
import Derived.Test.YtjeobbhaoahdcaaGmA
import Derived.Test.YtjeobbhaoahdcaaGaC
namespace Go.Proofs.Ytjeobbhaoahdcaa.GvA
open Go.RowKit Go.Maps Go.Proofs.Ytjeobbhaoahdcaa.Base Go.Proofs.Ytjeobbhaoahdcaa.GaA Go.Proofs.Ytjeobbhaoahdcaa.GaB Go.Proofs.Ytjeobbhaoahdcaa.GaC Go.Proofs.Ytjeobbhaoahdcaa.GmA
set_option linter.unusedVariables false
set_option linter.unusedSimpArgs false

theorem zeroF (w : World) : (zeroValue 109).run Try.prog w = .ok (.slice none 0 0) w := Try.zeroValue109 w
/-- How many reads there were, as an int holds it. -/
def cr (r : Nat) : Int := IntKind.i64.wrap (r : Int)
theorem cr_zero : cr 0 = 0 := by decide
theorem cr_in (r : Nat) : -9223372036854775808 ≤ cr r ∧ cr r ≤ 9223372036854775807 := by
  unfold cr
  rw [IntKind.wrap_i64]
  omega
theorem cr_step (r : Nat) : IntKind.i64.wrap (cr r + 1) = cr (r + 1) := by
  unfold cr
  simp only [IntKind.wrap_i64]
  omega
/-- A view in memory, without rewrites, behind so many reads. -/
structure V2 (w : World) (vb db mb : Nat) (r : Nat) : Prop where
  blk : w.heap[vb]? = some (.cells #[.pointer (some ⟨mb, 0, none⟩), .map (some db), .int .i64 (cr r)] 84 (0, 0))
  due : IMap w db (fun _ => none) 0
section
variable {w w' : World} {vb db mb fb r : Nat} {s : MS}
theorem V2.chg {F : Nat → Prop} (h : V2 w vb db mb r) (hc : Chg F w w') (h1 : ¬ F vb) (h2 : ¬ F db) : V2 w' vb db mb r := ⟨hc.blk h.blk h1, h.due.chg hc h2⟩
theorem V2.below (h : V2 w vb db mb r) (hb : Below w.heap.size w w') : V2 w' vb db mb r := h.chg (Chg.below (fun _ => False) hb) (fun h => h) (fun h => h)
set_option maxHeartbeats 2000000 in
set_option maxRecDepth 100000 in
theorem new_calls (h : Mach w mb fb s) (hn : 0 < s.n) : Calls Try.prog 10 #[.pointer (some ⟨mb, 0, none⟩), .slice none 0 0] w fun e w' => ∃ vb db, e = .returned (.tuple #[.pointer (some ⟨vb, 0, none⟩), .int .i64 0]) ∧ w.heap.size ≤ vb ∧ w.heap.size ≤ db ∧ V2 w' vb db mb 0 ∧ Below w.heap.size w w' := by
  have hmm := @run_makeMap Try.prog
  have hb1 := below_alloc (Below.refl w.heap.size w) (.cells #[.pointer (some ⟨mb, 0, none⟩)] 28)
  have hs := size_calls h
  have hs1 := fun W hW => size_calls (h.below (w' := W) hW)
  have C1 := fun i => blk_cell h.blk i
  have L1 := blk_lt h.blk
  have d0 : ((s.n : Int) == 0) = false := by simp; omega
  clear h
  go_enter Try.func10, Try.ntmps10
  go_wp2_with (first
    | (go_at_call 15; refine hs.mono ?_; rintro z w1 ⟨rfl, hw1⟩; obtain rfl := hw1.symm)
    | go_in)
  refine wp_loop_once ?_
  go_wp2
  go_ret2
  refine ⟨_, _, rfl, ?_, ?_, ⟨blk_alloc (blk_newest ?_ _) _, IMap.made_at (blk_alloc (blk_alloc (blk_new _ _) _) _)⟩, below_alloc (below_alloc (below_alloc (Below.refl _ _) _) _) _⟩
  · omega
  · omega
  · simp
set_option maxHeartbeats 2000000 in
set_option maxRecDepth 100000 in
theorem none_calls (h : V2 w vb db mb r) : Calls Try.prog 78 #[.pointer (some ⟨vb, 0, none⟩)] w fun e w' => e = .returned (.bool false) ∧ w' = w := by
  have C0 := fun i => blk_cell h.blk i
  have L0 := blk_lt h.blk
  clear h
  go_enter Try.func78, Try.ntmps78
  go_wp2
  go_ret
  exact ⟨by first | rfl | (simp; done), rfl⟩
set_option maxHeartbeats 2000000 in
set_option maxRecDepth 100000 in
theorem machine_calls (h : V2 w vb db mb r) : Calls Try.prog 80 #[.pointer (some ⟨vb, 0, none⟩)] w fun e w' => e = .returned (.pointer (some ⟨mb, 0, none⟩)) ∧ w' = w := by
  have C0 := fun i => blk_cell h.blk i
  have L0 := blk_lt h.blk
  have hn := none_calls h
  clear h
  go_enter Try.func80, Try.ntmps80
  go_wp2_with (first
    | (go_at_call 78; refine hn.mono ?_; rintro z w1 ⟨rfl, hw1⟩; obtain rfl := hw1.symm)
    | go_in)
  go_ret
  exact ⟨by first | rfl | (simp; done), rfl⟩
set_option maxHeartbeats 4000000 in
set_option maxRecDepth 100000 in
theorem read_calls (h : V2 w vb db mb r) (hM : Mach w mb fb s) (hr : 0 ≤ r) (hvm : vb ≠ mb) (hvf : vb ≠ fb) (k : Nat) (hk : k < s.n) (off n : Nat) (ho : off + n ≤ 256) : Calls Try.prog 51 #[.pointer (some ⟨vb, 0, none⟩), .int .i64 k, .int .i64 off, .int .i64 n] w fun e w' =>
    e = .returned (.tuple #[.slice (some ⟨w.heap.size, 0, none⟩) n n, .int .i64 0]) ∧ w'.heap[w.heap.size]? = some (.cells (u8s (MS.rd s k off n)).toArray 5 (0, 0)) ∧ V2 w' vb db mb (r + 1) ∧ Chg (fun x => x = vb) w w' := by
  have C0 := fun i => blk_cell h.blk i
  have F0 := fun i => blk_frozen h.blk i
  have L0 := blk_lt h.blk
  have hn := none_calls h
  have hci := cr_in r
  have hcs := cr_step r
  have hlk := (h.due.block (W' := w.drew) rfl).look Try.underlying82 (zeroF w.drew) (cr r) (by omega) (by omega)
  simp only [Option.getD_none] at hlk
  have hc1 : Chg (fun x => x = vb) w (w.setCell ⟨vb, 2, none⟩ (.int .i64 (cr (r + 1)))).drew := Chg.drew (Chg.set (F := fun x => x = vb) (p := ⟨vb, 2, none⟩) (Chg.refl _ w) (.inl rfl) _)
  have hrd := GaC.read_calls (hM.chg hc1 (fun e => hvm e.symm) (fun e => hvf e.symm)) k hk off n ho
  have hsz : (w.setCell ⟨vb, 2, none⟩ (.int .i64 (cr (r + 1)))).drew.heap.size = w.heap.size := size_set _ _ _
  have hdb : db ≠ vb := by
    rintro rfl
    obtain ⟨es, clock, h1⟩ := h.due.is
    rw [h.blk] at h1
    cases h1
  have hV1 : V2 (w.setCell ⟨vb, 2, none⟩ (.int .i64 (cr (r + 1)))).drew vb db mb (r + 1) := ⟨blk_put h.blk 2 _ (by simp), h.due.chg hc1 hdb⟩
  have HH := Base.Aside.mk (And.intro hc1 (And.intro hV1 hsz))
  clear h hM hc1 hV1 hsz
  go_enter Try.func51, Try.ntmps51
  go_wp2_with (first
    | (go_at_call 78; refine hn.mono ?_; rintro z w1 ⟨rfl, hw1⟩; obtain rfl := hw1.symm)
    | go_in)
  go_region
  go_wp2
  refine wp_loop_once ?_
  go_wp2_with (first
    | (go_at_call 12; refine hrd.mono ?_; rintro z w1 ⟨rfl, hw1, hw2⟩; have E1 := Base.Aside.mk (And.intro hw1 hw2); clear hw1 hw2)
    | go_in)
  go_ret2
  have hsz := HH.out.2.2
  rw [hsz] at E1
  refine ⟨by first | rfl | (simp; done), E1.out.1, HH.out.2.1.below ?_, HH.out.1.trans (Chg.below _ ?_)⟩
  · rw [hsz]; exact E1.out.2
  · rw [hsz]; exact E1.out.2
end
end Go.Proofs.Ytjeobbhaoahdcaa.GvA
