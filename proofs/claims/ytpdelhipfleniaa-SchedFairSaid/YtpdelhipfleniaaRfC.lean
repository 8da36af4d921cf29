/- Proved: what Wake, Sleep, Remove of the document's answer for the scheduler do (contracts for the laws of the scheduler). -/
import Derived.Test.YtpdelhipfleniaaRfB
namespace Go.Proofs.Ytpdelhipfleniaa.RfC
open Go.RowKit Go.Maps Go.Proofs.Ytpdelhipfleniaa.Base Go.Proofs.Ytpdelhipfleniaa.SchA Go.Proofs.Ytpdelhipfleniaa.PlB Go.Proofs.Ytpdelhipfleniaa.PlC Go.Proofs.Ytpdelhipfleniaa.PlD Go.Proofs.Ytpdelhipfleniaa.PlE Go.Proofs.Ytpdelhipfleniaa.PlF Go.Proofs.Ytpdelhipfleniaa.PlG Go.Proofs.Ytpdelhipfleniaa.PlH Go.Proofs.Ytpdelhipfleniaa.PlI Go.Proofs.Ytpdelhipfleniaa.PlJ Go.Proofs.Ytpdelhipfleniaa.PlK Go.Proofs.Ytpdelhipfleniaa.PlL Go.Proofs.Ytpdelhipfleniaa.RfA Go.Proofs.Ytpdelhipfleniaa.RfB
set_option linter.unusedVariables false

theorem cell_one_at {W : World} {n : Nat} (hn : n = W.heap.size) (x : Value) (t : TypeId) : ∀ j u, [x][j]? = some u → (W.alloc (.cells #[x] t)).cell? ((⟨n, 0, none⟩ : Addr).add j) = some u := by
  subst hn
  exact cell_one_new _ _ _
theorem row_snoc {w2 : World} {v' : Value} {q : List Int} {x : Int} (hown : w2.ownsRow 0 3 1 v' (q.length + 1) (q.map (Value.int .i64) ++ [.int .i64 x])) : w2.ownsRow 0 3 1 v' (q ++ [x]).length ((q ++ [x]).map (Value.int .i64)) := by
  have e1 : q.length + 1 = (q ++ [x]).length := by simp
  have e2 : q.map (Value.int .i64) ++ [Value.int .i64 x] = (q ++ [x]).map (Value.int .i64) := by simp
  rw [← e1, ← e2]
  exact hown
theorem row_plain {w2 : World} {v' : Value} {q : List Int} {x : Int} (h : w2.ownsRow 0 3 1 v' (q ++ [x]).length ((q ++ [x]).map (Value.int .i64))) : ∃ g2 n2 cap2, v' = .slice (some ⟨g2, 0, none⟩) n2 cap2 := by
  rcases Row.form h with ⟨_, h0⟩ | ⟨g2, cap2, cur2, rfl, _⟩
  · simp at h0
  · exact ⟨_, _, _, rfl⟩
section
variable {X : Nat → Prop} {w w' W' : World} {R L : Nat} {cs : Array Value} {p : Nat → Bool} {e : Nat → V} {qv qv' : Value} {q q' : List Int} {t : Int}
set_option maxHeartbeats 2000000 in
set_option maxRecDepth 100000 in
theorem rwake_none (h : Ref X w R L cs p e qv q t) (n : Int) (hn : isn p n = false) :
    Calls Try.prog 32 #[.pointer (some ⟨R, 0, none⟩), .int .i64 n] w fun z w' => z = .returned (.int .i64 6) ∧ w' = w := by
  go_enter Try.func32, Try.ntmps32
  go_wp2_with (first
    | (go_at_call 50; refine (is_any h n).mono ?_; rw [hn]; rintro z w1 ⟨rfl, hw1⟩; obtain rfl := hw1.symm)
    | go_in)
  go_ret
  exact ⟨by first | rfl | (simp; done), rfl⟩
set_option maxHeartbeats 2000000 in
set_option maxRecDepth 100000 in
theorem rsleep_none (h : Ref X w R L cs p e qv q t) (n : Int) (hn : isn p n = false) :
    Calls Try.prog 33 #[.pointer (some ⟨R, 0, none⟩), .int .i64 n] w fun z w' => z = .returned (.int .i64 6) ∧ w' = w := by
  go_enter Try.func33, Try.ntmps33
  go_wp2_with (first
    | (go_at_call 50; refine (is_any h n).mono ?_; rw [hn]; rintro z w1 ⟨rfl, hw1⟩; obtain rfl := hw1.symm)
    | go_in)
  go_ret
  exact ⟨by first | rfl | (simp; done), rfl⟩
set_option maxHeartbeats 2000000 in
set_option maxRecDepth 100000 in
theorem rremove_none (h : Ref X w R L cs p e qv q t) (n : Int) (hn : isn p n = false) :
    Calls Try.prog 34 #[.pointer (some ⟨R, 0, none⟩), .int .i64 n] w fun z w' => z = .returned (.int .i64 6) ∧ w' = w := by
  go_enter Try.func34, Try.ntmps34
  go_wp2_with (first
    | (go_at_call 50; refine (is_any h n).mono ?_; rw [hn]; rintro z w1 ⟨rfl, hw1⟩; obtain rfl := hw1.symm)
    | go_in)
  go_ret
  exact ⟨by first | rfl | (simp; done), rfl⟩

theorem isn_nat (p : Nat → Bool) (k : Nat) (hk : k < 16) : isn p k = p k := by
  unfold isn
  rw [decide_eq_true (by omega), decide_eq_true (by omega)]
  simp
set_option maxHeartbeats 2000000 in
set_option maxRecDepth 100000 in
theorem rsleep_calls (h : Ref X w R L cs p e qv q t) (hb : Old X w) (k : Nat) (hk : k < 16) (hp : p k = true) (hq : q.length ≤ 1000) :
    Calls Try.prog 33 #[.pointer (some ⟨R, 0, none⟩), .int .i64 k] w fun z w' => z = .returned (.int .i64 0) ∧ ∃ cs' qv', Ref X w' R L cs' p (fun j => if j = k then setReady (e k) false else e j) qv' (outr q k) t ∧ Kept X w w' := by
  have C0 := fun i => blk_cell h.blk i
  have L0 := blk_lt h.blk
  have L1 := blk_lt h.lst
  have F1 := fun i => blk_frozen h.lst i
  have C1 := h.at k hk hp 4 (by omega)
  simp only [vcells] at C1
  obtain ⟨⟨cs2, h2⟩, hK2⟩ := h.entry k hk hp 4 (by omega) (.bool false) (setReady (e k) false) rfl
  go_enter Try.func33, Try.ntmps33
  go_wp2_with (first
    | (go_at_call 50; refine (is_calls h k hk).mono ?_; rw [hp]; rintro z w1 ⟨rfl, hw1⟩; obtain rfl := hw1.symm)
    | (go_at_call 39; refine (rout_calls h2 (Old.up hb hK2.size) k hq).mono ?_; rintro z w1 ⟨rfl, qv', h3, hB3⟩)
    | go_in)
  go_ret
  exact ⟨by first | rfl | (simp; done), _, _, h3, hK2.trans hB3⟩
set_option maxHeartbeats 2000000 in
set_option maxRecDepth 100000 in
theorem rwake_ready (h : Ref X w R L cs p e qv q t) (k : Nat) (hk : k < 16) (hp : p k = true) (hr : (e k).ready = true) :
    Calls Try.prog 32 #[.pointer (some ⟨R, 0, none⟩), .int .i64 k] w fun z w' => z = .returned (.int .i64 0) ∧ w' = w := by
  have C0 := fun i => blk_cell h.blk i
  have L0 := blk_lt h.blk
  have L1 := blk_lt h.lst
  have C1 := h.at k hk hp 4 (by omega)
  simp only [vcells] at C1
  go_enter Try.func32, Try.ntmps32
  go_wp2_with (first
    | (go_at_call 50; refine (is_calls h k hk).mono ?_; rw [hp]; rintro z w1 ⟨rfl, hw1⟩; obtain rfl := hw1.symm)
    | go_in)
  go_ret
  exact ⟨by first | rfl | (simp; done), rfl⟩
set_option maxHeartbeats 2000000 in
set_option maxRecDepth 100000 in
theorem rwake_calls (h : Ref X w R L cs p e qv q t) (hb : Old X w) (k : Nat) (hk : k < 16) (hp : p k = true) (hr : (e k).ready = false) (hq : q.length ≤ 1000) :
    Calls Try.prog 32 #[.pointer (some ⟨R, 0, none⟩), .int .i64 k] w fun z w' => z = .returned (.int .i64 0) ∧ ∃ cs' qv', Ref X w' R L cs' p (fun j => if j = k then setReady (e k) true else e j) qv' (q ++ [(k : Int)]) t ∧ Kept X w w' := by
  obtain ⟨i0, hi, hz0, hz1, hz2⟩ := info_parts info3
  have C0 := fun i => blk_cell h.blk i
  have L0 := blk_lt h.blk
  have L1 := blk_lt h.lst
  have F0 := fun i => blk_frozen h.blk i
  have F1 := fun i => blk_frozen h.lst i
  have C1 := h.at k hk hp 4 (by omega)
  simp only [vcells] at C1
  obtain ⟨⟨cs2, h2⟩, hK2⟩ := h.entry k hk hp 4 (by omega) (.bool true) (setReady (e k) true) rfl
  have CW := fun i => blk_cell h2.blk i
  have FW := fun i => blk_frozen h2.blk i
  have LW := blk_lt h2.blk
  have H2 := Aside.mk (And.intro h2 hK2)
  clear h2 hK2
  go_enter Try.func32, Try.ntmps32
  go_wp2_with (first
    | (go_at_call 50; refine (is_calls h k hk).mono ?_; rw [hp]; rintro z w1 ⟨rfl, hw1⟩; obtain rfl := hw1.symm)
    | (at_builtin; refine wpList_append_own_at _ rfl _ _ 29 rfl 0 3 i0 (.int .i64 0) 1 8 Try.underlying29 hi hz0 hz1 hz2 rfl (by decide) _ q.length _ rfl (H2.out.1.row.alloc _) ⟨w.heap.size, 0, none⟩ 1 1 [.int .i64 k] rfl rfl (cell_one_at (size_set _ _ _).symm _ _) (ints_oneCell .i64 [(k : Int)]) (by unfold maxLen; omega) (by omega) (Nat.zero_le _) ?_)
    | go_in)
  intro v' w2 hown hg hnil hloc
  have hrow := row_snoc hown
  clear hown hnil
  obtain ⟨g2, n2, cap2, rfl⟩ : ∃ g2 n2 cap2, v' = .slice (some ⟨g2, 0, none⟩) n2 cap2 := row_plain hrow
  have hA := H2.out.1.below (Below.alloc (Below.refl _ _) (Nat.le_refl _) (.cells #[.int .i64 k] 3))
  have hb1 := Old.up hb H2.out.2.size
  have ht := Ref.turn hA (Old.up hb1 (by simp)) hg hrow (.inr (hloc.imp id (fun e => ⟨_, e, by simp⟩)))
  have HT := Aside.mk (And.intro ht.1 (H2.out.2.trans ((Kept.alloc (Kept.refl _ _) hb1 (.cells #[.int .i64 k] 3)).trans ht.2)))
  have hS := (hg.block R hA.lt (ne_of_own hA.R_row)).trans hA.blk
  have C2 := fun i => blk_cell hS i
  have F2 := fun i => blk_frozen hS i
  have L2 := blk_lt hS
  clear hS hA ht hloc hg hrow
  go_wp2
  go_ret
  refine ⟨by first | rfl | (simp; done), ?_⟩
  first
    | exact ⟨_, _, HT.out.1, HT.out.2⟩
    | exact ⟨⟨_, _, HT.out.1⟩, HT.out.2⟩
end
end Go.Proofs.Ytpdelhipfleniaa.RfC
