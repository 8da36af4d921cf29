/- Proved: what Remove and Add of the document's answer for the scheduler do (contracts for the laws of the scheduler). -/
import Derived.Test.YtpdelhipfleniaaRfC
namespace Go.Proofs.Ytpdelhipfleniaa.RfD
open Go.RowKit Go.Maps Go.Proofs.Ytpdelhipfleniaa.Base Go.Proofs.Ytpdelhipfleniaa.SchA Go.Proofs.Ytpdelhipfleniaa.PlB Go.Proofs.Ytpdelhipfleniaa.PlC Go.Proofs.Ytpdelhipfleniaa.PlD Go.Proofs.Ytpdelhipfleniaa.PlE Go.Proofs.Ytpdelhipfleniaa.PlF Go.Proofs.Ytpdelhipfleniaa.PlG Go.Proofs.Ytpdelhipfleniaa.PlH Go.Proofs.Ytpdelhipfleniaa.PlI Go.Proofs.Ytpdelhipfleniaa.PlJ Go.Proofs.Ytpdelhipfleniaa.PlK Go.Proofs.Ytpdelhipfleniaa.PlL Go.Proofs.Ytpdelhipfleniaa.RfA Go.Proofs.Ytpdelhipfleniaa.RfB Go.Proofs.Ytpdelhipfleniaa.RfC
set_option linter.unusedVariables false

def addP (p : Nat → Bool) (k : Nat) : Nat → Bool := fun j => if j = k then true else p j
def delP (p : Nat → Bool) (k : Nat) : Nat → Bool := fun j => if j = k then false else p j
theorem grown_none (w : World) (o : Option Nat) : w.grownBy w o := ⟨rfl, rfl, rfl, Nat.le_refl _, fun _ _ _ => rfl⟩
theorem grown_trans {a b c : World} {o : Option Nat} (h : a.grownBy b o) (k : b.grownBy c o) : a.grownBy c o :=
  ⟨k.os.trans h.os, k.tape.trans h.tape, k.output.trans h.output, Nat.le_trans h.size k.size, fun i hi ho => (k.block i (Nat.lt_of_lt_of_le hi h.size) ho).trans (h.block i hi ho)⟩
section
variable {X : Nat → Prop} {w w' W' : World} {R L : Nat} {cs : Array Value} {p : Nat → Bool} {e : Nat → V} {qv qv' : Value} {q q' : List Int} {t : Int}
theorem _root_.Go.Proofs.Ytpdelhipfleniaa.RfA.Ref.some (h : Ref X w R L cs p e qv q t) (k : Nat) (hk : k < 16) (j : Nat) (hj : j < 7) : ∃ u, w.cell? ⟨L, k * 7 + j, none⟩ = some u := by
  have h1 : k * 7 + j < cs.size := by
    have := h.size
    omega
  exact ⟨cs[k * 7 + j], (blk_cell h.lst _).trans (Array.getElem?_eq_getElem h1)⟩
theorem _root_.Go.Proofs.Ytpdelhipfleniaa.RfA.Ref.slot7 (h : Ref X w R L cs p e qv q t) (p' : Nat → Bool) (e' : Nat → V) (k : Nat) (hk : k < 16) (u0 u1 u2 u3 u4 u5 u6 : Value) (hsame : ∀ j, j ≠ k → p' j = p j ∧ e' j = e j) (hu : scells (p' k) (e' k) = [u0, u1, u2, u3, u4, u5, u6]) :
    Ref X (((((((w.setCell ⟨L, k * 7, none⟩ u0).setCell ⟨L, k * 7 + 1, none⟩ u1).setCell ⟨L, k * 7 + 2, none⟩ u2).setCell ⟨L, k * 7 + 3, none⟩ u3).setCell ⟨L, k * 7 + 4, none⟩ u4).setCell ⟨L, k * 7 + 5, none⟩ u5).setCell ⟨L, k * 7 + 6, none⟩ u6) R L
      (((((((cs.setIfInBounds (k * 7) u0).setIfInBounds (k * 7 + 1) u1).setIfInBounds (k * 7 + 2) u2).setIfInBounds (k * 7 + 3) u3).setIfInBounds (k * 7 + 4) u4).setIfInBounds (k * 7 + 5) u5).setIfInBounds (k * 7 + 6) u6) p' e' qv q t ∧
    Kept X w (((((((w.setCell ⟨L, k * 7, none⟩ u0).setCell ⟨L, k * 7 + 1, none⟩ u1).setCell ⟨L, k * 7 + 2, none⟩ u2).setCell ⟨L, k * 7 + 3, none⟩ u3).setCell ⟨L, k * 7 + 4, none⟩ u4).setCell ⟨L, k * 7 + 5, none⟩ u5).setCell ⟨L, k * 7 + 6, none⟩ u6) := by
  have hL := h.bL
  have hsz := h.size
  have hK := (((((((Kept.refl X w).setCell (p := ⟨L, k * 7, none⟩) hL u0).setCell (p := ⟨L, k * 7 + 1, none⟩) hL u1).setCell (p := ⟨L, k * 7 + 2, none⟩) hL u2).setCell (p := ⟨L, k * 7 + 3, none⟩) hL u3).setCell (p := ⟨L, k * 7 + 4, none⟩) hL u4).setCell (p := ⟨L, k * 7 + 5, none⟩) hL u5).setCell (p := ⟨L, k * 7 + 6, none⟩) hL u6
  have hgr := grown_trans (grown_trans (grown_trans (grown_trans (grown_trans (grown_trans (grown_set w ⟨L, k * 7, none⟩ u0) (grown_set _ ⟨L, k * 7 + 1, none⟩ u1)) (grown_set _ ⟨L, k * 7 + 2, none⟩ u2)) (grown_set _ ⟨L, k * 7 + 3, none⟩ u3)) (grown_set _ ⟨L, k * 7 + 4, none⟩ u4)) (grown_set _ ⟨L, k * 7 + 5, none⟩ u5)) (grown_set _ ⟨L, k * 7 + 6, none⟩ u6)
  refine ⟨⟨blk_far (blk_far (blk_far (blk_far (blk_far (blk_far (blk_far h.blk h.R_ne _) h.R_ne _) h.R_ne _) h.R_ne _) h.R_ne _) h.R_ne _) h.R_ne _, blk_put (blk_put (blk_put (blk_put (blk_put (blk_put (blk_put h.lst _ u0 rfl) _ u1 rfl) _ u2 rfl) _ u3 rfl) _ u4 rfl) _ u5 rfl) _ u6 rfl, by simpa using hsz, fun k' hk' j hj => ?_, h.row.kept hgr h.L_row, h.bR, h.bL, h.bQ⟩, hK⟩
  simp only [Array.getElem?_setIfInBounds, Array.size_setIfInBounds, hsz]
  by_cases e1 : k' = k
  · subst e1
    rw [hu]
    match j, hj with
    | 0, _ => simp; omega
    | 1, _ => simp; omega
    | 2, _ => simp; omega
    | 3, _ => simp; omega
    | 4, _ => simp; omega
    | 5, _ => simp; omega
    | 6, _ => simp; omega
  · rw [if_neg (by omega), if_neg (by omega), if_neg (by omega), if_neg (by omega), if_neg (by omega), if_neg (by omega), if_neg (by omega), (hsame k' e1).1, (hsame k' e1).2]
    exact h.slot k' hk' j hj
set_option maxHeartbeats 2000000 in
set_option maxRecDepth 100000 in
theorem rremove_calls (h : Ref X w R L cs p e qv q t) (hb : Old X w) (k : Nat) (hk : k < 16) (hp : p k = true) (hq : q.length ≤ 1000) :
    Calls Try.prog 34 #[.pointer (some ⟨R, 0, none⟩), .int .i64 k] w fun z w' => z = .returned (.int .i64 0) ∧ ∃ cs' qv', Ref X w' R L cs' (delP p k) e qv' (outr q k) t ∧ Kept X w w' := by
  go_enter Try.func34, Try.ntmps34
  go_wp2_with (first
    | (go_at_call 50; refine (is_calls h k hk).mono ?_; rw [hp]; rintro z w1 ⟨rfl, hw1⟩; obtain rfl := hw1.symm)
    | (go_at_call 39; refine (rout_calls h hb k hq).mono ?_; rintro z w2 ⟨rfl, qv', h3, hB3⟩; have C0 := fun i => blk_cell h3.blk i; have L0 := blk_lt h3.blk; have L1 := blk_lt h3.lst; have F1 := fun i => blk_frozen h3.lst i; obtain ⟨u0, D0⟩ := h3.some k hk 0 (Nat.zero_lt_succ _); rw [Nat.add_zero] at D0; obtain ⟨u1, D1⟩ := h3.some k hk 1 (of_decide_eq_true rfl); obtain ⟨u2, D2⟩ := h3.some k hk 2 (of_decide_eq_true rfl); obtain ⟨u3, D3⟩ := h3.some k hk 3 (of_decide_eq_true rfl); obtain ⟨u4, D4⟩ := h3.some k hk 4 (of_decide_eq_true rfl); obtain ⟨u5, D5⟩ := h3.some k hk 5 (of_decide_eq_true rfl); obtain ⟨u6, D6⟩ := h3.some k hk 6 (of_decide_eq_true rfl))
    | go_in)
  have hs := h3.slot7 (delP p k) e k hk (.bool false) (.int .i64 0) (.int .i64 0) (.int .i64 0) (.int .i64 0) (.bool false) (.int .i64 0) (fun j hj => ⟨if_neg hj, rfl⟩) (by rw [delP, if_pos rfl]; rfl)
  go_ret
  refine ⟨by first | rfl | (simp; done), _, _, hs.1, hB3.trans hs.2⟩

/-- May an entry be made so? -/
def okArgs (a b c : Int) : Bool := decide (0 ≤ a) && decide (a < 8) && decide (1 ≤ b) && decide (b ≤ 1024) && decide (0 ≤ c) && decide (c ≤ 100)
set_option maxHeartbeats 4000000 in
set_option maxRecDepth 100000 in
theorem radd_bad (h : Ref X w R L cs p e qv q t) (a b c : Int) (ho : okArgs a b c = false) :
    Calls Try.prog 31 #[.pointer (some ⟨R, 0, none⟩), .int .i64 a, .int .i64 b, .int .i64 c] w fun z w' => z = .returned (.tuple #[.int .i64 0, .int .i64 1]) ∧ w' = w := by
  by_cases a1 : a < 0
  · have b1 : (decide (a < 0)) = true := decide_eq_true a1
    go_enter Try.func31, Try.ntmps31
    go_wp2
    go_ret2
    exact ⟨by first | rfl | (simp; done), rfl⟩
  have b1 : (decide (a < 0)) = false := decide_eq_false a1
  by_cases a2 : 8 ≤ a
  · have b2 : (decide (8 ≤ a)) = true := decide_eq_true a2
    go_enter Try.func31, Try.ntmps31
    go_wp2
    go_ret2
    exact ⟨by first | rfl | (simp; done), rfl⟩
  have b2 : (decide (8 ≤ a)) = false := decide_eq_false a2
  by_cases a3 : b < 1
  · have b3 : (decide (b < 1)) = true := decide_eq_true a3
    go_enter Try.func31, Try.ntmps31
    go_wp2
    go_ret2
    exact ⟨by first | rfl | (simp; done), rfl⟩
  have b3 : (decide (b < 1)) = false := decide_eq_false a3
  by_cases a4 : 1024 < b
  · have b4 : (decide (1024 < b)) = true := decide_eq_true a4
    go_enter Try.func31, Try.ntmps31
    go_wp2
    go_ret2
    exact ⟨by first | rfl | (simp; done), rfl⟩
  have b4 : (decide (1024 < b)) = false := decide_eq_false a4
  by_cases a5 : c < 0
  · have b5 : (decide (c < 0)) = true := decide_eq_true a5
    go_enter Try.func31, Try.ntmps31
    go_wp2
    go_ret2
    exact ⟨by first | rfl | (simp; done), rfl⟩
  have b5 : (decide (c < 0)) = false := decide_eq_false a5
  have a6 : 100 < c := by
    simp only [okArgs, Bool.and_eq_false_iff, decide_eq_false_iff_not] at ho
    omega
  have b6 : (decide (100 < c)) = true := decide_eq_true a6
  go_enter Try.func31, Try.ntmps31
  go_wp2
  go_ret2
  exact ⟨by first | rfl | (simp; done), rfl⟩
theorem ok_args {a b c : Int} (ho : okArgs a b c = true) : (decide (a < 0)) = false ∧ (decide (8 ≤ a)) = false ∧ (decide (b < 1)) = false ∧ (decide (1024 < b)) = false ∧ (decide (c < 0)) = false ∧ (decide (100 < c)) = false := by
  simp only [okArgs, Bool.and_eq_true, decide_eq_true_eq] at ho
  exact ⟨decide_eq_false (by omega), decide_eq_false (by omega), decide_eq_false (by omega), decide_eq_false (by omega), decide_eq_false (by omega), decide_eq_false (by omega)⟩
set_option maxHeartbeats 4000000 in
set_option maxRecDepth 100000 in
theorem radd_full (h : Ref X w R L cs p e qv q t) (a b c : Int) (ho : okArgs a b c = true) (hp : ∀ k, k < 16 → p k = true) :
    Calls Try.prog 31 #[.pointer (some ⟨R, 0, none⟩), .int .i64 a, .int .i64 b, .int .i64 c] w fun z w' => z = .returned (.tuple #[.int .i64 0, .int .i64 71]) ∧ w' = w := by
  obtain ⟨b1, b2, b3, b4, b5, b6⟩ := ok_args ho
  have C0 := fun i => blk_cell h.blk i
  have L0 := blk_lt h.blk
  have L1 := blk_lt h.lst
  go_enter Try.func31, Try.ntmps31
  go_wp2
  go_loopw [10] (fun i wr => ∃ k : Nat, k ≤ 16 ∧ i = .int .i64 k ∧ wr = w) (fun i _ => 16 - (intOf i).toNat)
  case atStart => exact ⟨0, Nat.zero_le _, rfl, rfl⟩
  case round =>
    obtain ⟨k, hk, rfl, hwr⟩ := hrel
    obtain rfl := hwr.symm
    by_cases hlt : k < 16
    · have D := h.is k hlt
      rw [hp k hlt] at D
      go_wp2
      exact ⟨⟨k + 1, by omega, by simp, trivial⟩, by simp [intOf]; omega⟩
    · go_wp2
      go_ret2
      exact ⟨by first | rfl | (simp; done), rfl⟩
set_option maxHeartbeats 4000000 in
set_option maxRecDepth 100000 in
theorem radd_calls (h : Ref X w R L cs p e qv q t) (hb : Old X w) (a b c : Int) (ho : okArgs a b c = true) (n : Nat) (hn : n < 16) (hlow : ∀ k, k < n → p k = true) (hpn : p n = false) :
    Calls Try.prog 31 #[.pointer (some ⟨R, 0, none⟩), .int .i64 a, .int .i64 b, .int .i64 c] w fun z w' => z = .returned (.tuple #[.int .i64 n, .int .i64 0]) ∧
      ∃ cs', Ref X w' R L cs' (addP p n) (fun j => if j = n then ⟨a, b, c, 0, false, 0⟩ else e j) qv q t ∧ Kept X w w' := by
  obtain ⟨b1, b2, b3, b4, b5, b6⟩ := ok_args ho
  have C0 := fun i => blk_cell h.blk i
  have L0 := blk_lt h.blk
  have L1 := blk_lt h.lst
  have F1 := fun i => blk_frozen h.lst i
  go_enter Try.func31, Try.ntmps31
  go_wp2
  go_loopw [10] (fun i wr => ∃ k : Nat, k ≤ n ∧ i = .int .i64 k ∧ wr = w) (fun i _ => n - (intOf i).toNat)
  case atStart => exact ⟨0, Nat.zero_le _, rfl, rfl⟩
  case round =>
    obtain ⟨k, hk, rfl, hwr⟩ := hrel
    obtain rfl := hwr.symm
    by_cases hlt : k < n
    · have D := h.is k (by omega)
      rw [hlow k hlt] at D
      go_wp2
      exact ⟨⟨k + 1, by omega, by simp, trivial⟩, by simp [intOf]; omega⟩
    · obtain rfl : k = n := by omega
      have D := h.is k hn
      rw [hpn] at D
      obtain ⟨u1, D1⟩ := h.some k hn 1 (by omega)
      obtain ⟨u2, D2⟩ := h.some k hn 2 (by omega)
      obtain ⟨u3, D3⟩ := h.some k hn 3 (by omega)
      obtain ⟨u4, D4⟩ := h.some k hn 4 (by omega)
      obtain ⟨u5, D5⟩ := h.some k hn 5 (by omega)
      obtain ⟨u6, D6⟩ := h.some k hn 6 (by omega)
      go_wp2
      have hs := h.slot7 (addP p k) (fun j => if j = k then ⟨a, b, c, 0, false, 0⟩ else e j) k hn (.bool true) (.int .i64 a) (.int .i64 b) (.int .i64 c) (.int .i64 0) (.bool false) (.int .i64 0) (fun j hj => ⟨if_neg hj, if_neg hj⟩) (by simp only [addP, if_pos]; rfl)
      go_ret2
      refine ⟨by first | rfl | (simp; done), ?_⟩
      first
        | exact ⟨_, hs.1, hs.2⟩
        | exact ⟨⟨_, hs.1⟩, hs.2⟩
end
end Go.Proofs.Ytpdelhipfleniaa.RfD
