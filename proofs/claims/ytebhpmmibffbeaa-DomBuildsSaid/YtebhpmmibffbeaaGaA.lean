/- Proved: a machine's frames as they lie in memory, and what its small functions do (contracts for the laws of the grants). -/
import Derived.Test.YtebhpmmibffbeaaBase
import Derived.Deep.Cut
import Derived.Deep.CutRange
import Derived.Deep.CutBlock
namespace Go.Proofs.Ytebhpmmibffbeaa.GaA
open Go.RowKit Go.Proofs.Ytebhpmmibffbeaa.Base
set_option linter.unusedVariables false
set_option linter.unusedSimpArgs false

/-- What may change: the blocks of F; new blocks may be made. -/
structure Chg (F : Nat → Prop) (w w' : World) : Prop where
  os : w'.os = w.os
  tape : w'.tape = w.tape
  output : w'.output = w.output
  size : w.heap.size ≤ w'.heap.size
  block : ∀ k, k < w.heap.size → ¬ F k → w'.heap[k]? = w.heap[k]?
section
variable {F G : Nat → Prop} {w w' w'' : World}
theorem Chg.refl (F : Nat → Prop) (w : World) : Chg F w w := ⟨rfl, rfl, rfl, Nat.le_refl _, fun _ _ _ => rfl⟩
theorem Chg.trans (h : Chg F w w') (k : Chg F w' w'') : Chg F w w'' :=
  ⟨k.os.trans h.os, k.tape.trans h.tape, k.output.trans h.output, Nat.le_trans h.size k.size, fun i hi hf => (k.block i (Nat.lt_of_lt_of_le hi h.size) hf).trans (h.block i hi hf)⟩
theorem Chg.mono (h : Chg F w w') (hFG : ∀ k, F k → G k) : Chg G w w' := ⟨h.os, h.tape, h.output, h.size, fun k hk hg => h.block k hk fun hf => hg (hFG k hf)⟩
theorem Chg.below (F : Nat → Prop) (h : Below w.heap.size w w') : Chg F w w' := ⟨h.os, h.tape, h.output, h.size, fun k hk _ => h.block k hk⟩
theorem Chg.of_eq (F : Nat → Prop) (h : w' = w) : Chg F w w' := by subst h; exact Chg.refl F _
theorem Chg.alloc (h : Chg F w w') (o : Obj) : Chg F w (w'.alloc o) := h.trans (Chg.below F (below_alloc (Below.refl _ _) o))
theorem Chg.drew (h : Chg F w w') : Chg F w w'.drew := h.trans (Chg.below F ⟨rfl, rfl, rfl, Nat.le_refl _, fun _ _ => rfl⟩)
theorem Chg.drewN (h : Chg F w w') (n : Nat) : Chg F w (w'.drewN n) := h.trans (Chg.below F ⟨rfl, rfl, rfl, Nat.le_refl _, fun _ _ => rfl⟩)
theorem Chg.set (h : Chg F w w') {p : Addr} (hp : F p.block ∨ w.heap.size ≤ p.block) (u : Value) : Chg F w (w'.setCell p u) :=
  ⟨h.os, h.tape, h.output, by rw [size_set]; exact h.size, fun k hk hf => (Below.heap_setCell w' p u k (by rintro rfl; rcases hp with hp | hp; exact hf hp; omega)).trans (h.block k hk hf)⟩
/-- Behind a change of blocks that are all new since w0, w0's own are as they were. -/
theorem Chg.out {B : Nat} {w0 : World} (h : Chg F w w') (hb : Below B w0 w) (hB : B ≤ w.heap.size) (hF : ∀ k, F k → B ≤ k) : Below B w0 w' :=
  hb.trans ⟨h.os, h.tape, h.output, h.size, fun k hk => h.block k (by omega) fun hf => by have := hF k hf; omega⟩
theorem Chg.blk (h : Chg F w w') {g : Nat} {o : Obj} (hg : w.heap[g]? = some o) (hf : ¬ F g) : w'.heap[g]? = some o := (h.block g (blk_lt hg) hf).trans hg
end

/-- A frame's own words. -/
structure Fr where
  own : Int
  typ : Int
  cnt : Int
  tot : Int
/-- A machine's state. -/
structure MS where
  n : Nat
  fr : Nat → Fr
  byt : Nat → Nat → UInt8
def cellM (s : MS) (i j : Nat) : Value :=
  if j = 0 then .int .i64 (s.fr i).own else if j = 1 then .int .i64 (s.fr i).typ else if j = 2 then .int .i64 (s.fr i).cnt else if j = 3 then .int .i64 (s.fr i).tot else .int .u8 ((s.byt i (j - 4)).toNat : Int)
/-- A row of n frames of 260 cells each, cell by cell. -/
def CellsAre (cs : Array Value) (n : Nat) (f : Nat → Nat → Value) : Prop := cs.size = n * 260 ∧ ∀ i j, i < n → j < 260 → cs[i * 260 + j]? = some (f i j)
structure Mach (w : World) (mb fb : Nat) (s : MS) : Prop where
  blk : w.heap[mb]? = some (.cells #[.bool true, .slice (some ⟨fb, 0, none⟩) s.n s.n] 70 (0, 0))
  lst : ∃ cs, w.heap[fb]? = some (.cells cs 76 (0, 0)) ∧ CellsAre cs s.n (cellM s)
  few : s.n ≤ 1000
theorem CellsAre.set {cs : Array Value} {n : Nat} {f : Nat → Nat → Value} (h : CellsAre cs n f) (i j : Nat) (hi : i < n) (hj : j < 260) (v : Value) : CellsAre (cs.setIfInBounds (i * 260 + j) v) n (fun a b => if a = i ∧ b = j then v else f a b) := by
  refine ⟨by rw [Array.size_setIfInBounds]; exact h.1, fun a b ha hb => ?_⟩
  rw [Array.getElem?_setIfInBounds]
  by_cases e : i * 260 + j = a * 260 + b
  · have hab : a = i ∧ b = j := by omega
    rw [if_pos e, if_pos (by rw [h.1]; omega)]
    simp [hab]
  · have hab : ¬ (a = i ∧ b = j) := by omega
    rw [if_neg e, h.2 a b ha hb]
    simp [hab]
theorem CellsAre.of {cs : Array Value} {n : Nat} {f g : Nat → Nat → Value} (h : CellsAre cs n f) (he : ∀ i j, i < n → j < 260 → f i j = g i j) : CellsAre cs n g :=
  ⟨h.1, fun i j hi hj => by rw [h.2 i j hi hj, he i j hi hj]⟩
section
variable {w w' : World} {mb fb : Nat} {s : MS}
theorem Mach.lt (h : Mach w mb fb s) : mb < w.heap.size ∧ fb < w.heap.size := by
  obtain ⟨cs, h1, h2⟩ := h.lst
  exact ⟨blk_lt h.blk, blk_lt h1⟩
theorem Mach.ne (h : Mach w mb fb s) : mb ≠ fb := by
  rintro rfl
  obtain ⟨cs, h1, h2⟩ := h.lst
  rw [h.blk] at h1
  injection h1 with h1
  injection h1 with h1 h3
  exact absurd h3 (by decide)
theorem Mach.chg {F : Nat → Prop} (h : Mach w mb fb s) (hc : Chg F w w') (hm : ¬ F mb) (hf : ¬ F fb) : Mach w' mb fb s := by
  obtain ⟨cs, h1, h2⟩ := h.lst
  exact ⟨hc.blk h.blk hm, ⟨cs, hc.blk h1 hf, h2⟩, h.few⟩
theorem Mach.below (h : Mach w mb fb s) (hb : Below w.heap.size w w') : Mach w' mb fb s := h.chg (Chg.below (fun _ => False) hb) (fun h => h) (fun h => h)
theorem Mach.cell (h : Mach w mb fb s) (i j : Nat) (hi : i < s.n) (hj : j < 260) : w.cell? ⟨fb, i * 260 + j, none⟩ = some (cellM s i j) := by
  obtain ⟨cs, h1, h2⟩ := h.lst
  exact (blk_cell h1 _).trans (h2.2 i j hi hj)
theorem Mach.own (h : Mach w mb fb s) (i : Nat) (hi : i < s.n) : w.cell? ⟨fb, i * 260, none⟩ = some (.int .i64 (s.fr i).own) := by
  have := h.cell i 0 hi (by decide)
  simpa [cellM] using this
theorem Mach.typ (h : Mach w mb fb s) (i : Nat) (hi : i < s.n) : w.cell? ⟨fb, i * 260 + 1, none⟩ = some (.int .i64 (s.fr i).typ) := by
  have := h.cell i 1 hi (by decide)
  simpa [cellM] using this
theorem Mach.cnt (h : Mach w mb fb s) (i : Nat) (hi : i < s.n) : w.cell? ⟨fb, i * 260 + 2, none⟩ = some (.int .i64 (s.fr i).cnt) := by
  have := h.cell i 2 hi (by decide)
  simpa [cellM] using this
theorem Mach.tot (h : Mach w mb fb s) (i : Nat) (hi : i < s.n) : w.cell? ⟨fb, i * 260 + 3, none⟩ = some (.int .i64 (s.fr i).tot) := by
  have := h.cell i 3 hi (by decide)
  simpa [cellM] using this
theorem Mach.byte (h : Mach w mb fb s) (i j : Nat) (hi : i < s.n) (hj : j < 256) : w.cell? ⟨fb, i * 260 + (4 + j), none⟩ = some (.int .u8 ((s.byt i j).toNat : Int)) := by
  have := h.cell i (4 + j) hi (by omega)
  rw [this]
  unfold cellM
  rw [if_neg (by omega), if_neg (by omega), if_neg (by omega), if_neg (by omega), show 4 + j - 4 = j by omega]
theorem Mach.frozen (h : Mach w mb fb s) (i : Nat) : w.frozen? ⟨fb, i, none⟩ = false := by
  obtain ⟨cs, h1, h2⟩ := h.lst
  exact blk_frozen h1 i
set_option maxHeartbeats 2000000 in
set_option maxRecDepth 100000 in
theorem none_calls (h : Mach w mb fb s) : Calls Try.prog 29 #[.pointer (some ⟨mb, 0, none⟩)] w fun e w' => e = .returned (.bool false) ∧ w' = w := by
  have C0 := fun i => blk_cell h.blk i
  have L0 := blk_lt h.blk
  clear h
  go_enter Try.func29, Try.ntmps29
  go_wp2
  go_ret
  exact ⟨by first | rfl | (simp; done), rfl⟩
set_option maxHeartbeats 2000000 in
set_option maxRecDepth 100000 in
theorem size_calls (h : Mach w mb fb s) : Calls Try.prog 32 #[.pointer (some ⟨mb, 0, none⟩)] w fun e w' => e = .returned (.int .i64 s.n) ∧ w' = w := by
  have C0 := fun i => blk_cell h.blk i
  have L0 := blk_lt h.blk
  have hn := none_calls h
  clear h
  go_enter Try.func32, Try.ntmps32
  go_wp2_with (first
    | (go_at_call 29; refine hn.mono ?_; rintro z w1 ⟨rfl, hw1⟩; obtain rfl := hw1.symm)
    | go_in)
  go_ret
  exact ⟨by first | rfl | (simp; done), rfl⟩
set_option maxHeartbeats 2000000 in
set_option maxRecDepth 100000 in
theorem at_calls (h : Mach w mb fb s) (k : Nat) (hk : k < s.n) : Calls Try.prog 43 #[.pointer (some ⟨mb, 0, none⟩), .int .i64 k] w fun e w' => e = .returned (.tuple #[.pointer (some ⟨fb, k * 260, none⟩), .int .i64 0]) ∧ w' = w := by
  have C0 := fun i => blk_cell h.blk i
  have L0 := blk_lt h.blk
  have hn := none_calls h
  have k0 : decide ((k : Int) < 0) = false := decide_eq_false (by omega)
  have k1 : decide ((s.n : Int) ≤ (k : Int)) = false := decide_eq_false (by omega)
  have k2 : (0 : Int) ≤ (k : Int) := Int.natCast_nonneg _
  have k3 : (k : Int) < (s.n : Int) := by omega
  have L1 := h.lt.2
  clear h
  go_enter Try.func43, Try.ntmps43
  go_wp2_with (first
    | (go_at_call 29; refine hn.mono ?_; rintro z w1 ⟨rfl, hw1⟩; obtain rfl := hw1.symm)
    | go_in)
  go_ret2
  exact ⟨by first | rfl | (simp; done), rfl⟩
set_option maxHeartbeats 2000000 in
set_option maxRecDepth 100000 in
theorem at_out (h : Mach w mb fb s) (k : Int) (hk : k < 0 ∨ (s.n : Int) ≤ k) : Calls Try.prog 43 #[.pointer (some ⟨mb, 0, none⟩), .int .i64 k] w fun e w' => e = .returned (.tuple #[.pointer none, .int .i64 1]) ∧ w' = w := by
  have C0 := fun i => blk_cell h.blk i
  have L0 := blk_lt h.blk
  have hn := none_calls h
  clear h
  by_cases h0 : k < 0
  · have k0 : decide (k < 0) = true := decide_eq_true h0
    clear hk h0
    go_enter Try.func43, Try.ntmps43
    go_wp2_with (first
      | (go_at_call 29; refine hn.mono ?_; rintro z w1 ⟨rfl, hw1⟩; obtain rfl := hw1.symm)
      | go_in)
    go_ret2
    exact ⟨by first | rfl | (simp; done), rfl⟩
  · have k0 : decide (k < 0) = false := decide_eq_false h0
    have k1 : decide ((s.n : Int) ≤ k) = true := decide_eq_true (by omega)
    clear hk h0
    go_enter Try.func43, Try.ntmps43
    go_wp2_with (first
      | (go_at_call 29; refine hn.mono ?_; rintro z w1 ⟨rfl, hw1⟩; obtain rfl := hw1.symm)
      | go_in)
    go_ret2
    exact ⟨by first | rfl | (simp; done), rfl⟩
end
end Go.Proofs.Ytebhpmmibffbeaa.GaA
