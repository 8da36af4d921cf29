/- Proved: small lemmas on worlds and blocks, for the walks of this seat (no statement of the program). Proved: a machine's frames as they lie in memory, and what its small functions do (contracts for the laws of the grants). Proved: what a machine's Frame, Get, Put do (contracts for the laws of the grants). Proved: what a machine's Read and Write do (contracts for the laws of the grants). -/
import Derived.Test.YthlejchcnfdcpaaGreatRows
import Derived.WalkKit
import Derived.WalkSpells
import Derived.WalkLawsBesides
import Derived.ProofKit
import Derived.Below
import Derived.BigQuiet
import Derived.BigRegion
import Derived.Deep.QuietTactic
import Derived.Deep.RegionHeld3
import Derived.Laws.Pointers
import Derived.Laws.BitsLemmas
import Derived.Deep.LoopGhost
import Derived.Deep.Cut
import Derived.Deep.CutRange
import Derived.Deep.CutBlock
import Derived.Laws.CopyOwn
import Derived.Laws.CopyRow
import Derived.Deep.WholeRow
namespace Go.Proofs.YthlejchcnfdcpaaGreat.Base
open Go.RowKit

/-- A fact that the walk does not see. -/
structure Aside (p : Prop) : Prop where
  out : p

/-- The walk goes on in any world of which the named facts hold. -/
theorem wp_world {P : Program} {c : Code} {Q : Exit → Act → World → Prop} {a : Act} {w : World} (φ : World → Prop) (h : φ w) (k : ∀ W, φ W → Code.wp P c Q a W) : Code.wp P c Q a w := k w h
theorem next_world {K : Act → World → Prop} {a : Act} {w : World} (φ : World → Prop) (h : φ w) (k : ∀ W, φ W → K a W) : K a w := k w h

section
variable {w W w1 w2 : World} {g : Nat} {o : Obj} {t : TypeId} {cs cs' : Array Value}
theorem blk_lt (h : w.heap[g]? = some o) : g < w.heap.size := (Array.getElem?_eq_some_iff.1 h).1
theorem blk_new (w : World) (o : Obj) : (w.alloc o).heap[w.heap.size]? = some o := by
  show (w.heap.push o)[w.heap.size]? = some o
  simp
theorem blk_newest (h : g = w.heap.size) (o : Obj) : (w.alloc o).heap[g]? = some o := by subst h; exact blk_new w o
theorem blk_alloc (h : w.heap[g]? = some o) (o' : Obj) : (w.alloc o').heap[g]? = some o := (Below.heap_alloc w o' g (blk_lt h)).trans h
theorem blk_drew (h : w.heap[g]? = some o) : w.drew.heap[g]? = some o := h
theorem blk_drewN (h : w.heap[g]? = some o) (n : Nat) : (w.drewN n).heap[g]? = some o := h
theorem blk_below {B : Nat} (h : w.heap[g]? = some o) (hB : g < B) (hb : Below B w w1) : w1.heap[g]? = some o := (hb.block g hB).trans h
theorem blk_cell (h : w.heap[g]? = some (.cells cs t (0, 0))) (i : Nat) : w.cell? ⟨g, i, none⟩ = cs[i]? := cell_of_row w g i cs t (0, 0) h
theorem blk_frozen (h : w.heap[g]? = some (.cells cs t (0, 0))) (i : Nat) : w.frozen? ⟨g, i, none⟩ = false := by simp [World.frozen?, h]
theorem blk_far (h : w.heap[g]? = some o) {p : Addr} (hp : g ≠ p.block) (u : Value) : (w.setCell p u).heap[g]? = some o := (Below.heap_setCell w p u g hp).trans h
theorem blk_put (h : w.heap[g]? = some (.cells cs t (0, 0))) (i : Nat) (u : Value) (e : cs.setIfInBounds i u = cs') : (w.setCell ⟨g, i, none⟩ u).heap[g]? = some (.cells cs' t (0, 0)) := by
  subst e
  show (w.heap.modify g _)[g]? = _
  rw [Array.getElem?_modify, if_pos rfl, h]
  rfl
theorem size_set (w : World) (p : Addr) (u : Value) : (w.setCell p u).heap.size = w.heap.size := by simp [World.setCell]
theorem below_alloc (h : Below w.heap.size w W) (o : Obj) : Below w.heap.size w (W.alloc o) := h.alloc h.size o
theorem below_drew (h : Below w.heap.size w W) : Below w.heap.size w W.drew := h.drew
theorem below_drewN (h : Below w.heap.size w W) (n : Nat) : Below w.heap.size w (W.drewN n) := ⟨h.os, h.tape, h.output, h.size, h.block⟩
theorem below_set {p : Addr} (h : Below w.heap.size w W) (hp : w.heap.size ≤ p.block) (u : Value) : Below w.heap.size w (W.setCell p u) := h.setCell hp u
theorem below_step (h : Below w.heap.size w W) (k : Below W.heap.size W w2) : Below w.heap.size w w2 := h.trans (k.mono h.size)
theorem cell_below (hb : Below w.heap.size w w1) {a : Addr} {v : Value} (hc : w.cell? a = some v) : w1.cell? a = some v := (hb.cell (World.block_lt_of_cell? w a hc)).trans hc
end
/-- A whole struct or array is stored into a block of its own: the block holds its cells. -/
theorem wpList_store_row {P : Program} {ops : Array Oper} {rest : List Oper} {o : Oper} {a : Act} {w : World} {Q : Exit → Act → World → Prop} (hgd : o.guard = none) (hdst : o.dst = none) (ty : TypeId) (x y : Operand) (ho : o.op = .store ty x y)
    (g : Nat) (hx : a.eval x = .pointer (some ⟨g, 0, none⟩)) (cells : Array Value) (hy : a.eval y = .agg cells) (t : TypeId) (old : Array Value) (hg : w.heap[g]? = some (.cells old t (0, 0)))
    (hi : (P.info? ty).map (·.size) = some cells.size) (hs : old.size = cells.size) (h1 : cells.all (·.oneCell') = true)
    (h : ∀ W, W.heap[g]? = some (.cells cells t (0, 0)) → W.heap.size = w.heap.size → (∀ k, k ≠ g → W.heap[k]? = w.heap[k]?) → (∀ B, B ≤ g → Below B w W) → wpList P ops Q rest a W) : wpList P ops Q (o :: rest) a w := by
  refine wpList_plain hgd fun K hK => ?_
  unfold Oper.wp execOp
  have hrun := run_storeVar_row (P := P) w g t ty old cells hg hi hs h1
  simp only [ho, hx, hy, Instr.storeAt, Instr.sureAddr, Sem.run_bind, Sem.run_pure, Result.andThen_ok, hrun]
  refine hK _ _ ?_
  rw [hdst]
  exact (h (w.setRow g cells) (setRow_heap w g old cells t (0, 0) hg) (by simp [World.setRow]) (fun k hk => setRow_other w g k cells hk) (fun B hB => ⟨rfl, rfl, rfl, by simp [World.setRow], fun k hk => setRow_other w g k cells (by omega)⟩))
end Go.Proofs.YthlejchcnfdcpaaGreat.Base
namespace Go.Proofs.YthlejchcnfdcpaaGreat.GaA
open Go.RowKit Base
set_option linter.unusedVariables false
set_option linter.unusedSimpArgs false

/-- What may change: the blocks of F; new blocks may be made. -/
structure Chg (F : Nat → Prop) (w w' : World) : Prop where
  os : w'.os = w.os
  tape : w'.tape = w.tape
  output : w'.output = w.output
  size : w.heap.size ≤ w'.heap.size
  block : ∀ k, k < w.heap.size → ¬ F k → w'.heap[k]? = w.heap[k]?
section
variable {F G : Nat → Prop} {w w' w'' : World}
theorem Chg.refl (F : Nat → Prop) (w : World) : Chg F w w := ⟨rfl, rfl, rfl, Nat.le_refl _, fun _ _ _ => rfl⟩
theorem Chg.trans (h : Chg F w w') (k : Chg F w' w'') : Chg F w w'' :=
  ⟨k.os.trans h.os, k.tape.trans h.tape, k.output.trans h.output, Nat.le_trans h.size k.size, fun i hi hf => (k.block i (Nat.lt_of_lt_of_le hi h.size) hf).trans (h.block i hi hf)⟩
theorem Chg.mono (h : Chg F w w') (hFG : ∀ k, F k → G k) : Chg G w w' := ⟨h.os, h.tape, h.output, h.size, fun k hk hg => h.block k hk fun hf => hg (hFG k hf)⟩
theorem Chg.below (F : Nat → Prop) (h : Below w.heap.size w w') : Chg F w w' := ⟨h.os, h.tape, h.output, h.size, fun k hk _ => h.block k hk⟩
theorem Chg.of_eq (F : Nat → Prop) (h : w' = w) : Chg F w w' := by subst h; exact Chg.refl F _
theorem Chg.alloc (h : Chg F w w') (o : Obj) : Chg F w (w'.alloc o) := h.trans (Chg.below F (below_alloc (Below.refl _ _) o))
theorem Chg.drew (h : Chg F w w') : Chg F w w'.drew := h.trans (Chg.below F ⟨rfl, rfl, rfl, Nat.le_refl _, fun _ _ => rfl⟩)
theorem Chg.drewN (h : Chg F w w') (n : Nat) : Chg F w (w'.drewN n) := h.trans (Chg.below F ⟨rfl, rfl, rfl, Nat.le_refl _, fun _ _ => rfl⟩)
theorem Chg.set (h : Chg F w w') {p : Addr} (hp : F p.block ∨ w.heap.size ≤ p.block) (u : Value) : Chg F w (w'.setCell p u) :=
  ⟨h.os, h.tape, h.output, by rw [size_set]; exact h.size, fun k hk hf => (Below.heap_setCell w' p u k (by rintro rfl; rcases hp with hp | hp; exact hf hp; omega)).trans (h.block k hk hf)⟩
/-- Behind a change of blocks that are all new since w0, w0's own are as they were. -/
theorem Chg.out {B : Nat} {w0 : World} (h : Chg F w w') (hb : Below B w0 w) (hB : B ≤ w.heap.size) (hF : ∀ k, F k → B ≤ k) : Below B w0 w' :=
  hb.trans ⟨h.os, h.tape, h.output, h.size, fun k hk => h.block k (by omega) fun hf => by have := hF k hf; omega⟩
theorem Chg.blk (h : Chg F w w') {g : Nat} {o : Obj} (hg : w.heap[g]? = some o) (hf : ¬ F g) : w'.heap[g]? = some o := (h.block g (blk_lt hg) hf).trans hg
end

/-- A frame's own words. -/
structure Fr where
  own : Int
  typ : Int
  cnt : Int
  tot : Int
/-- A machine's state. -/
structure MS where
  n : Nat
  fr : Nat → Fr
  byt : Nat → Nat → UInt8
def cellM (s : MS) (i j : Nat) : Value :=
  if j = 0 then .int .i64 (s.fr i).own else if j = 1 then .int .i64 (s.fr i).typ else if j = 2 then .int .i64 (s.fr i).cnt else if j = 3 then .int .i64 (s.fr i).tot else .int .u8 ((s.byt i (j - 4)).toNat : Int)
/-- A row of n frames of 260 cells each, cell by cell. -/
def CellsAre (cs : Array Value) (n : Nat) (f : Nat → Nat → Value) : Prop := cs.size = n * 260 ∧ ∀ i j, i < n → j < 260 → cs[i * 260 + j]? = some (f i j)
structure Mach (w : World) (mb fb : Nat) (s : MS) : Prop where
  blk : w.heap[mb]? = some (.cells #[.bool true, .slice (some ⟨fb, 0, none⟩) s.n s.n] 109 (0, 0))
  lst : ∃ cs, w.heap[fb]? = some (.cells cs 113 (0, 0)) ∧ CellsAre cs s.n (cellM s)
  few : s.n ≤ 1000
theorem CellsAre.set {cs : Array Value} {n : Nat} {f : Nat → Nat → Value} (h : CellsAre cs n f) (i j : Nat) (hi : i < n) (hj : j < 260) (v : Value) : CellsAre (cs.setIfInBounds (i * 260 + j) v) n (fun a b => if a = i ∧ b = j then v else f a b) := by
  refine ⟨by rw [Array.size_setIfInBounds]; exact h.1, fun a b ha hb => ?_⟩
  rw [Array.getElem?_setIfInBounds]
  by_cases e : i * 260 + j = a * 260 + b
  · have hab : a = i ∧ b = j := by omega
    rw [if_pos e, if_pos (by rw [h.1]; omega)]
    simp [hab]
  · have hab : ¬ (a = i ∧ b = j) := by omega
    rw [if_neg e, h.2 a b ha hb]
    simp [hab]
theorem CellsAre.of {cs : Array Value} {n : Nat} {f g : Nat → Nat → Value} (h : CellsAre cs n f) (he : ∀ i j, i < n → j < 260 → f i j = g i j) : CellsAre cs n g :=
  ⟨h.1, fun i j hi hj => by rw [h.2 i j hi hj, he i j hi hj]⟩
section
variable {w w' : World} {mb fb : Nat} {s : MS}
theorem Mach.lt (h : Mach w mb fb s) : mb < w.heap.size ∧ fb < w.heap.size := by
  obtain ⟨cs, h1, h2⟩ := h.lst
  exact ⟨blk_lt h.blk, blk_lt h1⟩
theorem Mach.ne (h : Mach w mb fb s) : mb ≠ fb := by
  rintro rfl
  obtain ⟨cs, h1, h2⟩ := h.lst
  rw [h.blk] at h1
  injection h1 with h1
  injection h1 with h1 h3
  exact absurd h3 (by decide)
theorem Mach.chg {F : Nat → Prop} (h : Mach w mb fb s) (hc : Chg F w w') (hm : ¬ F mb) (hf : ¬ F fb) : Mach w' mb fb s := by
  obtain ⟨cs, h1, h2⟩ := h.lst
  exact ⟨hc.blk h.blk hm, ⟨cs, hc.blk h1 hf, h2⟩, h.few⟩
theorem Mach.below (h : Mach w mb fb s) (hb : Below w.heap.size w w') : Mach w' mb fb s := h.chg (Chg.below (fun _ => False) hb) (fun h => h) (fun h => h)
theorem Mach.cell (h : Mach w mb fb s) (i j : Nat) (hi : i < s.n) (hj : j < 260) : w.cell? ⟨fb, i * 260 + j, none⟩ = some (cellM s i j) := by
  obtain ⟨cs, h1, h2⟩ := h.lst
  exact (blk_cell h1 _).trans (h2.2 i j hi hj)
theorem Mach.own (h : Mach w mb fb s) (i : Nat) (hi : i < s.n) : w.cell? ⟨fb, i * 260, none⟩ = some (.int .i64 (s.fr i).own) := by
  have := h.cell i 0 hi (by decide)
  simpa [cellM] using this
theorem Mach.typ (h : Mach w mb fb s) (i : Nat) (hi : i < s.n) : w.cell? ⟨fb, i * 260 + 1, none⟩ = some (.int .i64 (s.fr i).typ) := by
  have := h.cell i 1 hi (by decide)
  simpa [cellM] using this
theorem Mach.cnt (h : Mach w mb fb s) (i : Nat) (hi : i < s.n) : w.cell? ⟨fb, i * 260 + 2, none⟩ = some (.int .i64 (s.fr i).cnt) := by
  have := h.cell i 2 hi (by decide)
  simpa [cellM] using this
theorem Mach.tot (h : Mach w mb fb s) (i : Nat) (hi : i < s.n) : w.cell? ⟨fb, i * 260 + 3, none⟩ = some (.int .i64 (s.fr i).tot) := by
  have := h.cell i 3 hi (by decide)
  simpa [cellM] using this
theorem Mach.byte (h : Mach w mb fb s) (i j : Nat) (hi : i < s.n) (hj : j < 256) : w.cell? ⟨fb, i * 260 + (4 + j), none⟩ = some (.int .u8 ((s.byt i j).toNat : Int)) := by
  have := h.cell i (4 + j) hi (by omega)
  rw [this]
  unfold cellM
  rw [if_neg (by omega), if_neg (by omega), if_neg (by omega), if_neg (by omega), show 4 + j - 4 = j by omega]
theorem Mach.frozen (h : Mach w mb fb s) (i : Nat) : w.frozen? ⟨fb, i, none⟩ = false := by
  obtain ⟨cs, h1, h2⟩ := h.lst
  exact blk_frozen h1 i
set_option maxHeartbeats 2000000 in
set_option maxRecDepth 100000 in
theorem none_calls (h : Mach w mb fb s) : Calls Tryz.prog 45 #[.pointer (some ⟨mb, 0, none⟩)] w fun e w' => e = .returned (.bool false) ∧ w' = w := by
  have C0 := fun i => blk_cell h.blk i
  have L0 := blk_lt h.blk
  clear h
  go_enter Tryz.func45, Tryz.ntmps45
  go_wp2
  go_ret
  exact ⟨by first | rfl | (simp; done), rfl⟩
set_option maxHeartbeats 2000000 in
set_option maxRecDepth 100000 in
theorem size_calls (h : Mach w mb fb s) : Calls Tryz.prog 44 #[.pointer (some ⟨mb, 0, none⟩)] w fun e w' => e = .returned (.int .i64 s.n) ∧ w' = w := by
  have C0 := fun i => blk_cell h.blk i
  have L0 := blk_lt h.blk
  have hn := none_calls h
  clear h
  go_enter Tryz.func44, Tryz.ntmps44
  go_wp2_with (first
    | (go_at_call 45; refine hn.mono ?_; rintro z w1 ⟨rfl, hw1⟩; obtain rfl := hw1.symm)
    | go_in)
  go_ret
  exact ⟨by first | rfl | (simp; done), rfl⟩
set_option maxHeartbeats 2000000 in
set_option maxRecDepth 100000 in
theorem at_calls (h : Mach w mb fb s) (k : Nat) (hk : k < s.n) : Calls Tryz.prog 90 #[.pointer (some ⟨mb, 0, none⟩), .int .i64 k] w fun e w' => e = .returned (.tuple #[.pointer (some ⟨fb, k * 260, none⟩), .int .i64 0]) ∧ w' = w := by
  have C0 := fun i => blk_cell h.blk i
  have L0 := blk_lt h.blk
  have hn := none_calls h
  have k0 : decide ((k : Int) < 0) = false := decide_eq_false (by omega)
  have k1 : decide ((s.n : Int) ≤ (k : Int)) = false := decide_eq_false (by omega)
  have k2 : (0 : Int) ≤ (k : Int) := Int.natCast_nonneg _
  have k3 : (k : Int) < (s.n : Int) := by omega
  have L1 := h.lt.2
  clear h
  go_enter Tryz.func90, Tryz.ntmps90
  go_wp2_with (first
    | (go_at_call 45; refine hn.mono ?_; rintro z w1 ⟨rfl, hw1⟩; obtain rfl := hw1.symm)
    | go_in)
  go_ret2
  exact ⟨by first | rfl | (simp; done), rfl⟩
set_option maxHeartbeats 2000000 in
set_option maxRecDepth 100000 in
theorem at_out (h : Mach w mb fb s) (k : Int) (hk : k < 0 ∨ (s.n : Int) ≤ k) : Calls Tryz.prog 90 #[.pointer (some ⟨mb, 0, none⟩), .int .i64 k] w fun e w' => e = .returned (.tuple #[.pointer none, .int .i64 1]) ∧ w' = w := by
  have C0 := fun i => blk_cell h.blk i
  have L0 := blk_lt h.blk
  have hn := none_calls h
  clear h
  by_cases h0 : k < 0
  · have k0 : decide (k < 0) = true := decide_eq_true h0
    clear hk h0
    go_enter Tryz.func90, Tryz.ntmps90
    go_wp2_with (first
      | (go_at_call 45; refine hn.mono ?_; rintro z w1 ⟨rfl, hw1⟩; obtain rfl := hw1.symm)
      | go_in)
    go_ret2
    exact ⟨by first | rfl | (simp; done), rfl⟩
  · have k0 : decide (k < 0) = false := decide_eq_false h0
    have k1 : decide ((s.n : Int) ≤ k) = true := decide_eq_true (by omega)
    clear hk h0
    go_enter Tryz.func90, Tryz.ntmps90
    go_wp2_with (first
      | (go_at_call 45; refine hn.mono ?_; rintro z w1 ⟨rfl, hw1⟩; obtain rfl := hw1.symm)
      | go_in)
    go_ret2
    exact ⟨by first | rfl | (simp; done), rfl⟩
end
end Go.Proofs.YthlejchcnfdcpaaGreat.GaA
namespace Go.Proofs.YthlejchcnfdcpaaGreat.GaB
open Go.RowKit Base GaA
set_option linter.unusedVariables false
set_option linter.unusedSimpArgs false

def MS.put1 (s : MS) (k : Nat) (f : Fr) : MS := { s with fr := fun i => if i = k then f else s.fr i }
def getE (f : Fr) (owner kind : Int) : Int := if f.own = -1 then 11 else if f.own ≠ owner then 12 else if kind ≠ 0 ∧ f.typ ≠ 0 ∧ f.typ ≠ kind then 13 else 0
def getF (f : Fr) (kind : Int) : Fr := if kind = 0 then ⟨f.own, f.typ, f.cnt, f.tot + 1⟩ else ⟨f.own, kind, f.cnt + 1, f.tot + 1⟩
def getS (s : MS) (k : Nat) (owner kind : Int) : MS := if getE (s.fr k) owner kind = 0 then MS.put1 s k (getF (s.fr k) kind) else s
/-- How many references there are: far from what an int holds. -/
def Fr.few (f : Fr) : Prop := -1000000000 ≤ f.cnt ∧ f.cnt ≤ 1000000000 ∧ -1000000000 ≤ f.tot ∧ f.tot ≤ 1000000000
section
variable {w w' : World} {mb fb : Nat} {s : MS}
theorem cells_put1 {cs : Array Value} {n k : Nat} {f g : Nat → Nat → Value} (h : CellsAre cs n f) (h2 : ∀ i j, i < n → j < 260 → f i j = g i j) : CellsAre cs n g := h.of h2
set_option maxHeartbeats 2000000 in
set_option maxRecDepth 100000 in
theorem frame_calls (h : Mach w mb fb s) (k : Nat) (hk : k < s.n) : Calls Tryz.prog 36 #[.pointer (some ⟨mb, 0, none⟩), .int .i64 k] w fun e w' =>
    e = .returned (.tuple #[.agg #[.int .i64 (s.fr k).own, .int .i64 (s.fr k).typ, .int .i64 (s.fr k).cnt, .int .i64 (s.fr k).tot], .int .i64 0]) ∧ Below w.heap.size w w' := by
  have hb0 := below_alloc (Below.refl w.heap.size w) (.cells #[.int .i64 0, .int .i64 0, .int .i64 0, .int .i64 0] 95)
  have h1 := h.below hb0
  have ha := at_calls h1 k hk
  have c0 := h1.own k hk
  have c1 := h1.typ k hk
  have c2 := h1.cnt k hk
  have c3 := h1.tot k hk
  have L1 := h1.lt.2
  clear hb0 h1 h
  go_enter Tryz.func36, Tryz.ntmps36
  go_wp2_with (first
    | (go_at_call 90; refine ha.mono ?_; rintro z w1 ⟨rfl, hw1⟩; obtain rfl := hw1.symm)
    | go_in)
  refine bodyPost_ret (v := .tuple #[.agg #[.int .i64 (s.fr k).own, .int .i64 (s.fr k).typ, .int .i64 (s.fr k).cnt, .int .i64 (s.fr k).tot], .int .i64 0]) ?_ rfl ⟨rfl, ?_⟩
  · simp only [results, Tryz.results36]; go_simp
  · exact below_alloc (Below.refl w.heap.size w) _
set_option maxHeartbeats 2000000 in
set_option maxRecDepth 100000 in
theorem frame_out (h : Mach w mb fb s) (k : Int) (hk : k < 0 ∨ (s.n : Int) ≤ k) : Calls Tryz.prog 36 #[.pointer (some ⟨mb, 0, none⟩), .int .i64 k] w fun e w' =>
    e = .returned (.tuple #[.agg #[.int .i64 0, .int .i64 0, .int .i64 0, .int .i64 0], .int .i64 1]) ∧ Below w.heap.size w w' := by
  have hb0 := below_alloc (Below.refl w.heap.size w) (.cells #[.int .i64 0, .int .i64 0, .int .i64 0, .int .i64 0] 95)
  have ha := at_out (h.below hb0) k hk
  clear hb0 h
  go_enter Tryz.func36, Tryz.ntmps36
  go_wp2_with (first
    | (go_at_call 90; refine ha.mono ?_; rintro z w1 ⟨rfl, hw1⟩; obtain rfl := hw1.symm)
    | go_in)
  refine bodyPost_ret (v := .tuple #[.agg #[.int .i64 0, .int .i64 0, .int .i64 0, .int .i64 0], .int .i64 1]) ?_ rfl ⟨rfl, ?_⟩
  · simp only [results, Tryz.results36]; go_simp
  · exact below_alloc (Below.refl w.heap.size w) _
set_option maxHeartbeats 2000000 in
set_option maxRecDepth 100000 in
theorem kinds_calls (h : Mach w mb fb s) (k : Nat) (hk : k < s.n) (kind : Int) (h0 : 0 ≤ kind) (h3 : kind ≤ 3) : Calls Tryz.prog 95 #[.pointer (some ⟨mb, 0, none⟩), .int .i64 k, .int .i64 kind] w fun e w' => e = .returned (.tuple #[.pointer (some ⟨fb, k * 260, none⟩), .int .i64 0]) ∧ w' = w := by
  have ha := at_calls h k hk
  have d0 : decide (kind < 0) = false := decide_eq_false (by omega)
  have d1 : decide (3 < kind) = false := decide_eq_false (by omega)
  clear h
  go_enter Tryz.func95, Tryz.ntmps95
  go_wp2_with (first
    | (go_at_call 90; refine ha.mono ?_; rintro z w1 ⟨rfl, hw1⟩; obtain rfl := hw1.symm)
    | go_in)
  go_ret2
  exact ⟨by first | rfl | (simp; done), rfl⟩
set_option maxHeartbeats 2000000 in
set_option maxRecDepth 100000 in
theorem kinds_out (h : Mach w mb fb s) (k : Int) (hk : k < 0 ∨ (s.n : Int) ≤ k) (kind : Int) : Calls Tryz.prog 95 #[.pointer (some ⟨mb, 0, none⟩), .int .i64 k, .int .i64 kind] w fun e w' => e = .returned (.tuple #[.pointer none, .int .i64 1]) ∧ w' = w := by
  have ha := at_out h k hk
  clear h
  go_enter Tryz.func95, Tryz.ntmps95
  go_wp2_with (first
    | (go_at_call 90; refine ha.mono ?_; rintro z w1 ⟨rfl, hw1⟩; obtain rfl := hw1.symm)
    | go_in)
  go_ret2
  exact ⟨by first | rfl | (simp; done), rfl⟩
theorem put1_cells {cs : Array Value} {n k : Nat} (hk : k < n) {s : MS} (hn : s.n = n) (f : Fr) {v1 v2 v3 : Value} (h : CellsAre cs n (cellM s)) (e0 : f.own = (s.fr k).own) :
    CellsAre (((cs.setIfInBounds (k * 260 + 3) (.int .i64 f.tot)).setIfInBounds (k * 260 + 1) (.int .i64 f.typ)).setIfInBounds (k * 260 + 2) (.int .i64 f.cnt)) n (cellM (MS.put1 s k f)) := by
  refine (((h.set k 3 hk (by decide) _).set k 1 hk (by decide) _).set k 2 hk (by decide) _).of fun i j hi hj => ?_
  unfold cellM MS.put1
  by_cases hik : i = k
  · subst hik
    by_cases j0 : j = 0
    · subst j0
      simp [e0]
    · by_cases j1 : j = 1
      · subst j1
        simp
      · by_cases j2 : j = 2
        · subst j2
          simp
        · by_cases j3 : j = 3
          · subst j3
            simp
          · simp [j0, j1, j2, j3]
  · simp [hik]
theorem put1_tot {cs : Array Value} {n k : Nat} (hk : k < n) {s : MS} (h : CellsAre cs n (cellM s)) (t : Int) :
    CellsAre (cs.setIfInBounds (k * 260 + 3) (.int .i64 t)) n (cellM (MS.put1 s k ⟨(s.fr k).own, (s.fr k).typ, (s.fr k).cnt, t⟩)) := by
  refine (h.set k 3 hk (by decide) _).of fun i j hi hj => ?_
  unfold cellM MS.put1
  by_cases hik : i = k
  · subst hik
    by_cases j0 : j = 0
    · subst j0
      simp
    · by_cases j1 : j = 1
      · subst j1
        simp
      · by_cases j2 : j = 2
        · subst j2
          simp
        · by_cases j3 : j = 3
          · subst j3
            simp
          · simp [j0, j1, j2, j3]
  · simp [hik]
theorem chg_fb {W : World} (h : Chg (fun x => x = fb) w W) (i : Nat) (u : Value) : Chg (fun x => x = fb) w (W.setCell ⟨fb, i, none⟩ u) := h.set (p := ⟨fb, i, none⟩) (.inl rfl) u
theorem mach_tot (h : Mach w mb fb s) (k : Nat) (hk : k < s.n) (t : Int) : Mach (w.setCell ⟨fb, k * 260 + 3, none⟩ (.int .i64 t)) mb fb (MS.put1 s k ⟨(s.fr k).own, (s.fr k).typ, (s.fr k).cnt, t⟩) := by
  obtain ⟨cs, h1, h2⟩ := h.lst
  exact ⟨blk_far h.blk h.ne _, ⟨_, blk_put h1 _ _ rfl, put1_tot hk h2 t⟩, h.few⟩
theorem mach_three (h : Mach w mb fb s) (k : Nat) (hk : k < s.n) (y c t : Int) : Mach (((w.setCell ⟨fb, k * 260 + 3, none⟩ (.int .i64 t)).setCell ⟨fb, k * 260 + 1, none⟩ (.int .i64 y)).setCell ⟨fb, k * 260 + 2, none⟩ (.int .i64 c)) mb fb (MS.put1 s k ⟨(s.fr k).own, y, c, t⟩) := by
  obtain ⟨cs, h1, h2⟩ := h.lst
  exact ⟨blk_far (blk_far (blk_far h.blk h.ne _) h.ne _) h.ne _, ⟨_, blk_put (blk_put (blk_put h1 _ _ rfl) _ _ rfl) _ _ rfl, put1_cells (v1 := .bool true) (v2 := .bool true) (v3 := .bool true) hk rfl ⟨(s.fr k).own, y, c, t⟩ h2 rfl⟩, h.few⟩
/-- What Get comes to. -/
def GetOut (mb fb : Nat) (s : MS) (k : Nat) (owner kind : Int) (w : World) (e : Ending) (w' : World) : Prop := e = .returned (.int .i64 (getE (s.fr k) owner kind)) ∧ Mach w' mb fb (getS s k owner kind) ∧ Chg (· = fb) w w'
set_option maxHeartbeats 4000000 in
set_option maxRecDepth 100000 in
theorem get_calls (h : Mach w mb fb s) (k : Nat) (hk : k < s.n) (owner kind : Int) (h0 : 0 ≤ kind) (h3 : kind ≤ 3) (hf : Fr.few (s.fr k)) : Calls Tryz.prog 55 #[.pointer (some ⟨mb, 0, none⟩), .int .i64 k, .int .i64 owner, .int .i64 kind] w (GetOut mb fb s k owner kind w) := by
  have ha := kinds_calls h k hk kind h0 h3
  have c0 := h.own k hk
  have c1 := h.typ k hk
  have c2 := h.cnt k hk
  have c3 := h.tot k hk
  have F0 := h.frozen
  have L1 := h.lt.2
  have HH := Base.Aside.mk h
  obtain ⟨b0, b1, b2, b3⟩ := hf
  clear h
  by_cases e1 : (s.fr k).own = -1
  · have d1 : ((s.fr k).own == -1) = true := by simp [e1]
    have HE := Base.Aside.mk e1
    clear e1
    go_enter Tryz.func55, Tryz.ntmps55
    go_wp2_with (first
      | (go_at_call 95; refine ha.mono ?_; rintro z w1 ⟨rfl, hw1⟩; obtain rfl := hw1.symm)
      | go_in)
    go_ret
    have hg : getE (s.fr k) owner kind = 11 := by unfold getE; rw [if_pos HE.out]
    exact ⟨by rw [hg]; first | rfl | (simp; done), by unfold getS; rw [hg]; exact HH.out, Chg.refl _ _⟩
  · have d1 : ((s.fr k).own == -1) = false := by simp [e1]
    have HE := Base.Aside.mk e1
    clear e1
    by_cases e2 : (s.fr k).own = owner
    · have d2 : ((s.fr k).own == owner) = true := by simp [e2]
      have d2' : ((s.fr k).own != owner) = false := by simp [e2]
      have HE2 := Base.Aside.mk e2
      clear e2
      by_cases e3 : kind = 0
      · subst e3
        go_enter Tryz.func55, Tryz.ntmps55
        go_wp2_with (first
          | (go_at_call 95; refine ha.mono ?_; rintro z w1 ⟨rfl, hw1⟩; obtain rfl := hw1.symm)
          | go_in)
        go_ret
        have hg : getE (s.fr k) owner 0 = 0 := by unfold getE; rw [if_neg HE.out, if_neg (by simp [HE2.out]), if_neg (by simp)]
        refine ⟨by rw [hg]; first | rfl | (simp; done), ?_, ?_⟩
        · unfold getS
          rw [hg, if_pos rfl]
          unfold getF
          rw [if_pos rfl]
          exact mach_tot HH.out k hk _
        · exact chg_fb (Chg.refl _ w) _ _
      · have d3 : (kind == 0) = false := by simp [e3]
        have d3' : (kind != 0) = true := by simp [e3]
        have HK := Base.Aside.mk e3
        clear e3
        by_cases e4 : (s.fr k).typ = 0
        · have d4 : ((s.fr k).typ == 0) = true := by simp [e4]
          have d4' : ((s.fr k).typ != 0) = false := by simp [e4]
          have HT := Base.Aside.mk e4
          clear e4
          go_enter Tryz.func55, Tryz.ntmps55
          go_wp2_with (first
            | (go_at_call 95; refine ha.mono ?_; rintro z w1 ⟨rfl, hw1⟩; obtain rfl := hw1.symm)
            | go_in)
          go_ret
          have hg : getE (s.fr k) owner kind = 0 := by unfold getE; rw [if_neg HE.out, if_neg (by simp [HE2.out]), if_neg (by simp [HT.out])]
          refine ⟨by rw [hg]; first | rfl | (simp; done), ?_, ?_⟩
          · unfold getS
            rw [hg, if_pos rfl]
            unfold getF
            rw [if_neg HK.out]
            exact mach_three HH.out k hk _ _ _
          · exact chg_fb (chg_fb (chg_fb (Chg.refl _ w) _ _) _ _) _ _
        · have d4 : ((s.fr k).typ == 0) = false := by simp [e4]
          have d4' : ((s.fr k).typ != 0) = true := by simp [e4]
          have HT := Base.Aside.mk e4
          clear e4
          by_cases e5 : (s.fr k).typ = kind
          · have d5 : ((s.fr k).typ == kind) = true := by simp [e5]
            have d5' : ((s.fr k).typ != kind) = false := by simp [e5]
            have HT5 := Base.Aside.mk e5
            clear e5
            go_enter Tryz.func55, Tryz.ntmps55
            go_wp2_with (first
              | (go_at_call 95; refine ha.mono ?_; rintro z w1 ⟨rfl, hw1⟩; obtain rfl := hw1.symm)
              | go_in)
            go_ret
            have hg : getE (s.fr k) owner kind = 0 := by unfold getE; rw [if_neg HE.out, if_neg (by simp [HE2.out]), if_neg (by simp [HT5.out])]
            refine ⟨by rw [hg]; first | rfl | (simp; done), ?_, ?_⟩
            · unfold getS
              rw [hg, if_pos rfl]
              unfold getF
              rw [if_neg HK.out]
              exact mach_three HH.out k hk _ _ _
            · exact chg_fb (chg_fb (chg_fb (Chg.refl _ w) _ _) _ _) _ _
          · have d5 : ((s.fr k).typ == kind) = false := by simp [e5]
            have d5' : ((s.fr k).typ != kind) = true := by simp [e5]
            have HT5 := Base.Aside.mk e5
            clear e5
            go_enter Tryz.func55, Tryz.ntmps55
            go_wp2_with (first
              | (go_at_call 95; refine ha.mono ?_; rintro z w1 ⟨rfl, hw1⟩; obtain rfl := hw1.symm)
              | go_in)
            go_ret
            have hg : getE (s.fr k) owner kind = 13 := by unfold getE; rw [if_neg HE.out, if_neg (by simp [HE2.out]), if_pos ⟨HK.out, HT.out, HT5.out⟩]
            exact ⟨by rw [hg]; first | rfl | (simp; done), by unfold getS; rw [hg]; exact HH.out, Chg.refl _ _⟩
    · have d2 : ((s.fr k).own == owner) = false := by simp [e2]
      have d2' : ((s.fr k).own != owner) = true := by simp [e2]
      have HE2 := Base.Aside.mk e2
      clear e2
      go_enter Tryz.func55, Tryz.ntmps55
      go_wp2_with (first
        | (go_at_call 95; refine ha.mono ?_; rintro z w1 ⟨rfl, hw1⟩; obtain rfl := hw1.symm)
        | go_in)
      go_ret
      have hg : getE (s.fr k) owner kind = 12 := by unfold getE; rw [if_neg HE.out, if_pos HE2.out]
      exact ⟨by rw [hg]; first | rfl | (simp; done), by unfold getS; rw [hg]; exact HH.out, Chg.refl _ _⟩
end
end Go.Proofs.YthlejchcnfdcpaaGreat.GaB
namespace Go.Proofs.YthlejchcnfdcpaaGreat.GaC
open Go.RowKit Base GaA GaB
set_option linter.unusedVariables false
set_option linter.unusedSimpArgs false

/-- Bytes as they lie in a slice. -/
structure Holds (w : World) (x : Addr) (zs : List UInt8) : Prop where
  lt : x.block < w.heap.size
  cell : ∀ j (hj : j < zs.length), w.cell? (x.add j) = some (.int .u8 ((zs[j]).toNat : Int))
def Bytes (w : World) (A : Option Addr) (zs : List UInt8) : Prop := zs = [] ∨ ∃ x, A = some x ∧ Holds w x zs
theorem add_block (x : Addr) (i : Nat) : (x.add i).block = x.block := by unfold Addr.add; split <;> rfl
theorem Holds.below {w w' : World} {x : Addr} {zs : List UInt8} (h : Holds w x zs) (hb : Below w.heap.size w w') : Holds w' x zs :=
  ⟨Nat.lt_of_lt_of_le h.lt hb.size, fun j hj => (hb.cell (p := x.add j) (by rw [add_block]; exact h.lt)).trans (h.cell j hj)⟩
theorem Holds.chg {F : Nat → Prop} {w w' : World} {x : Addr} {zs : List UInt8} (h : Holds w x zs) (hc : Chg F w w') (hf : ¬ F x.block) : Holds w' x zs :=
  ⟨Nat.lt_of_lt_of_le h.lt hc.size, fun j hj => (World.cell?_of_block (w := w) (w' := w') (a := x.add j) (by rw [add_block]; exact hc.block _ h.lt hf)).trans (h.cell j hj)⟩
theorem Bytes.below {w w' : World} {A : Option Addr} {zs : List UInt8} (h : Bytes w A zs) (hb : Below w.heap.size w w') : Bytes w' A zs := by
  rcases h with h | ⟨x, h1, h2⟩
  · exact .inl h
  · exact .inr ⟨x, h1, h2.below hb⟩
theorem Bytes.chg {F : Nat → Prop} {w w' : World} {A : Option Addr} {zs : List UInt8} (h : Bytes w A zs) (hc : Chg F w w') (hf : ∀ x, A = some x → ¬ F x.block) : Bytes w' A zs := by
  rcases h with h | ⟨x, h1, h2⟩
  · exact .inl h
  · exact .inr ⟨x, h1, h2.chg hc (hf x h1)⟩
def u8s (zs : List UInt8) : List Value := zs.map fun z => .int .u8 (z.toNat : Int)
theorem u8s_len (zs : List UInt8) : (u8s zs).length = zs.length := by simp [u8s]
theorem u8s_one {zs : List UInt8} : ∀ v ∈ u8s zs, v.oneCell' = true := by
  intro v hv
  obtain ⟨z, _, rfl⟩ := List.mem_map.1 hv
  rfl
theorem Holds.src {w : World} {x : Addr} {zs : List UInt8} (h : Holds w x zs) : ∀ (j : Nat) (v : Value), (u8s zs)[j]? = some v → w.cell? (x.add j) = some v := by
  intro j v hv
  unfold u8s at hv
  rw [List.getElem?_map] at hv
  obtain ⟨z, hz, rfl⟩ := Option.map_eq_some_iff.1 hv
  obtain ⟨hj, rfl⟩ := List.getElem?_eq_some_iff.1 hz
  exact h.cell j hj
theorem Holds.of_block {w : World} {g : Nat} {zs : List UInt8} {t : TypeId} (h : w.heap[g]? = some (.cells (u8s zs).toArray t (0, 0))) : Holds w ⟨g, 0, none⟩ zs := by
  refine ⟨blk_lt h, fun j hj => ?_⟩
  rw [show (⟨g, 0, none⟩ : Addr).add j = ⟨g, j, none⟩ by unfold Addr.add; split <;> simp_all, blk_cell h j]
  simp [u8s, hj]
theorem info5 : (Tryz.prog.info? 5).map (fun i => (i.zero, i.size, i.bytes)) = some (some (.int .u8 0), 1, 1) := by kernel_rfl
theorem size5 : (Tryz.prog.info? 5).map (·.size) = some 1 := by kernel_rfl
theorem make_bytes (w : World) (n : Nat) (hn : n ≤ 1000000) : (Instr.makeSlice 30 (.int .i64 (n : Int)) (.int .i64 (n : Int))).run Tryz.prog w = .ok (.slice (some ⟨w.heap.size, 0, none⟩) n n) (w.alloc (.cells (madeCells #[.int .u8 0] n) 5)) := by
  obtain ⟨i0, hi, hz0, hz1, hz2⟩ := info_parts info5
  have h := run_make (P := Tryz.prog) w 30 5 i0 (.int .u8 0) Tryz.underlying30 hi hz0 .i64 .i64 (n : Int) (n : Int) (by omega) (Int.le_refl _) (by rw [hz2]; omega) (by omega)
  have e : ((n : Int)).toNat = n := by omega
  rw [e] at h
  simpa [hz1, Value.cells] using h
def MS.rd (s : MS) (k off n : Nat) : List UInt8 := (List.range n).map fun j => s.byt k (off + j)
theorem rd_len (s : MS) (k off n : Nat) : (MS.rd s k off n).length = n := by simp [MS.rd]
def MS.wr (s : MS) (k off : Nat) (zs : List UInt8) : MS := { s with byt := fun i j => if i = k ∧ off ≤ j ∧ j < off + zs.length then zs.getD (j - off) 0 else s.byt i j }
section
variable {w w' : World} {mb fb : Nat} {s : MS}
set_option maxHeartbeats 2000000 in
set_option maxRecDepth 100000 in
theorem part_calls (h : Mach w mb fb s) (k : Nat) (hk : k < s.n) (off n : Nat) (ho : off + n ≤ 256) : Calls Tryz.prog 91 #[.pointer (some ⟨mb, 0, none⟩), .int .i64 k, .int .i64 off, .int .i64 n] w fun e w' => e = .returned (.tuple #[.pointer (some ⟨fb, k * 260, none⟩), .int .i64 0]) ∧ w' = w := by
  have ha := at_calls h k hk
  have d0 : decide ((off : Int) < 0) = false := decide_eq_false (by omega)
  have d1 : decide ((n : Int) < 0) = false := decide_eq_false (by omega)
  have d2 : decide ((256 : Int) < (off : Int)) = false := decide_eq_false (by omega)
  have d3 : decide ((256 : Int) - (off : Int) < (n : Int)) = false := decide_eq_false (by omega)
  clear h
  go_enter Tryz.func91, Tryz.ntmps91
  go_wp2_with (first
    | (go_at_call 90; refine ha.mono ?_; rintro z w1 ⟨rfl, hw1⟩; obtain rfl := hw1.symm)
    | go_in)
  go_ret2
  exact ⟨by first | rfl | (simp; done), rfl⟩
theorem addB (b o j : Nat) : (⟨b, o, none⟩ : Addr).add j = ⟨b, o + j, none⟩ := by
  unfold Addr.add
  split
  · simp_all
  · rfl
set_option maxRecDepth 100000 in
theorem copy_out (h : Mach w mb fb s) (k : Nat) (hk : k < s.n) (off n : Nat) (ho : off + n ≤ 256) (ty : TypeId) : (Builtin.copy_ #[30, 30] ty #[.slice (some ⟨w.heap.size, 0, none⟩) n n, .slice (some ⟨fb, k * 260 + 4 + off, none⟩) (256 - off) (256 - off)]).run Tryz.prog (w.alloc (.cells (madeCells #[.int .u8 0] n) 5)) =
    .ok (goInt n) (w.alloc (.cells (u8s (MS.rd s k off n)).toArray 5)) := by
  have hl : (u8s (MS.rd s k off n)).length = n := by rw [u8s_len, rd_len]
  have h2 := run_copy_row (P := Tryz.prog) (w.alloc (.cells (madeCells #[.int .u8 0] n) 5)) 30 30 ty 5 w.heap.size 0 n n ⟨fb, k * 260 + 4 + off, none⟩ (256 - off) (256 - off) (madeCells #[.int .u8 0] n) 5 (u8s (MS.rd s k off n)) Tryz.underlying30 size5 (blk_new _ _) (by rw [hl]; simp [Nat.min_def]; omega)
    (fun j v hv => by
      unfold u8s MS.rd at hv
      rw [List.getElem?_map, List.getElem?_map] at hv
      obtain ⟨z, hz, rfl⟩ := Option.map_eq_some_iff.1 hv
      obtain ⟨j', hj', rfl⟩ := Option.map_eq_some_iff.1 hz
      obtain ⟨hlt, hval⟩ := List.getElem?_eq_some_iff.1 hj'
      rw [List.getElem_range] at hval
      subst hval
      have hlt2 : j < n := by simpa using hlt
      have hb := (h.below (below_alloc (Below.refl _ _) (.cells (madeCells #[.int .u8 0] n) 5))).byte k (off + j) hk (by omega)
      rw [addB, show k * 260 + 4 + off + j = k * 260 + (4 + (off + j)) by omega]
      exact hb) (by rw [hl, size_madeCells]; omega) u8s_one
  rw [h2, hl, World.setRow_alloc_new]
  congr 3
  simp only [List.take_zero, List.nil_append]
  rw [List.drop_of_length_le (by simp [size_madeCells]), List.append_nil]
theorem cellM_byte (s : MS) (i j : Nat) (h : 4 ≤ j) : cellM s i j = .int .u8 ((s.byt i (j - 4)).toNat : Int) := by
  unfold cellM
  rw [if_neg (by omega), if_neg (by omega), if_neg (by omega), if_neg (by omega)]
theorem wr_hit {s : MS} {k off j : Nat} {zs : List UInt8} (h1 : off ≤ j) (h2 : j < off + zs.length) : (MS.wr s k off zs).byt k j = zs.getD (j - off) 0 := if_pos ⟨rfl, h1, h2⟩
theorem wr_miss {s : MS} {i k off j : Nat} {zs : List UInt8} (h : ¬ (i = k ∧ off ≤ j ∧ j < off + zs.length)) : (MS.wr s k off zs).byt i j = s.byt i j := if_neg h
theorem cellM_wr {s : MS} {i k off j : Nat} {zs : List UInt8} (h : ¬ (i = k ∧ 4 + off ≤ j ∧ j < 4 + off + zs.length)) : cellM (MS.wr s k off zs) i j = cellM s i j := by
  by_cases hj : 4 ≤ j
  · rw [cellM_byte _ _ _ hj, cellM_byte _ _ _ hj, wr_miss (by omega)]
  · unfold cellM
    have : j = 0 ∨ j = 1 ∨ j = 2 ∨ j = 3 := by omega
    rcases this with rfl | rfl | rfl | rfl <;> rfl
theorem wr_cells {cs : Array Value} {s : MS} {k off : Nat} {zs : List UInt8} (h : CellsAre cs s.n (cellM s)) (hk : k < s.n) (ho : off + zs.length ≤ 256) :
    CellsAre (cs.toList.take (k * 260 + 4 + off) ++ u8s zs ++ cs.toList.drop (k * 260 + 4 + off + (u8s zs).length)).toArray s.n (cellM (MS.wr s k off zs)) := by
  have hsz : cs.toList.length = s.n * 260 := by rw [Array.length_toList]; exact h.1
  have hfit : k * 260 + 4 + off + zs.length ≤ s.n * 260 := by
    have : (k + 1) * 260 ≤ s.n * 260 := Nat.mul_le_mul_right _ hk
    omega
  refine ⟨?_, fun i j hi hj => ?_⟩
  · simp only [List.size_toArray, List.length_append, List.length_take, List.length_drop, u8s_len, hsz]
    omega
  · rw [List.getElem?_toArray]
    have hold := h.2 i j hi hj
    rw [← Array.getElem?_toList] at hold
    have hlt : i * 260 + j < s.n * 260 := by omega
    by_cases h1 : i * 260 + j < k * 260 + 4 + off
    · rw [List.append_assoc, List.getElem?_append_left (by rw [List.length_take]; omega), List.getElem?_take, if_pos h1, hold, cellM_wr (by omega)]
    · by_cases h2 : i * 260 + j < k * 260 + 4 + off + zs.length
      · have hik : i = k := by omega
        subst hik
        rw [List.append_assoc, List.getElem?_append_right (by rw [List.length_take]; omega), List.length_take, List.getElem?_append_left (by rw [u8s_len]; omega), show min (i * 260 + 4 + off) cs.toList.length = i * 260 + 4 + off by omega, cellM_byte _ _ _ (by omega), wr_hit (by omega) (by omega)]
        unfold u8s
        rw [List.getElem?_map, List.getElem?_eq_getElem (by omega), List.getD_eq_getElem?_getD, List.getElem?_eq_getElem (by omega)]
        simp only [Option.map_some, Option.getD_some, show i * 260 + j - (i * 260 + 4 + off) = j - 4 - off by omega]
      · rw [List.getElem?_append_right (by rw [List.length_append, List.length_take, u8s_len]; omega), List.length_append, List.length_take, u8s_len, List.getElem?_drop, show k * 260 + 4 + off + zs.length + (i * 260 + j - (min (k * 260 + 4 + off) cs.toList.length + zs.length)) = i * 260 + j by omega, hold, cellM_wr (by omega)]
theorem wr_none (s : MS) (k off : Nat) : MS.wr s k off [] = s := by
  unfold MS.wr
  congr 1
  funext i j
  exact if_neg (by rintro ⟨_, h1, h2⟩; simp at h2; omega)
set_option maxRecDepth 100000 in
theorem copy_in (h : Mach w mb fb s) (k : Nat) (hk : k < s.n) (off : Nat) (A : Option Addr) (c : Nat) (zs : List UInt8) (hz : Bytes w A zs) (ho : off + zs.length ≤ 256) (ty : TypeId) : ∃ W', (Builtin.copy_ #[30, 30] ty #[.slice (some ⟨fb, k * 260 + 4 + off, none⟩) (256 - off) (256 - off), .slice A zs.length c]).run Tryz.prog w = .ok (goInt zs.length) W' ∧ Mach W' mb fb (MS.wr s k off zs) ∧ Chg (fun x => x = fb) w W' := by
  rcases hz with rfl | ⟨x, rfl, hz⟩
  · exact ⟨w, run_copy_none w _ _ _ 5 _ _ _ _ _ _ Tryz.underlying30 size5 (by simp), by rw [wr_none]; exact h, Chg.refl _ _⟩
  · obtain ⟨cs, h1, h2⟩ := h.lst
    have hfit : k * 260 + 4 + off + zs.length ≤ s.n * 260 := by
      have : (k + 1) * 260 ≤ s.n * 260 := Nat.mul_le_mul_right _ hk
      omega
    have h3 := run_copy_row (P := Tryz.prog) w 30 30 ty 5 fb (k * 260 + 4 + off) (256 - off) (256 - off) x zs.length c cs 113 (u8s zs) Tryz.underlying30 size5 h1 (by rw [u8s_len]; simp [Nat.min_def]; omega) hz.src (by rw [u8s_len, h2.1]; omega) u8s_one
    rw [u8s_len] at h3
    refine ⟨_, h3, ⟨(setRow_other w fb mb _ h.ne).trans h.blk, ⟨_, setRow_heap w fb cs _ _ _ h1, ?_⟩, h.few⟩, ⟨rfl, rfl, rfl, by simp, fun j hj hf => setRow_other w fb j _ hf⟩⟩
    have := wr_cells h2 hk ho
    rwa [u8s_len] at this
theorem copy_zero (W : World) (a b : Option Addr) (n m c d : Nat) (h : n = 0 ∨ m = 0) (ty : TypeId) : (Builtin.copy_ #[30, 30] ty #[.slice a n c, .slice b m d]).run Tryz.prog W = .ok (.int .i64 0) W :=
  run_copy_none W _ _ _ 5 _ _ _ _ _ _ Tryz.underlying30 size5 (by rcases h with h | h <;> simp [h])
set_option maxHeartbeats 2000000 in
set_option maxRecDepth 100000 in
theorem read_calls (h : Mach w mb fb s) (k : Nat) (hk : k < s.n) (off n : Nat) (ho : off + n ≤ 256) : Calls Tryz.prog 37 #[.pointer (some ⟨mb, 0, none⟩), .int .i64 k, .int .i64 off, .int .i64 n] w fun e w' =>
    e = .returned (.tuple #[.slice (some ⟨w.heap.size, 0, none⟩) n n, .int .i64 0]) ∧ w'.heap[w.heap.size]? = some (.cells (u8s (MS.rd s k off n)).toArray 5 (0, 0)) ∧ Below w.heap.size w w' := by
  have hp := part_calls h k hk off n ho
  have hm := fun W => make_bytes W n (by omega)
  have L1 := h.lt.2
  by_cases h256 : 256 = off
  · obtain rfl : n = 0 := by omega
    subst h256
    have hc := fun W ty => copy_zero W (some ⟨w.heap.size, 0, none⟩) (some ⟨fb, k * 260 + 4, none⟩) 0 0 0 0 (.inl rfl) ty
    have hmc : madeCells #[.int .u8 0] 0 = #[] := by simp [madeCells]
    rw [hmc] at hm
    have hm0 : ∀ W : World, (Instr.makeSlice 30 (.int .i64 0) (.int .i64 0)).run Tryz.prog W = .ok (.slice (some ⟨W.heap.size, 0, none⟩) 0 0) (W.alloc (.cells #[] 5)) := fun W => hm W
    clear h ho hm
    go_enter Tryz.func37, Tryz.ntmps37
    go_wp2_with (first
      | (go_at_call 91; refine hp.mono ?_; rintro z w1 ⟨rfl, hw1⟩; obtain rfl := hw1.symm)
      | go_in)
    go_ret2
    exact ⟨by first | rfl | (simp; done), blk_new _ _, below_alloc (Below.refl _ _) _⟩
  · have hc := fun ty => copy_out h k hk off n ho ty
    have o0 : (0 : Int) ≤ (off : Int) := Int.natCast_nonneg _
    have o1 : (off : Int) ≤ 256 := by omega
    have n0 : (0 : Int) ≤ (n : Int) := Int.natCast_nonneg _
    clear h
    go_enter Tryz.func37, Tryz.ntmps37
    go_wp2_with (first
      | (go_at_call 91; refine hp.mono ?_; rintro z w1 ⟨rfl, hw1⟩; obtain rfl := hw1.symm)
      | go_in)
    go_ret2
    exact ⟨by first | rfl | (simp; done), blk_new _ _, below_alloc (Below.refl _ _) _⟩
set_option maxHeartbeats 2000000 in
set_option maxRecDepth 100000 in
theorem write_calls (h : Mach w mb fb s) (k : Nat) (hk : k < s.n) (off : Nat) (A : Option Addr) (l c : Nat) (zs : List UInt8) (hl : l = zs.length) (hz : Bytes w A zs) (ho : off + zs.length ≤ 256) (hown : (s.fr k).own ≠ -1) : Calls Tryz.prog 58 #[.pointer (some ⟨mb, 0, none⟩), .int .i64 k, .int .i64 off, .slice A l c] w fun e w' =>
    e = .returned (.int .i64 0) ∧ Mach w' mb fb (MS.wr s k off zs) ∧ Chg (fun x => x = fb) w w' := by
  have hp := part_calls h k hk off l (by omega)
  have c0 := h.own k hk
  have d0 : ((s.fr k).own == -1) = false := by simp [hown]
  have L1 := h.lt.2
  by_cases h256 : 256 = off
  · have hz0 : zs = [] := List.length_eq_zero_iff.1 (by omega)
    have hl0 : l = 0 := by rw [hl, hz0]; rfl
    subst hl0
    subst h256
    have hc := fun W ty => copy_zero W (some ⟨fb, k * 260 + 4, none⟩) A 0 0 0 c (.inl rfl) ty
    have HH := Base.Aside.mk (And.intro h hz0)
    clear h ho hown hz hl hz0
    go_enter Tryz.func58, Tryz.ntmps58
    go_wp2_with (first
      | (go_at_call 91; refine hp.mono ?_; rintro z w1 ⟨rfl, hw1⟩; obtain rfl := hw1.symm)
      | go_in)
    go_ret
    exact ⟨by first | rfl | (simp; done), by rw [HH.out.2, wr_none]; exact HH.out.1, Chg.refl _ _⟩
  · subst hl
    obtain ⟨W', hW1, hW2, hW3⟩ := copy_in h k hk off A c zs hz ho 3
    have HW := Base.Aside.mk (And.intro hW2 hW3)
    have o0 : (0 : Int) ≤ (off : Int) := Int.natCast_nonneg _
    have o1 : (off : Int) ≤ 256 := by omega
    clear h hW2 hW3 hown hz
    go_enter Tryz.func58, Tryz.ntmps58
    go_wp2_with (first
      | (go_at_call 91; refine hp.mono ?_; rintro z w1 ⟨rfl, hw1⟩; obtain rfl := hw1.symm)
      | go_in)
    go_ret
    exact ⟨by first | rfl | (simp; done), HW.out.1, HW.out.2⟩
end
end Go.Proofs.YthlejchcnfdcpaaGreat.GaC
