/- Proved: small lemmas on worlds and blocks, for the walks of this seat (no statement of the program). Proved: a machine's frames as they lie in memory, and what its small functions do (contracts for the laws of the grants). Proved: a map with int keys, as a function of its keys (lemmas for the walks of the grants). -/
import Derived.Test.YtjeobbhaoahdcaaRows
import Derived.WalkKit
import Derived.WalkSpells
import Derived.WalkLawsBesides
import Derived.ProofKit
import Derived.Below
import Derived.BigQuiet
import Derived.BigRegion
import Derived.Deep.QuietTactic
import Derived.Deep.RegionHeld3
import Derived.Laws.Pointers
import Derived.Laws.BitsLemmas
import Derived.Deep.LoopGhost
import Derived.Deep.Cut
import Derived.Deep.CutRange
import Derived.Deep.CutBlock
import Derived.Maps.OwnSet
import Derived.Maps.OwnOps
import Derived.WideKeyEntry
namespace Go.Proofs.Ytjeobbhaoahdcaa.Base
open Go.RowKit

/-- A fact that the walk does not see. -/
structure Aside (p : Prop) : Prop where
  out : p

/-- The walk goes on in any world of which the named facts hold. -/
theorem wp_world {P : Program} {c : Code} {Q : Exit → Act → World → Prop} {a : Act} {w : World} (φ : World → Prop) (h : φ w) (k : ∀ W, φ W → Code.wp P c Q a W) : Code.wp P c Q a w := k w h
theorem next_world {K : Act → World → Prop} {a : Act} {w : World} (φ : World → Prop) (h : φ w) (k : ∀ W, φ W → K a W) : K a w := k w h

section
variable {w W w1 w2 : World} {g : Nat} {o : Obj} {t : TypeId} {cs cs' : Array Value}
theorem blk_lt (h : w.heap[g]? = some o) : g < w.heap.size := (Array.getElem?_eq_some_iff.1 h).1
theorem blk_new (w : World) (o : Obj) : (w.alloc o).heap[w.heap.size]? = some o := by
  show (w.heap.push o)[w.heap.size]? = some o
  simp
theorem blk_newest (h : g = w.heap.size) (o : Obj) : (w.alloc o).heap[g]? = some o := by subst h; exact blk_new w o
theorem blk_alloc (h : w.heap[g]? = some o) (o' : Obj) : (w.alloc o').heap[g]? = some o := (Below.heap_alloc w o' g (blk_lt h)).trans h
theorem blk_drew (h : w.heap[g]? = some o) : w.drew.heap[g]? = some o := h
theorem blk_drewN (h : w.heap[g]? = some o) (n : Nat) : (w.drewN n).heap[g]? = some o := h
theorem blk_below {B : Nat} (h : w.heap[g]? = some o) (hB : g < B) (hb : Below B w w1) : w1.heap[g]? = some o := (hb.block g hB).trans h
theorem blk_cell (h : w.heap[g]? = some (.cells cs t (0, 0))) (i : Nat) : w.cell? ⟨g, i, none⟩ = cs[i]? := cell_of_row w g i cs t (0, 0) h
theorem blk_frozen (h : w.heap[g]? = some (.cells cs t (0, 0))) (i : Nat) : w.frozen? ⟨g, i, none⟩ = false := by simp [World.frozen?, h]
theorem blk_far (h : w.heap[g]? = some o) {p : Addr} (hp : g ≠ p.block) (u : Value) : (w.setCell p u).heap[g]? = some o := (Below.heap_setCell w p u g hp).trans h
theorem blk_put (h : w.heap[g]? = some (.cells cs t (0, 0))) (i : Nat) (u : Value) (e : cs.setIfInBounds i u = cs') : (w.setCell ⟨g, i, none⟩ u).heap[g]? = some (.cells cs' t (0, 0)) := by
  subst e
  show (w.heap.modify g _)[g]? = _
  rw [Array.getElem?_modify, if_pos rfl, h]
  rfl
theorem size_set (w : World) (p : Addr) (u : Value) : (w.setCell p u).heap.size = w.heap.size := by simp [World.setCell]
theorem below_alloc (h : Below w.heap.size w W) (o : Obj) : Below w.heap.size w (W.alloc o) := h.alloc h.size o
theorem below_drew (h : Below w.heap.size w W) : Below w.heap.size w W.drew := h.drew
theorem below_drewN (h : Below w.heap.size w W) (n : Nat) : Below w.heap.size w (W.drewN n) := ⟨h.os, h.tape, h.output, h.size, h.block⟩
theorem below_set {p : Addr} (h : Below w.heap.size w W) (hp : w.heap.size ≤ p.block) (u : Value) : Below w.heap.size w (W.setCell p u) := h.setCell hp u
theorem below_step (h : Below w.heap.size w W) (k : Below W.heap.size W w2) : Below w.heap.size w w2 := h.trans (k.mono h.size)
theorem cell_below (hb : Below w.heap.size w w1) {a : Addr} {v : Value} (hc : w.cell? a = some v) : w1.cell? a = some v := (hb.cell (World.block_lt_of_cell? w a hc)).trans hc
end
/-- A whole struct or array is stored into a block of its own: the block holds its cells. -/
theorem wpList_store_row {P : Program} {ops : Array Oper} {rest : List Oper} {o : Oper} {a : Act} {w : World} {Q : Exit → Act → World → Prop} (hgd : o.guard = none) (hdst : o.dst = none) (ty : TypeId) (x y : Operand) (ho : o.op = .store ty x y)
    (g : Nat) (hx : a.eval x = .pointer (some ⟨g, 0, none⟩)) (cells : Array Value) (hy : a.eval y = .agg cells) (t : TypeId) (old : Array Value) (hg : w.heap[g]? = some (.cells old t (0, 0)))
    (hi : (P.info? ty).map (·.size) = some cells.size) (hs : old.size = cells.size) (h1 : cells.all (·.oneCell') = true)
    (h : ∀ W, W.heap[g]? = some (.cells cells t (0, 0)) → W.heap.size = w.heap.size → (∀ k, k ≠ g → W.heap[k]? = w.heap[k]?) → (∀ B, B ≤ g → Below B w W) → wpList P ops Q rest a W) : wpList P ops Q (o :: rest) a w := by
  refine wpList_plain hgd fun K hK => ?_
  unfold Oper.wp execOp
  have hrun := run_storeVar_row (P := P) w g t ty old cells hg hi hs h1
  simp only [ho, hx, hy, Instr.storeAt, Instr.sureAddr, Sem.run_bind, Sem.run_pure, Result.andThen_ok, hrun]
  refine hK _ _ ?_
  rw [hdst]
  exact (h (w.setRow g cells) (setRow_heap w g old cells t (0, 0) hg) (by simp [World.setRow]) (fun k hk => setRow_other w g k cells hk) (fun B hB => ⟨rfl, rfl, rfl, by simp [World.setRow], fun k hk => setRow_other w g k cells (by omega)⟩))
end Go.Proofs.Ytjeobbhaoahdcaa.Base
namespace Go.Proofs.Ytjeobbhaoahdcaa.GaA
open Go.RowKit Go.Proofs.Ytjeobbhaoahdcaa.Base
set_option linter.unusedVariables false
set_option linter.unusedSimpArgs false

/-- What may change: the blocks of F; new blocks may be made. -/
structure Chg (F : Nat → Prop) (w w' : World) : Prop where
  os : w'.os = w.os
  tape : w'.tape = w.tape
  output : w'.output = w.output
  size : w.heap.size ≤ w'.heap.size
  block : ∀ k, k < w.heap.size → ¬ F k → w'.heap[k]? = w.heap[k]?
section
variable {F G : Nat → Prop} {w w' w'' : World}
theorem Chg.refl (F : Nat → Prop) (w : World) : Chg F w w := ⟨rfl, rfl, rfl, Nat.le_refl _, fun _ _ _ => rfl⟩
theorem Chg.trans (h : Chg F w w') (k : Chg F w' w'') : Chg F w w'' :=
  ⟨k.os.trans h.os, k.tape.trans h.tape, k.output.trans h.output, Nat.le_trans h.size k.size, fun i hi hf => (k.block i (Nat.lt_of_lt_of_le hi h.size) hf).trans (h.block i hi hf)⟩
theorem Chg.mono (h : Chg F w w') (hFG : ∀ k, F k → G k) : Chg G w w' := ⟨h.os, h.tape, h.output, h.size, fun k hk hg => h.block k hk fun hf => hg (hFG k hf)⟩
theorem Chg.below (F : Nat → Prop) (h : Below w.heap.size w w') : Chg F w w' := ⟨h.os, h.tape, h.output, h.size, fun k hk _ => h.block k hk⟩
theorem Chg.of_eq (F : Nat → Prop) (h : w' = w) : Chg F w w' := by subst h; exact Chg.refl F _
theorem Chg.alloc (h : Chg F w w') (o : Obj) : Chg F w (w'.alloc o) := h.trans (Chg.below F (below_alloc (Below.refl _ _) o))
theorem Chg.drew (h : Chg F w w') : Chg F w w'.drew := h.trans (Chg.below F ⟨rfl, rfl, rfl, Nat.le_refl _, fun _ _ => rfl⟩)
theorem Chg.drewN (h : Chg F w w') (n : Nat) : Chg F w (w'.drewN n) := h.trans (Chg.below F ⟨rfl, rfl, rfl, Nat.le_refl _, fun _ _ => rfl⟩)
theorem Chg.set (h : Chg F w w') {p : Addr} (hp : F p.block ∨ w.heap.size ≤ p.block) (u : Value) : Chg F w (w'.setCell p u) :=
  ⟨h.os, h.tape, h.output, by rw [size_set]; exact h.size, fun k hk hf => (Below.heap_setCell w' p u k (by rintro rfl; rcases hp with hp | hp; exact hf hp; omega)).trans (h.block k hk hf)⟩
/-- Behind a change of blocks that are all new since w0, w0's own are as they were. -/
theorem Chg.out {B : Nat} {w0 : World} (h : Chg F w w') (hb : Below B w0 w) (hB : B ≤ w.heap.size) (hF : ∀ k, F k → B ≤ k) : Below B w0 w' :=
  hb.trans ⟨h.os, h.tape, h.output, h.size, fun k hk => h.block k (by omega) fun hf => by have := hF k hf; omega⟩
theorem Chg.blk (h : Chg F w w') {g : Nat} {o : Obj} (hg : w.heap[g]? = some o) (hf : ¬ F g) : w'.heap[g]? = some o := (h.block g (blk_lt hg) hf).trans hg
end

/-- A frame's own words. -/
structure Fr where
  own : Int
  typ : Int
  cnt : Int
  tot : Int
/-- A machine's state. -/
structure MS where
  n : Nat
  fr : Nat → Fr
  byt : Nat → Nat → UInt8
def cellM (s : MS) (i j : Nat) : Value :=
  if j = 0 then .int .i64 (s.fr i).own else if j = 1 then .int .i64 (s.fr i).typ else if j = 2 then .int .i64 (s.fr i).cnt else if j = 3 then .int .i64 (s.fr i).tot else .int .u8 ((s.byt i (j - 4)).toNat : Int)
/-- A row of n frames of 260 cells each, cell by cell. -/
def CellsAre (cs : Array Value) (n : Nat) (f : Nat → Nat → Value) : Prop := cs.size = n * 260 ∧ ∀ i j, i < n → j < 260 → cs[i * 260 + j]? = some (f i j)
structure Mach (w : World) (mb fb : Nat) (s : MS) : Prop where
  blk : w.heap[mb]? = some (.cells #[.bool true, .slice (some ⟨fb, 0, none⟩) s.n s.n] 90 (0, 0))
  lst : ∃ cs, w.heap[fb]? = some (.cells cs 117 (0, 0)) ∧ CellsAre cs s.n (cellM s)
  few : s.n ≤ 1000
theorem CellsAre.set {cs : Array Value} {n : Nat} {f : Nat → Nat → Value} (h : CellsAre cs n f) (i j : Nat) (hi : i < n) (hj : j < 260) (v : Value) : CellsAre (cs.setIfInBounds (i * 260 + j) v) n (fun a b => if a = i ∧ b = j then v else f a b) := by
  refine ⟨by rw [Array.size_setIfInBounds]; exact h.1, fun a b ha hb => ?_⟩
  rw [Array.getElem?_setIfInBounds]
  by_cases e : i * 260 + j = a * 260 + b
  · have hab : a = i ∧ b = j := by omega
    rw [if_pos e, if_pos (by rw [h.1]; omega)]
    simp [hab]
  · have hab : ¬ (a = i ∧ b = j) := by omega
    rw [if_neg e, h.2 a b ha hb]
    simp [hab]
theorem CellsAre.of {cs : Array Value} {n : Nat} {f g : Nat → Nat → Value} (h : CellsAre cs n f) (he : ∀ i j, i < n → j < 260 → f i j = g i j) : CellsAre cs n g :=
  ⟨h.1, fun i j hi hj => by rw [h.2 i j hi hj, he i j hi hj]⟩
section
variable {w w' : World} {mb fb : Nat} {s : MS}
theorem Mach.lt (h : Mach w mb fb s) : mb < w.heap.size ∧ fb < w.heap.size := by
  obtain ⟨cs, h1, h2⟩ := h.lst
  exact ⟨blk_lt h.blk, blk_lt h1⟩
theorem Mach.ne (h : Mach w mb fb s) : mb ≠ fb := by
  rintro rfl
  obtain ⟨cs, h1, h2⟩ := h.lst
  rw [h.blk] at h1
  injection h1 with h1
  injection h1 with h1 h3
  exact absurd h3 (by decide)
theorem Mach.chg {F : Nat → Prop} (h : Mach w mb fb s) (hc : Chg F w w') (hm : ¬ F mb) (hf : ¬ F fb) : Mach w' mb fb s := by
  obtain ⟨cs, h1, h2⟩ := h.lst
  exact ⟨hc.blk h.blk hm, ⟨cs, hc.blk h1 hf, h2⟩, h.few⟩
theorem Mach.below (h : Mach w mb fb s) (hb : Below w.heap.size w w') : Mach w' mb fb s := h.chg (Chg.below (fun _ => False) hb) (fun h => h) (fun h => h)
theorem Mach.cell (h : Mach w mb fb s) (i j : Nat) (hi : i < s.n) (hj : j < 260) : w.cell? ⟨fb, i * 260 + j, none⟩ = some (cellM s i j) := by
  obtain ⟨cs, h1, h2⟩ := h.lst
  exact (blk_cell h1 _).trans (h2.2 i j hi hj)
theorem Mach.own (h : Mach w mb fb s) (i : Nat) (hi : i < s.n) : w.cell? ⟨fb, i * 260, none⟩ = some (.int .i64 (s.fr i).own) := by
  have := h.cell i 0 hi (by decide)
  simpa [cellM] using this
theorem Mach.typ (h : Mach w mb fb s) (i : Nat) (hi : i < s.n) : w.cell? ⟨fb, i * 260 + 1, none⟩ = some (.int .i64 (s.fr i).typ) := by
  have := h.cell i 1 hi (by decide)
  simpa [cellM] using this
theorem Mach.cnt (h : Mach w mb fb s) (i : Nat) (hi : i < s.n) : w.cell? ⟨fb, i * 260 + 2, none⟩ = some (.int .i64 (s.fr i).cnt) := by
  have := h.cell i 2 hi (by decide)
  simpa [cellM] using this
theorem Mach.tot (h : Mach w mb fb s) (i : Nat) (hi : i < s.n) : w.cell? ⟨fb, i * 260 + 3, none⟩ = some (.int .i64 (s.fr i).tot) := by
  have := h.cell i 3 hi (by decide)
  simpa [cellM] using this
theorem Mach.byte (h : Mach w mb fb s) (i j : Nat) (hi : i < s.n) (hj : j < 256) : w.cell? ⟨fb, i * 260 + (4 + j), none⟩ = some (.int .u8 ((s.byt i j).toNat : Int)) := by
  have := h.cell i (4 + j) hi (by omega)
  rw [this]
  unfold cellM
  rw [if_neg (by omega), if_neg (by omega), if_neg (by omega), if_neg (by omega), show 4 + j - 4 = j by omega]
theorem Mach.frozen (h : Mach w mb fb s) (i : Nat) : w.frozen? ⟨fb, i, none⟩ = false := by
  obtain ⟨cs, h1, h2⟩ := h.lst
  exact blk_frozen h1 i
set_option maxHeartbeats 2000000 in
set_option maxRecDepth 100000 in
theorem none_calls (h : Mach w mb fb s) : Calls Try.prog 44 #[.pointer (some ⟨mb, 0, none⟩)] w fun e w' => e = .returned (.bool false) ∧ w' = w := by
  have C0 := fun i => blk_cell h.blk i
  have L0 := blk_lt h.blk
  clear h
  go_enter Try.func44, Try.ntmps44
  go_wp2
  go_ret
  exact ⟨by first | rfl | (simp; done), rfl⟩
set_option maxHeartbeats 2000000 in
set_option maxRecDepth 100000 in
theorem size_calls (h : Mach w mb fb s) : Calls Try.prog 15 #[.pointer (some ⟨mb, 0, none⟩)] w fun e w' => e = .returned (.int .i64 s.n) ∧ w' = w := by
  have C0 := fun i => blk_cell h.blk i
  have L0 := blk_lt h.blk
  have hn := none_calls h
  clear h
  go_enter Try.func15, Try.ntmps15
  go_wp2_with (first
    | (go_at_call 44; refine hn.mono ?_; rintro z w1 ⟨rfl, hw1⟩; obtain rfl := hw1.symm)
    | go_in)
  go_ret
  exact ⟨by first | rfl | (simp; done), rfl⟩
set_option maxHeartbeats 2000000 in
set_option maxRecDepth 100000 in
theorem at_calls (h : Mach w mb fb s) (k : Nat) (hk : k < s.n) : Calls Try.prog 48 #[.pointer (some ⟨mb, 0, none⟩), .int .i64 k] w fun e w' => e = .returned (.tuple #[.pointer (some ⟨fb, k * 260, none⟩), .int .i64 0]) ∧ w' = w := by
  have C0 := fun i => blk_cell h.blk i
  have L0 := blk_lt h.blk
  have hn := none_calls h
  have k0 : decide ((k : Int) < 0) = false := decide_eq_false (by omega)
  have k1 : decide ((s.n : Int) ≤ (k : Int)) = false := decide_eq_false (by omega)
  have k2 : (0 : Int) ≤ (k : Int) := Int.natCast_nonneg _
  have k3 : (k : Int) < (s.n : Int) := by omega
  have L1 := h.lt.2
  clear h
  go_enter Try.func48, Try.ntmps48
  go_wp2_with (first
    | (go_at_call 44; refine hn.mono ?_; rintro z w1 ⟨rfl, hw1⟩; obtain rfl := hw1.symm)
    | go_in)
  go_ret2
  exact ⟨by first | rfl | (simp; done), rfl⟩
set_option maxHeartbeats 2000000 in
set_option maxRecDepth 100000 in
theorem at_out (h : Mach w mb fb s) (k : Int) (hk : k < 0 ∨ (s.n : Int) ≤ k) : Calls Try.prog 48 #[.pointer (some ⟨mb, 0, none⟩), .int .i64 k] w fun e w' => e = .returned (.tuple #[.pointer none, .int .i64 1]) ∧ w' = w := by
  have C0 := fun i => blk_cell h.blk i
  have L0 := blk_lt h.blk
  have hn := none_calls h
  clear h
  by_cases h0 : k < 0
  · have k0 : decide (k < 0) = true := decide_eq_true h0
    clear hk h0
    go_enter Try.func48, Try.ntmps48
    go_wp2_with (first
      | (go_at_call 44; refine hn.mono ?_; rintro z w1 ⟨rfl, hw1⟩; obtain rfl := hw1.symm)
      | go_in)
    go_ret2
    exact ⟨by first | rfl | (simp; done), rfl⟩
  · have k0 : decide (k < 0) = false := decide_eq_false h0
    have k1 : decide ((s.n : Int) ≤ k) = true := decide_eq_true (by omega)
    clear hk h0
    go_enter Try.func48, Try.ntmps48
    go_wp2_with (first
      | (go_at_call 44; refine hn.mono ?_; rintro z w1 ⟨rfl, hw1⟩; obtain rfl := hw1.symm)
      | go_in)
    go_ret2
    exact ⟨by first | rfl | (simp; done), rfl⟩
end
end Go.Proofs.Ytjeobbhaoahdcaa.GaA
namespace Go.Proofs.Ytjeobbhaoahdcaa.GmA
open Go.RowKit Go.Maps Go.WideElems Go.Proofs.Ytjeobbhaoahdcaa.Base Go.Proofs.Ytjeobbhaoahdcaa.GaA
set_option linter.unusedVariables false
set_option linter.unusedSimpArgs false

/-- An element reads as itself. -/
def hv : Value → Option (DataW Value × List MemPlace) := fun v => some (.held v, [])
theorem hv_inv {v : Value} {d : DataW Value} {ps : List MemPlace} (h : hv v = some (d, ps)) : d = .held v := by
  unfold hv at h
  injection h with h
  injection h with h1 h2
  exact h1.symm
def got (o : Option Value) (z : DataW Value) : DataW Value := match o with | some v => .held v | none => z
theorem got_inv {o : Option Value} {z v : Value} (h : got o (.held z) = .held v) : v = o.getD z := by
  cases o with
  | none => exact (DataW.held.inj h).symm
  | some u => exact (DataW.held.inj h).symm
theorem K3 : Keyed Try.prog 3 := int_keyed Try.underlying3
/-- The map in block M holds (f x) at the key x, and nothing else; it has c entries. -/
def IMap (W : World) (M : Nat) (f : Int → Option Value) (c : Nat) : Prop :=
  ∃ D : DataW Value, W.ownsMap Try.prog 3 hv M c D ∧ Maps.size D = c ∧ (∀ x : Int, Maps.has D (.int .i64 x) = (f x).isSome) ∧ ∀ (x : Int) (z : DataW Value), D.atKey (.int .i64 x) z = got (f x) z
theorem ownsMap_block {w w' : World} {P : Program} {k : TypeId} {R : Value → Option (DataW Value × List MemPlace)} {b n : Nat} {D : DataW Value} (h : w.ownsMap P k R b n D) (hb : w'.heap[b]? = w.heap[b]?) : w'.ownsMap P k R b n D := by
  obtain ⟨es, clock, h1, h2⟩ := h
  exact ⟨es, clock, hb.trans h1, h2⟩
theorem ownsMap_tight {w : World} {P : Program} {k : TypeId} {R : Value → Option (DataW Value × List MemPlace)} {b n : Nat} {D : DataW Value} (h : w.ownsMap P k R b n D) : w.ownsMap P k R b (Maps.size D) D := by
  obtain ⟨es, clock, h1, h2, h3, rfl⟩ := h
  exact ⟨es, clock, h1, h2, by simp [Maps.size, length_sorted], rfl⟩
def put (f : Int → Option Value) (k : Int) (v : Value) : Int → Option Value := fun x => if x = k then some v else f x
def del (f : Int → Option Value) (k : Int) : Int → Option Value := fun x => if x = k then none else f x
theorem int_ne {a b : Int} (h : a ≠ b) : Lit.int .i64 a ≠ Lit.int .i64 b := fun e => h (by injection e)
theorem int_key (x : Int) : WideAt.IsKeyLit (.int .i64 x) := by simp [WideAt.IsKeyLit]
section
variable {W W' : World} {M c : Nat} {f : Int → Option Value}
theorem IMap.lt (h : IMap W M f c) : M < W.heap.size := by
  obtain ⟨D, h1, _⟩ := h
  exact h1.lt
theorem IMap.block (h : IMap W M f c) (hb : W'.heap[M]? = W.heap[M]?) : IMap W' M f c := by
  obtain ⟨D, h1, h2⟩ := h
  exact ⟨D, ownsMap_block h1 hb, h2⟩
theorem IMap.chg {F : Nat → Prop} (h : IMap W M f c) (hc : Chg F W W') (hf : ¬ F M) : IMap W' M f c := h.block (hc.block _ h.lt hf)
theorem IMap.below (h : IMap W M f c) (hb : Below W.heap.size W W') : IMap W' M f c := h.block (hb.block _ h.lt)
theorem IMap.is (h : IMap W M f c) : ∃ es clock, W.heap[M]? = some (.map es clock) := by
  obtain ⟨D, ⟨es, clock, h1, _⟩, _⟩ := h
  exact ⟨es, clock, h1⟩
theorem IMap.made (w : World) : IMap (w.alloc (.map #[] 0)) w.heap.size (fun _ => none) 0 :=
  ⟨.map [], World.ownsMap_made w _ _ _, rfl, fun x => rfl, fun x z => rfl⟩
theorem IMap.made_at {w : World} {M : Nat} (h : w.heap[M]? = some (.map #[] 0)) : IMap w M (fun _ => none) 0 := by
  obtain ⟨es, clock, h1, h2, h3, h4⟩ := World.ownsMap_made (H := Value) (⟨#[], w.tape, w.drawn, w.os, w.output⟩ : World) Try.prog 3 hv
  have h1' : some (Obj.map #[] 0) = some (Obj.map es clock) := h1
  injection h1' with h1'
  injection h1' with ha hb
  subst ha hb
  exact ⟨.map [], ⟨#[], 0, h, h2, h3, h4⟩, rfl, fun x => rfl, fun x z => rfl⟩
theorem wf64 {x : Int} (h0 : -9223372036854775808 ≤ x) (h1 : x ≤ 9223372036854775807) : (Lit.int .i64 x).wf = true := by
  have h1 : IntKind.i64.min = -9223372036854775808 := rfl
  have h2 : IntKind.i64.max = 9223372036854775807 := rfl
  simp [Lit.wf]
  omega
theorem IMap.look_ok (h : IMap W M f c) {t e : TypeId} (ht : Try.prog.underlying t = some (.map 3 e)) {z : Value} (hz : (zeroValue e).run Try.prog W = .ok z W) (x : Int) (h0 : -9223372036854775808 ≤ x) (h1 : x ≤ 9223372036854775807) :
    (Instr.lookup t (.map (some M)) (.int .i64 x) true).run Try.prog W = .ok (.tuple #[(f x).getD z, .bool (f x).isSome]) W := by
  obtain ⟨D, h2, h3, h4, h5⟩ := h
  obtain ⟨v, ps, hrun, hvv⟩ := h2.look_ok K3 ht hz (show hv z = some (.held z, []) from rfl) (keyOf_int_mk Try.underlying3 (wf64 h0 h1))
  have hd := hv_inv hvv
  rw [h5 x] at hd
  have e : v = (f x).getD z := got_inv hd
  rw [hrun, e, h4 x]
theorem IMap.look (h : IMap W M f c) {t e : TypeId} (ht : Try.prog.underlying t = some (.map 3 e)) {z : Value} (hz : (zeroValue e).run Try.prog W = .ok z W) (x : Int) (h0 : -9223372036854775808 ≤ x) (h1 : x ≤ 9223372036854775807) :
    (Instr.lookup t (.map (some M)) (.int .i64 x) false).run Try.prog W = .ok ((f x).getD z) W := by
  obtain ⟨D, h2, h3, h4, h5⟩ := h
  obtain ⟨v, ps, hrun, hvv⟩ := h2.lookup K3 ht hz (show hv z = some (.held z, []) from rfl) (keyOf_int_mk Try.underlying3 (wf64 h0 h1))
  have hd := hv_inv hvv
  rw [h5 x] at hd
  have e : v = (f x).getD z := got_inv hd
  rw [hrun, e]
theorem IMap.len (h : IMap W M f c) {t e : TypeId} (ht : Try.prog.underlying t = some (.map 3 e)) (ty : TypeId) : (Builtin.len_ #[t] ty #[.map (some M)]).run Try.prog W = .ok (.int .i64 c) W := by
  obtain ⟨D, h1, h2, _⟩ := h
  rw [h1.len ht ty, h2]
/-- A new entry. -/
theorem IMap.store (h : IMap W M f c) {t e : TypeId} (ht : Try.prog.underlying t = some (.map 3 e)) (x : Int) (h0 : -9223372036854775808 ≤ x) (h1 : x ≤ 9223372036854775807) (v : Value) (hc : c < 1000000) (hn : f x = none) :
    ∃ W', (Instr.mapUpdate t (.map (some M)) (.int .i64 x) v).run Try.prog W = .ok () W' ∧ IMap W' M (put f x v) (c + 1) ∧ Chg (fun k => k = M) W W' := by
  obtain ⟨D, h2, h3, h4, h5⟩ := h
  obtain ⟨W', hrun, ho, hg⟩ := h2.update K3 ht (by unfold maxLen; omega) (keyOf_int_mk Try.underlying3 (wf64 h0 h1)) (show hv v = some (.held v, []) from rfl)
  have hsz : Maps.size (D.put (.int .i64 x) (.held v)) = c + 1 := by
    rw [size_put (h2.tidy K3), h4 x, hn, h3]
    rfl
  refine ⟨W', hrun, ⟨D.put (.int .i64 x) (.held v), ?_, hsz, fun y => ?_, fun y z => ?_⟩, ⟨hg.os, hg.tape, hg.output, hg.size, fun k hk hf => hg.block k hk (fun e => hf (Option.some.inj e))⟩⟩
  · have := ownsMap_tight ho
    rw [hsz] at this
    exact this
  · unfold put
    by_cases e : y = x
    · subst e
      rw [if_pos rfl, has_put_same h2.isMap (int_key _)]
      rfl
    · rw [if_neg e, has_put_other (int_ne e), h4 y]
  · unfold put
    by_cases e : y = x
    · subst e
      rw [if_pos rfl, atKey_put_same h2.isMap (int_key _)]
      rfl
    · rw [if_neg e, atKey_put_other (int_ne e), h5 y]
theorem setBlock_at {W : World} {M : Nat} (h : M < W.heap.size) (o : Obj) : (Go.ChangeMaps.setBlock W M o).heap[M]? = some o := by
  unfold Go.ChangeMaps.setBlock
  rw [Array.getElem?_setIfInBounds, if_pos rfl, if_pos h]
theorem setBlock_far (W : World) {M k : Nat} (h : k ≠ M) (o : Obj) : (Go.ChangeMaps.setBlock W M o).heap[k]? = W.heap[k]? := by
  unfold Go.ChangeMaps.setBlock
  rw [Array.getElem?_setIfInBounds, if_neg (fun e => h e.symm)]
theorem setBlock_size (W : World) (M : Nat) (o : Obj) : (Go.ChangeMaps.setBlock W M o).heap.size = W.heap.size := by
  unfold Go.ChangeMaps.setBlock
  simp
theorem setBlock_chg (W : World) (M : Nat) (o : Obj) : Chg (fun k => k = M) W (Go.ChangeMaps.setBlock W M o) := ⟨rfl, rfl, rfl, Nat.le_of_eq (setBlock_size W M o).symm, fun k _ hk => setBlock_far W hk o⟩
/-- A new entry, in the two steps of an assignment of several. -/
theorem IMap.entry (h : IMap W M f c) {t e : TypeId} (ht : Try.prog.underlying t = some (.map 3 e)) {z : Value} (hz : ∀ u : World, (zeroValue e).run Try.prog u = .ok z u) (x : Int) (h0 : -9223372036854775808 ≤ x) (h1 : x ≤ 9223372036854775807) (v : Value) (hc : c < 1000000) (hn : f x = none) :
    ∃ (st : Nat) (o0 o1 o2 : Obj), W.heap[M]? = some o0 ∧ (∀ w2 : World, w2.heap[M]? = some o0 → (Instr.mapEntry t (.map (some M)) (.int .i64 x)).run Try.prog w2 = .ok (.tuple #[z, .int .i64 st]) (Go.ChangeMaps.setBlock w2 M o1)) ∧
      (∀ w2 : World, w2.heap[M]? = some o1 → (Instr.entryStore t (.map (some M)) (.int .i64 st) v).run Try.prog w2 = .ok () (Go.ChangeMaps.setBlock w2 M o2)) ∧
      (∀ w2 : World, w2.heap[M]? = some o2 → IMap w2 M (put f x v) (c + 1)) := by
  have hkey := keyOf_int_mk (k := 3) Try.underlying3 (wf64 h0 h1)
  obtain ⟨W1, hrun1, hI1, hc1⟩ := h.store ht x h0 h1 v hc hn
  have hlk := fun (w2 : World) (hw : IMap w2 M f c) => hw.look_ok ht (hz w2) x h0 h1
  obtain ⟨es, clock, hb⟩ := h.is
  have hF : ∃ F : Fit Try.prog 3 hv es clock, True := by
    obtain ⟨D, ⟨es', clock', h1', F, _⟩, _⟩ := h
    rw [hb] at h1'
    injection h1' with h1'
    injection h1' with ha hb'
    subst ha hb'
    exact ⟨F, trivial⟩
  obtain ⟨F, _⟩ := hF
  obtain ⟨s1, s2, _⟩ := F.stamped
  have hnone : ∀ w2 : World, w2.heap[M]? = some (.map es clock) → (Instr.findKey 3 (.int .i64 x) es.toList).run Try.prog w2 = .ok none w2 := by
    intro w2 hw2
    have hl := hlk w2 (h.block (hw2.trans hb.symm))
    rw [hn] at hl
    rcases fit_look true K3 ht (hz w2) hw2 F hkey with ⟨_, hne, _⟩ | ⟨e0, y, _, _, hr, _⟩
    · rcases K3.find w2 hkey es.toList F.keys with ⟨a, _⟩ | ⟨j, e0, _, b, c⟩
      · exact a
      · exact absurd c (hne e0 (List.mem_of_getElem? b))
    · rw [hl] at hr
      simp at hr
  refine ⟨clock, .map es clock, .map (es.push ⟨.int .i64 x, z, clock⟩) (clock + 1), .map (es.push ⟨.int .i64 x, v, clock⟩) (clock + 1), hb, ?_, ?_, ?_⟩
  · intro w2 hw2
    simp [Instr.mapEntry, run_underlying ht, MapKept.run_getObj_map hw2, K3.check w2 false hkey, hnone w2 hw2, hz, MapKept.run_setObj_map _ hw2, Result.andThen, Go.ChangeMaps.setBlock, goInt]
  · intro w2 hw2
    have hidx : (es.push ⟨.int .i64 x, z, clock⟩).findIdx? (fun e => ((e.born : Nat) : Int) == ((clock : Nat) : Int)) = some es.size := by
      rw [WideElems.findIdx_arr]
      exact WideElems.findIdx_born (l := (es.push ⟨.int .i64 x, z, clock⟩).toList) (j := es.size) (e0 := ⟨.int .i64 x, z, clock⟩) (by
        simp only [Array.toList_push, List.map_append, List.map_cons, List.map_nil]
        refine List.nodup_append.2 ⟨s2, by simp, fun a ha c hc e1 => ?_⟩
        simp only [List.mem_singleton] at hc
        obtain ⟨y, hy, rfl⟩ := List.mem_map.1 ha
        have := s1 y hy
        omega) (by simp)
    have hmod : (es.push ⟨.int .i64 x, z, clock⟩).modify es.size (fun e => { e with val := v }) = es.push ⟨.int .i64 x, v, clock⟩ := by
      apply Array.ext'
      rw [Array.toList_modify, Array.toList_push, Array.toList_push, ← Array.length_toList, WideElems.modify_last]
    simp [Instr.entryStore, MapKept.run_getObj_map hw2, asInt, asIntOf, goInt, hidx, hmod, MapKept.run_setObj_map _ hw2, Result.andThen, Go.ChangeMaps.setBlock]
  · intro w2 hw2
    refine hI1.block (hw2.trans ?_)
    have hr2 : (Instr.mapUpdate t (.map (some M)) (.int .i64 x) v).run Try.prog W = .ok () (Go.ChangeMaps.setBlock W M (.map (es.push ⟨.int .i64 x, v, clock⟩) (clock + 1))) := by
      simp [Instr.mapUpdate, run_underlying ht, MapKept.run_getObj_map hb, K3.check W false hkey, hnone W hb, MapKept.run_setObj_map _ hb, Result.andThen, Go.ChangeMaps.setBlock]
    rw [hr2] at hrun1
    have hW1 := (Result.ok.inj hrun1).2
    rw [← hW1]
    exact (setBlock_at h.lt _).symm
/-- An entry goes. -/
theorem IMap.drop (h : IMap W M f c) {t e : TypeId} (ht : Try.prog.underlying t = some (.map 3 e)) (x : Int) (h0 : -9223372036854775808 ≤ x) (h1 : x ≤ 9223372036854775807) (hn : (f x).isSome = true) (ty : TypeId) :
    ∃ W', (Builtin.delete_ #[t, 3] ty #[.map (some M), .int .i64 x]).run Try.prog W = .ok (.tuple #[]) W' ∧ IMap W' M (del f x) (c - 1) ∧ Chg (fun k => k = M) W W' := by
  obtain ⟨D, h2, h3, h4, h5⟩ := h
  obtain ⟨W', hrun, ho, ht'⟩ := h2.drop K3 ht (keyOf_int_mk Try.underlying3 (wf64 h0 h1)) ty
  have hg := ht'.grown
  have hsz : Maps.size (D.del (.int .i64 x)) = c - 1 := by
    have := size_del (k := .int .i64 x) (h2.tidy K3)
    rw [h4 x, hn, h3] at this
    simp at this
    omega
  refine ⟨W', hrun, ⟨D.del (.int .i64 x), ?_, hsz, fun y => ?_, fun y z => ?_⟩, ⟨hg.os, hg.tape, hg.output, hg.size, fun k hk hf => hg.block k hk (fun e => hf (Option.some.inj e))⟩⟩
  · have := ownsMap_tight ho
    rw [hsz] at this
    exact this
  · unfold del
    by_cases e : y = x
    · subst e
      rw [if_pos rfl, has_del_same]
      rfl
    · rw [if_neg e, has_del_other (int_ne e), h4 y]
  · unfold del
    by_cases e : y = x
    · subst e
      rw [if_pos rfl, atKey_del_same]
      rfl
    · rw [if_neg e, atKey_del_other (int_ne e), h5 y]
end
end Go.Proofs.Ytjeobbhaoahdcaa.GmA
