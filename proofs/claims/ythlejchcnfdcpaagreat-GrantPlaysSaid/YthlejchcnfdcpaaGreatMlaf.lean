/- Proved: what phys.New makes, of every number of frames (a contract for the laws of the grants). -/
import Derived.Test.YthlejchcnfdcpaaGreatMlaa
namespace Go.Proofs.YthlejchcnfdcpaaGreat.Phys
open Go.RowKit Base
set_option linter.unusedVariables false

/-- A frame's cell of the zero value. -/
def frame0 (j : Nat) : Value := if j < 4 then .int .i64 0 else .int .u8 0
def newCell (k i j : Nat) : Value := if j = 0 ∧ i < k then .int .i64 (-1) else frame0 j
/-- A row of n frames of 260 cells each, cell by cell. -/
def CellsAre (cs : Array Value) (n : Nat) (f : Nat → Nat → Value) : Prop := cs.size = n * 260 ∧ ∀ i j, i < n → j < 260 → cs[i * 260 + j]? = some (f i j)

theorem zerosF : ((Tryz.prog.info? 113).bind (fun i => i.zero)).map (fun z => z.cells.toList) = some ((List.range 260).map frame0) := by kernel_rfl
theorem sizesF : (Tryz.prog.info? 113).map (fun i => (i.size, i.bytes)) = some (260, 288) := by kernel_rfl
theorem infoF : ∃ i z, Tryz.prog.info? 113 = some i ∧ i.zero = some z ∧ i.size = 260 ∧ i.bytes = 288 ∧ z.cells.size = 260 ∧ ∀ j, j < 260 → z.cells[j]? = some (frame0 j) := by
  have h1 := zerosF
  have h2 := sizesF
  cases hi : Tryz.prog.info? 113 with
  | none => rw [hi] at h2; cases h2
  | some i =>
    rw [hi] at h1 h2
    simp only [Option.map_some, Option.some.injEq, Prod.mk.injEq] at h2
    simp only [Option.bind_some] at h1
    cases hz : i.zero with
    | none => rw [hz] at h1; cases h1
    | some z =>
      rw [hz] at h1
      simp only [Option.map_some, Option.some.injEq] at h1
      refine ⟨i, z, rfl, hz, h2.1, h2.2, ?_, ?_⟩
      · rw [← Array.length_toList, h1]; simp
      · intro j hj
        rw [← Array.getElem?_toList, h1]
        simp [hj]
theorem made_frames {z : Array Value} (hs : z.size = 260) (hz : ∀ j, j < 260 → z[j]? = some (frame0 j)) (n : Nat) : CellsAre (madeCells z (n * 260)) n (newCell 0) := by
  refine ⟨by rw [size_madeCells], fun i j hi hj => ?_⟩
  have hlt : i * 260 + j < n * 260 := by omega
  unfold madeCells
  rw [Array.getElem?_map, Array.getElem?_range, if_pos hlt]
  simp only [Option.map_some, Option.some.injEq, hs]
  rw [show (i * 260 + j) % 260 = j by omega]
  have hb : j < z.size := by omega
  rw [getElem!_pos z j hb]
  have := hz j hj
  rw [Array.getElem?_eq_getElem hb] at this
  rw [Option.some.inj this]
  unfold newCell
  rw [if_neg (by omega)]
theorem cells_step {cs : Array Value} {n k : Nat} (h : CellsAre cs n (newCell k)) (hk : k < n) : CellsAre (cs.setIfInBounds (k * 260) (.int .i64 (-1))) n (newCell (k + 1)) := by
  refine ⟨by simp [h.1], fun i j hi hj => ?_⟩
  rw [Array.getElem?_setIfInBounds]
  by_cases e : k * 260 = i * 260 + j
  · have : i = k ∧ j = 0 := by omega
    rw [if_pos e, if_pos (by rw [h.1]; omega)]
    unfold newCell
    rw [if_pos (by omega)]
  · rw [if_neg e, h.2 i j hi hj]
    unfold newCell
    by_cases c : j = 0 ∧ i < k
    · rw [if_pos c, if_pos (by omega)]
    · rw [if_neg c, if_neg (by omega)]

/-- What New comes to. -/
def NewOut (w : World) (n : Nat) (e : Ending) (w' : World) : Prop :=
  ∃ mb fb cs, e = .returned (.tuple #[.pointer (some ⟨mb, 0, none⟩), .int .i64 0]) ∧ w.heap.size ≤ mb ∧ w.heap.size ≤ fb ∧ mb ≠ fb ∧ w'.heap[mb]? = some (.cells #[.bool true, .slice (some ⟨fb, 0, none⟩) n n] 109 (0, 0)) ∧ w'.heap[fb]? = some (.cells cs 113 (0, 0)) ∧ CellsAre cs n (newCell n) ∧ Below w.heap.size w w'

/-- The loop's relation. -/
def Rel (w : World) (n k : Nat) (wr : World) : Prop :=
  ∃ cs, wr.heap[w.heap.size + 1]? = some (.cells #[.bool true, .slice (some ⟨w.heap.size, 0, none⟩) n n] 109 (0, 0)) ∧ wr.heap[w.heap.size]? = some (.cells cs 113 (0, 0)) ∧ CellsAre cs n (newCell k) ∧ Below w.heap.size w wr

set_option maxHeartbeats 2000000 in
set_option maxRecDepth 100000 in
theorem new_calls (n : Nat) (w : World) (h1 : 1 ≤ n) (h2 : n ≤ 256) : Calls Tryz.prog 7 #[.int .i64 n] w (NewOut w n) := by
  obtain ⟨i, z, hi, hz, hs, hb, hzs, hzc⟩ := infoF
  have hmk := run_make (P := Tryz.prog) (w := w) 107 113 i z Tryz.underlying107 hi hz .i64 .i64 n n (by omega) (Int.le_refl _) (by rw [hb]; omega) (by omega)
  rw [hs] at hmk
  simp only [Int.toNat_natCast] at hmk
  have hc := made_frames hzs hzc n
  generalize hM : madeCells z.cells (n * 260) = M at hmk hc
  have HC := Aside.mk hc
  clear hM hc hzc hzs hb hs hz hi
  go_enter Tryz.func7, Tryz.ntmps7
  go_wp2
  have hstart : Rel w n 0 ((w.alloc (Obj.cells M 113)).alloc (Obj.cells #[Value.bool true, Value.slice (some { block := w.heap.size, off := 0 }) n n] 109)) :=
    ⟨M, blk_newest (by simp) _, blk_alloc (blk_new _ _) _, HC.out, below_alloc (below_alloc (Below.refl _ _) _) _⟩
  have HS := Aside.mk hstart
  clear hstart hmk
  go_loopw [21] (fun v wr => ∃ k : Nat, k ≤ n ∧ v = .int .i64 k ∧ Rel w n k wr) (fun v _ => n - (intOf v).toNat)
  case atStart => exact ⟨0, Nat.zero_le _, rfl, HS.out⟩
  case round =>
    obtain ⟨k, hk, rfl, cs, hb1, hb2, hcs, hbl⟩ := hrel
    have C1 := fun i => blk_cell hb1 i
    have F2 := fun i => blk_frozen hb2 i
    by_cases hlt : k < n
    · have hc0 := hcs.2 k 0 hlt (by omega)
      have c0 : wr.cell? ⟨w.heap.size, k * 260, none⟩ = some (newCell k k 0) := (blk_cell hb2 _).trans hc0
      have HX := Aside.mk (And.intro hb1 (And.intro hb2 (And.intro hcs hbl)))
      clear hb1 hb2 hcs hbl hc0
      generalize newCell k k 0 = old at c0
      go_wp2
      refine ⟨⟨k + 1, by omega, by simp, ?_⟩, by simp [intOf]; omega⟩
      obtain ⟨hb1, hb2, hcs, hbl⟩ := HX.out
      exact ⟨_, blk_far hb1 (by simp) _, blk_put hb2 _ _ rfl, cells_step hcs hlt, below_set hbl (Nat.le_refl _) _⟩
    · have : k = n := by omega
      subst this
      have HX := Aside.mk (And.intro hb1 (And.intro hb2 (And.intro hcs hbl)))
      clear hb1 hb2 hcs hbl
      go_wp2
      go_ret2
      obtain ⟨hb1, hb2, hcs, hbl⟩ := HX.out
      exact ⟨_, _, cs, rfl, by omega, Nat.le_refl _, by omega, hb1, hb2, hcs, hbl⟩
end Go.Proofs.YthlejchcnfdcpaaGreat.Phys
