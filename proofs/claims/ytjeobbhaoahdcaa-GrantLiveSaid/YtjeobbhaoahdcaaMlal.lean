/- Proved: the document's machine is written (contracts for the laws of the grants). Proved: what phys.New makes, of every number of frames (a contract for the laws of the grants). Proved: what grant.New makes of a machine (a contract for the laws of the grants). -/
import Derived.Test.YtjeobbhaoahdcaaMlak
namespace Go.Proofs.Ytjeobbhaoahdcaa.GoA
open Go.RowKit Go.Maps Go.Proofs.Ytjeobbhaoahdcaa.Base Go.Proofs.Ytjeobbhaoahdcaa.GaA Go.Proofs.Ytjeobbhaoahdcaa.GaB Go.Proofs.Ytjeobbhaoahdcaa.GaC Go.Proofs.Ytjeobbhaoahdcaa.GaD Go.Proofs.Ytjeobbhaoahdcaa.RpA Go.Proofs.Ytjeobbhaoahdcaa.RmA Go.Proofs.Ytjeobbhaoahdcaa.RmB Go.Proofs.Ytjeobbhaoahdcaa.RmC
set_option linter.unusedVariables false
set_option linter.unusedSimpArgs false

/-- One byte is another. -/
def byS (s : MS) (k j : Nat) (b : UInt8) : MS := { s with byt := fun i l => if i = k ∧ l = j then b else s.byt i l }
theorem wr_take (s : MS) (k off : Nat) (zs : List UInt8) (i : Nat) (hi : i < zs.length) : byS (MS.wr s k off (zs.take i)) k (off + i) (zs.getD i 0) = MS.wr s k off (zs.take (i + 1)) := by
  unfold byS MS.wr
  congr 1
  funext a l
  simp only [List.length_take]
  by_cases h : a = k ∧ l = off + i
  · obtain ⟨rfl, rfl⟩ := h
    rw [if_pos ⟨rfl, rfl⟩, if_pos (by omega)]
    rw [show off + i - off = i by omega, List.getD_eq_getElem?_getD, List.getD_eq_getElem?_getD, List.getElem?_take, if_pos (by omega)]
  · rw [if_neg h]
    by_cases h2 : a = k ∧ off ≤ l ∧ l < off + min i zs.length
    · rw [if_pos h2, if_pos (by omega), List.getD_eq_getElem?_getD, List.getD_eq_getElem?_getD, List.getElem?_take, List.getElem?_take, if_pos (by omega), if_pos (by omega)]
    · rw [if_neg h2, if_neg (by omega)]
section
variable {w w' : World} {rb Fb Bb cF cB : Nat} {bs : List Nat} {s : MS}
theorem RMach.slot (h : RMach w rb Fb Bb cF cB bs s) (k : Nat) (hk : k < s.n) : w.cell? ⟨Bb, k, none⟩ = some (.slice (some ⟨bs.getD k 0, 0, none⟩) 256 256) := by
  obtain ⟨cs, g1, g2⟩ := h.rows
  rw [blk_cell g1, g2 k hk]
theorem RMach.byte (h : RMach w rb Fb Bb cF cB bs s) (k j : Nat) (hk : k < s.n) (hj : j < 256) : w.cell? ⟨bs.getD k 0, j, none⟩ = some (.int .u8 ((s.byt k j).toNat : Int)) := by
  rw [blk_cell (h.page k hk)]
  simp only [u8s, MS.rd, List.getElem?_toArray, List.getElem?_map]
  rw [List.getElem?_range hj]
  simp
theorem RMach.mem (h : RMach w rb Fb Bb cF cB bs s) (k : Nat) (hk : k < s.n) : bs.getD k 0 ∈ bs := by
  rw [List.getD_eq_getElem?_getD, List.getElem?_eq_getElem (by rw [h.len]; exact hk)]
  exact List.getElem_mem _
theorem rd_set (s : MS) (k j : Nat) (b : UInt8) (hj : j < 256) : (u8s (MS.rd s k 0 256)).toArray.setIfInBounds j (.int .u8 (b.toNat : Int)) = (u8s (MS.rd (byS s k j b) k 0 256)).toArray := by
  apply Array.ext_getElem?
  intro i
  rw [Array.getElem?_setIfInBounds]
  simp only [u8s, MS.rd, List.size_toArray, List.length_map, List.length_range, List.getElem?_toArray, List.getElem?_map]
  by_cases hi : i < 256
  · rw [List.getElem?_range hi]
    simp only [Option.map_some]
    by_cases h : j = i
    · subst h
      rw [if_pos rfl, if_pos hj]
      simp [byS]
    · rw [if_neg h]
      have : ¬ (0 + i = j) := by omega
      simp [byS, show ¬ i = j by omega]
  · rw [List.getElem?_eq_none (by simp; omega)]
    rw [if_neg (by omega)]
    simp
theorem rd_other (s : MS) (k j i : Nat) (b : UInt8) (h : i ≠ k) : MS.rd (byS s k j b) i 0 256 = MS.rd s i 0 256 := by
  unfold MS.rd byS
  simp [h]
theorem rmach_byte (h : RMach w rb Fb Bb cF cB bs s) (k : Nat) (hk : k < s.n) (j : Nat) (hj : j < 256) (b : UInt8) : RMach (w.setCell ⟨bs.getD k 0, j, none⟩ (.int .u8 (b.toNat : Int))) rb Fb Bb cF cB bs (byS s k j b) ∧ Chg (fun x => x = bs.getD k 0) w (w.setCell ⟨bs.getD k 0, j, none⟩ (.int .u8 (b.toNat : Int))) := by
  obtain ⟨cs, g1, g2⟩ := h.frs
  obtain ⟨cs2, g3, g4⟩ := h.rows
  have hp := h.page k hk
  have hc := chg_fb (Chg.refl (fun x => x = bs.getD k 0) w) j (.int .u8 (b.toNat : Int))
  refine ⟨⟨hc.blk h.blk (blk_ne h.blk hp (by decide)), ⟨cs, hc.blk g1 (blk_ne g1 hp (by decide)), fun i l hi hl => by rw [g2 i l hi hl]; match l, hl with | 0, _ => rfl | 1, _ => rfl | 2, _ => rfl | 3, _ => rfl⟩, ⟨cs2, hc.blk g3 (blk_ne g3 hp (by decide)), g4⟩, h.len, h.nodup, fun i hi => ?_, h.few⟩, hc⟩
  by_cases hik : i = k
  · subst hik
    exact blk_put hp j _ (rd_set s i j b hj)
  · rw [rd_other s k j i b hik]
    have hi2 : i < bs.length := by rw [h.len]; exact hi
    have hk2 : k < bs.length := by rw [h.len]; exact hk
    refine hc.blk (h.page i hi) (fun e => hik ?_)
    rw [List.getD_eq_getElem?_getD, List.getD_eq_getElem?_getD, List.getElem?_eq_getElem hi2, List.getElem?_eq_getElem hk2] at e
    exact (List.getElem_inj h.nodup).1 e
set_option maxHeartbeats 4000000 in
set_option maxRecDepth 100000 in
theorem in_ok (h : RMach w rb Fb Bb cF cB bs s) (k off n : Nat) (hk : k < s.n) (ho : off + n ≤ 256) : Calls Try.prog 79 #[.pointer (some ⟨rb, 0, none⟩), .int .i64 k, .int .i64 off, .int .i64 n] w fun e w' => e = .returned (.bool true) ∧ w' = w := by
  have hi := is_calls h k hk
  have d0 : decide ((0 : Int) ≤ (off : Int)) = true := decide_eq_true (by omega)
  have d1 : decide ((0 : Int) ≤ (n : Int)) = true := decide_eq_true (by omega)
  have d2 : decide ((off : Int) ≤ 256) = true := decide_eq_true (by omega)
  have d3 : decide ((n : Int) ≤ 256 - (off : Int)) = true := decide_eq_true (by omega)
  clear h
  go_enter Try.func79, Try.ntmps79
  go_wp2_with (first
    | (go_at_call 85; refine hi.mono ?_; rintro z w1 ⟨rfl, hw1⟩; obtain rfl := hw1.symm)
    | go_in)
  go_ret
  exact ⟨by first | rfl | (simp; done), rfl⟩
set_option maxHeartbeats 600000 in
set_option maxRecDepth 100000 in
theorem rwrite (h : RMach w rb Fb Bb cF cB bs s) (k off : Nat) (hk : k < s.n) (hown : (s.fr k).own ≠ -1) (x : Addr) (c : Nat) (zs : List UInt8) (hz : Holds w x zs) (ho : off + zs.length ≤ 256) (hx : x.block ≠ bs.getD k 0) :
    Calls Try.prog 52 #[.pointer (some ⟨rb, 0, none⟩), .int .i64 k, .int .i64 off, .slice (some x) zs.length c] w fun e w' => e = .returned (.int .i64 0) ∧ RMach w' rb Fb Bb cF cB bs (MS.wr s k off zs) ∧ Chg (fun y => y = bs.getD k 0) w w' := by
  have hin := in_ok h k off zs.length hk ho
  have C0 := fun i => blk_cell h.blk i
  have L0 := blk_lt h.blk
  have LF := h.lt.2.1
  have c0 := h.own k hk
  have e2 : (0 : Int) ≤ (k : Int) := Int.natCast_nonneg _
  have e3 : (k : Int) < (s.n : Int) := by omega
  have d0 : ((s.fr k).own == -1) = false := by simp [hown]
  obtain ⟨n, hn⟩ : ∃ n, n = zs.length := ⟨_, rfl⟩
  rw [← hn] at hin ho ⊢
  have hst : RMach w rb Fb Bb cF cB bs (MS.wr s k off (zs.take 0)) := by rw [List.take_zero, wr_none]; exact h
  have HS := Base.Aside.mk (And.intro hst (And.intro hz h))
  have HN := Base.Aside.mk hn
  have HX := Base.Aside.mk hx
  clear h hz hst hown hn hx
  go_enter Try.func52, Try.ntmps52
  go_wp2_with (first
    | (go_at_call 79; refine hin.mono ?_; rintro z w1 ⟨rfl, hw1⟩; obtain rfl := hw1.symm)
    | go_in)
  clear C0 L0 LF c0
  go_loopw [9] (fun v wr => ∃ (i : Nat) (W2 : World), i ≤ n ∧ v = .int .i64 i ∧ wr = W2 ∧ Base.Aside (RMach W2 rb Fb Bb cF cB bs (MS.wr s k off (zs.take i)) ∧ Chg (fun y => y = bs.getD k 0) w W2)) (fun v _ => n - (intOf v).toNat)
  case atStart => exact ⟨0, w, by omega, rfl, rfl, ⟨HS.out.1, Chg.refl _ _⟩⟩
  case round =>
    obtain ⟨i, W2, hi, rfl, hwr, hA⟩ := hrel
    obtain rfl := hwr.symm
    by_cases hlt : i < n
    · have h2 := hA.out.1
      have C2 := fun i => blk_cell h2.blk i
      have L2 := blk_lt h2.blk
      have hn := HN.out
      have hs2 := RMach.slot h2 k hk
      have LB := h2.lt.2.2
      have hb2 := RMach.byte h2 k (off + i) hk (by omega)
      have hpg := h2.page k hk
      have f2 := fun j => blk_frozen hpg j
      have hz2 := HS.out.2.1.chg hA.out.2 HX.out
      have c3 := hz2.cell i (by omega)
      have LX := hz2.lt
      have LP := blk_lt hpg
      have hd : zs.getD i 0 = zs[i]'(by omega) := by rw [List.getD_eq_getElem?_getD, List.getElem?_eq_getElem (by omega)]; rfl
      have hnx := rmach_byte h2 k hk (off + i) (by omega) (zs.getD i 0)
      rw [wr_take s k off zs i (by omega)] at hnx
      rw [← hd] at c3
      generalize zs.getD i 0 = z at c3 hnx
      generalize (MS.wr s k off (zs.take i)).byt k (off + i) = ob at hb2
      have hn2 : (MS.wr s k off (zs.take i)).n = s.n := rfl
      rw [hn2] at C2
      have b1 : (0 : Int) ≤ (off : Int) + i := by omega
      have b2 : (off : Int) + i < 256 := by omega
      have b3 : (0 : Int) ≤ (i : Int) := by omega
      have b4 : (i : Int) < (n : Int) := by omega
      have HNX := Base.Aside.mk (And.intro hnx.1 (hA.out.2.trans hnx.2))
      obtain ⟨pk, hpk⟩ : ∃ pk, pk = bs.getD k 0 := ⟨_, rfl⟩
      rw [← hpk] at hs2 hb2 f2 LP
      have HPK := Base.Aside.mk hpk
      clear h2 hpg hz2 hnx hd hn2 hn hpk
      go_wp2
      go_region
      all_goals
        go_wp2
        refine ⟨⟨i + 1, _, by omega, by simp, rfl, ⟨?_, ?_⟩⟩, by simp [intOf]; omega⟩
        · have h9 := HNX.out.1
          rw [← HPK.out] at h9
          exact h9.below (Below.refl _ _).drew
        · have h9 := HNX.out.2
          rw [← HPK.out] at h9 ⊢
          exact h9.drew
    · obtain rfl : i = n := by omega
      go_wp2
      go_ret
      have ht : zs.take i = zs := List.take_of_length_le (by have := HN.out; omega)
      have h3 := hA.out
      rw [ht] at h3
      exact ⟨by first | rfl | (simp; done), h3.1, h3.2⟩
end
end Go.Proofs.Ytjeobbhaoahdcaa.GoA
namespace Go.Proofs.Ytjeobbhaoahdcaa.Phys
open Go.RowKit Go.Proofs.Ytjeobbhaoahdcaa.Base
set_option linter.unusedVariables false

/-- A frame's cell of the zero value. -/
def frame0 (j : Nat) : Value := if j < 4 then .int .i64 0 else .int .u8 0
def newCell (k i j : Nat) : Value := if j = 0 ∧ i < k then .int .i64 (-1) else frame0 j
/-- A row of n frames of 260 cells each, cell by cell. -/
def CellsAre (cs : Array Value) (n : Nat) (f : Nat → Nat → Value) : Prop := cs.size = n * 260 ∧ ∀ i j, i < n → j < 260 → cs[i * 260 + j]? = some (f i j)

theorem zerosF : ((Try.prog.info? 117).bind (fun i => i.zero)).map (fun z => z.cells.toList) = some ((List.range 260).map frame0) := by kernel_rfl
theorem sizesF : (Try.prog.info? 117).map (fun i => (i.size, i.bytes)) = some (260, 288) := by kernel_rfl
theorem infoF : ∃ i z, Try.prog.info? 117 = some i ∧ i.zero = some z ∧ i.size = 260 ∧ i.bytes = 288 ∧ z.cells.size = 260 ∧ ∀ j, j < 260 → z.cells[j]? = some (frame0 j) := by
  have h1 := zerosF
  have h2 := sizesF
  cases hi : Try.prog.info? 117 with
  | none => rw [hi] at h2; cases h2
  | some i =>
    rw [hi] at h1 h2
    simp only [Option.map_some, Option.some.injEq, Prod.mk.injEq] at h2
    simp only [Option.bind_some] at h1
    cases hz : i.zero with
    | none => rw [hz] at h1; cases h1
    | some z =>
      rw [hz] at h1
      simp only [Option.map_some, Option.some.injEq] at h1
      refine ⟨i, z, rfl, hz, h2.1, h2.2, ?_, ?_⟩
      · rw [← Array.length_toList, h1]; simp
      · intro j hj
        rw [← Array.getElem?_toList, h1]
        simp [hj]
theorem made_frames {z : Array Value} (hs : z.size = 260) (hz : ∀ j, j < 260 → z[j]? = some (frame0 j)) (n : Nat) : CellsAre (madeCells z (n * 260)) n (newCell 0) := by
  refine ⟨by rw [size_madeCells], fun i j hi hj => ?_⟩
  have hlt : i * 260 + j < n * 260 := by omega
  unfold madeCells
  rw [Array.getElem?_map, Array.getElem?_range, if_pos hlt]
  simp only [Option.map_some, Option.some.injEq, hs]
  rw [show (i * 260 + j) % 260 = j by omega]
  have hb : j < z.size := by omega
  rw [getElem!_pos z j hb]
  have := hz j hj
  rw [Array.getElem?_eq_getElem hb] at this
  rw [Option.some.inj this]
  unfold newCell
  rw [if_neg (by omega)]
theorem cells_step {cs : Array Value} {n k : Nat} (h : CellsAre cs n (newCell k)) (hk : k < n) : CellsAre (cs.setIfInBounds (k * 260) (.int .i64 (-1))) n (newCell (k + 1)) := by
  refine ⟨by simp [h.1], fun i j hi hj => ?_⟩
  rw [Array.getElem?_setIfInBounds]
  by_cases e : k * 260 = i * 260 + j
  · have : i = k ∧ j = 0 := by omega
    rw [if_pos e, if_pos (by rw [h.1]; omega)]
    unfold newCell
    rw [if_pos (by omega)]
  · rw [if_neg e, h.2 i j hi hj]
    unfold newCell
    by_cases c : j = 0 ∧ i < k
    · rw [if_pos c, if_pos (by omega)]
    · rw [if_neg c, if_neg (by omega)]

/-- What New comes to. -/
def NewOut (w : World) (n : Nat) (e : Ending) (w' : World) : Prop :=
  ∃ mb fb cs, e = .returned (.tuple #[.pointer (some ⟨mb, 0, none⟩), .int .i64 0]) ∧ w.heap.size ≤ mb ∧ w.heap.size ≤ fb ∧ mb ≠ fb ∧ w'.heap[mb]? = some (.cells #[.bool true, .slice (some ⟨fb, 0, none⟩) n n] 90 (0, 0)) ∧ w'.heap[fb]? = some (.cells cs 117 (0, 0)) ∧ CellsAre cs n (newCell n) ∧ Below w.heap.size w w'

/-- The loop's relation. -/
def Rel (w : World) (n k : Nat) (wr : World) : Prop :=
  ∃ cs, wr.heap[w.heap.size + 1]? = some (.cells #[.bool true, .slice (some ⟨w.heap.size, 0, none⟩) n n] 90 (0, 0)) ∧ wr.heap[w.heap.size]? = some (.cells cs 117 (0, 0)) ∧ CellsAre cs n (newCell k) ∧ Below w.heap.size w wr

set_option maxHeartbeats 2000000 in
set_option maxRecDepth 100000 in
theorem new_calls (n : Nat) (w : World) (h1 : 1 ≤ n) (h2 : n ≤ 256) : Calls Try.prog 31 #[.int .i64 n] w (NewOut w n) := by
  obtain ⟨i, z, hi, hz, hs, hb, hzs, hzc⟩ := infoF
  have hmk := run_make (P := Try.prog) (w := w) 88 117 i z Try.underlying88 hi hz .i64 .i64 n n (by omega) (Int.le_refl _) (by rw [hb]; omega) (by omega)
  rw [hs] at hmk
  simp only [Int.toNat_natCast] at hmk
  have hc := made_frames hzs hzc n
  generalize hM : madeCells z.cells (n * 260) = M at hmk hc
  have HC := Aside.mk hc
  clear hM hc hzc hzs hb hs hz hi
  go_enter Try.func31, Try.ntmps31
  go_wp2
  have hstart : Rel w n 0 ((w.alloc (Obj.cells M 117)).alloc (Obj.cells #[Value.bool true, Value.slice (some { block := w.heap.size, off := 0 }) n n] 90)) :=
    ⟨M, blk_newest (by simp) _, blk_alloc (blk_new _ _) _, HC.out, below_alloc (below_alloc (Below.refl _ _) _) _⟩
  have HS := Aside.mk hstart
  clear hstart hmk
  go_loopw [21] (fun v wr => ∃ k : Nat, k ≤ n ∧ v = .int .i64 k ∧ Rel w n k wr) (fun v _ => n - (intOf v).toNat)
  case atStart => exact ⟨0, Nat.zero_le _, rfl, HS.out⟩
  case round =>
    obtain ⟨k, hk, rfl, cs, hb1, hb2, hcs, hbl⟩ := hrel
    have C1 := fun i => blk_cell hb1 i
    have F2 := fun i => blk_frozen hb2 i
    by_cases hlt : k < n
    · have hc0 := hcs.2 k 0 hlt (by omega)
      have c0 : wr.cell? ⟨w.heap.size, k * 260, none⟩ = some (newCell k k 0) := (blk_cell hb2 _).trans hc0
      have HX := Aside.mk (And.intro hb1 (And.intro hb2 (And.intro hcs hbl)))
      clear hb1 hb2 hcs hbl hc0
      generalize newCell k k 0 = old at c0
      go_wp2
      refine ⟨⟨k + 1, by omega, by simp, ?_⟩, by simp [intOf]; omega⟩
      obtain ⟨hb1, hb2, hcs, hbl⟩ := HX.out
      exact ⟨_, blk_far hb1 (by simp) _, blk_put hb2 _ _ rfl, cells_step hcs hlt, below_set hbl (Nat.le_refl _) _⟩
    · have : k = n := by omega
      subst this
      have HX := Aside.mk (And.intro hb1 (And.intro hb2 (And.intro hcs hbl)))
      clear hb1 hb2 hcs hbl
      go_wp2
      go_ret2
      obtain ⟨hb1, hb2, hcs, hbl⟩ := HX.out
      exact ⟨_, _, cs, rfl, by omega, Nat.le_refl _, by omega, hb1, hb2, hcs, hbl⟩
end Go.Proofs.Ytjeobbhaoahdcaa.Phys
namespace Go.Proofs.Ytjeobbhaoahdcaa.GnA
open Go.RowKit Go.Maps Go.Proofs.Ytjeobbhaoahdcaa.Base Go.Proofs.Ytjeobbhaoahdcaa.GaA Go.Proofs.Ytjeobbhaoahdcaa.GaB Go.Proofs.Ytjeobbhaoahdcaa.GmA Go.Proofs.Ytjeobbhaoahdcaa.GpA Go.Proofs.Ytjeobbhaoahdcaa.GgA Go.Proofs.Ytjeobbhaoahdcaa.RmA
set_option linter.unusedVariables false
set_option linter.unusedSimpArgs false

section
variable {w w' : World} {mb fb : Nat} {s : MS}
def GnOut (w : World) (mb : Nat) (e : Ending) (w' : World) : Prop := ∃ gb mm hm, e = .returned (.pointer (some ⟨gb, 0, none⟩)) ∧ w.heap.size ≤ gb ∧ w.heap.size ≤ mm ∧ w.heap.size ≤ hm ∧ mm ≠ hm ∧ G2 w' gb mm hm mb (fun _ => none) 0 ∧ w'.heap[hm]? = some (.map #[] 0) ∧ Below w.heap.size w w'
set_option maxHeartbeats 2000000 in
set_option maxRecDepth 100000 in
theorem gnew_calls (h : Mach w mb fb s) (hn : 0 < s.n) : Calls Try.prog 32 #[.pointer (some ⟨mb, 0, none⟩)] w (GnOut w mb) := by
  have hmm := @run_makeMap Try.prog
  have hs := size_calls h
  have d0 : ((s.n : Int) == 0) = false := by simp; omega
  clear h
  go_enter Try.func32, Try.ntmps32
  go_wp2_with (first
    | (go_at_call 15; refine hs.mono ?_; rintro z w1 ⟨rfl, hw1⟩; obtain rfl := hw1.symm)
    | go_in)
  go_ret
  refine ⟨_, _, _, rfl, ?_, ?_, ?_, ?_, ⟨blk_newest ?_ _, IMap.made_at (blk_alloc (blk_alloc (blk_new _ _) _) _)⟩, blk_alloc (blk_newest ?_ _) _, below_alloc (below_alloc (below_alloc (Below.refl _ _) _) _) _⟩
  all_goals first
    | (simp; done)
    | (simp; omega)
    | omega
theorem mach_new {n : Nat} (hn : n ≤ 1000) {cs : Array Value} (h1 : w.heap[mb]? = some (.cells #[.bool true, .slice (some ⟨fb, 0, none⟩) n n] 90 (0, 0))) (h2 : w.heap[fb]? = some (.cells cs 117 (0, 0))) (h3 : Phys.CellsAre cs n (Phys.newCell n)) : Mach w mb fb (ms0 n) := by
  refine ⟨h1, ⟨cs, h2, h3.1, fun i j hi hj => ?_⟩, hn⟩
  rw [h3.2 i j hi hj]
  have hi' : i < n := hi
  congr 1
  unfold Phys.newCell Phys.frame0 cellM ms0
  by_cases j0 : j = 0
  · simp [j0, hi']
  · by_cases j1 : j = 1
    · simp [j1]
    · by_cases j2 : j = 2
      · simp [j2]
      · by_cases j3 : j = 3
        · simp [j3]
        · have : ¬ j < 4 := by omega
          simp [j0, j1, j2, j3, this]
def MnOut (w : World) (n : Nat) (e : Ending) (w' : World) : Prop := ∃ mb fb, e = .returned (.tuple #[.pointer (some ⟨mb, 0, none⟩), .int .i64 0]) ∧ w.heap.size ≤ mb ∧ w.heap.size ≤ fb ∧ Mach w' mb fb (ms0 n) ∧ Below w.heap.size w w'
theorem mnew_calls (n : Nat) (w : World) (h1 : 1 ≤ n) (h2 : n ≤ 256) : Calls Try.prog 31 #[.int .i64 n] w (MnOut w n) :=
  (Phys.new_calls n w h1 h2).mono fun e w' ⟨mb, fb, cs, he, hm, hf, _, g1, g2, g3, hb⟩ => ⟨mb, fb, he, hm, hf, mach_new (by omega) g1 g2 g3, hb⟩
end
end Go.Proofs.Ytjeobbhaoahdcaa.GnA
