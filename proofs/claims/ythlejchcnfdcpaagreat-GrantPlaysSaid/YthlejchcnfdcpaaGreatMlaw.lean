/- Proved: the document's Unpack of a row of eight bytes that is an entry (a contract for the laws of the grants). Proved: the document's Unpack of any row of eight bytes (a contract for the laws of the grants). -/
import Derived.Test.YthlejchcnfdcpaaGreatMlac
import Derived.Test.YthlejchcnfdcpaaGreatMlah
import Derived.Deep.RegionHeld3
namespace Go.Proofs.YthlejchcnfdcpaaGreat.GsC
open Go.RowKit Go.Maps Base GaA GaB GaC GuA GeA GeB GfC
set_option linter.unusedVariables false
set_option linter.unusedSimpArgs false

/-- Under sixteen the bits are what division tells. -/
theorem small_bits (F : Int) (h0 : 0 ≤ F) (h1 : F < 16) : bits .and .i64 F 3 = F % 4 ∧ (bits .and .i64 F 4 != 0) = (F / 4 % 2 == 1) ∧ (bits .and .i64 F 8 != 0) = (F / 8 == 1) := by
  have : F = 0 ∨ F = 1 ∨ F = 2 ∨ F = 3 ∨ F = 4 ∨ F = 5 ∨ F = 6 ∨ F = 7 ∨ F = 8 ∨ F = 9 ∨ F = 10 ∨ F = 11 ∨ F = 12 ∨ F = 13 ∨ F = 14 ∨ F = 15 := by omega
  rcases this with rfl | rfl | rfl | rfl | rfl | rfl | rfl | rfl | rfl | rfl | rfl | rfl | rfl | rfl | rfl | rfl <;> decide +kernel

theorem bad_high {l : List Int} (h : 16 ≤ fl l) : bad l := .inl h
theorem bad_kind {l : List Int} (h0 : 0 ≤ rd l 0) (h : rd l 0 < 16) (h1 : rd l 1 = 0) (h3 : rd l 0 % 4 = 3) : bad l := by
  have hf : fl l = rd l 0 := by unfold fl; rw [h1]; omega
  exact .inr (.inl (by unfold kd; rw [hf, (small_bits _ h0 h).1, h3]))
theorem bad_long {l : List Int} (h0 : 0 ≤ rd l 0) (h : rd l 0 < 16) (h1 : rd l 1 = 0) (hs : (rd l 0 / 8 == 1) = true) (hl : 256 < rd l 6 + (rd l 7 + 1)) : bad l := by
  have hf : fl l = rd l 0 := by unfold fl; rw [h1]; omega
  have hsb : sb l = true := by unfold sb; rw [hf, (small_bits _ h0 h).2.2]; exact hs
  refine .inr (.inr ?_)
  unfold of le
  rw [if_pos hsb, if_pos hsb]; exact hl
theorem good_sub {l : List Int} (h0 : 0 ≤ rd l 0) (h : rd l 0 < 16) (h1 : rd l 1 = 0) (h3 : (rd l 0 % 4 == 3) = false) (hs : (rd l 0 / 8 == 1) = true) (hl : rd l 6 + (rd l 7 + 1) ≤ 256) :
    ¬ bad l ∧ agg l = .agg #[.int .i64 (rd l 0 % 4), .bool (rd l 0 / 4 % 2 == 1), .bool true, .int .i64 (rd l 2 + 256 * rd l 3), .int .i64 (rd l 4 + 256 * rd l 5), .int .i64 (rd l 6), .int .i64 (rd l 7 + 1)] := by
  have hf : fl l = rd l 0 := by unfold fl; rw [h1]; omega
  obtain ⟨b1, b2, b3⟩ := small_bits _ h0 h
  have hsb : sb l = true := by unfold sb; rw [hf, b3]; exact hs
  have hof : of l = rd l 6 := by unfold of; rw [if_pos hsb]
  have hle : le l = rd l 7 + 1 := by unfold le; rw [if_pos hsb]
  have hkd : kd l = rd l 0 % 4 := by unfold kd; rw [hf, b1]
  have hro : ro l = (rd l 0 / 4 % 2 == 1) := by unfold ro; rw [hf, b2]
  have n3 : ¬ rd l 0 % 4 = 3 := fun e => by rw [e] at h3; cases h3
  refine ⟨?_, by unfold agg; rw [hof, hle, hkd, hro, hsb]⟩
  rintro (e | e | e)
  · rw [hf] at e; omega
  · rw [hkd] at e; exact n3 e
  · rw [hof, hle] at e; omega
theorem good_whole {l : List Int} (h0 : 0 ≤ rd l 0) (h : rd l 0 < 16) (h1 : rd l 1 = 0) (h3 : (rd l 0 % 4 == 3) = false) (hs : (rd l 0 / 8 == 1) = false) :
    ¬ bad l ∧ agg l = .agg #[.int .i64 (rd l 0 % 4), .bool (rd l 0 / 4 % 2 == 1), .bool false, .int .i64 (rd l 2 + 256 * rd l 3), .int .i64 (rd l 4 + 256 * rd l 5), .int .i64 0, .int .i64 256] := by
  have hf : fl l = rd l 0 := by unfold fl; rw [h1]; omega
  obtain ⟨b1, b2, b3⟩ := small_bits _ h0 h
  have hsb : sb l = false := by unfold sb; rw [hf, b3]; exact hs
  have hof : of l = 0 := by unfold of; rw [if_neg (by rw [hsb]; decide)]
  have hle : le l = 256 := by unfold le; rw [if_neg (by rw [hsb]; decide)]
  have hkd : kd l = rd l 0 % 4 := by unfold kd; rw [hf, b1]
  have hro : ro l = (rd l 0 / 4 % 2 == 1) := by unfold ro; rw [hf, b2]
  have n3 : ¬ rd l 0 % 4 = 3 := fun e => by rw [e] at h3; cases h3
  refine ⟨?_, by unfold agg; rw [hof, hle, hkd, hro, hsb]⟩
  rintro (e | e | e)
  · rw [hf] at e; omega
  · rw [hkd] at e; exact n3 e
  · rw [hof, hle] at e; omega

/-- What the walk's end is, in one word. -/
def RefOut (w : World) (v : Value) (n : Int) (e : Ending) (w' : World) : Prop := e = .returned (.tuple #[v, .int .i64 n]) ∧ Below w.heap.size w w'
def outV (s : Bool) (x0 x2 x3 x4 x5 x6 x7 : Int) : Value := if s = true then (if 256 < x6 + (x7 + 1) then zero else .agg #[.int .i64 (x0 % 4), .bool (x0 / 4 % 2 == 1), .bool true, .int .i64 (x2 + 256 * x3), .int .i64 (x4 + 256 * x5), .int .i64 x6, .int .i64 (x7 + 1)]) else .agg #[.int .i64 (x0 % 4), .bool (x0 / 4 % 2 == 1), .bool false, .int .i64 (x2 + 256 * x3), .int .i64 (x4 + 256 * x5), .int .i64 0, .int .i64 256]
def outN (s : Bool) (x6 x7 : Int) : Int := if s = true then (if 256 < x6 + (x7 + 1) then 60 else 0) else 0
theorem RefOut.mk {w w' : World} {v v' : Value} {n n' : Int} (hv : v' = v) (hn : n' = n) (hb : Below w.heap.size w w') : RefOut w v n (.returned (.tuple #[v', .int .i64 n'])) w' := by subst hv; subst hn; exact ⟨rfl, hb⟩

set_option maxHeartbeats 8000000 in
set_option maxRecDepth 100000 in
theorem ref_low (b off c : Nat) (x0 x1 x2 x3 x4 x5 x6 x7 : Int) (sp : Option Nat) (w : World)
    (h0 : w.cell? ⟨b, off, sp⟩ = some (.int .u8 x0)) (h1 : w.cell? ⟨b, off + 1, none⟩ = some (.int .u8 x1)) (h2 : w.cell? ⟨b, off + 2, none⟩ = some (.int .u8 x2)) (h3 : w.cell? ⟨b, off + 3, none⟩ = some (.int .u8 x3))
    (h4 : w.cell? ⟨b, off + 4, none⟩ = some (.int .u8 x4)) (h5 : w.cell? ⟨b, off + 5, none⟩ = some (.int .u8 x5)) (h6 : w.cell? ⟨b, off + 6, none⟩ = some (.int .u8 x6)) (h7 : w.cell? ⟨b, off + 7, none⟩ = some (.int .u8 x7))
    (mm : b < w.heap.size)
    (a0 : 0 ≤ x0) (b0 : x0 < 256) (a1 : 0 ≤ x1) (b1 : x1 < 256) (a2 : 0 ≤ x2) (b2 : x2 < 256) (a3 : 0 ≤ x3) (b3 : x3 < 256) (a4 : 0 ≤ x4) (b4 : x4 < 256) (a5 : 0 ≤ x5) (b5 : x5 < 256) (a6 : 0 ≤ x6) (b6 : x6 < 256) (a7 : 0 ≤ x7) (b7 : x7 < 256)
    (hF : x0 < 16) (hz : (x1 != 0) = false) (hk : (x0 % 4 == 3) = false) (s : Bool) (hs : (x0 / 8 == 1) = s) :
    Calls Tryz.prog 101 #[.slice (some ⟨b, off, sp⟩) 8 c] w (RefOut w (outV s x0 x2 x3 x4 x5 x6 x7) (outN s x6 x7)) := by
  go_enter Tryz.func101, Tryz.ntmps101
  go_wp2
  refine wp_world (fun W => Below w.heap.size w W ∧ w.heap.size < W.heap.size ∧ W.heap[w.heap.size]? = some (.cells #[Value.int IntKind.i64 0, Value.bool false, Value.bool false, Value.int IntKind.i64 0, Value.int IntKind.i64 0,
      Value.int IntKind.i64 0, Value.int IntKind.i64 0] 32 (0, 0))) ⟨by (repeat (first | exact Below.refl _ _ | apply below_alloc | apply below_drewN | apply GuA.below_drew1)), by go_simp, by exact blk_newest (by simp) _⟩ ?_
  intro W ⟨hb, hlt, hr1⟩
  have g0 := cell_below hb h0
  have g1 := cell_below hb h1
  have g2 := cell_below hb h2
  have g3 := cell_below hb h3
  have g4 := cell_below hb h4
  have g5 := cell_below hb h5
  have g6 := cell_below hb h6
  have g7 := cell_below hb h7
  have C1 := fun i => blk_cell hr1 i
  have F1 := fun i => blk_frozen hr1 i
  have HB := Base.Aside.mk hb
  have mW : b < W.heap.size := by omega
  clear hb hr1 h0 h1 h2 h3 h4 h5 h6 h7
  have ho' : (256 < x6 + (x7 + 1) ∨ x6 + (x7 + 1) ≤ 256) := by omega
  have ne1 : ¬ (b = w.heap.size) := by omega
  go_region_held3 (fun w' => w'.cell? ⟨b, off, sp⟩ = some (.int .u8 x0) ∧ w'.cell? ⟨b, off + 2, none⟩ = some (.int .u8 x2) ∧ w'.cell? ⟨b, off + 3, none⟩ = some (.int .u8 x3) ∧ w'.cell? ⟨b, off + 4, none⟩ = some (.int .u8 x4) ∧ w'.cell? ⟨b, off + 5, none⟩ = some (.int .u8 x5)) (go_keep) (fail)
  have ne2 : ¬ (b = W.heap.size) := by omega
  have ne3 : ¬ (w.heap.size = W.heap.size) := by omega
  cases s
  · go_wp2
    refine bodyPost_ret (v := .tuple #[.agg #[.int .i64 (x0 % 4), .bool (x0 / 4 % 2 == 1), .bool false, .int .i64 (x2 + 256 * x3), .int .i64 (x4 + 256 * x5), .int .i64 0, .int .i64 256], .int .i64 0]) ?_ rfl (RefOut.mk rfl rfl ?_)
    · simp only [results, Tryz.results101]; first | (go_simp; done) | (go_simp; rfl)
    · repeat (with_reducible first | exact HB.out | apply below_alloc | apply below_drewN | apply GuA.below_drew1 | refine below_setN ?_ (by omega))
  · rcases ho' with ho | ho
    · go_wp2
      refine bodyPost_ret (v := .tuple #[zero, .int .i64 60]) ?_ rfl (RefOut.mk (by unfold outV; rw [if_pos rfl, if_pos ho]) (by unfold outN; rw [if_pos rfl, if_pos ho]) ?_)
      · simp only [results, Tryz.results101]; first | (go_simp; done) | (go_simp; rfl)
      · repeat (with_reducible first | exact HB.out | apply below_alloc | apply below_drewN | apply GuA.below_drew1 | refine below_setN ?_ (by omega))
    · go_wp2
      refine bodyPost_ret (v := .tuple #[.agg #[.int .i64 (x0 % 4), .bool (x0 / 4 % 2 == 1), .bool true, .int .i64 (x2 + 256 * x3), .int .i64 (x4 + 256 * x5), .int .i64 x6, .int .i64 (x7 + 1)], .int .i64 0]) ?_ rfl (RefOut.mk (by unfold outV; rw [if_pos rfl, if_neg (by omega)]) (by unfold outN; rw [if_pos rfl, if_neg (by omega)]) ?_)
      · simp only [results, Tryz.results101]; first | (go_simp; done) | (go_simp; rfl)
      · repeat (with_reducible first | exact HB.out | apply below_alloc | apply below_drewN | apply GuA.below_drew1 | refine below_setN ?_ (by omega))

theorem refunpack_good (ad : Addr) (c : Nat) (l : List Int) (w : World) (hB : GuA.Bytes w ad 8 l) (hn : ¬ GuA.bad l) :
    Calls Tryz.prog 101 #[.slice (some ad) 8 c] w fun e w' => e = .returned (.tuple #[aggv (entG l), .int .i64 0]) ∧ Below w.heap.size w w' := by
  have hv : aggv (entG l) = agg l := by unfold entG; rw [if_neg hn]; rfl
  obtain ⟨b, off, sp⟩ := ad
  obtain ⟨c0, a0, b0⟩ := hB 0 (by omega) (by omega)
  obtain ⟨c1, a1, b1⟩ := hB 1 (by omega) (by omega)
  obtain ⟨c2, a2, b2⟩ := hB 2 (by omega) (by omega)
  obtain ⟨c3, a3, b3⟩ := hB 3 (by omega) (by omega)
  obtain ⟨c4, a4, b4⟩ := hB 4 (by omega) (by omega)
  obtain ⟨c5, a5, b5⟩ := hB 5 (by omega) (by omega)
  obtain ⟨c6, a6, b6⟩ := hB 6 (by omega) (by omega)
  obtain ⟨c7, a7, b7⟩ := hB 7 (by omega) (by omega)
  have mm : b < w.heap.size := World.block_lt_of_cell? w _ c1
  have hn0 := hn
  unfold bad at hn0
  have hf : ¬ 16 ≤ fl l := fun h => hn0 (.inl h)
  have hk3 : ¬ kd l = 3 := fun h => hn0 (.inr (.inl h))
  have hl3 : ¬ 256 < of l + le l := fun h => hn0 (.inr (.inr h))
  unfold fl at hf
  have hz0 : rd l 1 = 0 := by omega
  have hF : rd l 0 < 16 := by omega
  have hfl : fl l = rd l 0 := by unfold fl; rw [hz0]; omega
  have hk : (rd l 0 % 4 == 3) = false := by
    unfold kd at hk3
    rw [hfl, (small_bits _ a0 hF).1] at hk3
    simpa using hk3
  obtain ⟨s, hs⟩ : ∃ s, (rd l 0 / 8 == 1) = s := ⟨_, rfl⟩
  refine (ref_low b off c (rd l 0) (rd l 1) (rd l 2) (rd l 3) (rd l 4) (rd l 5) (rd l 6) (rd l 7) sp w c0 c1 c2 c3 c4 c5 c6 c7 mm a0 b0 a1 b1 a2 b2 a3 b3 a4 b4 a5 b5 a6 b6 a7 b7 hF (by simpa using hz0) hk s hs).mono ?_
  rintro e w' ⟨rfl, hbl⟩
  refine ⟨?_, hbl⟩
  rw [hv]
  cases s
  · obtain ⟨n1, n2⟩ := good_whole a0 hF hz0 hk hs
    rw [n2]
    rfl
  · by_cases ho : 256 < rd l 6 + (rd l 7 + 1)
    · exact absurd (bad_long a0 hF hz0 hs ho) hn
    · obtain ⟨n1, n2⟩ := good_sub a0 hF hz0 hk hs (by omega)
      rw [n2]
      unfold outV outN
      rw [if_pos rfl, if_neg ho, if_pos rfl, if_neg ho]
/-- What Read tells of an entry. -/
theorem ent_bytes {w : World} {s : MS} {k ref N : Nat} (h : w.heap[N]? = some (.cells (u8s (MS.rd s k (8 * ref) 8)).toArray 5 (0, 0))) : GuA.Bytes w ⟨N, 0, none⟩ 8 (ent s k ref) := by
  intro i h0 h8
  obtain ⟨j, rfl⟩ : ∃ j : Nat, i = j := ⟨i.toNat, by omega⟩
  have hj : j < 8 := by omega
  have e1 : rd (ent s k ref) j = ((s.byt k (8 * ref + j)).toNat : Int) := by
    unfold rd ent MS.rd
    rw [Int.toNat_natCast, List.getD_eq_getElem?_getD, List.getElem?_map, List.getElem?_map, List.getElem?_range hj]
    rfl
  have hlt := UInt8.toNat_lt (s.byt k (8 * ref + j))
  rw [e1, addB, Nat.zero_add, Int.toNat_natCast, blk_cell h]
  refine ⟨?_, by omega, by omega⟩
  simp only [u8s, MS.rd, List.getElem?_toArray, List.getElem?_map]
  rw [List.getElem?_range hj]
  rfl
end Go.Proofs.YthlejchcnfdcpaaGreat.GsC
namespace Go.Proofs.YthlejchcnfdcpaaGreat.GyD
open Go.RowKit Go.Maps Base GaA GaB GaC GuA GeA GeB GfC GsC
set_option linter.unusedVariables false
set_option linter.unusedSimpArgs false

set_option maxHeartbeats 4000000 in
set_option maxRecDepth 100000 in
theorem ref_bad (b off c : Nat) (x0 x1 : Int) (sp : Option Nat) (w : World)
    (h0 : w.cell? ⟨b, off, sp⟩ = some (.int .u8 x0)) (h1 : w.cell? ⟨b, off + 1, none⟩ = some (.int .u8 x1)) (mm : b < w.heap.size) (a0 : 0 ≤ x0)
    (hc : decide (16 ≤ x0) = true ∨ (decide (16 ≤ x0) = false ∧ (x1 != 0) = true) ∨ (decide (16 ≤ x0) = false ∧ (x1 != 0) = false ∧ (x0 % 4 == 3) = true)) :
    Calls Tryz.prog 101 #[.slice (some ⟨b, off, sp⟩) 8 c] w (RefOut w zero 60) := by
  rcases hc with d0 | ⟨d0, d1⟩ | ⟨d0, d1, d2⟩
  all_goals
    go_enter Tryz.func101, Tryz.ntmps101
    go_wp2
    refine bodyPost_ret (v := .tuple #[zero, .int .i64 60]) ?_ rfl (RefOut.mk rfl rfl ?_)
    · simp only [results, Tryz.results101]; first | (go_simp; done) | (go_simp; rfl)
    · repeat (with_reducible first | exact Below.refl _ _ | apply below_alloc | refine below_setN ?_ (by omega))
theorem refunpack_any (ad : Addr) (c : Nat) (l : List Int) (w : World) (hB : GuA.Bytes w ad 8 l) :
    Calls Tryz.prog 101 #[.slice (some ad) 8 c] w fun e w' => e = .returned (.tuple #[aggv (entG l), .int .i64 (entE l)]) ∧ Below w.heap.size w w' := by
  by_cases hn : GuA.bad l
  · have hv : aggv (entG l) = zero := by unfold entG; rw [if_pos hn]; rfl
    have he : entE l = 60 := by unfold entE; rw [if_pos hn]
    rw [hv, he]
    obtain ⟨b, off, sp⟩ := ad
    obtain ⟨c0, a0, b0⟩ := hB 0 (by omega) (by omega)
    obtain ⟨c1, a1, b1⟩ := hB 1 (by omega) (by omega)
    obtain ⟨c2, a2, b2⟩ := hB 2 (by omega) (by omega)
    obtain ⟨c3, a3, b3⟩ := hB 3 (by omega) (by omega)
    obtain ⟨c4, a4, b4⟩ := hB 4 (by omega) (by omega)
    obtain ⟨c5, a5, b5⟩ := hB 5 (by omega) (by omega)
    obtain ⟨c6, a6, b6⟩ := hB 6 (by omega) (by omega)
    obtain ⟨c7, a7, b7⟩ := hB 7 (by omega) (by omega)
    have mm : b < w.heap.size := World.block_lt_of_cell? w _ c1
    by_cases q0 : 16 ≤ rd l 0
    · exact ref_bad b off c _ _ sp w c0 c1 mm a0 (.inl (decide_eq_true q0))
    by_cases q1 : rd l 1 = 0
    · cases q2 : (rd l 0 % 4 == 3) with
      | true => exact ref_bad b off c _ _ sp w c0 c1 mm a0 (.inr (.inr ⟨decide_eq_false q0, by simp [q1], q2⟩))
      | false =>
        have hF : rd l 0 < 16 := by omega
        obtain ⟨s, hs⟩ : ∃ s, (rd l 0 / 8 == 1) = s := ⟨_, rfl⟩
        refine (ref_low b off c (rd l 0) (rd l 1) (rd l 2) (rd l 3) (rd l 4) (rd l 5) (rd l 6) (rd l 7) sp w c0 c1 c2 c3 c4 c5 c6 c7 mm a0 b0 a1 b1 a2 b2 a3 b3 a4 b4 a5 b5 a6 b6 a7 b7 hF (by simp [q1]) q2 s hs).mono ?_
        rintro e w' ⟨rfl, hbl⟩
        refine ⟨?_, hbl⟩
        cases s
        · exact absurd hn (good_whole a0 hF q1 q2 hs).1
        · by_cases ho : 256 < rd l 6 + (rd l 7 + 1)
          · unfold outV outN
            rw [if_pos rfl, if_pos ho, if_pos rfl, if_pos ho]
          · exact absurd hn (good_sub a0 hF q1 q2 hs (by omega)).1
    · exact ref_bad b off c _ _ sp w c0 c1 mm a0 (.inr (.inl ⟨decide_eq_false q0, by simp [q1]⟩))
  · have he : entE l = 0 := by unfold entE; rw [if_neg hn]
    rw [he]
    exact refunpack_good ad c l w hB hn
theorem ent_gu {w : World} {A : Option Addr} {s : MS} {k ref : Nat} (h : GaC.Bytes w A (MS.rd s k (8 * ref) 8)) : ∃ x, A = some x ∧ GuA.Bytes w x 8 (ent s k ref) := by
  rcases h with h | ⟨x, rfl, hx⟩
  · have := congrArg List.length h
    rw [rd_len] at this
    cases this
  · refine ⟨x, rfl, fun i h0 h8 => ?_⟩
    obtain ⟨j, rfl⟩ : ∃ j : Nat, i = j := ⟨i.toNat, by omega⟩
    have hj : j < 8 := by omega
    have e1 : rd (ent s k ref) j = ((s.byt k (8 * ref + j)).toNat : Int) := by
      unfold rd ent MS.rd
      rw [Int.toNat_natCast, List.getD_eq_getElem?_getD, List.getElem?_map, List.getElem?_map, List.getElem?_range hj]
      rfl
    have hl := (s.byt k (8 * ref + j)).toNat_lt
    rw [e1]
    refine ⟨?_, by omega, by omega⟩
    have := hx.cell j (by rw [rd_len]; exact hj)
    rw [Int.toNat_natCast, this]
    simp [MS.rd]
end Go.Proofs.YthlejchcnfdcpaaGreat.GyD
