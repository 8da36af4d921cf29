/- Proved: what grant.Unpack of the program comes to, at every row of eight bytes (a contract for the laws of the grants). -/
import Derived.Test.YthlejchcnfdcpaaGreatMlaa
import Derived.Outline
import Derived.BigQuiet
import Derived.Deep.QuietTactic
namespace Go.Proofs.YthlejchcnfdcpaaGreat.GuA
set_option linter.unusedVariables false
set_option linter.unusedSimpArgs false
open Go.RowKit Base
structure Aside0 (p : Prop) : Prop where
  out : p
def rd (l : List Int) (i : Int) : Int := l.getD i.toNat 0
theorem below_drew1 {w W : World} (h : Below w.heap.size w W) : Below w.heap.size w W.drew := h.drew
theorem blk_drewM {w : World} {g : Nat} {o : Obj} (h : w.heap[g]? = some o) (n : Nat) : (w.drewN n).heap[g]? = some o := h
theorem wraps_i64 (n : Int) (h₀ : 0 ≤ n) (h₁ : n < 2 ^ 63) : IntKind.i64.wrap n = n := by rw [IntKind.wrap_i64]; omega
theorem below_setN {w W : World} {g j : Nat} {v : Value} (h : Below w.heap.size w W) (hg : w.heap.size ≤ g) : Below w.heap.size w (W.setCell ⟨g, j, none⟩ v) := h.setCell hg _
theorem or_bytes (x y : Int) (x0 : 0 ≤ x) (x1 : x < 256) (y0 : 0 ≤ y) (y1 : y < 256) : bits .or .i64 x (y * 256) = x + 256 * y := by
  have hc : Go.bits .or .i64 x (y * 256) = Go.bits .or .i64 (y * 256) x := by
    simp only [bits]; rw [BitVec.or_comm]
  rw [hc, bits_join .i64 63 (by decide) wraps_i64 8 (y * 256) x (by omega) (by omega) (by omega) x0 (by omega) (by omega)]; omega
/-- A row of bytes that can be read: n cells from ad on. -/
def Bytes (w : World) (ad : Addr) (n : Nat) (l : List Int) : Prop := ∀ i : Int, 0 ≤ i → i < n → w.cell? (ad.add i.toNat) = some (.int .u8 (rd l i)) ∧ 0 ≤ rd l i ∧ rd l i < 256
theorem Bytes.below {w w1 : World} {ad : Addr} {n : Nat} {l : List Int} (h : Bytes w ad n l) (hb : Below w.heap.size w w1) : Bytes w1 ad n l :=
  fun i h0 h1 => ⟨cell_below hb (h i h0 h1).1, (h i h0 h1).2⟩

set_option maxHeartbeats 1000000 in
set_option maxRecDepth 100000 in
theorem word_calls (i : Int) (bw : Nat) (ad : Addr) (n c : Nat) (l : List Int) (w : World) (hi : 0 ≤ i) (hn : i + 1 < n) (hn2 : n ≤ 8) (hv : w.cell? ⟨bw, 0, none⟩ = some (.slice (some ad) n c)) (hb : Bytes w ad n l) :
    Calls Tryz.prog 114 #[.int .i64 i, .pointer (some ⟨bw, 0, none⟩)] w fun e w' => e = .returned (.int .i64 (rd l i + 256 * rd l (i + 1))) ∧ ∃ n, w' = w.drewN n := by
  obtain ⟨hx, x0, x1⟩ := hb i hi (by omega)
  obtain ⟨hy, y0, y1⟩ := hb (i + 1) (by omega) (by omega)
  clear hb
  generalize rd l i = x at *
  generalize rd l (i + 1) = y at *
  go_enter Tryz.func114, Tryz.ntmps114
  go_wp2
  go_quiet (fail)
  go_wp2
  go_ret
  exact ⟨by rw [← or_bytes x y x0 x1 y0 y1]; rfl, _, rfl⟩

/-- The parts of an entry's bytes, as the program reckons them. -/
def fl (l : List Int) : Int := rd l 0 + 256 * rd l 1
def kd (l : List Int) : Int := bits .and .i64 (fl l) 3
def ro (l : List Int) : Bool := bits .and .i64 (fl l) 4 != 0
def sb (l : List Int) : Bool := bits .and .i64 (fl l) 8 != 0
def of (l : List Int) : Int := if sb l then rd l 6 else 0
def le (l : List Int) : Int := if sb l then rd l 7 + 1 else 256
def agg (l : List Int) : Value := .agg #[.int .i64 (kd l), .bool (ro l), .bool (sb l), .int .i64 (rd l 2 + 256 * rd l 3), .int .i64 (rd l 4 + 256 * rd l 5), .int .i64 (of l), .int .i64 (le l)]
def zero : Value := .agg #[.int .i64 0, .bool false, .bool false, .int .i64 0, .int .i64 0, .int .i64 0, .int .i64 0]
def bad (l : List Int) : Prop := 16 ≤ fl l ∨ kd l = 3 ∨ 256 < of l + le l
instance (l : List Int) : Decidable (bad l) := by unfold bad; infer_instance

/-- What Unpack comes to. -/
def UnpOut (w : World) (l : List Int) (e : Ending) (w' : World) : Prop :=
  e = .returned (.tuple #[if bad l then zero else agg l, .int .i64 (if bad l then 60 else 0)]) ∧ Below w.heap.size w w'
theorem UnpOut.bad_ {w : World} {l : List Int} {w' : World} (h : bad l) (hb : Below w.heap.size w w') : UnpOut w l (.returned (.tuple #[zero, .int .i64 60])) w' := ⟨by rw [if_pos h, if_pos h], hb⟩
theorem UnpOut.good {w : World} {l : List Int} {w' : World} {v : Value} (h : ¬ bad l) (hv : agg l = v) (hb : Below w.heap.size w w') : UnpOut w l (.returned (.tuple #[v, .int .i64 0])) w' := ⟨by rw [if_neg h, if_neg h, hv], hb⟩

set_option maxHeartbeats 4000000 in
set_option maxRecDepth 100000 in
theorem unpack_sub (ad : Addr) (c : Nat) (l : List Int) (w : World) (hb : Bytes w ad 8 l) (hs : (bits .and .i64 (rd l 0 + 256 * rd l 1) 8 != 0) = true) :
    Calls Tryz.prog 111 #[.slice (some ad) 8 c] w (UnpOut w l) := by
  have H := Aside0.mk hb
  clear hb
  have hsb : sb l = true := hs
  have hof : of l = rd l 6 := by unfold of; rw [if_pos hsb]
  have hle : le l = rd l 7 + 1 := by unfold le; rw [if_pos hsb]
  have hbad : bad l ↔ (16 ≤ rd l 0 + 256 * rd l 1 ∨ bits .and .i64 (rd l 0 + 256 * rd l 1) 3 = 3 ∨ 256 < rd l 6 + (rd l 7 + 1)) := by unfold bad; rw [hof, hle]; rfl
  have hagg : agg l = .agg #[.int .i64 (bits .and .i64 (rd l 0 + 256 * rd l 1) 3), .bool (bits .and .i64 (rd l 0 + 256 * rd l 1) 4 != 0), .bool true, .int .i64 (rd l 2 + 256 * rd l 3), .int .i64 (rd l 4 + 256 * rd l 5), .int .i64 (rd l 6), .int .i64 (rd l 7 + 1)] := by
    unfold agg; rw [hof, hle, hsb]; rfl
  have Hbad := Aside0.mk hbad
  have Hagg := Aside0.mk hagg
  clear hbad hagg hof hle hsb
  have hk' : ((bits .and .i64 (rd l 0 + 256 * rd l 1) 3 == 3) = true ∨ (bits .and .i64 (rd l 0 + 256 * rd l 1) 3 == 3) = false) := by cases (bits .and .i64 (rd l 0 + 256 * rd l 1) 3 == 3) <;> simp
  have hF' : (16 ≤ rd l 0 + 256 * rd l 1 ∨ rd l 0 + 256 * rd l 1 < 16) := by omega
  have ho' : (256 < rd l 6 + (rd l 7 + 1) ∨ rd l 6 + (rd l 7 + 1) ≤ 256) := by omega
  go_enter Tryz.func111, Tryz.ntmps111
  go_wp2_with (go_at_call 114; ((with_reducible refine (word_calls _ _ ad 8 c l _ (by omega) (by omega) (by omega) ?_ (H.out.below ?_)).mono ?_); (go_simp); (repeat (first | exact Below.refl _ _ | apply below_alloc | apply Base.below_drewN | apply below_drew1)); rintro e w' ⟨rfl, nn, rfl⟩))
  obtain ⟨c6, u6, v6⟩ := H.out 6 (by omega) (by omega)
  obtain ⟨c7, u7, v7⟩ := H.out 7 (by omega) (by omega)
  have m6 := World.block_lt_of_cell? w _ c6
  have n6 : w.cell? ⟨ad.block, ad.off + 6, none⟩ = some (.int .u8 (rd l 6)) := c6
  have n7 : w.cell? ⟨ad.block, ad.off + 7, none⟩ = some (.int .u8 (rd l 7)) := c7
  have mm : ad.block < w.heap.size := m6
  clear c6 c7 m6
  refine wp_world (fun W => Below w.heap.size w W ∧ w.heap.size + 2 < W.heap.size ∧ W.heap[w.heap.size]? = some (.cells #[Value.slice (some ad) 8 c] 30 (0, 0)) ∧ W.heap[w.heap.size + 2]? = some (.cells #[Value.int IntKind.i64 (bits BinOp.and IntKind.i64 (rd l 0 + 256 * rd l 1) 3),
      Value.bool (bits BinOp.and IntKind.i64 (rd l 0 + 256 * rd l 1) 4 != 0), Value.bool true,
      Value.int IntKind.i64 (rd l 2 + 256 * rd l 3), Value.int IntKind.i64 (rd l 4 + 256 * rd l 5),
      Value.int IntKind.i64 0, Value.int IntKind.i64 256] 32 (0, 0)) ∧ W.heap[w.heap.size + 1]? = some (.cells #[Value.int IntKind.i64 0, Value.bool false, Value.bool false, Value.int IntKind.i64 0, Value.int IntKind.i64 0,
      Value.int IntKind.i64 0, Value.int IntKind.i64 0] 32 (0, 0))) ?_ ?_
  · refine ⟨?_, ?_, ?_, ?_, ?_⟩
    · (repeat (first | exact Below.refl _ _ | apply below_alloc | apply Base.below_drewN | apply below_drew1))
    · go_simp
    · repeat (first | exact blk_newest rfl _ | refine blk_alloc ?_ _ | refine blk_drewM ?_ _)
    · exact blk_newest (by simp) _
    · refine blk_alloc (blk_drewM (blk_newest (by simp) _) _) _
  · intro W ⟨hb, hz, hv, hcc, h1⟩
    have k6 := hb.cell (p := ⟨ad.block, ad.off + 6, none⟩) mm
    have k7 := hb.cell (p := ⟨ad.block, ad.off + 7, none⟩) mm
    rw [n6] at k6
    rw [n7] at k7
    have C0 := fun i => blk_cell hv i
    have C1 := fun i => blk_cell h1 i
    have C2 := fun i => blk_cell hcc i
    have F1 := fun i => blk_frozen h1 i
    have F2 := fun i => blk_frozen hcc i
    have ne : ¬ (ad.block = w.heap.size + 1 + 1) := by omega
    have ne1 : ¬ (ad.block = w.heap.size + 1) := by omega
    have HB := Aside0.mk hb
    clear n6 n7 hb hv h1 hcc
    rcases hF' with hF | hF
    all_goals rcases hk' with hk | hk
    all_goals rcases ho' with ho | ho
    all_goals
      go_region
      go_wp2
      first
      | (have hbd : bad l := Hbad.out.mpr (by first | exact .inl hF | exact .inr (.inl (eq_of_beq hk)) | exact .inr (.inr ho))
         refine bodyPost_ret (v := .tuple #[zero, .int .i64 60]) ?_ rfl (UnpOut.bad_ hbd ?_)
         · simp only [results, Tryz.results111]; first | (go_simp; done) | (go_simp; rfl)
         · repeat (with_reducible first | exact HB.out | apply below_alloc | apply Base.below_drewN | apply below_drew1 | refine below_setN ?_ (by omega)))
      | (have hbd : ¬ bad l := fun hh => (Hbad.out.mp hh).elim (fun h => by omega) (fun h => h.elim (fun h => by rw [h] at hk; exact Bool.noConfusion hk) (fun h => by omega))
         refine bodyPost_ret (v := .tuple #[.agg #[.int .i64 (bits .and .i64 (rd l 0 + 256 * rd l 1) 3), .bool (bits .and .i64 (rd l 0 + 256 * rd l 1) 4 != 0), .bool true, .int .i64 (rd l 2 + 256 * rd l 3), .int .i64 (rd l 4 + 256 * rd l 5), .int .i64 (rd l 6), .int .i64 (rd l 7 + 1)], .int .i64 0]) ?_ rfl (UnpOut.good hbd Hagg.out ?_)
         · simp only [results, Tryz.results111]; go_simp
         · repeat (with_reducible first | exact HB.out | apply below_alloc | apply Base.below_drewN | apply below_drew1 | refine below_setN ?_ (by omega)))
set_option maxHeartbeats 4000000 in
set_option maxRecDepth 100000 in
theorem unpack_whole (ad : Addr) (c : Nat) (l : List Int) (w : World) (hb : Bytes w ad 8 l) (hs : (bits .and .i64 (rd l 0 + 256 * rd l 1) 8 != 0) = false) :
    Calls Tryz.prog 111 #[.slice (some ad) 8 c] w (UnpOut w l) := by
  have H := Aside0.mk hb
  clear hb
  have hsb : sb l = false := hs
  have hof : of l = 0 := by unfold of; rw [if_neg (by rw [hsb]; decide)]
  have hle : le l = 256 := by unfold le; rw [if_neg (by rw [hsb]; decide)]
  have hbad : bad l ↔ (16 ≤ rd l 0 + 256 * rd l 1 ∨ bits .and .i64 (rd l 0 + 256 * rd l 1) 3 = 3) := by unfold bad; rw [hof, hle]; simp [fl, kd]
  have hagg : agg l = .agg #[.int .i64 (bits .and .i64 (rd l 0 + 256 * rd l 1) 3), .bool (bits .and .i64 (rd l 0 + 256 * rd l 1) 4 != 0), .bool false, .int .i64 (rd l 2 + 256 * rd l 3), .int .i64 (rd l 4 + 256 * rd l 5), .int .i64 0, .int .i64 256] := by
    unfold agg; rw [hof, hle, hsb]; rfl
  have Hbad := Aside0.mk hbad
  have Hagg := Aside0.mk hagg
  clear hbad hagg hof hle hsb
  have hk' : ((bits .and .i64 (rd l 0 + 256 * rd l 1) 3 == 3) = true ∨ (bits .and .i64 (rd l 0 + 256 * rd l 1) 3 == 3) = false) := by cases (bits .and .i64 (rd l 0 + 256 * rd l 1) 3 == 3) <;> simp
  have hF' : (16 ≤ rd l 0 + 256 * rd l 1 ∨ rd l 0 + 256 * rd l 1 < 16) := by omega
  rcases hF' with hF | hF
  all_goals rcases hk' with hk | hk
  all_goals
    go_enter Tryz.func111, Tryz.ntmps111
    go_wp2_with (go_at_call 114; ((with_reducible refine (word_calls _ _ ad 8 c l _ (by omega) (by omega) (by omega) ?_ (H.out.below ?_)).mono ?_); (go_simp); (repeat (first | exact Below.refl _ _ | apply below_alloc | apply Base.below_drewN | apply below_drew1)); rintro e w' ⟨rfl, nn, rfl⟩))
    first
    | (have hbd : bad l := Hbad.out.mpr (by first | exact .inl hF | exact .inr (eq_of_beq hk))
       refine bodyPost_ret (v := .tuple #[zero, .int .i64 60]) ?_ rfl (UnpOut.bad_ hbd ?_)
       · simp only [results, Tryz.results111]; first | (go_simp; done) | (go_simp; rfl)
       · repeat (with_reducible first | exact Below.refl _ _ | apply below_alloc | apply Base.below_drewN | apply below_drew1 | refine below_setN ?_ (by omega)))
    | (have hbd : ¬ bad l := fun hh => (Hbad.out.mp hh).elim (fun h => by omega) (fun h => by rw [h] at hk; exact Bool.noConfusion hk)
       refine bodyPost_ret (v := .tuple #[.agg #[.int .i64 (bits .and .i64 (rd l 0 + 256 * rd l 1) 3), .bool (bits .and .i64 (rd l 0 + 256 * rd l 1) 4 != 0), .bool false, .int .i64 (rd l 2 + 256 * rd l 3), .int .i64 (rd l 4 + 256 * rd l 5), .int .i64 0, .int .i64 256], .int .i64 0]) ?_ rfl (UnpOut.good hbd Hagg.out ?_)
       · simp only [results, Tryz.results111]; go_simp
       · repeat (with_reducible first | exact Below.refl _ _ | apply below_alloc | apply Base.below_drewN | apply below_drew1 | refine below_setN ?_ (by omega)))

set_option maxHeartbeats 4000000 in
set_option maxRecDepth 100000 in
theorem unpack_len (A : Option Addr) (n c : Nat) (w : World) (hn : ((n : Int) != 8) = true) :
    Calls Tryz.prog 111 #[.slice A n c] w fun e w' => e = .returned (.tuple #[zero, .int .i64 1]) ∧ Below w.heap.size w w' := by
  go_enter Tryz.func111, Tryz.ntmps111
  go_wp2
  refine bodyPost_ret (v := .tuple #[zero, .int .i64 1]) ?_ rfl ⟨rfl, ?_⟩
  · simp only [results, Tryz.results111]; first | (go_simp; done) | (go_simp; rfl)
  · repeat (with_reducible first | exact Below.refl _ _ | apply below_alloc | apply Base.below_drewN | apply below_drew1 | refine below_setN ?_ (by omega))
end Go.Proofs.YthlejchcnfdcpaaGreat.GuA
