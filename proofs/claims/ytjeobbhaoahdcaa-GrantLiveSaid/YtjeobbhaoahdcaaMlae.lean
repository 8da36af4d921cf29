/- Proved: what grant.Unpack of the program comes to, at every row of eight bytes (a contract for the laws of the grants). Proved: what a view without rewrites does (contracts for the laws of the grants). Proved: small functions of the grants: slot, within, joined, unmade, Unpack (contracts for the laws of the grants). Proved: an entry, read once through the view (a contract for the laws of the grants). Proved: the frame that an entry names, whatever it names (a contract for the laws of the grants). -/
import Derived.Test.YtjeobbhaoahdcaaMlad
import Derived.Outline
import Derived.BigQuiet
import Derived.Deep.QuietTactic
import Derived.Deep.Light
namespace Go.Proofs.Ytjeobbhaoahdcaa.GuA
set_option linter.unusedVariables false
set_option linter.unusedSimpArgs false
open Go.RowKit Go.Proofs.Ytjeobbhaoahdcaa.Base
structure Aside0 (p : Prop) : Prop where
  out : p
def rd (l : List Int) (i : Int) : Int := l.getD i.toNat 0
theorem below_drew1 {w W : World} (h : Below w.heap.size w W) : Below w.heap.size w W.drew := h.drew
theorem blk_drewM {w : World} {g : Nat} {o : Obj} (h : w.heap[g]? = some o) (n : Nat) : (w.drewN n).heap[g]? = some o := h
theorem wraps_i64 (n : Int) (h₀ : 0 ≤ n) (h₁ : n < 2 ^ 63) : IntKind.i64.wrap n = n := by rw [IntKind.wrap_i64]; omega
theorem below_setN {w W : World} {g j : Nat} {v : Value} (h : Below w.heap.size w W) (hg : w.heap.size ≤ g) : Below w.heap.size w (W.setCell ⟨g, j, none⟩ v) := h.setCell hg _
theorem or_bytes (x y : Int) (x0 : 0 ≤ x) (x1 : x < 256) (y0 : 0 ≤ y) (y1 : y < 256) : bits .or .i64 x (y * 256) = x + 256 * y := by
  have hc : Go.bits .or .i64 x (y * 256) = Go.bits .or .i64 (y * 256) x := by
    simp only [bits]; rw [BitVec.or_comm]
  rw [hc, bits_join .i64 63 (by decide) wraps_i64 8 (y * 256) x (by omega) (by omega) (by omega) x0 (by omega) (by omega)]; omega
/-- A row of bytes that can be read: n cells from ad on. -/
def Bytes (w : World) (ad : Addr) (n : Nat) (l : List Int) : Prop := ∀ i : Int, 0 ≤ i → i < n → w.cell? (ad.add i.toNat) = some (.int .u8 (rd l i)) ∧ 0 ≤ rd l i ∧ rd l i < 256
theorem Bytes.below {w w1 : World} {ad : Addr} {n : Nat} {l : List Int} (h : Bytes w ad n l) (hb : Below w.heap.size w w1) : Bytes w1 ad n l :=
  fun i h0 h1 => ⟨cell_below hb (h i h0 h1).1, (h i h0 h1).2⟩

set_option maxHeartbeats 1000000 in
set_option maxRecDepth 100000 in
theorem word_calls (i : Int) (bw : Nat) (ad : Addr) (n c : Nat) (l : List Int) (w : World) (hi : 0 ≤ i) (hn : i + 1 < n) (hn2 : n ≤ 8) (hv : w.cell? ⟨bw, 0, none⟩ = some (.slice (some ad) n c)) (hb : Bytes w ad n l) :
    Calls Try.prog 86 #[.int .i64 i, .pointer (some ⟨bw, 0, none⟩)] w fun e w' => e = .returned (.int .i64 (rd l i + 256 * rd l (i + 1))) ∧ ∃ n, w' = w.drewN n := by
  obtain ⟨hx, x0, x1⟩ := hb i hi (by omega)
  obtain ⟨hy, y0, y1⟩ := hb (i + 1) (by omega) (by omega)
  clear hb
  generalize rd l i = x at *
  generalize rd l (i + 1) = y at *
  go_enter Try.func86, Try.ntmps86
  go_wp2
  go_quiet (fail)
  go_wp2
  go_ret
  exact ⟨by rw [← or_bytes x y x0 x1 y0 y1]; rfl, _, rfl⟩

/-- The parts of an entry's bytes, as the program reckons them. -/
def fl (l : List Int) : Int := rd l 0 + 256 * rd l 1
def kd (l : List Int) : Int := bits .and .i64 (fl l) 3
def ro (l : List Int) : Bool := bits .and .i64 (fl l) 4 != 0
def sb (l : List Int) : Bool := bits .and .i64 (fl l) 8 != 0
def of (l : List Int) : Int := if sb l then rd l 6 else 0
def le (l : List Int) : Int := if sb l then rd l 7 + 1 else 256
def agg (l : List Int) : Value := .agg #[.int .i64 (kd l), .bool (ro l), .bool (sb l), .int .i64 (rd l 2 + 256 * rd l 3), .int .i64 (rd l 4 + 256 * rd l 5), .int .i64 (of l), .int .i64 (le l)]
def zero : Value := .agg #[.int .i64 0, .bool false, .bool false, .int .i64 0, .int .i64 0, .int .i64 0, .int .i64 0]
def bad (l : List Int) : Prop := 16 ≤ fl l ∨ kd l = 3 ∨ 256 < of l + le l
instance (l : List Int) : Decidable (bad l) := by unfold bad; infer_instance

/-- What Unpack comes to. -/
def UnpOut (w : World) (l : List Int) (e : Ending) (w' : World) : Prop :=
  e = .returned (.tuple #[if bad l then zero else agg l, .int .i64 (if bad l then 60 else 0)]) ∧ Below w.heap.size w w'
theorem UnpOut.bad_ {w : World} {l : List Int} {w' : World} (h : bad l) (hb : Below w.heap.size w w') : UnpOut w l (.returned (.tuple #[zero, .int .i64 60])) w' := ⟨by rw [if_pos h, if_pos h], hb⟩
theorem UnpOut.good {w : World} {l : List Int} {w' : World} {v : Value} (h : ¬ bad l) (hv : agg l = v) (hb : Below w.heap.size w w') : UnpOut w l (.returned (.tuple #[v, .int .i64 0])) w' := ⟨by rw [if_neg h, if_neg h, hv], hb⟩

set_option maxHeartbeats 4000000 in
set_option maxRecDepth 100000 in
theorem unpack_sub (ad : Addr) (c : Nat) (l : List Int) (w : World) (hb : Bytes w ad 8 l) (hs : (bits .and .i64 (rd l 0 + 256 * rd l 1) 8 != 0) = true) :
    Calls Try.prog 83 #[.slice (some ad) 8 c] w (UnpOut w l) := by
  have H := Aside0.mk hb
  clear hb
  have hsb : sb l = true := hs
  have hof : of l = rd l 6 := by unfold of; rw [if_pos hsb]
  have hle : le l = rd l 7 + 1 := by unfold le; rw [if_pos hsb]
  have hbad : bad l ↔ (16 ≤ rd l 0 + 256 * rd l 1 ∨ bits .and .i64 (rd l 0 + 256 * rd l 1) 3 = 3 ∨ 256 < rd l 6 + (rd l 7 + 1)) := by unfold bad; rw [hof, hle]; rfl
  have hagg : agg l = .agg #[.int .i64 (bits .and .i64 (rd l 0 + 256 * rd l 1) 3), .bool (bits .and .i64 (rd l 0 + 256 * rd l 1) 4 != 0), .bool true, .int .i64 (rd l 2 + 256 * rd l 3), .int .i64 (rd l 4 + 256 * rd l 5), .int .i64 (rd l 6), .int .i64 (rd l 7 + 1)] := by
    unfold agg; rw [hof, hle, hsb]; rfl
  have Hbad := Aside0.mk hbad
  have Hagg := Aside0.mk hagg
  clear hbad hagg hof hle hsb
  have hk' : ((bits .and .i64 (rd l 0 + 256 * rd l 1) 3 == 3) = true ∨ (bits .and .i64 (rd l 0 + 256 * rd l 1) 3 == 3) = false) := by cases (bits .and .i64 (rd l 0 + 256 * rd l 1) 3 == 3) <;> simp
  have hF' : (16 ≤ rd l 0 + 256 * rd l 1 ∨ rd l 0 + 256 * rd l 1 < 16) := by omega
  have ho' : (256 < rd l 6 + (rd l 7 + 1) ∨ rd l 6 + (rd l 7 + 1) ≤ 256) := by omega
  go_enter Try.func83, Try.ntmps83
  go_wp2_with (go_at_call 86; ((with_reducible refine (word_calls _ _ ad 8 c l _ (by omega) (by omega) (by omega) ?_ (H.out.below ?_)).mono ?_); (go_simp); (repeat (first | exact Below.refl _ _ | apply below_alloc | apply Base.below_drewN | apply below_drew1)); rintro e w' ⟨rfl, nn, rfl⟩))
  obtain ⟨c6, u6, v6⟩ := H.out 6 (by omega) (by omega)
  obtain ⟨c7, u7, v7⟩ := H.out 7 (by omega) (by omega)
  have m6 := World.block_lt_of_cell? w _ c6
  have n6 : w.cell? ⟨ad.block, ad.off + 6, none⟩ = some (.int .u8 (rd l 6)) := c6
  have n7 : w.cell? ⟨ad.block, ad.off + 7, none⟩ = some (.int .u8 (rd l 7)) := c7
  have mm : ad.block < w.heap.size := m6
  clear c6 c7 m6
  refine wp_world (fun W => Below w.heap.size w W ∧ w.heap.size + 2 < W.heap.size ∧ W.heap[w.heap.size]? = some (.cells #[Value.slice (some ad) 8 c] 42 (0, 0)) ∧ W.heap[w.heap.size + 2]? = some (.cells #[Value.int IntKind.i64 (bits BinOp.and IntKind.i64 (rd l 0 + 256 * rd l 1) 3),
      Value.bool (bits BinOp.and IntKind.i64 (rd l 0 + 256 * rd l 1) 4 != 0), Value.bool true,
      Value.int IntKind.i64 (rd l 2 + 256 * rd l 3), Value.int IntKind.i64 (rd l 4 + 256 * rd l 5),
      Value.int IntKind.i64 0, Value.int IntKind.i64 256] 53 (0, 0)) ∧ W.heap[w.heap.size + 1]? = some (.cells #[Value.int IntKind.i64 0, Value.bool false, Value.bool false, Value.int IntKind.i64 0, Value.int IntKind.i64 0,
      Value.int IntKind.i64 0, Value.int IntKind.i64 0] 53 (0, 0))) ?_ ?_
  · refine ⟨?_, ?_, ?_, ?_, ?_⟩
    · (repeat (first | exact Below.refl _ _ | apply below_alloc | apply Base.below_drewN | apply below_drew1))
    · go_simp
    · repeat (first | exact blk_newest rfl _ | refine blk_alloc ?_ _ | refine blk_drewM ?_ _)
    · exact blk_newest (by simp) _
    · refine blk_alloc (blk_drewM (blk_newest (by simp) _) _) _
  · intro W ⟨hb, hz, hv, hcc, h1⟩
    have k6 := hb.cell (p := ⟨ad.block, ad.off + 6, none⟩) mm
    have k7 := hb.cell (p := ⟨ad.block, ad.off + 7, none⟩) mm
    rw [n6] at k6
    rw [n7] at k7
    have C0 := fun i => blk_cell hv i
    have C1 := fun i => blk_cell h1 i
    have C2 := fun i => blk_cell hcc i
    have F1 := fun i => blk_frozen h1 i
    have F2 := fun i => blk_frozen hcc i
    have ne : ¬ (ad.block = w.heap.size + 1 + 1) := by omega
    have ne1 : ¬ (ad.block = w.heap.size + 1) := by omega
    have HB := Aside0.mk hb
    clear n6 n7 hb hv h1 hcc
    rcases hF' with hF | hF
    all_goals rcases hk' with hk | hk
    all_goals rcases ho' with ho | ho
    all_goals
      go_region
      go_wp2
      first
      | (have hbd : bad l := Hbad.out.mpr (by first | exact .inl hF | exact .inr (.inl (eq_of_beq hk)) | exact .inr (.inr ho))
         refine bodyPost_ret (v := .tuple #[zero, .int .i64 60]) ?_ rfl (UnpOut.bad_ hbd ?_)
         · simp only [results, Try.results83]; first | (go_simp; done) | (go_simp; rfl)
         · repeat (with_reducible first | exact HB.out | apply below_alloc | apply Base.below_drewN | apply below_drew1 | refine below_setN ?_ (by omega)))
      | (have hbd : ¬ bad l := fun hh => (Hbad.out.mp hh).elim (fun h => by omega) (fun h => h.elim (fun h => by rw [h] at hk; exact Bool.noConfusion hk) (fun h => by omega))
         refine bodyPost_ret (v := .tuple #[.agg #[.int .i64 (bits .and .i64 (rd l 0 + 256 * rd l 1) 3), .bool (bits .and .i64 (rd l 0 + 256 * rd l 1) 4 != 0), .bool true, .int .i64 (rd l 2 + 256 * rd l 3), .int .i64 (rd l 4 + 256 * rd l 5), .int .i64 (rd l 6), .int .i64 (rd l 7 + 1)], .int .i64 0]) ?_ rfl (UnpOut.good hbd Hagg.out ?_)
         · simp only [results, Try.results83]; go_simp
         · repeat (with_reducible first | exact HB.out | apply below_alloc | apply Base.below_drewN | apply below_drew1 | refine below_setN ?_ (by omega)))
set_option maxHeartbeats 4000000 in
set_option maxRecDepth 100000 in
theorem unpack_whole (ad : Addr) (c : Nat) (l : List Int) (w : World) (hb : Bytes w ad 8 l) (hs : (bits .and .i64 (rd l 0 + 256 * rd l 1) 8 != 0) = false) :
    Calls Try.prog 83 #[.slice (some ad) 8 c] w (UnpOut w l) := by
  have H := Aside0.mk hb
  clear hb
  have hsb : sb l = false := hs
  have hof : of l = 0 := by unfold of; rw [if_neg (by rw [hsb]; decide)]
  have hle : le l = 256 := by unfold le; rw [if_neg (by rw [hsb]; decide)]
  have hbad : bad l ↔ (16 ≤ rd l 0 + 256 * rd l 1 ∨ bits .and .i64 (rd l 0 + 256 * rd l 1) 3 = 3) := by unfold bad; rw [hof, hle]; simp [fl, kd]
  have hagg : agg l = .agg #[.int .i64 (bits .and .i64 (rd l 0 + 256 * rd l 1) 3), .bool (bits .and .i64 (rd l 0 + 256 * rd l 1) 4 != 0), .bool false, .int .i64 (rd l 2 + 256 * rd l 3), .int .i64 (rd l 4 + 256 * rd l 5), .int .i64 0, .int .i64 256] := by
    unfold agg; rw [hof, hle, hsb]; rfl
  have Hbad := Aside0.mk hbad
  have Hagg := Aside0.mk hagg
  clear hbad hagg hof hle hsb
  have hk' : ((bits .and .i64 (rd l 0 + 256 * rd l 1) 3 == 3) = true ∨ (bits .and .i64 (rd l 0 + 256 * rd l 1) 3 == 3) = false) := by cases (bits .and .i64 (rd l 0 + 256 * rd l 1) 3 == 3) <;> simp
  have hF' : (16 ≤ rd l 0 + 256 * rd l 1 ∨ rd l 0 + 256 * rd l 1 < 16) := by omega
  rcases hF' with hF | hF
  all_goals rcases hk' with hk | hk
  all_goals
    go_enter Try.func83, Try.ntmps83
    go_wp2_with (go_at_call 86; ((with_reducible refine (word_calls _ _ ad 8 c l _ (by omega) (by omega) (by omega) ?_ (H.out.below ?_)).mono ?_); (go_simp); (repeat (first | exact Below.refl _ _ | apply below_alloc | apply Base.below_drewN | apply below_drew1)); rintro e w' ⟨rfl, nn, rfl⟩))
    first
    | (have hbd : bad l := Hbad.out.mpr (by first | exact .inl hF | exact .inr (eq_of_beq hk))
       refine bodyPost_ret (v := .tuple #[zero, .int .i64 60]) ?_ rfl (UnpOut.bad_ hbd ?_)
       · simp only [results, Try.results83]; first | (go_simp; done) | (go_simp; rfl)
       · repeat (with_reducible first | exact Below.refl _ _ | apply below_alloc | apply Base.below_drewN | apply below_drew1 | refine below_setN ?_ (by omega)))
    | (have hbd : ¬ bad l := fun hh => (Hbad.out.mp hh).elim (fun h => by omega) (fun h => by rw [h] at hk; exact Bool.noConfusion hk)
       refine bodyPost_ret (v := .tuple #[.agg #[.int .i64 (bits .and .i64 (rd l 0 + 256 * rd l 1) 3), .bool (bits .and .i64 (rd l 0 + 256 * rd l 1) 4 != 0), .bool false, .int .i64 (rd l 2 + 256 * rd l 3), .int .i64 (rd l 4 + 256 * rd l 5), .int .i64 0, .int .i64 256], .int .i64 0]) ?_ rfl (UnpOut.good hbd Hagg.out ?_)
       · simp only [results, Try.results83]; go_simp
       · repeat (with_reducible first | exact Below.refl _ _ | apply below_alloc | apply Base.below_drewN | apply below_drew1 | refine below_setN ?_ (by omega)))

set_option maxHeartbeats 4000000 in
set_option maxRecDepth 100000 in
theorem unpack_len (A : Option Addr) (n c : Nat) (w : World) (hn : ((n : Int) != 8) = true) :
    Calls Try.prog 83 #[.slice A n c] w fun e w' => e = .returned (.tuple #[zero, .int .i64 1]) ∧ Below w.heap.size w w' := by
  go_enter Try.func83, Try.ntmps83
  go_wp2
  refine bodyPost_ret (v := .tuple #[zero, .int .i64 1]) ?_ rfl ⟨rfl, ?_⟩
  · simp only [results, Try.results83]; first | (go_simp; done) | (go_simp; rfl)
  · repeat (with_reducible first | exact Below.refl _ _ | apply below_alloc | apply Base.below_drewN | apply below_drew1 | refine below_setN ?_ (by omega))
end Go.Proofs.Ytjeobbhaoahdcaa.GuA
namespace Go.Proofs.Ytjeobbhaoahdcaa.GvA
open Go.RowKit Go.Maps Go.Proofs.Ytjeobbhaoahdcaa.Base Go.Proofs.Ytjeobbhaoahdcaa.GaA Go.Proofs.Ytjeobbhaoahdcaa.GaB Go.Proofs.Ytjeobbhaoahdcaa.GaC Go.Proofs.Ytjeobbhaoahdcaa.GmA
set_option linter.unusedVariables false
set_option linter.unusedSimpArgs false

theorem zeroF (w : World) : (zeroValue 109).run Try.prog w = .ok (.slice none 0 0) w := Try.zeroValue109 w
/-- How many reads there were, as an int holds it. -/
def cr (r : Nat) : Int := IntKind.i64.wrap (r : Int)
theorem cr_zero : cr 0 = 0 := by decide
theorem cr_in (r : Nat) : -9223372036854775808 ≤ cr r ∧ cr r ≤ 9223372036854775807 := by
  unfold cr
  rw [IntKind.wrap_i64]
  omega
theorem cr_step (r : Nat) : IntKind.i64.wrap (cr r + 1) = cr (r + 1) := by
  unfold cr
  simp only [IntKind.wrap_i64]
  omega
/-- A view in memory, without rewrites, behind so many reads. -/
structure V2 (w : World) (vb db mb : Nat) (r : Nat) : Prop where
  blk : w.heap[vb]? = some (.cells #[.pointer (some ⟨mb, 0, none⟩), .map (some db), .int .i64 (cr r)] 84 (0, 0))
  due : IMap w db (fun _ => none) 0
section
variable {w w' : World} {vb db mb fb r : Nat} {s : MS}
theorem V2.chg {F : Nat → Prop} (h : V2 w vb db mb r) (hc : Chg F w w') (h1 : ¬ F vb) (h2 : ¬ F db) : V2 w' vb db mb r := ⟨hc.blk h.blk h1, h.due.chg hc h2⟩
theorem V2.below (h : V2 w vb db mb r) (hb : Below w.heap.size w w') : V2 w' vb db mb r := h.chg (Chg.below (fun _ => False) hb) (fun h => h) (fun h => h)
set_option maxHeartbeats 2000000 in
set_option maxRecDepth 100000 in
theorem new_calls (h : Mach w mb fb s) (hn : 0 < s.n) : Calls Try.prog 10 #[.pointer (some ⟨mb, 0, none⟩), .slice none 0 0] w fun e w' => ∃ vb db, e = .returned (.tuple #[.pointer (some ⟨vb, 0, none⟩), .int .i64 0]) ∧ w.heap.size ≤ vb ∧ w.heap.size ≤ db ∧ V2 w' vb db mb 0 ∧ Below w.heap.size w w' := by
  have hmm := @run_makeMap Try.prog
  have hb1 := below_alloc (Below.refl w.heap.size w) (.cells #[.pointer (some ⟨mb, 0, none⟩)] 28)
  have hs := size_calls h
  have hs1 := fun W hW => size_calls (h.below (w' := W) hW)
  have C1 := fun i => blk_cell h.blk i
  have L1 := blk_lt h.blk
  have d0 : ((s.n : Int) == 0) = false := by simp; omega
  clear h
  go_enter Try.func10, Try.ntmps10
  go_wp2_with (first
    | (go_at_call 15; refine hs.mono ?_; rintro z w1 ⟨rfl, hw1⟩; obtain rfl := hw1.symm)
    | go_in)
  refine wp_loop_once ?_
  go_wp2
  go_ret2
  refine ⟨_, _, rfl, ?_, ?_, ⟨blk_alloc (blk_newest ?_ _) _, IMap.made_at (blk_alloc (blk_alloc (blk_new _ _) _) _)⟩, below_alloc (below_alloc (below_alloc (Below.refl _ _) _) _) _⟩
  · omega
  · omega
  · simp
set_option maxHeartbeats 2000000 in
set_option maxRecDepth 100000 in
theorem none_calls (h : V2 w vb db mb r) : Calls Try.prog 78 #[.pointer (some ⟨vb, 0, none⟩)] w fun e w' => e = .returned (.bool false) ∧ w' = w := by
  have C0 := fun i => blk_cell h.blk i
  have L0 := blk_lt h.blk
  clear h
  go_enter Try.func78, Try.ntmps78
  go_wp2
  go_ret
  exact ⟨by first | rfl | (simp; done), rfl⟩
set_option maxHeartbeats 2000000 in
set_option maxRecDepth 100000 in
theorem machine_calls (h : V2 w vb db mb r) : Calls Try.prog 80 #[.pointer (some ⟨vb, 0, none⟩)] w fun e w' => e = .returned (.pointer (some ⟨mb, 0, none⟩)) ∧ w' = w := by
  have C0 := fun i => blk_cell h.blk i
  have L0 := blk_lt h.blk
  have hn := none_calls h
  clear h
  go_enter Try.func80, Try.ntmps80
  go_wp2_with (first
    | (go_at_call 78; refine hn.mono ?_; rintro z w1 ⟨rfl, hw1⟩; obtain rfl := hw1.symm)
    | go_in)
  go_ret
  exact ⟨by first | rfl | (simp; done), rfl⟩
set_option maxHeartbeats 4000000 in
set_option maxRecDepth 100000 in
theorem read_calls (h : V2 w vb db mb r) (hM : Mach w mb fb s) (hr : 0 ≤ r) (hvm : vb ≠ mb) (hvf : vb ≠ fb) (k : Nat) (hk : k < s.n) (off n : Nat) (ho : off + n ≤ 256) : Calls Try.prog 51 #[.pointer (some ⟨vb, 0, none⟩), .int .i64 k, .int .i64 off, .int .i64 n] w fun e w' =>
    e = .returned (.tuple #[.slice (some ⟨w.heap.size, 0, none⟩) n n, .int .i64 0]) ∧ w'.heap[w.heap.size]? = some (.cells (u8s (MS.rd s k off n)).toArray 5 (0, 0)) ∧ V2 w' vb db mb (r + 1) ∧ Chg (fun x => x = vb) w w' := by
  have C0 := fun i => blk_cell h.blk i
  have F0 := fun i => blk_frozen h.blk i
  have L0 := blk_lt h.blk
  have hn := none_calls h
  have hci := cr_in r
  have hcs := cr_step r
  have hlk := (h.due.block (W' := w.drew) rfl).look Try.underlying82 (zeroF w.drew) (cr r) (by omega) (by omega)
  simp only [Option.getD_none] at hlk
  have hc1 : Chg (fun x => x = vb) w (w.setCell ⟨vb, 2, none⟩ (.int .i64 (cr (r + 1)))).drew := Chg.drew (Chg.set (F := fun x => x = vb) (p := ⟨vb, 2, none⟩) (Chg.refl _ w) (.inl rfl) _)
  have hrd := GaC.read_calls (hM.chg hc1 (fun e => hvm e.symm) (fun e => hvf e.symm)) k hk off n ho
  have hsz : (w.setCell ⟨vb, 2, none⟩ (.int .i64 (cr (r + 1)))).drew.heap.size = w.heap.size := size_set _ _ _
  have hdb : db ≠ vb := by
    rintro rfl
    obtain ⟨es, clock, h1⟩ := h.due.is
    rw [h.blk] at h1
    cases h1
  have hV1 : V2 (w.setCell ⟨vb, 2, none⟩ (.int .i64 (cr (r + 1)))).drew vb db mb (r + 1) := ⟨blk_put h.blk 2 _ (by simp), h.due.chg hc1 hdb⟩
  have HH := Base.Aside.mk (And.intro hc1 (And.intro hV1 hsz))
  clear h hM hc1 hV1 hsz
  go_enter Try.func51, Try.ntmps51
  go_wp2_with (first
    | (go_at_call 78; refine hn.mono ?_; rintro z w1 ⟨rfl, hw1⟩; obtain rfl := hw1.symm)
    | go_in)
  go_region
  go_wp2
  refine wp_loop_once ?_
  go_wp2_with (first
    | (go_at_call 12; refine hrd.mono ?_; rintro z w1 ⟨rfl, hw1, hw2⟩; have E1 := Base.Aside.mk (And.intro hw1 hw2); clear hw1 hw2)
    | go_in)
  go_ret2
  have hsz := HH.out.2.2
  rw [hsz] at E1
  refine ⟨by first | rfl | (simp; done), E1.out.1, HH.out.2.1.below ?_, HH.out.1.trans (Chg.below _ ?_)⟩
  · rw [hsz]; exact E1.out.2
  · rw [hsz]; exact E1.out.2
end
end Go.Proofs.Ytjeobbhaoahdcaa.GvA
namespace Go.Proofs.Ytjeobbhaoahdcaa.GeA
open Go.RowKit Go.Maps Go.Proofs.Ytjeobbhaoahdcaa.Base Go.Proofs.Ytjeobbhaoahdcaa.GaA Go.Proofs.Ytjeobbhaoahdcaa.GaB Go.Proofs.Ytjeobbhaoahdcaa.GmA Go.Proofs.Ytjeobbhaoahdcaa.GpA Go.Proofs.Ytjeobbhaoahdcaa.GgA
set_option linter.unusedVariables false
set_option linter.unusedSimpArgs false

section
variable {w w' : World} {gb mm hm mb fb : Nat} {f : Int → Option (Int × Nat)} {c : Nat} {s : MS}
theorem slot_in (k : Nat) (hk : k < 32) (w : World) : Calls Try.prog 57 #[.int .i64 k] w fun e w' => e = .returned (.bool true) ∧ w' = w := by
  have k0 : decide ((0 : Int) ≤ (k : Int)) = true := decide_eq_true (by omega)
  have k1 : decide ((k : Int) < 32) = true := decide_eq_true (by omega)
  go_enter Try.func57, Try.ntmps57
  go_wp2
  go_ret
  exact ⟨by first | rfl | (simp; done), rfl⟩
/-- Does a part lie in so many bytes? -/
def inn (off n size : Int) : Bool := decide (0 ≤ off) && (decide (0 ≤ n) && (decide (off ≤ size) && decide (n ≤ size - off)))
set_option maxHeartbeats 2000000 in
set_option maxRecDepth 100000 in
theorem within_calls (off n size : Int) (s0 : 0 ≤ size) (s1 : size ≤ 256) (w : World) : Calls Try.prog 64 #[.int .i64 off, .int .i64 n, .int .i64 size] w fun e w' => e = .returned (.bool (inn off n size)) ∧ w' = w := by
  by_cases h0 : 0 ≤ off
  · have d0 : decide (0 ≤ off) = true := decide_eq_true h0
    by_cases h1 : 0 ≤ n
    · have d1 : decide (0 ≤ n) = true := decide_eq_true h1
      by_cases h2 : off ≤ size
      · have d2 : decide (off ≤ size) = true := decide_eq_true h2
        go_enter Try.func64, Try.ntmps64
        go_wp2
        go_ret
        exact ⟨by simp [inn, d0, d1, d2], by first | rfl | trivial⟩
      · have d2 : decide (off ≤ size) = false := decide_eq_false h2
        go_enter Try.func64, Try.ntmps64
        go_wp2
        go_ret
        exact ⟨by simp [inn, d0, d1, d2], by first | rfl | trivial⟩
    · have d1 : decide (0 ≤ n) = false := decide_eq_false h1
      go_enter Try.func64, Try.ntmps64
      go_wp2
      go_ret
      exact ⟨by simp [inn, d0, d1], by first | rfl | trivial⟩
  · have d0 : decide (0 ≤ off) = false := decide_eq_false h0
    go_enter Try.func64, Try.ntmps64
    go_wp2
    go_ret
    exact ⟨by simp [inn, d0], by first | rfl | trivial⟩
set_option maxHeartbeats 2000000 in
set_option maxRecDepth 100000 in
theorem joined_in (h : G2 w gb mm hm mb f c) (d : Int) (d0 : 0 ≤ d) (d8 : d < 8) (x : Int × Nat) (hd : f d = some x) : Calls Try.prog 56 #[.pointer (some ⟨gb, 0, none⟩), .int .i64 d] w fun e w' => e = .returned (.bool true) ∧ Below w.heap.size w w' := by
  have C0 := fun i => blk_cell h.blk i
  have L0 := blk_lt h.blk
  have e1 : mvs f d = some (.agg #[.int .i64 x.1, .pointer (some ⟨x.2, 0, none⟩)]) := by unfold mvs; rw [hd]; rfl
  have hlk := h.mem.look_ok Try.underlying75 (zeroM w) d (by omega) (by omega)
  rw [e1] at hlk
  simp only [Option.getD_some, Option.isSome_some] at hlk
  clear h e1
  go_enter Try.func56, Try.ntmps56
  go_wp2
  go_ret
  exact ⟨by first | rfl | (simp; done), below_alloc (Below.refl _ _) _⟩
set_option maxHeartbeats 2000000 in
set_option maxRecDepth 100000 in
theorem joined_no (h : G2 w gb mm hm mb f c) (d : Int) (d0 : -1000000 ≤ d) (d8 : d ≤ 1000000) (hd : f d = none) : Calls Try.prog 56 #[.pointer (some ⟨gb, 0, none⟩), .int .i64 d] w fun e w' => e = .returned (.bool false) ∧ Below w.heap.size w w' := by
  have C0 := fun i => blk_cell h.blk i
  have L0 := blk_lt h.blk
  have e1 : mvs f d = none := by unfold mvs; rw [hd]; rfl
  have hlk := h.mem.look_ok Try.underlying75 (zeroM w) d (by omega) (by omega)
  rw [e1] at hlk
  simp only [Option.getD_none, Option.isSome_none] at hlk
  clear h e1
  go_enter Try.func56, Try.ntmps56
  go_wp2
  go_ret
  exact ⟨by first | rfl | (simp; done), below_alloc (Below.refl _ _) _⟩
theorem unpack_calls (ad : Addr) (cp : Nat) (l : List Int) (w : World) (hb : GuA.Bytes w ad 8 l) : Calls Try.prog 83 #[.slice (some ad) 8 cp] w (GuA.UnpOut w l) := by
  by_cases hs : (bits .and .i64 (GuA.rd l 0 + 256 * GuA.rd l 1) 8 != 0) = true
  · exact GuA.unpack_sub ad cp l w hb hs
  · exact GuA.unpack_whole ad cp l w hb (by simpa using hs)
theorem unmade_calls {vb db r : Nat} (h : GvA.V2 w vb db mb r) : Calls Try.prog 54 #[.pointer (some ⟨vb, 0, none⟩)] w fun e w' => e = .returned (.bool false) ∧ w' = w := by
  have hm := GvA.machine_calls h
  clear h
  go_enter Try.func54, Try.ntmps54
  go_wp2_with (first
    | (go_at_call 80; refine hm.mono ?_; rintro z w1 ⟨rfl, hw1⟩; obtain rfl := hw1.symm)
    | go_in)
  go_ret
  exact ⟨by first | rfl | (simp; done), rfl⟩
end
end Go.Proofs.Ytjeobbhaoahdcaa.GeA
namespace Go.Proofs.Ytjeobbhaoahdcaa.GeB
open Go.RowKit Go.Maps Go.Proofs.Ytjeobbhaoahdcaa.Base Go.Proofs.Ytjeobbhaoahdcaa.GaA Go.Proofs.Ytjeobbhaoahdcaa.GaB Go.Proofs.Ytjeobbhaoahdcaa.GaC Go.Proofs.Ytjeobbhaoahdcaa.GmA Go.Proofs.Ytjeobbhaoahdcaa.GpA Go.Proofs.Ytjeobbhaoahdcaa.GgA Go.Proofs.Ytjeobbhaoahdcaa.GeA
set_option linter.unusedVariables false
set_option linter.unusedSimpArgs false

/-- The bytes of an entry. -/
def ent (s : MS) (k ref : Nat) : List Int := (MS.rd s k (8 * ref) 8).map fun b => (b.toNat : Int)
theorem ent_bytes {w : World} {g : Nat} {zs : List UInt8} (hl : zs.length = 8) (h : w.heap[g]? = some (.cells (u8s zs).toArray 5 (0, 0))) : GuA.Bytes w ⟨g, 0, none⟩ 8 (zs.map fun b => (b.toNat : Int)) := by
  intro i h0 h1
  have hi : i.toNat < zs.length := by omega
  have e : GuA.rd (zs.map fun b => (b.toNat : Int)) i = ((zs[i.toNat]).toNat : Int) := by
    unfold GuA.rd
    rw [List.getD_eq_getElem?_getD, List.getElem?_map, List.getElem?_eq_getElem hi]
    rfl
  have hb := (zs[i.toNat]).toNat_lt
  refine ⟨?_, by rw [e]; omega, by rw [e]; omega⟩
  rw [e, show ((⟨g, 0, none⟩ : Addr).add i.toNat) = ⟨g, i.toNat, none⟩ by unfold Addr.add; split <;> simp_all, blk_cell h]
  simp [u8s, hi]
theorem unpack_bad (ad : Addr) (cp : Nat) (l : List Int) (w : World) (hb : GuA.Bytes w ad 8 l) (h : GuA.bad l) : Calls Try.prog 83 #[.slice (some ad) 8 cp] w fun e w' => e = .returned (.tuple #[.agg #[.int .i64 0, .bool false, .bool false, .int .i64 0, .int .i64 0, .int .i64 0, .int .i64 0], .int .i64 60]) ∧ Below w.heap.size w w' :=
  (unpack_calls ad cp l w hb).mono fun e w' ⟨h1, h2⟩ => ⟨by rw [h1, if_pos h, if_pos h]; rfl, h2⟩
theorem unpack_good (ad : Addr) (cp : Nat) (l : List Int) (w : World) (hb : GuA.Bytes w ad 8 l) (h : ¬ GuA.bad l) : Calls Try.prog 83 #[.slice (some ad) 8 cp] w fun e w' => e = .returned (.tuple #[.agg #[.int .i64 (GuA.kd l), .bool (GuA.ro l), .bool (GuA.sb l), .int .i64 (GuA.rd l 2 + 256 * GuA.rd l 3), .int .i64 (GuA.rd l 4 + 256 * GuA.rd l 5), .int .i64 (GuA.of l), .int .i64 (GuA.le l)], .int .i64 0]) ∧ Below w.heap.size w w' :=
  (unpack_calls ad cp l w hb).mono fun e w' ⟨h1, h2⟩ => ⟨by rw [h1, if_neg h, if_neg h]; rfl, h2⟩
theorem seven {w2 : World} {g : Nat} (a0 a1 a2 a3 a4 a5 a6 : Value) (o : Obj) : Chg (fun x => x = g) w2 ((((((((w2.setCell ⟨g, 0, none⟩ a0).setCell ⟨g, 1, none⟩ a1).setCell ⟨g, 2, none⟩ a2).setCell ⟨g, 3, none⟩ a3).setCell ⟨g, 4, none⟩ a4).setCell ⟨g, 5, none⟩ a5).setCell ⟨g, 6, none⟩ a6).alloc o) :=
  (chg_fb (chg_fb (chg_fb (chg_fb (chg_fb (chg_fb (chg_fb (Chg.refl _ w2) 0 a0) 1 a1) 2 a2) 3 a3) 4 a4) 5 a5) 6 a6).alloc o
theorem ent_end {w w1 w2 W : World} {o : Obj} {vb db mb r : Nat} (hv : vb < w.heap.size) (hd : db < w.heap.size) (h1 : GvA.V2 w1 vb db mb (r + 1)) (h2 : Chg (fun x => x = vb) (w.alloc o) w1) (h3 : Below w1.heap.size w1 w2) (h4 : Chg (fun x => x = w.heap.size) w2 W) : GvA.V2 W vb db mb (r + 1) ∧ Chg (fun x => x = vb) w W := by
  refine ⟨(h1.below h3).chg h4 (by omega) (by omega), ?_⟩
  have a := (((Chg.refl (fun x => x = vb) w).alloc o).trans h2).trans (Chg.below _ h3)
  exact ⟨h4.os.trans a.os, h4.tape.trans a.tape, h4.output.trans a.output, Nat.le_trans a.size h4.size, fun k hk hf => (h4.block k (Nat.lt_of_lt_of_le hk a.size) (by omega)).trans (a.block k hk hf)⟩
def EntOut (w : World) (l : List Int) (vb db mb r : Nat) (e : Ending) (w' : World) : Prop :=
  e = .returned (.tuple #[if GuA.bad l then GuA.zero else GuA.agg l, .int .i64 (if GuA.bad l then 60 else 0)]) ∧ GvA.V2 w' vb db mb (r + 1) ∧ Chg (fun x => x = vb) w w'
section
variable {w w' : World} {gb mm hm mb fb : Nat} {f : Int → Option (Int × Nat)} {c : Nat} {s : MS}
set_option maxHeartbeats 4000000 in
set_option maxRecDepth 100000 in
theorem entry_calls (h : G2 w gb mm hm mb f c) (hM : Mach w mb fb s) {vb db r : Nat} (hV : GvA.V2 w vb db mb r) (hr : 0 ≤ r) (hvm : vb ≠ mb) (hvf : vb ≠ fb) (d : Int) (d0 : 0 ≤ d) (d8 : d < 8) (k pb : Nat) (hd : f d = some ((k : Int), pb)) (hk : k < s.n) (ref : Nat) (h32 : ref < 32) :
    Calls Try.prog 68 #[.pointer (some ⟨gb, 0, none⟩), .pointer (some ⟨vb, 0, none⟩), .int .i64 d, .int .i64 ref] w (EntOut w (ent s k ref) vb db mb r) := by
  have C0 := fun i => blk_cell h.blk i
  have L0 := blk_lt h.blk
  have e1 : mvs f d = some (.agg #[.int .i64 k, .pointer (some ⟨pb, 0, none⟩)]) := by unfold mvs; rw [hd]; rfl
  have hb1 := below_alloc (Below.refl w.heap.size w) (.cells #[.int .i64 0, .bool false, .bool false, .int .i64 0, .int .i64 0, .int .i64 0, .int .i64 0] 53)
  have hlk := (h.mem.below hb1).look Try.underlying75 (zeroM _) d (by omega) (by omega)
  rw [e1] at hlk
  simp only [Option.getD_some] at hlk
  have hrd := GvA.read_calls (hV.below hb1) (hM.below hb1) hr hvm hvf k hk (8 * ref) 8 (by omega)
  have HB := Base.Aside.mk hb1
  have hfd : ∀ (W : World) (a b : Value), (Instr.field 142 (.agg #[a, b]) 0).run Try.prog W = .ok a W := fun _ _ _ => by kernel_rfl
  rw [show ((8 * ref : Nat) : Int) = 8 * (ref : Int) by omega] at hrd
  simp only [World.size_alloc] at hrd
  have hVlt := blk_lt hV.blk
  have hDlt := hV.due.lt
  clear h e1 hb1 hM hV
  have hlv := hVlt
  by_cases hbad : GuA.bad (ent s k ref)
  · have HU := fun (w1 : World) (H : Nat) (hh : w1.heap[H]? = some (.cells (u8s (MS.rd s k (8 * ref) 8)).toArray 5 (0, 0))) => unpack_bad ⟨H, 0, none⟩ 8 (ent s k ref) w1 (ent_bytes (rd_len _ _ _ _) hh) hbad
    have HR := fun (w1 : World) (hc : Chg (fun x => x = vb) (w.alloc (.cells #[.int .i64 0, .bool false, .bool false, .int .i64 0, .int .i64 0, .int .i64 0, .int .i64 0] 53)) w1) => hc.blk (blk_new w _) (Nat.ne_of_gt hlv)
    go_enter Try.func68, Try.ntmps68
    go_wp2_with (first
      | (go_at_call 51; refine hrd.mono ?_; rintro z w1 ⟨rfl, hw1, hw2, hw3⟩; have hsz := hw3.size; have hun := HU w1 _ hw1; have hres := HR w1 hw3; have E1 := Base.Aside.mk (And.intro hw2 hw3); clear hw1 hw2 hw3)
      | (go_at_call 83; refine hun.mono ?_; rintro z w2 ⟨rfl, hB2⟩; have hres2 := blk_below hres (blk_lt hres) hB2; have C2 := fun i => blk_cell hres2 i; have F2 := fun i => blk_frozen hres2 i; have L2 := blk_lt hres2; have E2 := Base.Aside.mk hB2; clear hB2)
      | go_in)
    refine bodyPost_ret (v := .tuple #[.agg #[.int .i64 0, .bool false, .bool false, .int .i64 0, .int .i64 0, .int .i64 0, .int .i64 0], .int .i64 60]) ?_ rfl ⟨by rw [if_pos hbad, if_pos hbad]; rfl, ent_end hVlt hDlt E1.out.1 E1.out.2 E2.out (seven _ _ _ _ _ _ _ _)⟩
    simp only [results, Try.results68]; first | (go_simp; done) | (go_simp; rfl)
  · have HU := fun (w1 : World) (H : Nat) (hh : w1.heap[H]? = some (.cells (u8s (MS.rd s k (8 * ref) 8)).toArray 5 (0, 0))) => unpack_good ⟨H, 0, none⟩ 8 (ent s k ref) w1 (ent_bytes (rd_len _ _ _ _) hh) hbad
    have HR := fun (w1 : World) (hc : Chg (fun x => x = vb) (w.alloc (.cells #[.int .i64 0, .bool false, .bool false, .int .i64 0, .int .i64 0, .int .i64 0, .int .i64 0] 53)) w1) => hc.blk (blk_new w _) (Nat.ne_of_gt hlv)
    go_enter Try.func68, Try.ntmps68
    go_wp2_with (first
      | (go_at_call 51; refine hrd.mono ?_; rintro z w1 ⟨rfl, hw1, hw2, hw3⟩; have hsz := hw3.size; have hun := HU w1 _ hw1; have hres := HR w1 hw3; have E1 := Base.Aside.mk (And.intro hw2 hw3); clear hw1 hw2 hw3)
      | (go_at_call 83; refine hun.mono ?_; rintro z w2 ⟨rfl, hB2⟩; have hres2 := blk_below hres (blk_lt hres) hB2; have C2 := fun i => blk_cell hres2 i; have F2 := fun i => blk_frozen hres2 i; have L2 := blk_lt hres2; have E2 := Base.Aside.mk hB2; clear hB2)
      | go_in)
    refine bodyPost_ret (v := .tuple #[.agg #[.int .i64 (GuA.kd (ent s k ref)), .bool (GuA.ro (ent s k ref)), .bool (GuA.sb (ent s k ref)), .int .i64 (GuA.rd (ent s k ref) 2 + 256 * GuA.rd (ent s k ref) 3), .int .i64 (GuA.rd (ent s k ref) 4 + 256 * GuA.rd (ent s k ref) 5), .int .i64 (GuA.of (ent s k ref)), .int .i64 (GuA.le (ent s k ref))], .int .i64 0]) ?_ rfl ⟨by rw [if_neg hbad, if_neg hbad]; rfl, ent_end hVlt hDlt E1.out.1 E1.out.2 E2.out (seven _ _ _ _ _ _ _ _)⟩
    simp only [results, Try.results68]; first | (go_simp; done) | (go_simp; rfl)
end
end Go.Proofs.Ytjeobbhaoahdcaa.GeB
namespace Go.Proofs.Ytjeobbhaoahdcaa.GfA
open Go.RowKit Go.Maps Go.Proofs.Ytjeobbhaoahdcaa.Base Go.Proofs.Ytjeobbhaoahdcaa.GaA Go.Proofs.Ytjeobbhaoahdcaa.GaB Go.Proofs.Ytjeobbhaoahdcaa.GaC Go.Proofs.Ytjeobbhaoahdcaa.GmA Go.Proofs.Ytjeobbhaoahdcaa.GpA Go.Proofs.Ytjeobbhaoahdcaa.GgA Go.Proofs.Ytjeobbhaoahdcaa.GeA Go.Proofs.Ytjeobbhaoahdcaa.GeB
set_option linter.unusedVariables false
set_option linter.unusedSimpArgs false

/-- Frame's answer. -/
def frV (s : MS) (k : Int) : Fr × Int := if 0 ≤ k ∧ k < s.n then (s.fr k.toNat, 0) else (⟨0, 0, 0, 0⟩, 1)
section
variable {w w' : World} {gb mm hm mb fb : Nat} {f : Int → Option (Int × Nat)} {c : Nat} {s : MS}
theorem frame_any (h : Mach w mb fb s) (k : Int) : Calls Try.prog 13 #[.pointer (some ⟨mb, 0, none⟩), .int .i64 k] w fun e w' =>
    e = .returned (.tuple #[.agg #[.int .i64 (frV s k).1.own, .int .i64 (frV s k).1.typ, .int .i64 (frV s k).1.cnt, .int .i64 (frV s k).1.tot], .int .i64 (frV s k).2]) ∧ Below w.heap.size w w' := by
  by_cases hk : 0 ≤ k ∧ k < s.n
  · have hv : frV s k = (s.fr k.toNat, 0) := if_pos hk
    rw [hv]
    obtain ⟨j, rfl⟩ : ∃ j : Nat, k = j := ⟨k.toNat, by omega⟩
    exact frame_calls h j (by omega)
  · have hv : frV s k = (⟨0, 0, 0, 0⟩, 1) := if_neg hk
    rw [hv]
    exact frame_out h k (by omega)
/-- The frame that a place of a member's names. -/
def frameR (s : MS) (size : Nat) (fr : Int → Option Int) (d g : Int) : Int × Int :=
  if (getV size fr g).2 ≠ 0 then (0, 60) else if (frV s (getV size fr g).1).2 ≠ 0 ∨ (frV s (getV size fr g).1).1.own ≠ d then (0, 60) else ((getV size fr g).1, 0)
set_option maxHeartbeats 4000000 in
set_option maxRecDepth 100000 in
theorem frame_calls (h : G2 w gb mm hm mb f c) (hM : Mach w mb fb s) {pb fm pm size c2 : Nat} {fr pl : Int → Option Int} (hP : P2 w pb fm pm size fr pl c2) (hs : size ≤ 48) (d : Int) (d0 : 0 ≤ d) (d8 : d < 8) (k : Int) (hd : f d = some (k, pb)) (g : Int) :
    Calls Try.prog 59 #[.pointer (some ⟨gb, 0, none⟩), .int .i64 d, .int .i64 g] w fun e w' => e = .returned (.tuple #[.int .i64 (frameR s size fr d g).1, .int .i64 (frameR s size fr d g).2]) ∧ Below w.heap.size w w' := by
  have C0 := fun i => blk_cell h.blk i
  have L0 := blk_lt h.blk
  have e1 : mvs f d = some (.agg #[.int .i64 k, .pointer (some ⟨pb, 0, none⟩)]) := by unfold mvs; rw [hd]; rfl
  have hlk := h.mem.look Try.underlying75 (zeroM _) d (by omega) (by omega)
  rw [e1] at hlk
  simp only [Option.getD_some] at hlk
  have hfd : ∀ (W : World) (a b : Value), (Instr.field 142 (.agg #[a, b]) 1).run Try.prog W = .ok b W := fun _ _ _ => by kernel_rfl
  have hge := GpA.get_calls hP g hs
  obtain ⟨r, hr⟩ : ∃ r, r = frameR s size fr d g := ⟨_, rfl⟩
  obtain ⟨x, hx⟩ : ∃ x, x = getV size fr g := ⟨_, rfl⟩
  have hfr := frame_any hM x.1
  obtain ⟨y, hy⟩ : ∃ y, y = frV s x.1 := ⟨_, rfl⟩
  have hr2 : r = if x.2 ≠ 0 then (0, 60) else if y.2 ≠ 0 ∨ y.1.own ≠ d then (0, 60) else (x.1, 0) := by rw [hr, hy, hx]; rfl
  rw [← hr]
  rw [← hy] at hfr
  rw [← hx] at hge
  clear h e1 hM hP hr hx hy
  have HR := Base.Aside.mk hr2
  clear hr2
  go_enter Try.func59, Try.ntmps59
  go_wp2_with (first
    | (go_at_call 67; refine hge.mono ?_; rintro z w1 ⟨rfl, hw1⟩; obtain rfl := hw1.symm)
    | (go_at_call 13; refine hfr.mono ?_; rintro z w1 ⟨rfl, hw1⟩; have E1 := Base.Aside.mk hw1; clear hw1)
    | go_in)
  all_goals
    go_ret2
    refine ⟨?_, by first | exact Below.refl _ _ | exact below_alloc E1.out _⟩
    go_light
    have hr := HR.out
    clear HR hge hfr hlk hfd C0
    simp_all
end
end Go.Proofs.Ytjeobbhaoahdcaa.GfA
