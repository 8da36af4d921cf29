/- Proved: both Unpacks of an entry come to one answer, at every row of bytes, and the law of entries' bytes answers true. -/
import Derived.Test.YtdphppbocoinjaaGrantC
namespace Go.Proofs.Ytdphppbocoinjaa.GU
open Go.RowKit Go.Proofs.YtdphppbocoinjaaW.PrintWords Go.Proofs.YtdphppbocoinjaaW.PrintLast Go.Proofs.YtdphppbocoinjaaW.PrintMore
open Go.Proofs.Ytdphppbocoinjaa.PureReplies
set_option linter.unusedVariables false

/-- An entry's bytes are good. -/
def Gd (l : List Int) : Prop := l.length = 8 ∧ ¬ bad l
instance (l : List Int) : Decidable (Gd l) := by unfold Gd; infer_instance
def uk (l : List Int) : Int := if Gd l then kd l else 0
def ur (l : List Int) : Bool := if Gd l then ro l else false
def us (l : List Int) : Bool := if Gd l then sb l else false
def ud (l : List Int) : Int := if Gd l then rd l 2 + 256 * rd l 3 else 0
def ug (l : List Int) : Int := if Gd l then rd l 4 + 256 * rd l 5 else 0
def uo (l : List Int) : Int := if Gd l then of l else 0
def un (l : List Int) : Int := if Gd l then le l else 0
def ue (l : List Int) : Int := if Gd l then 0 else if l.length = 8 then 60 else 1
theorem u_good {l : List Int} (h : Gd l) : agg l = .agg #[.int .i64 (uk l), .bool (ur l), .bool (us l), .int .i64 (ud l), .int .i64 (ug l), .int .i64 (uo l), .int .i64 (un l)] ∧ ue l = 0 := by
  unfold agg uk ur us ud ug uo un ue
  simp only [if_pos h, and_self]
theorem u_bad {l : List Int} (h : ¬ Gd l) : zero = .agg #[.int .i64 (uk l), .bool (ur l), .bool (us l), .int .i64 (ud l), .int .i64 (ug l), .int .i64 (uo l), .int .i64 (un l)] := by
  unfold zero uk ur us ud ug uo un
  simp only [if_neg h]

theorem bytes_of {w : World} {A : Option Addr} {l : List Int} (h : (Kd.int .u8).C w A l.length l) (hb : ∀ x ∈ l, (Lit.int .u8 x).wf = true) (hl : l.length = 8) : ∃ ad, A = some ad ∧ Bytes w ad 8 l := by
  obtain ⟨ad, c, rfl, -⟩ := Kd.C_get h 0 0 (by omega) (by omega)
  exact ⟨ad, rfl, fun i h0 h1 => ⟨Kd.foot_int h i h0 (by omega), byte_rd hb i⟩⟩

theorem unpack_any (A : Option Addr) (c : Nat) (l : List Int) (w : World) (h : (Kd.int .u8).C w A l.length l) (hb : ∀ x ∈ l, (Lit.int .u8 x).wf = true) :
    Calls Try.prog 28 #[.slice A l.length c] w fun e w' => e = .returned (.tuple #[.agg #[.int .i64 (uk l), .bool (ur l), .bool (us l), .int .i64 (ud l), .int .i64 (ug l), .int .i64 (uo l), .int .i64 (un l)], .int .i64 (ue l)]) ∧ Below w.heap.size w w' := by
  by_cases hl : l.length = 8
  · obtain ⟨ad, rfl, hB⟩ := bytes_of h hb hl
    rw [hl]
    have hu : Calls Try.prog 28 #[.slice (some ad) 8 c] w (UnpOut w l) := by
      cases hs : (bits .and .i64 (rd l 0 + 256 * rd l 1) 8 != 0)
      · exact unpack_whole ad c l w hB hs
      · exact unpack_sub ad c l w hB hs
    refine hu.mono ?_
    rintro e w' ⟨rfl, hbl⟩
    refine ⟨?_, hbl⟩
    by_cases hbd : bad l
    · have hg : ¬ Gd l := fun g => g.2 hbd
      rw [if_pos hbd, if_pos hbd, u_bad hg]
      unfold ue
      rw [if_neg hg, if_pos hl]
    · have hg : Gd l := ⟨hl, hbd⟩
      rw [if_neg hbd, if_neg hbd, (u_good hg).1, (u_good hg).2]
  · refine (unpack_len A l.length c w (by rw [bne_iff_ne]; omega)).mono ?_
    rintro e w' ⟨rfl, hbl⟩
    have hg : ¬ Gd l := fun g => hl g.1
    refine ⟨?_, hbl⟩
    rw [u_bad hg]
    unfold ue
    rw [if_neg hg, if_neg hl]

theorem refunpack_any (A : Option Addr) (c : Nat) (l : List Int) (w : World) (h : (Kd.int .u8).C w A l.length l) (hb : ∀ x ∈ l, (Lit.int .u8 x).wf = true) :
    Calls Try.prog 29 #[.slice A l.length c] w fun e w' => e = .returned (.tuple #[.agg #[.int .i64 (uk l), .bool (ur l), .bool (us l), .int .i64 (ud l), .int .i64 (ug l), .int .i64 (uo l), .int .i64 (un l)], .int .i64 (ue l)]) ∧ Below w.heap.size w w' := by
  by_cases hl : l.length = 8
  · obtain ⟨⟨b, off, sp⟩, rfl, hB⟩ := bytes_of h hb hl
    rw [hl]
    obtain ⟨c0, a0, b0⟩ := hB 0 (by omega) (by omega)
    obtain ⟨c1, a1, b1⟩ := hB 1 (by omega) (by omega)
    obtain ⟨c2, a2, b2⟩ := hB 2 (by omega) (by omega)
    obtain ⟨c3, a3, b3⟩ := hB 3 (by omega) (by omega)
    obtain ⟨c4, a4, b4⟩ := hB 4 (by omega) (by omega)
    obtain ⟨c5, a5, b5⟩ := hB 5 (by omega) (by omega)
    obtain ⟨c6, a6, b6⟩ := hB 6 (by omega) (by omega)
    obtain ⟨c7, a7, b7⟩ := hB 7 (by omega) (by omega)
    have mm : b < w.heap.size := World.block_lt_of_cell? w _ c1
    have hbadcase : bad l → (16 ≤ rd l 0 ∨ (rd l 0 < 16 ∧ (rd l 1 != 0) = true) ∨ (rd l 0 < 16 ∧ (rd l 1 != 0) = false ∧ (rd l 0 % 4 == 3) = true)) → Calls Try.prog 29 #[.slice (some ⟨b, off, sp⟩) 8 c] w fun e w' => e = .returned (.tuple #[.agg #[.int .i64 (uk l), .bool (ur l), .bool (us l), .int .i64 (ud l), .int .i64 (ug l), .int .i64 (uo l), .int .i64 (un l)], .int .i64 (ue l)]) ∧ Below w.heap.size w w' := by
      intro hbd hF
      refine (ref_high b off c sp (rd l 0) (rd l 1) w c0 c1 mm hF a0 b0 a1 b1).mono ?_
      rintro e w' ⟨rfl, hbl⟩
      have hg : ¬ Gd l := fun g => g.2 hbd
      refine ⟨?_, hbl⟩
      rw [u_bad hg]
      unfold ue
      rw [if_neg hg, if_pos hl]
    by_cases hF : 16 ≤ rd l 0
    · exact hbadcase (bad_high (by unfold fl; omega)) (.inl hF)
    · cases hz : (rd l 1 != 0)
      case true => exact hbadcase (bad_high (by have := bne_iff_ne.1 hz; unfold fl; omega)) (.inr (.inl ⟨by omega, hz⟩))
      have hz0 : rd l 1 = 0 := bne_eq_false_iff_eq.1 hz
      cases hk : (rd l 0 % 4 == 3)
      case true => exact hbadcase (bad_kind a0 (by omega) hz0 (eq_of_beq hk)) (.inr (.inr ⟨by omega, hz, hk⟩))
      obtain ⟨s, hs⟩ : ∃ s, (rd l 0 / 8 == 1) = s := ⟨_, rfl⟩
      refine (ref_low b off c (rd l 0) (rd l 1) (rd l 2) (rd l 3) (rd l 4) (rd l 5) (rd l 6) (rd l 7) sp w c0 c1 c2 c3 c4 c5 c6 c7 mm a0 b0 a1 b1 a2 b2 a3 b3 a4 b4 a5 b5 a6 b6 a7 b7 (by omega) hz hk s hs).mono ?_
      rintro e w' ⟨rfl, hbl⟩
      refine ⟨?_, hbl⟩
      cases s
      · obtain ⟨n1, n2⟩ := good_whole a0 (by omega) hz0 hk hs
        have hg : Gd l := ⟨hl, n1⟩
        rw [← (u_good hg).1, (u_good hg).2, n2]
        rfl
      · by_cases ho : 256 < rd l 6 + (rd l 7 + 1)
        · have hg : ¬ Gd l := fun g => g.2 (bad_long a0 (by omega) hz0 hs ho)
          rw [← u_bad hg]
          unfold ue outV outN
          rw [if_neg hg, if_pos hl, if_pos rfl, if_pos ho, if_pos rfl, if_pos ho]
        · obtain ⟨n1, n2⟩ := good_sub a0 (by omega) hz0 hk hs (by omega)
          have hg : Gd l := ⟨hl, n1⟩
          rw [← (u_good hg).1, (u_good hg).2, n2]
          unfold outV outN
          rw [if_pos rfl, if_neg ho, if_pos rfl, if_neg ho]
  · refine (ref_len A l.length c w (by rw [bne_iff_ne]; omega)).mono ?_
    rintro e w' ⟨rfl, hbl⟩
    have hg : ¬ Gd l := fun g => hl g.1
    refine ⟨?_, hbl⟩
    rw [u_bad hg]
    unfold ue
    rw [if_neg hg, if_neg hl]

theorem info5 : (Try.prog.info? 5).map (fun i => (i.zero, i.size, i.bytes)) = some (some (.int .u8 0), 1, 1) := by kernel_rfl

theorem unpack_nil (w : World) : Calls Try.prog 28 #[.slice none 0 0] w fun e w' => e = .returned (.tuple #[.agg #[.int .i64 0, .bool false, .bool false, .int .i64 0, .int .i64 0, .int .i64 0, .int .i64 0], .int .i64 1]) ∧ Below w.heap.size w w' :=
  unpack_len none 0 0 w (by decide)

set_option maxHeartbeats 4000000 in
set_option maxRecDepth 100000 in
theorem law_calls (A0 : Option Addr) (c0 : Nat) (l0 : List Int) (w : World) (hr0 : (Kd.int .u8).C w A0 l0.length l0) (hb : ∀ x ∈ l0, (Lit.int .u8 x).wf = true) (hlen : l0.length ≤ 140737488351232) :
    Calls Try.prog 6 #[.slice A0 l0.length c0] w fun e w' => e = .returned (.bool true) ∧ Below w.heap.size w w' := by
  have HR0 := Aside0.mk hr0
  have HBY := Aside0.mk hb
  clear hr0 hb
  have HB := Aside0.mk (Below.refl w.heap.size w)
  go_enter Try.func6, Try.ntmps6
  go_wp2_with (first | ((with_reducible refine gate_dst (N := 10) rfl ?_); refine Kd.R_lit (Kd.int .u8) _ 5 ?hg (N := 10) ?hd (xs := ([] : List Int)) (inner := []) (ok := fun _ => True) (okp := fun _ => True) ?hr ?hp (fun _ hk => hk) trivial (Below.refl _ _) (Nat.le_refl _) (by simp) ?_; (case hd => rfl); (case hg => rfl); (case hr => first | (go_simp; done) | (go_simp; rfl)); (case hp => exact (Reps.none _ _)); intro v1 w1 ho1 hb1 hg_ hnew_; clear hg_ hnew_; have HO := Aside0.mk ho1; have HB := Aside0.mk hb1; clear ho1 hb1) | ((with_reducible refine gate_builtin (b := .append) (xs := #[.tmp 10, .tmp 11]) rfl ?_); at_builtin; refine Kd.R_append_rows (Kd.int .u8) (w0 := w) w.heap.size rfl (.tmp 10) (.tmp 11) 22 5 (.int .u8 0) 1 rfl Try.underlying22 info5 rfl (by decide) (by omega) v1 [] l0 _ _ _ (fun _ => True) (fun _ => False) rfl rfl HO.out (Kd.C_below HR0.out HB.out) (fun _ _ h => h) (fun _ h => h.elim) (fun _ _ => trivial) HB.out HB.out.size (by simp only [List.length_nil]; omega) ?_; intro v2 w2 ho2 hb2 hg_ hat_; clear hg_ hat_; rw [List.nil_append] at ho2; clear HO HB; have HO := Aside0.mk ho2; have HB := Aside0.mk hb2; clear ho2 hb2; obtain ⟨Ao, co, eo⟩ := Kd.R_slice HO.out; subst eo) | (go_at_call 28; (with_reducible refine (unpack_any Ao co l0 _ (Kd.R_reads' HO.out).2.2 HBY.out).mono ?_); rintro e w3 ⟨rfl, hb3⟩; have HB' := Aside0.mk (below_step HB.out hb3); clear HB hb3; have HB := HB'; clear HB' HO) | (go_at_call 28; (with_reducible refine (unpack_nil _).mono ?_); rintro e w5 ⟨rfl, hb3⟩; have B1' := Aside0.mk (blk_below (blk_alloc B1.out _) hb3); have B2' := Aside0.mk (blk_below (blk_new w4 _) hb3); have HB' := Aside0.mk (below_step (by repeat (with_reducible first | exact HB.out | apply below_alloc | apply pw_below_drewN | apply below_drew1)) hb3); clear HB hb3 B1; have HB := HB'; clear HB'; have C1 := fun i => blk_cell B1'.out i; have C2 := fun i => blk_cell B2'.out i; have L1 := blk_lt B1'.out; have L2 := blk_lt B2'.out; clear B1' B2') | (go_at_call 29; (with_reducible refine (refunpack_any A0 c0 l0 _ ?side HBY.out).mono ?_); (case side => exact Kd.C_below HR0.out (by repeat (with_reducible first | exact HB.out | apply below_alloc | apply pw_below_drewN | apply below_drew1))); rintro e w4 ⟨rfl, hb3⟩; have B1 := Aside0.mk (blk_below (blk_new w3 _) hb3); have HB' := Aside0.mk (below_step (by repeat (with_reducible first | exact HB.out | apply below_alloc | apply pw_below_drewN | apply below_drew1)) hb3); clear HB hb3; have HB := HB'; clear HB') | fail)
  go_ret
  exact ⟨by first | rfl | (simp; done), by repeat (with_reducible first | exact HB.out | apply below_alloc | apply pw_below_drewN | apply below_drew1)⟩
end Go.Proofs.Ytdphppbocoinjaa.GU
