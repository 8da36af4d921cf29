/- Proved: every row of bytes is a request, or malformed: the law's walk. -/
import Derived.Test.YtdphppbocoinjaaUnF
import Derived.Test.YtdphppbocoinjaaPBlkUnpacksx2
namespace Go.Proofs.Ytdphppbocoinjaa.UN
open Go.RowKit Go.Proofs.YtdphppbocoinjaaW.PrintWords Go.Proofs.YtdphppbocoinjaaW.PrintLast Go.Proofs.YtdphppbocoinjaaW.PrintMore Go.Proofs.Ytdphppbocoinjaa.GU Go.Proofs.Ytdphppbocoinjaa.PBlkUnpacks Go.Proofs.Ytdphppbocoinjaa.UnPure
set_option linter.unusedVariables false

theorem blk_f (l : List Int) (hb : ∀ x ∈ l, (Lit.int .u8 x).wf = true) : blk_Unpack.f 22 l = some (unpT l) := by
  unfold unpT
  by_cases hl : l.length = 16
  · rw [if_pos hl]
    exact unpack_f 20 (by omega) l hl (byte_of hb) (PureReplies.byte_rd hb)
  · rw [if_neg hl]
    unfold blk_Unpack.f
    rw [if_neg (by omega)]
theorem unp_len (l : List Int) : (unpT l).2.2.2.1.length ≤ 16 := by
  unfold unpT
  split
  · rename_i hl
    have h1 : (window l).length ≤ 8 := by
      unfold window
      rw [List.length_drop, List.length_take]
      omega
    have h2 := go_len 8 (window l) [] h1
    simp only [List.length_nil] at h2
    unfold unp
    split
    · simp
    · split
      · split <;> simp
      · split
        · split
          · show (go (window l) []).1.length ≤ 16
            omega
          · simp
        · simp
  · simp
theorem blk_any (A : Option Addr) (c : Nat) (l : List Int) (w : World) (h : (Kd.int .u8).C w A l.length l) (hlc : l.length ≤ c) (hb : ∀ x ∈ l, (Lit.int .u8 x).wf = true) : Calls Try.prog 41 #[.slice A l.length c] w (UT w (unpT l)) := by
  have hf := blk_f l hb
  generalize unpT l = t at hf ⊢
  obtain ⟨o, i, s, sg, p, n, e⟩ := t
  exact blk_Unpack.calls 22 A c l o i s sg p n e w h hlc hf
theorem same_f (o i s : Int) (sg : List S81) (h : sg.length ≤ 16) : tenementlaw13_requests.f 20 o i s sg o i s sg = some true := by
  unfold tenementlaw13_requests.f tenementlaw13_segments.f
  rw [if_pos rfl, if_pos rfl, if_pos rfl, if_pos rfl]
  have := same_l0 sg (by omega) sg.length 20 0 (by omega) (by omega)
  rw [show ((0 : Nat) : Int) = 0 from rfl] at this
  rw [this]
  rfl
theorem awake_f : tenementlaw13_awake.f = some true := by decide

set_option maxHeartbeats 8000000 in
set_option maxRecDepth 100000 in
theorem law_calls (A0 : Option Addr) (c0 : Nat) (l0 : List Int) (w : World) (hr0 : (Kd.int .u8).C w A0 l0.length l0) (hc0 : l0.length ≤ c0) (hb : ∀ x ∈ l0, (Lit.int .u8 x).wf = true) (hlen : l0.length ≤ 140737488351232) :
    Calls Try.prog 12 #[.slice A0 l0.length c0] w fun e w' => e = .returned (.bool true) ∧ Below w.heap.size w w' := by
  have HA := fun w => tenementlaw13_awake.calls true w awake_f
  have H1 := fun A c w h hl => blk_any A c l0 w h hl hb
  have H2 := fun w h => ref_any A0 c0 l0 w h hc0 hb
  have HL := unp_len l0
  generalize unpT l0 = t at H1 H2 HL
  obtain ⟨o, i, s, sg, p, n, er⟩ := t
  have HS := same_f o i s sg HL
  clear HL
  have HR0 := Aside0.mk hr0
  clear hr0 hb
  have HB := Aside0.mk (Below.refl w.heap.size w)
  go_enter Try.func12, Try.ntmps12
  go_wp2_with (first
    | ((with_reducible refine gate_dst (N := 12) rfl ?_); refine Kd.R_lit (Kd.int .u8) _ 5 ?hg (N := 12) ?hd (xs := ([] : List Int)) (inner := []) (ok := fun _ => True) (okp := fun _ => True) ?hr ?hp (fun _ hk => hk) trivial (Below.refl _ _) (Nat.le_refl _) (by simp) ?_; (case hd => rfl); (case hg => rfl); (case hr => first | (go_simp; done) | (go_simp; rfl)); (case hp => exact (Reps.none _ _)); intro v1 w1 ho1 hb1 hg_ hnew_; clear hg_ hnew_; have HO := Aside0.mk ho1; have HB := Aside0.mk hb1; clear ho1 hb1)
    | ((with_reducible refine gate_builtin (b := .append) (xs := #[.tmp 12, .tmp 13]) rfl ?_); at_builtin; refine Kd.R_append_rows (Kd.int .u8) (w0 := w) w.heap.size rfl (.tmp 12) (.tmp 13) 22 5 (.int .u8 0) 1 rfl Try.underlying22 GU.info5 rfl (by decide) (by omega) v1 [] l0 _ _ _ (fun _ => True) (fun _ => False) rfl rfl HO.out (Kd.C_below HR0.out HB.out) (fun _ _ h => h) (fun _ h => h.elim) (fun _ _ => trivial) HB.out HB.out.size (by simp only [List.length_nil]; omega) ?_; intro v2 w2 ho2 hb2 hg_ hat_; clear hg_ hat_; rw [List.nil_append] at ho2; clear HO HB; have HO := Aside0.mk ho2; have HB := Aside0.mk hb2; clear ho2 hb2; obtain ⟨Ao, co, eo⟩ := Kd.R_slice HO.out; subst eo)
    | (go_at_call 41; (with_reducible refine (H1 Ao co _ (Kd.R_reads' HO.out).2.2 (Kd.R_reads' HO.out).2.1).mono ?_); rintro e w3 ⟨v3, rfl, hv3, hb3⟩; obtain ⟨A3, c3, ev3⟩ := Kd.R_slice hv3; subst ev3; have HV3 := Aside0.mk (Kd.R_reads' hv3).2; have HB' := Aside0.mk (below_step HB.out hb3); clear HB hb3 hv3; have HB := HB'; clear HB' HO)
    | (go_at_call 42; (with_reducible refine (H2 _ ?side).mono ?_); (case side => exact Kd.C_below HR0.out (by repeat (with_reducible first | exact HB.out | apply below_alloc | apply pw_below_drewN | apply below_drew1))); rintro e w4 ⟨v4, rfl, hv4, hb4⟩; obtain ⟨A4, c4, ev4⟩ := Kd.R_slice hv4; subst ev4; have HV4 := Aside0.mk (Kd.R_reads' hv4).2; have B1 := Aside0.mk (blk_below (blk_new w3 _) hb4); have HV3' := Aside0.mk (Kd.C_below HV3.out.2 (below_step (below_alloc (Below.refl w3.heap.size w3) _) hb4)); have HB' := Aside0.mk (below_step (by repeat (with_reducible first | exact HB.out | apply below_alloc | apply pw_below_drewN | apply below_drew1)) hb4); clear HB hb4 hv4; have HB := HB'; clear HB'; have C1 := fun i => blk_cell B1.out i; have L1 := blk_lt B1.out)
    | (go_at_call 43; (with_reducible refine (tenementlaw13_requests.calls 20 o i s A3 c3 sg o i s A4 c4 sg true _ ?sa HV3.out.1 ?sb HV4.out.1 HS).mono ?_); (case sa => exact Kd.C_below HV3'.out (below_alloc (Below.refl w4.heap.size w4) _)); (case sb => exact Kd.C_below HV4.out.2 (below_alloc (Below.refl w4.heap.size w4) _)); rintro e w5 ⟨rfl, hd5⟩; have HB' := Aside0.mk (below_step (by repeat (with_reducible first | exact HB.out | apply below_alloc | apply pw_below_drewN | apply below_drew1)) hd5.below); clear HB hd5 C1 L1; have HB := HB'; clear HB')
    | (go_at_call 43; (with_reducible refine (tenementlaw13_requests.calls 20 o i s A3 c3 sg o i s A4 c4 sg true _ ?sa HV3.out.1 ?sb HV4.out.1 HS).mono ?_); (case sa => exact Kd.C_below HV3'.out (below_alloc (Below.refl w4.heap.size w4) _)); (case sb => exact Kd.C_below HV4.out.2 (below_alloc (Below.refl w4.heap.size w4) _)); rintro e w5 ⟨rfl, hd5⟩; have HB' := Aside0.mk (below_step (by repeat (with_reducible first | exact HB.out | apply below_alloc | apply pw_below_drewN | apply below_drew1)) hd5); clear HB hd5 C1 L1; have HB := HB'; clear HB')
    | (go_at_call 27; (with_reducible refine (HA _).mono ?_); rintro e w6 ⟨rfl, hb6⟩; have HB' := Aside0.mk (below_step (by repeat (with_reducible first | exact HB.out | apply below_alloc | apply pw_below_drewN | apply below_drew1)) hb6); clear HB hb6; have HB := HB'; clear HB')
    | fail)
  go_ret
  exact ⟨by first | rfl | (simp; done), (by repeat (with_reducible first | exact HB.out | apply below_alloc | apply pw_below_drewN | apply below_drew1))⟩
end Go.Proofs.Ytdphppbocoinjaa.UN
