/- Proved: entries as bytes and back: the law of chapter 6 by its walk. -/
import Derived.Test.YtdphppbocoinjaaGrantF
import Derived.Test.YtdphppbocoinjaaBase
namespace Go.Proofs.Ytdphppbocoinjaa.GP
open Go.RowKit Go.Proofs.YtdphppbocoinjaaW.PrintWords Go.Proofs.YtdphppbocoinjaaW.PrintLast Go.Proofs.YtdphppbocoinjaaW.PrintMore
set_option linter.unusedVariables false

theorem info5 : (Try.prog.info? 5).map (fun i => (i.zero, i.size, i.bytes)) = some (some (.int .u8 0), 1, 1) := by kernel_rfl
theorem len_of {n : Nat} (h : ((n : Int) != 8) = false) : n = 8 := by
  have h' : (n : Int) = 8 := by simpa using h
  omega
set_option maxHeartbeats 16000000 in
set_option maxRecDepth 100000 in
theorem law_whole (k : Int) (ro : Bool) (d gp off len : Int) (A0 : Option Addr) (c0 : Nat) (l0 : List Int) (w : World) (hr0 : (Kd.int .u8).C w A0 l0.length l0) (hb : ∀ x ∈ l0, (Lit.int .u8 x).wf = true) (hlen : l0.length ≤ 140737488351232) :
    Calls Try.prog 9 #[.agg #[.int .i64 k, .bool ro, .bool false, .int .i64 d, .int .i64 gp, .int .i64 off, .int .i64 len], .slice A0 l0.length c0] w fun e w' => e = .returned (.bool true) ∧ Below w.heap.size w w' := by
  have HP := fun w => pack_row k ro false d gp off len w
  have HQ := fun w => ref_calls k ro false d gp off len w
  have HX := fun A c w => back_calls k ro false d gp off len A c w
  generalize pk k ro false d gp off len = P at HP HQ HX
  generalize pe k d gp off len = R at HP HQ
  simp only [Bool.false_eq_true, if_false] at HX
  have HR0 := Aside0.mk hr0
  have HBY := Aside0.mk hb
  clear hr0 hb
  have HB := Aside0.mk (Below.refl w.heap.size w)
  have B0 := Aside0.mk (blk_new w (.cells #[.int .i64 k, .bool ro, .bool false, .int .i64 d, .int .i64 gp, .int .i64 off, .int .i64 len] 44))
  go_enter Try.func9, Try.ntmps9
  go_wp2_with (first
    | (go_at_call 35; (with_reducible refine (HP _).mono ?_); rintro e w1 ⟨Ax, cx, rfl, hx, hb1⟩; have B1 := Aside0.mk (blk_below B0.out hb1); have HB1 := Aside0.mk (below_step (below_alloc HB.out _) hb1); have C0 := fun i => blk_cell B1.out i; have HCX := Aside0.mk hx; clear hx hb1 HB B0)
    | (go_at_call 36; (with_reducible refine (HQ _).mono ?_); rintro e w2 ⟨Ay, cy, rfl, hy, hb2⟩; have B0 := Aside0.mk (blk_below B1.out hb2); have HB := Aside0.mk (below_step HB1.out hb2); clear C0; have HCX2 := Aside0.mk (Kd.C_below HCX.out hb2); have kx := conv_C w2 Ax P cx HCX2.out; have ky := conv_C w2 Ay P cy hy; have HR2 := Aside0.mk (Kd.C_below HR0.out HB.out); clear hy hb2 HB1 B1 HCX HR0)
    | ((with_reducible refine gate_dst (N := 33) rfl ?_); refine Kd.R_lit (Kd.int .u8) _ 5 ?hg (N := 33) ?hd (xs := ([] : List Int)) (inner := []) (ok := fun _ => True) (okp := fun _ => True) ?hr ?hp (fun _ hk => hk) trivial (Below.refl _ _) (Nat.le_refl _) (by simp) ?_; (case hd => rfl); (case hg => rfl); (case hr => first | (go_simp; done) | (go_simp; rfl)); (case hp => exact (Reps.none _ _)); intro v1 wa ho1 hb1 hg_ hnew_; clear hg_ hnew_ kx ky; have HO := Aside0.mk ho1; have HC := Aside0.mk hb1; clear ho1 hb1)
    | ((with_reducible refine gate_builtin (b := .append) (xs := #[.tmp 33, .tmp 34]) rfl ?_); at_builtin; refine Kd.R_append_rows (Kd.int .u8) (w0 := w2) w2.heap.size rfl (.tmp 33) (.tmp 34) 22 5 (.int .u8 0) 1 rfl Try.underlying22 info5 rfl (by decide) (by omega) v1 [] l0 _ _ _ (fun _ => True) (fun _ => False) rfl rfl HO.out (Kd.C_below HR2.out HC.out) (fun _ _ h => h) (fun _ h => h.elim) (fun _ _ => trivial) HC.out HC.out.size (by simp only [List.length_nil]; omega) ?_; intro v2 wb ho2 hb2 hg_ hat_; clear hg_ hat_; rw [List.nil_append] at ho2; clear HO HC; have HO := Aside0.mk ho2; have HC := Aside0.mk hb2; clear ho2 hb2; obtain ⟨Ao, co, eo⟩ := Kd.R_slice HO.out; subst eo)
    | (go_at_call 28; (with_reducible refine (GU.unpack_any Ao co l0 _ (Kd.R_reads' HO.out).2.2 HBY.out).mono ?_); rintro e w3 ⟨rfl, hb3⟩; have HC' := Aside0.mk (below_step HC.out hb3); clear HC hb3; have HC := HC'; clear HC' HO; have H3 := HC; have L3 := Aside0.mk (Nat.lt_of_lt_of_le (blk_lt B0.out) HC.out.size))
    | (go_at_call 29; (with_reducible refine (GU.refunpack_any A0 c0 l0 _ ?side HBY.out).mono ?_); (case side => exact Kd.C_below HR2.out (by repeat (with_reducible first | exact HC.out | apply below_alloc | apply pw_below_drewN | apply below_drew1))); rintro e w4 ⟨rfl, hb3⟩; have B1 := Aside0.mk (blk_below (blk_new w3 _) hb3); have HC' := Aside0.mk (below_step (by repeat (with_reducible first | exact HC.out | apply below_alloc | apply pw_below_drewN | apply below_drew1)) hb3); clear HC hb3; have HC := HC'; clear HC'; have C1 := fun i => blk_cell B1.out i; have L1 := blk_lt B1.out)
    | (go_at_call 28; (with_reducible refine (GU.unpack_nil _).mono ?_); rintro e w5 ⟨rfl, hb3⟩; have HC' := Aside0.mk (below_step (by repeat (with_reducible first | exact HC.out | apply below_alloc | apply pw_below_drewN | apply below_drew1)) hb3); clear HC hb3; have HC := HC'; clear HC')
    | (go_at_call 28; (with_reducible refine (HX Ax cx _ ?side ?sl).mono ?_); (case side => exact Kd.C_below HCX2.out (by repeat (with_reducible first | exact HC.out | apply below_alloc | apply pw_below_drewN | apply below_drew1))); (case sl => refine len_of ?_; assumption); rintro e w5 ⟨rfl, hb3⟩; have B1' := Aside0.mk (blk_below (blk_alloc B1.out _) hb3); have HC' := Aside0.mk (below_step (by repeat (with_reducible first | exact HC.out | apply below_alloc | apply pw_below_drewN | apply below_drew1)) hb3); clear HC hb3 C1 L1; have HC := HC'; clear HC'; have B0' := Aside0.mk (blk_below B0.out HC.out))
    | ((with_reducible refine gate_store (t := 44) (p := 9) rfl ?_); refine Base.wpList_store_row ?_ ?_ 44 (.tmp 9) (.tmp 64) ?_ w3.heap.size ?_ #[.int .i64 k, .bool ro, .bool false, .int .i64 d, .int .i64 gp, .int .i64 (0), .int .i64 (256)] ?_ 44 _ B1'.out ?_ ?_ ?_ ?_; (focus rfl); (focus rfl); (focus rfl); (focus rfl); (focus rfl); (focus kernel_rfl); (focus rfl); (focus kernel_rfl); intro W hW hz hk hB; have C1 := fun i => blk_cell hW i; have L1 := blk_lt hW; have B0W := Aside0.mk (Base.blk_below B0'.out L3.out (hB w3.heap.size (Nat.le_refl _))); have C0 := fun i => blk_cell B0W.out i; have L0 := blk_lt B0W.out; have HC' := Aside0.mk (HC.out.trans (hB w2.heap.size H3.out.size)); clear HC hW hz hk hB; have HC := HC'; clear HC')
    | fail)
  all_goals go_ret
  all_goals exact ⟨by first | rfl | (simp; done), below_step HB.out (by repeat (with_reducible first | exact HC.out | apply below_alloc | apply pw_below_drewN | apply below_drew1))⟩
set_option maxHeartbeats 16000000 in
set_option maxRecDepth 100000 in
theorem law_sub (k : Int) (ro : Bool) (d gp off len : Int) (A0 : Option Addr) (c0 : Nat) (l0 : List Int) (w : World) (hr0 : (Kd.int .u8).C w A0 l0.length l0) (hb : ∀ x ∈ l0, (Lit.int .u8 x).wf = true) (hlen : l0.length ≤ 140737488351232) :
    Calls Try.prog 9 #[.agg #[.int .i64 k, .bool ro, .bool true, .int .i64 d, .int .i64 gp, .int .i64 off, .int .i64 len], .slice A0 l0.length c0] w fun e w' => e = .returned (.bool true) ∧ Below w.heap.size w w' := by
  have HP := fun w => pack_row k ro true d gp off len w
  have HQ := fun w => ref_calls k ro true d gp off len w
  have HX := fun A c w => back_calls k ro true d gp off len A c w
  generalize pk k ro true d gp off len = P at HP HQ HX
  generalize pe k d gp off len = R at HP HQ
  simp only [if_true] at HX
  have HR0 := Aside0.mk hr0
  have HBY := Aside0.mk hb
  clear hr0 hb
  have HB := Aside0.mk (Below.refl w.heap.size w)
  have B0 := Aside0.mk (blk_new w (.cells #[.int .i64 k, .bool ro, .bool true, .int .i64 d, .int .i64 gp, .int .i64 off, .int .i64 len] 44))
  go_enter Try.func9, Try.ntmps9
  go_wp2_with (first
    | (go_at_call 35; (with_reducible refine (HP _).mono ?_); rintro e w1 ⟨Ax, cx, rfl, hx, hb1⟩; have B1 := Aside0.mk (blk_below B0.out hb1); have HB1 := Aside0.mk (below_step (below_alloc HB.out _) hb1); have C0 := fun i => blk_cell B1.out i; have HCX := Aside0.mk hx; clear hx hb1 HB B0)
    | (go_at_call 36; (with_reducible refine (HQ _).mono ?_); rintro e w2 ⟨Ay, cy, rfl, hy, hb2⟩; have B0 := Aside0.mk (blk_below B1.out hb2); have HB := Aside0.mk (below_step HB1.out hb2); clear C0; have HCX2 := Aside0.mk (Kd.C_below HCX.out hb2); have kx := conv_C w2 Ax P cx HCX2.out; have ky := conv_C w2 Ay P cy hy; have HR2 := Aside0.mk (Kd.C_below HR0.out HB.out); clear hy hb2 HB1 B1 HCX HR0)
    | ((with_reducible refine gate_dst (N := 33) rfl ?_); refine Kd.R_lit (Kd.int .u8) _ 5 ?hg (N := 33) ?hd (xs := ([] : List Int)) (inner := []) (ok := fun _ => True) (okp := fun _ => True) ?hr ?hp (fun _ hk => hk) trivial (Below.refl _ _) (Nat.le_refl _) (by simp) ?_; (case hd => rfl); (case hg => rfl); (case hr => first | (go_simp; done) | (go_simp; rfl)); (case hp => exact (Reps.none _ _)); intro v1 wa ho1 hb1 hg_ hnew_; clear hg_ hnew_ kx ky; have HO := Aside0.mk ho1; have HC := Aside0.mk hb1; clear ho1 hb1)
    | ((with_reducible refine gate_builtin (b := .append) (xs := #[.tmp 33, .tmp 34]) rfl ?_); at_builtin; refine Kd.R_append_rows (Kd.int .u8) (w0 := w2) w2.heap.size rfl (.tmp 33) (.tmp 34) 22 5 (.int .u8 0) 1 rfl Try.underlying22 info5 rfl (by decide) (by omega) v1 [] l0 _ _ _ (fun _ => True) (fun _ => False) rfl rfl HO.out (Kd.C_below HR2.out HC.out) (fun _ _ h => h) (fun _ h => h.elim) (fun _ _ => trivial) HC.out HC.out.size (by simp only [List.length_nil]; omega) ?_; intro v2 wb ho2 hb2 hg_ hat_; clear hg_ hat_; rw [List.nil_append] at ho2; clear HO HC; have HO := Aside0.mk ho2; have HC := Aside0.mk hb2; clear ho2 hb2; obtain ⟨Ao, co, eo⟩ := Kd.R_slice HO.out; subst eo)
    | (go_at_call 28; (with_reducible refine (GU.unpack_any Ao co l0 _ (Kd.R_reads' HO.out).2.2 HBY.out).mono ?_); rintro e w3 ⟨rfl, hb3⟩; have HC' := Aside0.mk (below_step HC.out hb3); clear HC hb3; have HC := HC'; clear HC' HO; have H3 := HC; have L3 := Aside0.mk (Nat.lt_of_lt_of_le (blk_lt B0.out) HC.out.size))
    | (go_at_call 29; (with_reducible refine (GU.refunpack_any A0 c0 l0 _ ?side HBY.out).mono ?_); (case side => exact Kd.C_below HR2.out (by repeat (with_reducible first | exact HC.out | apply below_alloc | apply pw_below_drewN | apply below_drew1))); rintro e w4 ⟨rfl, hb3⟩; have B1 := Aside0.mk (blk_below (blk_new w3 _) hb3); have HC' := Aside0.mk (below_step (by repeat (with_reducible first | exact HC.out | apply below_alloc | apply pw_below_drewN | apply below_drew1)) hb3); clear HC hb3; have HC := HC'; clear HC'; have C1 := fun i => blk_cell B1.out i; have L1 := blk_lt B1.out)
    | (go_at_call 28; (with_reducible refine (GU.unpack_nil _).mono ?_); rintro e w5 ⟨rfl, hb3⟩; have HC' := Aside0.mk (below_step (by repeat (with_reducible first | exact HC.out | apply below_alloc | apply pw_below_drewN | apply below_drew1)) hb3); clear HC hb3; have HC := HC'; clear HC')
    | (go_at_call 28; (with_reducible refine (HX Ax cx _ ?side ?sl).mono ?_); (case side => exact Kd.C_below HCX2.out (by repeat (with_reducible first | exact HC.out | apply below_alloc | apply pw_below_drewN | apply below_drew1))); (case sl => refine len_of ?_; assumption); rintro e w5 ⟨rfl, hb3⟩; have B1' := Aside0.mk (blk_below (blk_alloc B1.out _) hb3); have HC' := Aside0.mk (below_step (by repeat (with_reducible first | exact HC.out | apply below_alloc | apply pw_below_drewN | apply below_drew1)) hb3); clear HC hb3 C1 L1; have HC := HC'; clear HC'; have B0' := Aside0.mk (blk_below B0.out HC.out))
    | ((with_reducible refine gate_store (t := 44) (p := 9) rfl ?_); refine Base.wpList_store_row ?_ ?_ 44 (.tmp 9) (.tmp 64) ?_ w3.heap.size ?_ #[.int .i64 k, .bool ro, .bool true, .int .i64 d, .int .i64 gp, .int .i64 (off), .int .i64 (len)] ?_ 44 _ B1'.out ?_ ?_ ?_ ?_; (focus rfl); (focus rfl); (focus rfl); (focus rfl); (focus rfl); (focus kernel_rfl); (focus rfl); (focus kernel_rfl); intro W hW hz hk hB; have C1 := fun i => blk_cell hW i; have L1 := blk_lt hW; have B0W := Aside0.mk (Base.blk_below B0'.out L3.out (hB w3.heap.size (Nat.le_refl _))); have C0 := fun i => blk_cell B0W.out i; have L0 := blk_lt B0W.out; have HC' := Aside0.mk (HC.out.trans (hB w2.heap.size H3.out.size)); clear HC hW hz hk hB; have HC := HC'; clear HC')
    | fail)
  all_goals go_ret
  all_goals exact ⟨by first | rfl | (simp; done), below_step HB.out (by repeat (with_reducible first | exact HC.out | apply below_alloc | apply pw_below_drewN | apply below_drew1))⟩
theorem law_calls (k : Int) (ro sub : Bool) (d gp off len : Int) (A0 : Option Addr) (c0 : Nat) (l0 : List Int) (w : World) (hr0 : (Kd.int .u8).C w A0 l0.length l0) (hb : ∀ x ∈ l0, (Lit.int .u8 x).wf = true) (hlen : l0.length ≤ 140737488351232) :
    Calls Try.prog 9 #[.agg #[.int .i64 k, .bool ro, .bool sub, .int .i64 d, .int .i64 gp, .int .i64 off, .int .i64 len], .slice A0 l0.length c0] w fun e w' => e = .returned (.bool true) ∧ Below w.heap.size w w' := by
  cases sub
  · exact law_whole k ro d gp off len A0 c0 l0 w hr0 hb hlen
  · exact law_sub k ro d gp off len A0 c0 l0 w hr0 hb hlen
end Go.Proofs.Ytdphppbocoinjaa.GP
