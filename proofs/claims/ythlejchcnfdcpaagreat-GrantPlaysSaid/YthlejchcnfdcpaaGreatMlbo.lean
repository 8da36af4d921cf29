/- Proved: moves: Transfer and Push answer the same on both sides (the plain law of the grants). -/
import Derived.Test.YthlejchcnfdcpaaGreatMlbn
namespace Go.Proofs.YthlejchcnfdcpaaGreat.GzO
open Go.RowKit Go.Maps Base GaA GaB GaC GaD GmA GmB GmC GpA GgA GeA GeB GfA GfB GfC GfD GjA GjB GjC GjE GjK GwA GwB GwE GwF GwJ GwO GwQ RpA RmA RmB RgA GxA GxC GxD GyA GyB GyE GyN GbA GzA GzB GzC GzD GfF GoB GxB GzE GzF GzG GzH GzI GzJ GzK GzL GzM GzN
set_option linter.unusedVariables false
set_option linter.unusedSimpArgs false

section
variable {w0 W W' : World} {a : BX} {P Q : Value} {σ τ σ' τ' : SS} {v : VP} {rp rd : Nat}
set_option maxHeartbeats 16000000 in
set_option maxRecDepth 100000 in
theorem moves_transfer (hs : St w0.heap.size a) (hp : Pu a σ) (hx : a.xb = w0.heap.size) (o : OpV) (ok : OkO w0 o) (hw : o.wh = 5) (h : JV w0 W a P Q σ σ v 0 0) (h3 : V3 W v.B v.vb v.db v.cb a.mb 0 v.ps) :
    Calls Tryz.prog 35 #[.pointer (some ⟨w0.heap.size, 0, none⟩), .pointer (some ⟨v.vb, 0, none⟩), .pointer (some ⟨v.ub, 0, none⟩), .agg (opC o)] W fun e w' => ∃ σ' r, Pu a σ' ∧ e = .returned (.bool true) ∧ JV w0 w' a P Q σ' σ' v r r := by
  have hb1 := below_alloc (Below.refl W.heap.size W) (.cells (opC o) 37)
  have h1 := (h.below hb1).box (blk_new W (.cells (opC o) 37))
  have h31 := V3.below h3 hb1
  obtain ⟨x, y, σ', r, hpu, hP, hD⟩ := transfer_both (v := v) (a := bxo a W.heap.size o) (P := P) (Q := Q) hs hp o.A o.B o.C o.D ok.i.1 ok.i.2.2.1
  have HS : ∀ W' σ τ r r', JV w0 W' (bxo a W.heap.size o) P Q σ τ v r r' → W'.cell? ⟨w0.heap.size, 1, none⟩ = some (.pointer (some ⟨a.gb, 0, none⟩)) ∧ W'.cell? ⟨w0.heap.size, 4, none⟩ = some (.pointer (some ⟨a.hb, 0, none⟩)) ∧ W'.cell? ⟨W.heap.size, 1, none⟩ = some (.int .i64 o.A) ∧ W'.cell? ⟨W.heap.size, 2, none⟩ = some (.int .i64 o.B) ∧ W'.cell? ⟨W.heap.size, 3, none⟩ = some (.int .i64 o.C) ∧ W'.cell? ⟨W.heap.size, 4, none⟩ = some (.int .i64 o.D) :=
    fun W' σ τ r r' hj => ⟨(xb1 hj.j hx).2.1, (xb1 hj.j hx).2.2.2, obc hj.j 1, obc hj.j 2, obc hj.j 3, obc hj.j 4⟩
  have HL : ∀ W' σ τ r r', JV w0 W' (bxo a W.heap.size o) P Q σ τ v r r' → w0.heap.size < W'.heap.size ∧ W.heap.size < W'.heap.size := fun W' σ τ r r' hj => ⟨blk_lt (jblk hj.j hx), blk_lt (obx hj.j)⟩
  have HU : ∀ W' σ τ r r', JV w0 W' (bxo a W.heap.size o) P Q σ τ v r r' → JV w0 W' a P Q σ τ v r r' := fun W' σ τ r r' hj => hj.unbox
  have H0 : Base.Aside (Pu a σ' ∧ ∀ W' σ τ r r', JV w0 W' (bxo a W.heap.size o) P Q σ τ v r r' → JV w0 W' a P Q σ τ v r r') := ⟨⟨hpu, HU⟩⟩
  have hP2 : ∀ W', JV w0 W' (bxo a W.heap.size o) P Q σ σ v 0 0 → V3 W' v.B v.vb v.db v.cb a.mb 0 v.ps → Calls Tryz.prog 84 #[.pointer (some ⟨a.gb, 0, none⟩), .pointer (some ⟨v.vb, 0, none⟩), .int .i64 o.A, .int .i64 o.B, .int .i64 o.C, .int .i64 o.D] W' fun e w' => e = .returned (.int .i64 x) ∧ JV w0 w' (bxo a W.heap.size o) P Q σ' σ v r 0 := hP
  have hD2 : ∀ W', JV w0 W' (bxo a W.heap.size o) P Q σ' σ v r 0 → Calls Tryz.prog 85 #[.pointer (some ⟨a.hb, 0, none⟩), .pointer (some ⟨v.ub, 0, none⟩), .int .i64 o.A, .int .i64 o.B, .int .i64 o.C, .int .i64 o.D] W' fun e w' => e = .returned (.int .i64 x) ∧ JV w0 w' (bxo a W.heap.size o) P Q σ' σ' v r r := hD
  have E1 := Base.Aside.mk (And.intro h1 h31)
  generalize hax : bxo a W.heap.size o = ax at HS HL hP2 hD2 H0 E1
  have HP2 := Base.Aside.mk hP2
  unfold opC
  clear hP hD h1 h31 h h3 hb1 HU hpu hax ok hp hs hP2
  obtain ⟨wh, A, B, C, D, on, ⟨fg, fd, fr, fp, fo⟩, ⟨tg, td, tr, tp, to_⟩, bA, bc, zs, e, pA, pc, ps⟩ := o
  simp only at hw HS hD2 HP2 E1 ⊢
  subst hw
  go_enter Tryz.func35, Tryz.ntmps35
  go_upto_region 5 with fail
  refine wp_world (fun W2 => JV w0 W2 ax P Q σ σ v 0 0 ∧ V3 W2 v.B v.vb v.db v.cb a.mb 0 v.ps) E1.out ?_
  intro W2 ⟨hj, hv3⟩
  have hk := HS W2 _ _ _ _ hj
  obtain ⟨L1, L2⟩ := HL W2 _ _ _ _ hj
  have hP3 := fun W' (hW : Below W2.heap.size W2 W') => HP2.out W' (hj.below hW) (V3.below hv3 hW)
  have E2 := Base.Aside.mk hj
  clear hj hv3
  go_cut [8] from 48 to 77 (fun u wx => u = .bool true ∧ Base.Aside (JV w0 wx ax P Q σ' σ' v r r))
  case first =>
    go_region_held3 (fun W' => W'.cell? ⟨w0.heap.size, 1, none⟩ = some (.pointer (some ⟨a.gb, 0, none⟩)) ∧ W'.cell? ⟨w0.heap.size, 4, none⟩ = some (.pointer (some ⟨a.hb, 0, none⟩)) ∧ W'.cell? ⟨W.heap.size, 1, none⟩ = some (.int .i64 A) ∧ W'.cell? ⟨W.heap.size, 2, none⟩ = some (.int .i64 B) ∧ W'.cell? ⟨W.heap.size, 3, none⟩ = some (.int .i64 C) ∧ W'.cell? ⟨W.heap.size, 4, none⟩ = some (.int .i64 D))
      (first
        | go_keep
        | (with_reducible exact hk)
        | (with_reducible exact HS _ _ _ _ _ E6.out)
        | (with_reducible exact HS _ _ _ _ _ E7.out)
        | (refine HS _ _ _ _ _ (JV.below E2.out ?_); (repeat (with_reducible first | exact Below.refl _ _ | refine below_drew ?_ | refine below_alloc ?_ _)); done)
        | (refine HS _ _ _ _ _ (JV.below E6.out ?_); (repeat (with_reducible first | exact Below.refl _ _ | refine below_drew ?_ | refine below_alloc ?_ _)); done)
        | (refine HS _ _ _ _ _ (JV.below E7.out ?_); (repeat (with_reducible first | exact Below.refl _ _ | refine below_drew ?_ | refine below_alloc ?_ _)); done))
      ((first
        | (go_at_call 84; (with_reducible refine (hP3 _ ?_).mono ?_); (focus (repeat (with_reducible first | exact Below.refl _ _ | refine below_drew ?_ | refine below_alloc ?_ _))); rintro z w6 ⟨rfl, hj6⟩; have E6 := Base.Aside.mk hj6; clear hj6)
        | (go_at_call 85; (with_reducible refine (hD2 _ ?_).mono ?_); (focus (refine JV.below E6.out ?_; (repeat (with_reducible first | exact Below.refl _ _ | refine below_drew ?_ | refine below_alloc ?_ _)))); rintro z w7 ⟨rfl, hj7⟩; have E7 := Base.Aside.mk hj7; clear hj7)))
    all_goals
      go_wp2_with fail
      go_meet
    all_goals
      refine ⟨by first | rfl | (simp; done), ⟨JV.below E7.out ?_⟩⟩
      (repeat (with_reducible first | exact Below.refl _ _ | refine below_drew ?_ | refine below_alloc ?_ _))
  case rest =>
    obtain ⟨rfl, hA⟩ := hcut
    go_wp2
    go_ret
    exact ⟨σ', r, H0.out.1, by first | rfl | (simp; done), H0.out.2 _ _ _ _ _ hA.out⟩
set_option maxHeartbeats 16000000 in
set_option maxRecDepth 100000 in
theorem moves_push (hs : St w0.heap.size a) (hp : Pu a σ) (hx : a.xb = w0.heap.size) (o : OpV) (ok : OkO w0 o) (hw : o.wh ≠ 4 ∧ o.wh ≠ 5 ∧ o.wh ≠ 10) (h : JV w0 W a P Q σ σ v 0 0) (h3 : V3 W v.B v.vb v.db v.cb a.mb 0 v.ps) :
    Calls Tryz.prog 35 #[.pointer (some ⟨w0.heap.size, 0, none⟩), .pointer (some ⟨v.vb, 0, none⟩), .pointer (some ⟨v.ub, 0, none⟩), .agg (opC o)] W fun e w' => ∃ σ' r, Pu a σ' ∧ e = .returned (.bool true) ∧ JV w0 w' a P Q σ' σ' v r r := by
  have hb1 := below_alloc (Below.refl W.heap.size W) (.cells (opC o) 37)
  have h1 := (h.below hb1).box (blk_new W (.cells (opC o) 37))
  have h31 := V3.below h3 hb1
  obtain ⟨x, σ', r, hpu, hP, hD⟩ := push_both (v := v) (a := bxo a W.heap.size o) (P := P) (Q := Q) hs hp o.A o.et ok.i.2.2.2.2.2 o.zs (by have := ok.z47; omega)
  have HS : ∀ W' σ τ r r', JV w0 W' (bxo a W.heap.size o) P Q σ τ v r r' → W'.cell? ⟨w0.heap.size, 1, none⟩ = some (.pointer (some ⟨a.gb, 0, none⟩)) ∧ W'.cell? ⟨w0.heap.size, 4, none⟩ = some (.pointer (some ⟨a.hb, 0, none⟩)) ∧ W'.cell? ⟨W.heap.size, 1, none⟩ = some (.int .i64 o.A) ∧ W'.cell? ⟨W.heap.size, 11, none⟩ = some (.bool o.et.gr) ∧ W'.cell? ⟨W.heap.size, 12, none⟩ = some (.int .i64 o.et.dom) ∧ W'.cell? ⟨W.heap.size, 13, none⟩ = some (.int .i64 o.et.ref) ∧ W'.cell? ⟨W.heap.size, 14, none⟩ = some (.int .i64 o.et.gpfn) ∧ W'.cell? ⟨W.heap.size, 15, none⟩ = some (.int .i64 o.et.off) ∧ W'.cell? ⟨W.heap.size, 16, none⟩ = some (.slice o.bA o.zs.length o.bc) :=
    fun W' σ τ r r' hj => ⟨(xb1 hj.j hx).2.1, (xb1 hj.j hx).2.2.2, obc hj.j 1, obc hj.j 11, obc hj.j 12, obc hj.j 13, obc hj.j 14, obc hj.j 15, obc hj.j 16⟩
  have HL : ∀ W' σ τ r r', JV w0 W' (bxo a W.heap.size o) P Q σ τ v r r' → w0.heap.size < W'.heap.size ∧ W.heap.size < W'.heap.size := fun W' σ τ r r' hj => ⟨blk_lt (jblk hj.j hx), blk_lt (obx hj.j)⟩
  have HU : ∀ W' σ τ r r', JV w0 W' (bxo a W.heap.size o) P Q σ τ v r r' → JV w0 W' a P Q σ τ v r r' := fun W' σ τ r r' hj => hj.unbox
  have H0 : Base.Aside (Pu a σ' ∧ ∀ W' σ τ r r', JV w0 W' (bxo a W.heap.size o) P Q σ τ v r r' → JV w0 W' a P Q σ τ v r r') := ⟨⟨hpu, HU⟩⟩
  have hP2 : ∀ W' A4 c4, JV w0 W' (bxo a W.heap.size o) P Q σ σ v 0 0 → V3 W' v.B v.vb v.db v.cb a.mb 0 v.ps → Bytes W' A4 o.zs → (∀ x, A4 = some x → x.block ≠ v.vb ∧ x.block ≠ a.fb) → Calls Tryz.prog 88 #[.pointer (some ⟨a.gb, 0, none⟩), .pointer (some ⟨v.vb, 0, none⟩), .int .i64 o.A, .agg #[.bool o.et.gr, .int .i64 o.et.dom, .int .i64 o.et.ref, .int .i64 o.et.gpfn, .int .i64 o.et.off], .slice A4 o.zs.length c4] W' fun e w' => e = .returned (.int .i64 x) ∧ JV w0 w' (bxo a W.heap.size o) P Q σ' σ v r 0 := hP
  have hD2 : ∀ W', JV w0 W' (bxo a W.heap.size o) P Q σ' σ v r 0 → Calls Tryz.prog 89 #[.pointer (some ⟨a.hb, 0, none⟩), .pointer (some ⟨v.ub, 0, none⟩), .int .i64 o.A, .agg #[.bool o.et.gr, .int .i64 o.et.dom, .int .i64 o.et.ref, .int .i64 o.et.gpfn, .int .i64 o.et.off], .slice o.bA o.zs.length o.bc] W' fun e w' => e = .returned (.int .i64 x) ∧ JV w0 w' (bxo a W.heap.size o) P Q σ' σ' v r r := fun W' q => hD W' o.bA o.bc q (ok.z.below q.j.x.bel) ok.zl
  have hzb : ∀ W', JV w0 W' (bxo a W.heap.size o) P Q σ σ v 0 0 → Bytes W' o.bA o.zs := fun W' q => ok.z.below q.j.x.bel
  have hz47 := ok.z47
  have hvf : ∀ W', JV w0 W' (bxo a W.heap.size o) P Q σ σ v 0 0 → v.vb < W'.heap.size ∧ a.fb < W'.heap.size := fun W' q => ⟨blk_lt q.b, q.j.p.m.lt.2⟩
  have E1 := Base.Aside.mk (And.intro h1 h31)
  generalize hax : bxo a W.heap.size o = ax at HS HL hP2 hD2 H0 E1 hzb hvf
  have HP2 := Base.Aside.mk hP2
  unfold opC
  clear hP hD h1 h31 h h3 hb1 HU hpu hax ok hp hs hP2
  obtain ⟨wh, A, B, C, D, on, ⟨fg, fd, fr, fp, fo⟩, ⟨tg, td, tr, tp, to_⟩, bA, bc, zs, e, pA, pc, ps⟩ := o
  simp only at hw HS hD2 HP2 E1 hzb hz47 ⊢
  have q4 : (wh == 4) = false := by simp [hw.1]
  have q5 : (wh == 5) = false := by simp [hw.2.1]
  have q10 : (wh == 10) = false := by simp [hw.2.2]
  go_enter Tryz.func35, Tryz.ntmps35
  go_upto_region 10 with fail
  refine wp_world (fun W2 => JV w0 W2 ax P Q σ σ v 0 0 ∧ V3 W2 v.B v.vb v.db v.cb a.mb 0 v.ps) E1.out ?_
  intro W2 ⟨hj, hv3⟩
  have hk := HS W2 _ _ _ _ hj
  obtain ⟨L1, L2⟩ := HL W2 _ _ _ _ hj
  have hP3 := fun w4 (hB : Below W2.heap.size W2 w4) A4 c4 (hz4 : Bytes w4 A4 zs) (hg4 : ∀ x, A4 = some x → W2.heap.size ≤ x.block) W' (hW : Below w4.heap.size w4 W') => HP2.out W' A4 c4 (hj.below (hB.trans (hW.mono hB.size))) (V3.below hv3 (hB.trans (hW.mono hB.size))) (hz4.below hW) (fun x hx => by have h1 := hg4 x hx; have h2 := hvf W2 hj; exact ⟨by omega, by omega⟩)
  have hzb2 := fun W' (hW : Below W2.heap.size W2 W') => (hzb W2 hj).below hW
  have E2 := Base.Aside.mk hj
  clear hj hv3
  go_cut [8] from 119 to 146 (fun u wx => u = .bool true ∧ Base.Aside (JV w0 wx ax P Q σ' σ' v r r))
  case first =>
    go_region_held3 (fun W' => W'.cell? ⟨w0.heap.size, 1, none⟩ = some (.pointer (some ⟨a.gb, 0, none⟩)) ∧ W'.cell? ⟨w0.heap.size, 4, none⟩ = some (.pointer (some ⟨a.hb, 0, none⟩)) ∧ W'.cell? ⟨W.heap.size, 1, none⟩ = some (.int .i64 A) ∧ W'.cell? ⟨W.heap.size, 11, none⟩ = some (.bool tg) ∧ W'.cell? ⟨W.heap.size, 12, none⟩ = some (.int .i64 td) ∧ W'.cell? ⟨W.heap.size, 13, none⟩ = some (.int .i64 tr) ∧ W'.cell? ⟨W.heap.size, 14, none⟩ = some (.int .i64 tp) ∧ W'.cell? ⟨W.heap.size, 15, none⟩ = some (.int .i64 to_) ∧ W'.cell? ⟨W.heap.size, 16, none⟩ = some (.slice bA zs.length bc))
      (first
        | go_keep
        | (with_reducible exact hk)
        | (with_reducible exact HS _ _ _ _ _ E4.out.1)
        | (with_reducible exact HS _ _ _ _ _ E6.out)
        | (with_reducible exact HS _ _ _ _ _ E7.out)
        | (refine HS _ _ _ _ _ (JV.below E2.out ?_); (repeat (with_reducible first | exact Below.refl _ _ | refine below_drew ?_ | refine below_alloc ?_ _)); done)
        | (refine HS _ _ _ _ _ (JV.below E4.out.1 ?_); (repeat (with_reducible first | exact Below.refl _ _ | refine below_drew ?_ | refine below_alloc ?_ _)); done)
        | (refine HS _ _ _ _ _ (JV.below E6.out ?_); (repeat (with_reducible first | exact Below.refl _ _ | refine below_drew ?_ | refine below_alloc ?_ _)); done)
        | (refine HS _ _ _ _ _ (JV.below E7.out ?_); (repeat (with_reducible first | exact Below.refl _ _ | refine below_drew ?_ | refine below_alloc ?_ _)); done))
      ((first
        | (refine step_copy0 (by rfl) _ _ (by rfl) _ (by rfl) (blk_new _ _) bA _ bc zs (by rfl) rfl (hzb2 _ ?_) hz47 W2 ?_ ?_ ?_; (focus (repeat (with_reducible first | exact Below.refl _ _ | refine below_drew ?_ | refine below_alloc ?_ _))); (focus (repeat (with_reducible first | exact Below.refl _ _ | refine below_drew ?_ | refine below_alloc ?_ _))); (focus (exact Nat.le_refl _)); intro A4 c4 w4 hb4 hg4 hB4; have hP4 := hP3 w4 hB4 A4 c4 hb4 hg4; have E4 := Base.Aside.mk (And.intro (E2.out.below hB4) hb4); clear hb4 hg4 hB4)
        | (go_at_call 88; (with_reducible refine (hP4 _ ?_).mono ?_); (focus (repeat (with_reducible first | exact Below.refl _ _ | refine below_drew ?_ | refine below_alloc ?_ _))); rintro z w6 ⟨rfl, hj6⟩; have E6 := Base.Aside.mk hj6; clear hj6)
        | (go_at_call 89; (with_reducible refine (hD2 _ ?_).mono ?_); (focus (refine JV.below E6.out ?_; (repeat (with_reducible first | exact Below.refl _ _ | refine below_drew ?_ | refine below_alloc ?_ _)))); rintro z w7 ⟨rfl, hj7⟩; have E7 := Base.Aside.mk hj7; clear hj7)))
    all_goals
      go_wp2_with fail
      go_meet
    all_goals
      refine ⟨by first | rfl | (simp; done), ⟨JV.below E7.out ?_⟩⟩
      (repeat (with_reducible first | exact Below.refl _ _ | refine below_drew ?_ | refine below_alloc ?_ _))
  case rest =>
    obtain ⟨rfl, hA⟩ := hcut
    go_wp2
    go_ret
    exact ⟨σ', r, H0.out.1, by first | rfl | (simp; done), H0.out.2 _ _ _ _ _ hA.out⟩
end
end Go.Proofs.YthlejchcnfdcpaaGreat.GzO
