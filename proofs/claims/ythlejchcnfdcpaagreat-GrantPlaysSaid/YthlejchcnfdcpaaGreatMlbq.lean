/- Proved: play: Unmap, Revoke, Leave (the plain law of the grants). -/
import Derived.Test.YthlejchcnfdcpaaGreatMlbp
namespace Go.Proofs.YthlejchcnfdcpaaGreat.GzR
open Go.RowKit Go.Maps Base GaA GaB GaC GaD GmA GmB GmC GpA GgA GeA GeB GfA GfB GfC GfD GjA GjB GjC GjE GjK GwA GwB GwE GwF GwJ GwO GwQ RpA RmA RmB RgA GxA GxC GxD GyA GyB GyE GyN GbA GzA GzB GzC GzD GfF GoB GxB GzE GzF GzG GzH GzI GzJ GzK GzL GzM GzN GzO GzP GzQ
set_option linter.unusedVariables false
set_option linter.unusedSimpArgs false

section
variable {w0 W W' : World} {a : BX} {P Q : Value} {σ τ σ' τ' : SS} {v : VP} {rp rd : Nat}
set_option maxHeartbeats 16000000 in
set_option maxRecDepth 100000 in
theorem play_unmap (hs : St w0.heap.size a) (hp : Pu a σ) (hx : a.xb = w0.heap.size) (o : OpV) (ok : OkO w0 o) (h64 : o.ps.length ≤ 64) (hw : o.wh = 1) (h : J w0 W a P Q σ σ) :
    Calls Tryz.prog 5 #[.pointer (some ⟨w0.heap.size, 0, none⟩), .agg (opC o)] W (PlayOut w0 a P Q) := by
  have hb1 := below_alloc (Below.refl W.heap.size W) (.cells (opC o) 37)
  have h1 : J w0 (W.alloc (.cells (opC o) 37)) (bxo a W.heap.size o) P Q σ σ := (h.below hb1).box (blk_new W (.cells (opC o) 37))
  have HS0 : ∀ W', J w0 W' (bxo a W.heap.size o) P Q σ σ → W'.cell? ⟨w0.heap.size, 0, none⟩ = some (.pointer (some ⟨a.mb, 0, none⟩)) ∧ W'.cell? ⟨w0.heap.size, 3, none⟩ = some (.pointer (some ⟨a.rb, 0, none⟩)) ∧ W'.cell? ⟨W.heap.size, 27, none⟩ = some (.slice o.pA o.ps.length o.pc) := fun W' hj => ⟨(xb1 hj hx).1, (xb1 hj hx).2.2.1, obc hj 27⟩
  have HS : ∀ W' σ τ, J w0 W' (bxo a W.heap.size o) P Q σ τ → W'.cell? ⟨w0.heap.size, 1, none⟩ = some (.pointer (some ⟨a.gb, 0, none⟩)) ∧ W'.cell? ⟨w0.heap.size, 4, none⟩ = some (.pointer (some ⟨a.hb, 0, none⟩)) ∧ W'.cell? ⟨W.heap.size, 0, none⟩ = some (.int .i64 o.wh) ∧ W'.cell? ⟨W.heap.size, 1, none⟩ = some (.int .i64 o.A) ∧ W'.cell? ⟨W.heap.size, 2, none⟩ = some (.int .i64 o.B) := fun W' σ τ hj => ⟨(xb1 hj hx).2.1, (xb1 hj hx).2.2.2, obc hj 0, obc hj 1, obc hj 2⟩
  have HL : ∀ W' σ τ, J w0 W' (bxo a W.heap.size o) P Q σ τ → w0.heap.size < W'.heap.size ∧ W.heap.size < W'.heap.size := fun W' σ τ hj => ⟨blk_lt (jblk hj hx), blk_lt (obx hj)⟩
  have HU : ∀ W' σ τ, J w0 W' (bxo a W.heap.size o) P Q σ τ → J w0 W' a P Q σ τ := fun W' σ τ hj => J.unbox hj
  have hvn : ∀ W', J w0 W' (bxo a W.heap.size o) P Q σ σ → Calls Tryz.prog 20 #[.pointer (some ⟨a.mb, 0, none⟩), .slice o.pA o.ps.length o.pc] W' fun e w' => ∃ B vb db cb, e = .returned (.tuple #[.pointer (some ⟨vb, 0, none⟩), .int .i64 0]) ∧ HalfV w0 w' (bxo a W.heap.size o) P Q σ B vb db cb o.ps := fun W' hj => newP (a := bxo a W.heap.size o) hp hj o.pA o.pc o.ps ok.p h64
  have hun : ∀ W' B vb db cb, HalfV w0 W' (bxo a W.heap.size o) P Q σ B vb db cb o.ps → Calls Tryz.prog 21 #[.pointer (some ⟨a.rb, 0, none⟩), .slice o.pA o.ps.length o.pc] W' fun e w' => ∃ ub, e = .returned (.tuple #[.pointer (some ⟨ub, 0, none⟩), .int .i64 0]) ∧ JV w0 w' (bxo a W.heap.size o) P Q σ σ ⟨B, vb, db, cb, ub, o.pA, o.pc, o.ps⟩ 0 0 ∧ V3 w' B vb db cb a.mb 0 o.ps := fun W' B vb db cb hj => newD (a := bxo a W.heap.size o) hj o.pA o.pc ok.p h64
  obtain ⟨x, σ', hpu, hP, hD⟩ := unmap_both (a := bxo a W.heap.size o) (P := P) (Q := Q) hs hp o.A o.B ok.i.1 ok.i.2.1
  have hP2 : ∀ W', J w0 W' (bxo a W.heap.size o) P Q σ σ → Calls Tryz.prog 25 #[.pointer (some ⟨a.gb, 0, none⟩), .int .i64 o.A, .int .i64 o.B] W' fun e w' => e = .returned (.int .i64 x) ∧ J w0 w' (bxo a W.heap.size o) P Q σ' σ := hP
  have hD2 : ∀ W', J w0 W' (bxo a W.heap.size o) P Q σ' σ → Calls Tryz.prog 26 #[.pointer (some ⟨a.hb, 0, none⟩), .int .i64 o.A, .int .i64 o.B] W' fun e w' => e = .returned (.int .i64 x) ∧ J w0 w' (bxo a W.heap.size o) P Q σ' σ' := hD
  have HPU : Base.Aside (Pu a σ') := ⟨hpu⟩
  obtain ⟨ax, hax⟩ : ∃ ax, ax = bxo a W.heap.size o := ⟨_, rfl⟩
  have hxa : ax.toBA = a.toBA := by rw [hax]; rfl
  rw [← hax] at h1 HS0 HS HL HU hvn hun hP2 hD2
  have E1 := Base.Aside.mk h1
  have HP := Base.Aside.mk (And.intro hp (And.intro HU hxa))
  have HVN := Base.Aside.mk hvn
  have HUN := Base.Aside.mk hun
  have HP2 := Base.Aside.mk hP2
  clear hP hD hpu hP2
  unfold opC
  clear h1 h hb1 HU hp hs hvn hun ok hax
  obtain ⟨wh, A, B, C, D, on, ⟨fg, fd, fr, fp, fo⟩, ⟨tg, td, tr, tp, to_⟩, bA, bc, zs, e, pA, pc, ps⟩ := o
  simp only at hw h64 HS0 HS HVN HUN HP2 hD2 E1 ⊢
  subst hw
  go_enter Tryz.func5, Tryz.ntmps5
  go_upto_region 1 with fail
  refine wp_world (fun W2 => J w0 W2 ax P Q σ σ) E1.out ?_
  intro W2 hj
  have hk := HS0 W2 hj
  obtain ⟨L1, L2⟩ := HL W2 _ _ hj
  have hv2 := fun W' (hW : Below W2.heap.size W2 W') => HVN.out W' (hj.below hW)
  have E2 := Base.Aside.mk hj
  clear hj
  go_cut [5, 6] from 17 to 27 (fun u1 u2 wx => ∃ B vb db cb, u1 = .pointer (some ⟨vb, 0, none⟩) ∧ u2 = .int .i64 0 ∧ Base.Aside (HalfV w0 wx ax P Q σ B vb db cb ps))
  case first =>
    go_region_held3 (fun W' => W'.cell? ⟨w0.heap.size, 0, none⟩ = some (.pointer (some ⟨a.mb, 0, none⟩)) ∧ W'.cell? ⟨w0.heap.size, 3, none⟩ = some (.pointer (some ⟨a.rb, 0, none⟩)) ∧ W'.cell? ⟨W.heap.size, 27, none⟩ = some (.slice pA ps.length pc))
      (first
        | go_keep
        | (with_reducible exact hk)
        | (with_reducible exact HS0 _ E6.out.j)
        | (refine HS0 _ (GzB.J.below E2.out ?_); (repeat (with_reducible first | exact Below.refl _ _ | refine below_drew ?_ | refine below_alloc ?_ _)); done)
        | (refine HS0 _ (GzB.J.below E6.out.j ?_); (repeat (with_reducible first | exact Below.refl _ _ | refine below_drew ?_ | refine below_alloc ?_ _)); done))
      ((first
        | (go_at_call 20; (with_reducible refine (hv2 _ ?_).mono ?_); (focus (repeat (with_reducible first | exact Below.refl _ _ | refine below_drew ?_ | refine below_alloc ?_ _))); rintro z w6 ⟨B0, vb, db, cb, rfl, hj6⟩; have E6 := Base.Aside.mk hj6; clear hj6)))
    all_goals
      go_wp2_with fail
      go_meet
    all_goals
      refine ⟨B0, vb, db, cb, rfl, rfl, ⟨HalfV.below E6.out ?_⟩⟩
      (repeat (with_reducible first | exact Below.refl _ _ | refine below_drew ?_ | refine below_alloc ?_ _))
  case rest =>
    obtain ⟨B0, vb, db, cb, rfl, rfl, hA⟩ := hcut
    have hk := HS0 wc hA.out.j
    obtain ⟨L1, L2⟩ := HL wc _ _ hA.out.j
    have hu2 := fun W' (hW : Below wc.heap.size wc W') => HUN.out W' B0 vb db cb (hA.out.below hW)
    clear hv2 E2 HVN HUN
    go_upto_region 2 with fail
    go_cut [7, 8] from 27 to 37 (fun u1 u2 wx => ∃ ub, u1 = .pointer (some ⟨ub, 0, none⟩) ∧ u2 = .int .i64 0 ∧ Base.Aside (JV w0 wx ax P Q σ σ ⟨B0, vb, db, cb, ub, pA, pc, ps⟩ 0 0 ∧ V3 wx B0 vb db cb a.mb 0 ps))
    case first =>
      go_region_held3 (fun W' => W'.cell? ⟨w0.heap.size, 0, none⟩ = some (.pointer (some ⟨a.mb, 0, none⟩)) ∧ W'.cell? ⟨w0.heap.size, 3, none⟩ = some (.pointer (some ⟨a.rb, 0, none⟩)) ∧ W'.cell? ⟨W.heap.size, 27, none⟩ = some (.slice pA ps.length pc))
        (first
          | go_keep
          | (with_reducible exact hk)
          | (with_reducible exact HS0 _ E7.out.1.j)
          | (refine HS0 _ (GzB.J.below hA.out.j ?_); (repeat (with_reducible first | exact Below.refl _ _ | refine below_drew ?_ | refine below_alloc ?_ _)); done)
          | (refine HS0 _ (GzB.J.below E7.out.1.j ?_); (repeat (with_reducible first | exact Below.refl _ _ | refine below_drew ?_ | refine below_alloc ?_ _)); done))
        ((first
          | (go_at_call 21; (with_reducible refine (hu2 _ ?_).mono ?_); (focus (repeat (with_reducible first | exact Below.refl _ _ | refine below_drew ?_ | refine below_alloc ?_ _))); rintro z w7 ⟨ub, rfl, hj7, hv7⟩; have E7 := Base.Aside.mk (And.intro hj7 hv7); clear hj7 hv7)))
      all_goals
        go_wp2_with fail
        go_meet
      all_goals
        refine ⟨ub, rfl, rfl, ⟨JV.below E7.out.1 ?_, V3.below E7.out.2 ?_⟩⟩
        all_goals (repeat (with_reducible first | exact Below.refl _ _ | refine below_drew ?_ | refine below_alloc ?_ _))
    case rest =>
      obtain ⟨ub, rfl, rfl, hB⟩ := hcut
      clear hk L1 L2 hA hu2 HS0
      have hk := HS wc _ _ hB.out.1.j
      obtain ⟨L1, L2⟩ := HL wc _ _ hB.out.1.j
      go_upto_region 11 with fail
      have E2 := Base.Aside.mk hB.out.1.j
      clear hB
      have hP3 := fun W' (hW : Below wc.heap.size wc W') => HP2.out W' (E2.out.below hW)
      go_cut [4] from 106 to 125 (fun u wx => u = .bool true ∧ Base.Aside (J w0 wx ax P Q σ' σ'))
      case first =>
        go_region_held3 (fun W' => W'.cell? ⟨w0.heap.size, 1, none⟩ = some (.pointer (some ⟨a.gb, 0, none⟩)) ∧ W'.cell? ⟨w0.heap.size, 4, none⟩ = some (.pointer (some ⟨a.hb, 0, none⟩)) ∧ W'.cell? ⟨W.heap.size, 0, none⟩ = some (.int .i64 1) ∧ W'.cell? ⟨W.heap.size, 1, none⟩ = some (.int .i64 A) ∧ W'.cell? ⟨W.heap.size, 2, none⟩ = some (.int .i64 B))
          (first
            | go_keep
            | (with_reducible exact hk)
            | (with_reducible exact HS _ _ _ E6.out)
            | (with_reducible exact HS _ _ _ E7.out)
            | (refine HS _ _ _ (GzB.J.below E6.out ?_); (repeat (with_reducible first | exact Below.refl _ _ | refine below_drew ?_ | refine below_alloc ?_ _)); done)
            | (refine HS _ _ _ (GzB.J.below E7.out ?_); (repeat (with_reducible first | exact Below.refl _ _ | refine below_drew ?_ | refine below_alloc ?_ _)); done)
            | (refine HS _ _ _ (GzB.J.below E2.out ?_); (repeat (with_reducible first | exact Below.refl _ _ | refine below_drew ?_ | refine below_alloc ?_ _)); done))
          ((first
            | (go_at_call 25; (with_reducible refine (hP3 _ ?_).mono ?_); (focus (repeat (with_reducible first | exact Below.refl _ _ | refine below_drew ?_ | refine below_alloc ?_ _))); rintro z w8 ⟨rfl, hj6⟩; have E6 := Base.Aside.mk hj6; clear hj6)
            | (go_at_call 26; (with_reducible refine (hD2 _ ?_).mono ?_); (focus (refine GzB.J.below E6.out ?_; (repeat (with_reducible first | exact Below.refl _ _ | refine below_drew ?_ | refine below_alloc ?_ _)))); rintro z w9 ⟨rfl, hj7⟩; have E7 := Base.Aside.mk hj7; clear hj7)))
        all_goals
          go_wp2_with fail
          go_meet
        all_goals
          refine ⟨by first | rfl | (simp; done), ⟨GzB.J.below E7.out ?_⟩⟩
          (repeat (with_reducible first | exact Below.refl _ _ | refine below_drew ?_ | refine below_alloc ?_ _))
      case rest =>
        obtain ⟨rfl, hC⟩ := hcut
        go_wp2
        go_ret
        exact ⟨σ', HPU.out, by first | rfl | (simp; done), HP.out.2.1 _ _ _ hC.out⟩
set_option maxHeartbeats 16000000 in
set_option maxRecDepth 100000 in
theorem play_revoke (hs : St w0.heap.size a) (hp : Pu a σ) (hx : a.xb = w0.heap.size) (o : OpV) (ok : OkO w0 o) (h64 : o.ps.length ≤ 64) (hw : o.wh = 6) (h : J w0 W a P Q σ σ) :
    Calls Tryz.prog 5 #[.pointer (some ⟨w0.heap.size, 0, none⟩), .agg (opC o)] W (PlayOut w0 a P Q) := by
  have hb1 := below_alloc (Below.refl W.heap.size W) (.cells (opC o) 37)
  have h1 : J w0 (W.alloc (.cells (opC o) 37)) (bxo a W.heap.size o) P Q σ σ := (h.below hb1).box (blk_new W (.cells (opC o) 37))
  have HS0 : ∀ W', J w0 W' (bxo a W.heap.size o) P Q σ σ → W'.cell? ⟨w0.heap.size, 0, none⟩ = some (.pointer (some ⟨a.mb, 0, none⟩)) ∧ W'.cell? ⟨w0.heap.size, 3, none⟩ = some (.pointer (some ⟨a.rb, 0, none⟩)) ∧ W'.cell? ⟨W.heap.size, 27, none⟩ = some (.slice o.pA o.ps.length o.pc) := fun W' hj => ⟨(xb1 hj hx).1, (xb1 hj hx).2.2.1, obc hj 27⟩
  have HS : ∀ W' σ τ, J w0 W' (bxo a W.heap.size o) P Q σ τ → W'.cell? ⟨w0.heap.size, 1, none⟩ = some (.pointer (some ⟨a.gb, 0, none⟩)) ∧ W'.cell? ⟨w0.heap.size, 4, none⟩ = some (.pointer (some ⟨a.hb, 0, none⟩)) ∧ W'.cell? ⟨W.heap.size, 0, none⟩ = some (.int .i64 o.wh) ∧ W'.cell? ⟨W.heap.size, 1, none⟩ = some (.int .i64 o.A) ∧ W'.cell? ⟨W.heap.size, 2, none⟩ = some (.int .i64 o.B) := fun W' σ τ hj => ⟨(xb1 hj hx).2.1, (xb1 hj hx).2.2.2, obc hj 0, obc hj 1, obc hj 2⟩
  have HL : ∀ W' σ τ, J w0 W' (bxo a W.heap.size o) P Q σ τ → w0.heap.size < W'.heap.size ∧ W.heap.size < W'.heap.size := fun W' σ τ hj => ⟨blk_lt (jblk hj hx), blk_lt (obx hj)⟩
  have HU : ∀ W' σ τ, J w0 W' (bxo a W.heap.size o) P Q σ τ → J w0 W' a P Q σ τ := fun W' σ τ hj => J.unbox hj
  have hvn : ∀ W', J w0 W' (bxo a W.heap.size o) P Q σ σ → Calls Tryz.prog 20 #[.pointer (some ⟨a.mb, 0, none⟩), .slice o.pA o.ps.length o.pc] W' fun e w' => ∃ B vb db cb, e = .returned (.tuple #[.pointer (some ⟨vb, 0, none⟩), .int .i64 0]) ∧ HalfV w0 w' (bxo a W.heap.size o) P Q σ B vb db cb o.ps := fun W' hj => newP (a := bxo a W.heap.size o) hp hj o.pA o.pc o.ps ok.p h64
  have hun : ∀ W' B vb db cb, HalfV w0 W' (bxo a W.heap.size o) P Q σ B vb db cb o.ps → Calls Tryz.prog 21 #[.pointer (some ⟨a.rb, 0, none⟩), .slice o.pA o.ps.length o.pc] W' fun e w' => ∃ ub, e = .returned (.tuple #[.pointer (some ⟨ub, 0, none⟩), .int .i64 0]) ∧ JV w0 w' (bxo a W.heap.size o) P Q σ σ ⟨B, vb, db, cb, ub, o.pA, o.pc, o.ps⟩ 0 0 ∧ V3 w' B vb db cb a.mb 0 o.ps := fun W' B vb db cb hj => newD (a := bxo a W.heap.size o) hj o.pA o.pc ok.p h64
  obtain ⟨x, σ', hpu, hP, hD⟩ := revoke_both (a := bxo a W.heap.size o) (P := P) (Q := Q) hs hp o.A o.B ok.i.1
  have hP2 : ∀ W', J w0 W' (bxo a W.heap.size o) P Q σ σ → Calls Tryz.prog 31 #[.pointer (some ⟨a.gb, 0, none⟩), .int .i64 o.A, .int .i64 o.B] W' fun e w' => e = .returned (.int .i64 x) ∧ J w0 w' (bxo a W.heap.size o) P Q σ' σ := hP
  have hD2 : ∀ W', J w0 W' (bxo a W.heap.size o) P Q σ' σ → Calls Tryz.prog 32 #[.pointer (some ⟨a.hb, 0, none⟩), .int .i64 o.A, .int .i64 o.B] W' fun e w' => e = .returned (.int .i64 x) ∧ J w0 w' (bxo a W.heap.size o) P Q σ' σ' := hD
  have HPU : Base.Aside (Pu a σ') := ⟨hpu⟩
  obtain ⟨ax, hax⟩ : ∃ ax, ax = bxo a W.heap.size o := ⟨_, rfl⟩
  have hxa : ax.toBA = a.toBA := by rw [hax]; rfl
  rw [← hax] at h1 HS0 HS HL HU hvn hun hP2 hD2
  have E1 := Base.Aside.mk h1
  have HP := Base.Aside.mk (And.intro hp (And.intro HU hxa))
  have HVN := Base.Aside.mk hvn
  have HUN := Base.Aside.mk hun
  have HP2 := Base.Aside.mk hP2
  clear hP hD hpu hP2
  unfold opC
  clear h1 h hb1 HU hp hs hvn hun ok hax
  obtain ⟨wh, A, B, C, D, on, ⟨fg, fd, fr, fp, fo⟩, ⟨tg, td, tr, tp, to_⟩, bA, bc, zs, e, pA, pc, ps⟩ := o
  simp only at hw h64 HS0 HS HVN HUN HP2 hD2 E1 ⊢
  subst hw
  go_enter Tryz.func5, Tryz.ntmps5
  go_upto_region 1 with fail
  refine wp_world (fun W2 => J w0 W2 ax P Q σ σ) E1.out ?_
  intro W2 hj
  have hk := HS0 W2 hj
  obtain ⟨L1, L2⟩ := HL W2 _ _ hj
  have hv2 := fun W' (hW : Below W2.heap.size W2 W') => HVN.out W' (hj.below hW)
  have E2 := Base.Aside.mk hj
  clear hj
  go_cut [5, 6] from 17 to 27 (fun u1 u2 wx => ∃ B vb db cb, u1 = .pointer (some ⟨vb, 0, none⟩) ∧ u2 = .int .i64 0 ∧ Base.Aside (HalfV w0 wx ax P Q σ B vb db cb ps))
  case first =>
    go_region_held3 (fun W' => W'.cell? ⟨w0.heap.size, 0, none⟩ = some (.pointer (some ⟨a.mb, 0, none⟩)) ∧ W'.cell? ⟨w0.heap.size, 3, none⟩ = some (.pointer (some ⟨a.rb, 0, none⟩)) ∧ W'.cell? ⟨W.heap.size, 27, none⟩ = some (.slice pA ps.length pc))
      (first
        | go_keep
        | (with_reducible exact hk)
        | (with_reducible exact HS0 _ E6.out.j)
        | (refine HS0 _ (GzB.J.below E2.out ?_); (repeat (with_reducible first | exact Below.refl _ _ | refine below_drew ?_ | refine below_alloc ?_ _)); done)
        | (refine HS0 _ (GzB.J.below E6.out.j ?_); (repeat (with_reducible first | exact Below.refl _ _ | refine below_drew ?_ | refine below_alloc ?_ _)); done))
      ((first
        | (go_at_call 20; (with_reducible refine (hv2 _ ?_).mono ?_); (focus (repeat (with_reducible first | exact Below.refl _ _ | refine below_drew ?_ | refine below_alloc ?_ _))); rintro z w6 ⟨B0, vb, db, cb, rfl, hj6⟩; have E6 := Base.Aside.mk hj6; clear hj6)))
    all_goals
      go_wp2_with fail
      go_meet
    all_goals
      refine ⟨B0, vb, db, cb, rfl, rfl, ⟨HalfV.below E6.out ?_⟩⟩
      (repeat (with_reducible first | exact Below.refl _ _ | refine below_drew ?_ | refine below_alloc ?_ _))
  case rest =>
    obtain ⟨B0, vb, db, cb, rfl, rfl, hA⟩ := hcut
    have hk := HS0 wc hA.out.j
    obtain ⟨L1, L2⟩ := HL wc _ _ hA.out.j
    have hu2 := fun W' (hW : Below wc.heap.size wc W') => HUN.out W' B0 vb db cb (hA.out.below hW)
    clear hv2 E2 HVN HUN
    go_upto_region 2 with fail
    go_cut [7, 8] from 27 to 37 (fun u1 u2 wx => ∃ ub, u1 = .pointer (some ⟨ub, 0, none⟩) ∧ u2 = .int .i64 0 ∧ Base.Aside (JV w0 wx ax P Q σ σ ⟨B0, vb, db, cb, ub, pA, pc, ps⟩ 0 0 ∧ V3 wx B0 vb db cb a.mb 0 ps))
    case first =>
      go_region_held3 (fun W' => W'.cell? ⟨w0.heap.size, 0, none⟩ = some (.pointer (some ⟨a.mb, 0, none⟩)) ∧ W'.cell? ⟨w0.heap.size, 3, none⟩ = some (.pointer (some ⟨a.rb, 0, none⟩)) ∧ W'.cell? ⟨W.heap.size, 27, none⟩ = some (.slice pA ps.length pc))
        (first
          | go_keep
          | (with_reducible exact hk)
          | (with_reducible exact HS0 _ E7.out.1.j)
          | (refine HS0 _ (GzB.J.below hA.out.j ?_); (repeat (with_reducible first | exact Below.refl _ _ | refine below_drew ?_ | refine below_alloc ?_ _)); done)
          | (refine HS0 _ (GzB.J.below E7.out.1.j ?_); (repeat (with_reducible first | exact Below.refl _ _ | refine below_drew ?_ | refine below_alloc ?_ _)); done))
        ((first
          | (go_at_call 21; (with_reducible refine (hu2 _ ?_).mono ?_); (focus (repeat (with_reducible first | exact Below.refl _ _ | refine below_drew ?_ | refine below_alloc ?_ _))); rintro z w7 ⟨ub, rfl, hj7, hv7⟩; have E7 := Base.Aside.mk (And.intro hj7 hv7); clear hj7 hv7)))
      all_goals
        go_wp2_with fail
        go_meet
      all_goals
        refine ⟨ub, rfl, rfl, ⟨JV.below E7.out.1 ?_, V3.below E7.out.2 ?_⟩⟩
        all_goals (repeat (with_reducible first | exact Below.refl _ _ | refine below_drew ?_ | refine below_alloc ?_ _))
    case rest =>
      obtain ⟨ub, rfl, rfl, hB⟩ := hcut
      clear hk L1 L2 hA hu2 HS0
      have hk := HS wc _ _ hB.out.1.j
      obtain ⟨L1, L2⟩ := HL wc _ _ hB.out.1.j
      go_upto_region 19 with fail
      have E2 := Base.Aside.mk hB.out.1.j
      clear hB
      have hP3 := fun W' (hW : Below wc.heap.size wc W') => HP2.out W' (E2.out.below hW)
      go_cut [4] from 204 to 223 (fun u wx => u = .bool true ∧ Base.Aside (J w0 wx ax P Q σ' σ'))
      case first =>
        go_region_held3 (fun W' => W'.cell? ⟨w0.heap.size, 1, none⟩ = some (.pointer (some ⟨a.gb, 0, none⟩)) ∧ W'.cell? ⟨w0.heap.size, 4, none⟩ = some (.pointer (some ⟨a.hb, 0, none⟩)) ∧ W'.cell? ⟨W.heap.size, 0, none⟩ = some (.int .i64 6) ∧ W'.cell? ⟨W.heap.size, 1, none⟩ = some (.int .i64 A) ∧ W'.cell? ⟨W.heap.size, 2, none⟩ = some (.int .i64 B))
          (first
            | go_keep
            | (with_reducible exact hk)
            | (with_reducible exact HS _ _ _ E6.out)
            | (with_reducible exact HS _ _ _ E7.out)
            | (refine HS _ _ _ (GzB.J.below E6.out ?_); (repeat (with_reducible first | exact Below.refl _ _ | refine below_drew ?_ | refine below_alloc ?_ _)); done)
            | (refine HS _ _ _ (GzB.J.below E7.out ?_); (repeat (with_reducible first | exact Below.refl _ _ | refine below_drew ?_ | refine below_alloc ?_ _)); done)
            | (refine HS _ _ _ (GzB.J.below E2.out ?_); (repeat (with_reducible first | exact Below.refl _ _ | refine below_drew ?_ | refine below_alloc ?_ _)); done))
          ((first
            | (go_at_call 31; (with_reducible refine (hP3 _ ?_).mono ?_); (focus (repeat (with_reducible first | exact Below.refl _ _ | refine below_drew ?_ | refine below_alloc ?_ _))); rintro z w8 ⟨rfl, hj6⟩; have E6 := Base.Aside.mk hj6; clear hj6)
            | (go_at_call 32; (with_reducible refine (hD2 _ ?_).mono ?_); (focus (refine GzB.J.below E6.out ?_; (repeat (with_reducible first | exact Below.refl _ _ | refine below_drew ?_ | refine below_alloc ?_ _)))); rintro z w9 ⟨rfl, hj7⟩; have E7 := Base.Aside.mk hj7; clear hj7)))
        all_goals
          go_wp2_with fail
          go_meet
        all_goals
          refine ⟨by first | rfl | (simp; done), ⟨GzB.J.below E7.out ?_⟩⟩
          (repeat (with_reducible first | exact Below.refl _ _ | refine below_drew ?_ | refine below_alloc ?_ _))
      case rest =>
        obtain ⟨rfl, hC⟩ := hcut
        go_wp2
        go_ret
        exact ⟨σ', HPU.out, by first | rfl | (simp; done), HP.out.2.1 _ _ _ hC.out⟩
set_option maxHeartbeats 16000000 in
set_option maxRecDepth 100000 in
theorem play_leave (hs : St w0.heap.size a) (hp : Pu a σ) (hx : a.xb = w0.heap.size) (o : OpV) (ok : OkO w0 o) (h64 : o.ps.length ≤ 64) (hw : o.wh = 7) (h : J w0 W a P Q σ σ) :
    Calls Tryz.prog 5 #[.pointer (some ⟨w0.heap.size, 0, none⟩), .agg (opC o)] W (PlayOut w0 a P Q) := by
  have hb1 := below_alloc (Below.refl W.heap.size W) (.cells (opC o) 37)
  have h1 : J w0 (W.alloc (.cells (opC o) 37)) (bxo a W.heap.size o) P Q σ σ := (h.below hb1).box (blk_new W (.cells (opC o) 37))
  have HS0 : ∀ W', J w0 W' (bxo a W.heap.size o) P Q σ σ → W'.cell? ⟨w0.heap.size, 0, none⟩ = some (.pointer (some ⟨a.mb, 0, none⟩)) ∧ W'.cell? ⟨w0.heap.size, 3, none⟩ = some (.pointer (some ⟨a.rb, 0, none⟩)) ∧ W'.cell? ⟨W.heap.size, 27, none⟩ = some (.slice o.pA o.ps.length o.pc) := fun W' hj => ⟨(xb1 hj hx).1, (xb1 hj hx).2.2.1, obc hj 27⟩
  have HS : ∀ W' σ τ, J w0 W' (bxo a W.heap.size o) P Q σ τ → W'.cell? ⟨w0.heap.size, 1, none⟩ = some (.pointer (some ⟨a.gb, 0, none⟩)) ∧ W'.cell? ⟨w0.heap.size, 4, none⟩ = some (.pointer (some ⟨a.hb, 0, none⟩)) ∧ W'.cell? ⟨W.heap.size, 0, none⟩ = some (.int .i64 o.wh) ∧ W'.cell? ⟨W.heap.size, 1, none⟩ = some (.int .i64 o.A) := fun W' σ τ hj => ⟨(xb1 hj hx).2.1, (xb1 hj hx).2.2.2, obc hj 0, obc hj 1⟩
  have HL : ∀ W' σ τ, J w0 W' (bxo a W.heap.size o) P Q σ τ → w0.heap.size < W'.heap.size ∧ W.heap.size < W'.heap.size := fun W' σ τ hj => ⟨blk_lt (jblk hj hx), blk_lt (obx hj)⟩
  have HU : ∀ W' σ τ, J w0 W' (bxo a W.heap.size o) P Q σ τ → J w0 W' a P Q σ τ := fun W' σ τ hj => J.unbox hj
  have hvn : ∀ W', J w0 W' (bxo a W.heap.size o) P Q σ σ → Calls Tryz.prog 20 #[.pointer (some ⟨a.mb, 0, none⟩), .slice o.pA o.ps.length o.pc] W' fun e w' => ∃ B vb db cb, e = .returned (.tuple #[.pointer (some ⟨vb, 0, none⟩), .int .i64 0]) ∧ HalfV w0 w' (bxo a W.heap.size o) P Q σ B vb db cb o.ps := fun W' hj => newP (a := bxo a W.heap.size o) hp hj o.pA o.pc o.ps ok.p h64
  have hun : ∀ W' B vb db cb, HalfV w0 W' (bxo a W.heap.size o) P Q σ B vb db cb o.ps → Calls Tryz.prog 21 #[.pointer (some ⟨a.rb, 0, none⟩), .slice o.pA o.ps.length o.pc] W' fun e w' => ∃ ub, e = .returned (.tuple #[.pointer (some ⟨ub, 0, none⟩), .int .i64 0]) ∧ JV w0 w' (bxo a W.heap.size o) P Q σ σ ⟨B, vb, db, cb, ub, o.pA, o.pc, o.ps⟩ 0 0 ∧ V3 w' B vb db cb a.mb 0 o.ps := fun W' B vb db cb hj => newD (a := bxo a W.heap.size o) hj o.pA o.pc ok.p h64
  obtain ⟨x, σ', hpu, hP, hD⟩ := leave_both (a := bxo a W.heap.size o) (P := P) (Q := Q) hs hp o.A ok.i.1
  have hP2 : ∀ W', J w0 W' (bxo a W.heap.size o) P Q σ σ → Calls Tryz.prog 33 #[.pointer (some ⟨a.gb, 0, none⟩), .int .i64 o.A] W' fun e w' => e = .returned (.int .i64 x) ∧ J w0 w' (bxo a W.heap.size o) P Q σ' σ := hP
  have hD2 : ∀ W', J w0 W' (bxo a W.heap.size o) P Q σ' σ → Calls Tryz.prog 34 #[.pointer (some ⟨a.hb, 0, none⟩), .int .i64 o.A] W' fun e w' => e = .returned (.int .i64 x) ∧ J w0 w' (bxo a W.heap.size o) P Q σ' σ' := hD
  have HPU : Base.Aside (Pu a σ') := ⟨hpu⟩
  obtain ⟨ax, hax⟩ : ∃ ax, ax = bxo a W.heap.size o := ⟨_, rfl⟩
  have hxa : ax.toBA = a.toBA := by rw [hax]; rfl
  rw [← hax] at h1 HS0 HS HL HU hvn hun hP2 hD2
  have E1 := Base.Aside.mk h1
  have HP := Base.Aside.mk (And.intro hp (And.intro HU hxa))
  have HVN := Base.Aside.mk hvn
  have HUN := Base.Aside.mk hun
  have HP2 := Base.Aside.mk hP2
  clear hP hD hpu hP2
  unfold opC
  clear h1 h hb1 HU hp hs hvn hun ok hax
  obtain ⟨wh, A, B, C, D, on, ⟨fg, fd, fr, fp, fo⟩, ⟨tg, td, tr, tp, to_⟩, bA, bc, zs, e, pA, pc, ps⟩ := o
  simp only at hw h64 HS0 HS HVN HUN HP2 hD2 E1 ⊢
  subst hw
  go_enter Tryz.func5, Tryz.ntmps5
  go_upto_region 1 with fail
  refine wp_world (fun W2 => J w0 W2 ax P Q σ σ) E1.out ?_
  intro W2 hj
  have hk := HS0 W2 hj
  obtain ⟨L1, L2⟩ := HL W2 _ _ hj
  have hv2 := fun W' (hW : Below W2.heap.size W2 W') => HVN.out W' (hj.below hW)
  have E2 := Base.Aside.mk hj
  clear hj
  go_cut [5, 6] from 17 to 27 (fun u1 u2 wx => ∃ B vb db cb, u1 = .pointer (some ⟨vb, 0, none⟩) ∧ u2 = .int .i64 0 ∧ Base.Aside (HalfV w0 wx ax P Q σ B vb db cb ps))
  case first =>
    go_region_held3 (fun W' => W'.cell? ⟨w0.heap.size, 0, none⟩ = some (.pointer (some ⟨a.mb, 0, none⟩)) ∧ W'.cell? ⟨w0.heap.size, 3, none⟩ = some (.pointer (some ⟨a.rb, 0, none⟩)) ∧ W'.cell? ⟨W.heap.size, 27, none⟩ = some (.slice pA ps.length pc))
      (first
        | go_keep
        | (with_reducible exact hk)
        | (with_reducible exact HS0 _ E6.out.j)
        | (refine HS0 _ (GzB.J.below E2.out ?_); (repeat (with_reducible first | exact Below.refl _ _ | refine below_drew ?_ | refine below_alloc ?_ _)); done)
        | (refine HS0 _ (GzB.J.below E6.out.j ?_); (repeat (with_reducible first | exact Below.refl _ _ | refine below_drew ?_ | refine below_alloc ?_ _)); done))
      ((first
        | (go_at_call 20; (with_reducible refine (hv2 _ ?_).mono ?_); (focus (repeat (with_reducible first | exact Below.refl _ _ | refine below_drew ?_ | refine below_alloc ?_ _))); rintro z w6 ⟨B0, vb, db, cb, rfl, hj6⟩; have E6 := Base.Aside.mk hj6; clear hj6)))
    all_goals
      go_wp2_with fail
      go_meet
    all_goals
      refine ⟨B0, vb, db, cb, rfl, rfl, ⟨HalfV.below E6.out ?_⟩⟩
      (repeat (with_reducible first | exact Below.refl _ _ | refine below_drew ?_ | refine below_alloc ?_ _))
  case rest =>
    obtain ⟨B0, vb, db, cb, rfl, rfl, hA⟩ := hcut
    have hk := HS0 wc hA.out.j
    obtain ⟨L1, L2⟩ := HL wc _ _ hA.out.j
    have hu2 := fun W' (hW : Below wc.heap.size wc W') => HUN.out W' B0 vb db cb (hA.out.below hW)
    clear hv2 E2 HVN HUN
    go_upto_region 2 with fail
    go_cut [7, 8] from 27 to 37 (fun u1 u2 wx => ∃ ub, u1 = .pointer (some ⟨ub, 0, none⟩) ∧ u2 = .int .i64 0 ∧ Base.Aside (JV w0 wx ax P Q σ σ ⟨B0, vb, db, cb, ub, pA, pc, ps⟩ 0 0 ∧ V3 wx B0 vb db cb a.mb 0 ps))
    case first =>
      go_region_held3 (fun W' => W'.cell? ⟨w0.heap.size, 0, none⟩ = some (.pointer (some ⟨a.mb, 0, none⟩)) ∧ W'.cell? ⟨w0.heap.size, 3, none⟩ = some (.pointer (some ⟨a.rb, 0, none⟩)) ∧ W'.cell? ⟨W.heap.size, 27, none⟩ = some (.slice pA ps.length pc))
        (first
          | go_keep
          | (with_reducible exact hk)
          | (with_reducible exact HS0 _ E7.out.1.j)
          | (refine HS0 _ (GzB.J.below hA.out.j ?_); (repeat (with_reducible first | exact Below.refl _ _ | refine below_drew ?_ | refine below_alloc ?_ _)); done)
          | (refine HS0 _ (GzB.J.below E7.out.1.j ?_); (repeat (with_reducible first | exact Below.refl _ _ | refine below_drew ?_ | refine below_alloc ?_ _)); done))
        ((first
          | (go_at_call 21; (with_reducible refine (hu2 _ ?_).mono ?_); (focus (repeat (with_reducible first | exact Below.refl _ _ | refine below_drew ?_ | refine below_alloc ?_ _))); rintro z w7 ⟨ub, rfl, hj7, hv7⟩; have E7 := Base.Aside.mk (And.intro hj7 hv7); clear hj7 hv7)))
      all_goals
        go_wp2_with fail
        go_meet
      all_goals
        refine ⟨ub, rfl, rfl, ⟨JV.below E7.out.1 ?_, V3.below E7.out.2 ?_⟩⟩
        all_goals (repeat (with_reducible first | exact Below.refl _ _ | refine below_drew ?_ | refine below_alloc ?_ _))
    case rest =>
      obtain ⟨ub, rfl, rfl, hB⟩ := hcut
      clear hk L1 L2 hA hu2 HS0
      have hk := HS wc _ _ hB.out.1.j
      obtain ⟨L1, L2⟩ := HL wc _ _ hB.out.1.j
      go_upto_region 21 with fail
      have E2 := Base.Aside.mk hB.out.1.j
      clear hB
      have hP3 := fun W' (hW : Below wc.heap.size wc W') => HP2.out W' (E2.out.below hW)
      go_cut [4] from 225 to 240 (fun u wx => u = .bool true ∧ Base.Aside (J w0 wx ax P Q σ' σ'))
      case first =>
        go_region_held3 (fun W' => W'.cell? ⟨w0.heap.size, 1, none⟩ = some (.pointer (some ⟨a.gb, 0, none⟩)) ∧ W'.cell? ⟨w0.heap.size, 4, none⟩ = some (.pointer (some ⟨a.hb, 0, none⟩)) ∧ W'.cell? ⟨W.heap.size, 0, none⟩ = some (.int .i64 7) ∧ W'.cell? ⟨W.heap.size, 1, none⟩ = some (.int .i64 A))
          (first
            | go_keep
            | (with_reducible exact hk)
            | (with_reducible exact HS _ _ _ E6.out)
            | (with_reducible exact HS _ _ _ E7.out)
            | (refine HS _ _ _ (GzB.J.below E6.out ?_); (repeat (with_reducible first | exact Below.refl _ _ | refine below_drew ?_ | refine below_alloc ?_ _)); done)
            | (refine HS _ _ _ (GzB.J.below E7.out ?_); (repeat (with_reducible first | exact Below.refl _ _ | refine below_drew ?_ | refine below_alloc ?_ _)); done)
            | (refine HS _ _ _ (GzB.J.below E2.out ?_); (repeat (with_reducible first | exact Below.refl _ _ | refine below_drew ?_ | refine below_alloc ?_ _)); done))
          ((first
            | (go_at_call 33; (with_reducible refine (hP3 _ ?_).mono ?_); (focus (repeat (with_reducible first | exact Below.refl _ _ | refine below_drew ?_ | refine below_alloc ?_ _))); rintro z w8 ⟨rfl, hj6⟩; have E6 := Base.Aside.mk hj6; clear hj6)
            | (go_at_call 34; (with_reducible refine (hD2 _ ?_).mono ?_); (focus (refine GzB.J.below E6.out ?_; (repeat (with_reducible first | exact Below.refl _ _ | refine below_drew ?_ | refine below_alloc ?_ _)))); rintro z w9 ⟨rfl, hj7⟩; have E7 := Base.Aside.mk hj7; clear hj7)))
        all_goals
          go_wp2_with fail
          go_meet
        all_goals
          refine ⟨by first | rfl | (simp; done), ⟨GzB.J.below E7.out ?_⟩⟩
          (repeat (with_reducible first | exact Below.refl _ _ | refine below_drew ?_ | refine below_alloc ?_ _))
      case rest =>
        obtain ⟨rfl, hC⟩ := hcut
        go_wp2
        go_ret
        exact ⟨σ', HPU.out, by first | rfl | (simp; done), HP.out.2.1 _ _ _ hC.out⟩
end
end Go.Proofs.YthlejchcnfdcpaaGreat.GzR
