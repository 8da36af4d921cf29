/- Proved: play: Read (the plain law of the grants). Proved: play: Copy, Transfer, Pull, Push; every call (the plain law of the grants). -/
import Derived.Test.YthlejchcnfdcpaaGreatMlbp
import Derived.Test.YthlejchcnfdcpaaGreatMlbq
import Derived.Test.YthlejchcnfdcpaaGreatMlbr
import Derived.Test.YthlejchcnfdcpaaGreatMlbs
import Derived.Deep.RegionWith
namespace Go.Proofs.YthlejchcnfdcpaaGreat.GzU
open Go.RowKit Go.Maps Base GaA GaB GaC GaD GmA GmB GmC GpA GgA GeA GeB GfA GfB GfC GfD GjA GjB GjC GjE GjK GwA GwB GwE GwF GwJ GwO GwQ RpA RmA RmB RgA GxA GxC GxD GyA GyB GyE GyN GbA GzA GzB GzC GzD GfF GoB GxB GzE GzF GzG GzH GzI GzJ GzK GzL GzM GzN GzO GzP GzQ
set_option linter.unusedVariables false
set_option linter.unusedSimpArgs false

section
variable {w0 W W' : World} {a : BX} {P Q : Value} {σ τ σ' τ' : SS} {v : VP} {rp rd : Nat}
set_option maxHeartbeats 16000000 in
set_option maxRecDepth 100000 in
theorem play_read (hs : St w0.heap.size a) (hp : Pu a σ) (hx : a.xb = w0.heap.size) (o : OpV) (ok : OkO w0 o) (h64 : o.ps.length ≤ 64) (hw : o.wh = 2) (h : J w0 W a P Q σ σ) :
    Calls Tryz.prog 5 #[.pointer (some ⟨w0.heap.size, 0, none⟩), .agg (opC o)] W (PlayOut w0 a P Q) := by
  have hb1 := below_alloc (Below.refl W.heap.size W) (.cells (opC o) 37)
  have h1 : J w0 (W.alloc (.cells (opC o) 37)) (bxo a W.heap.size o) P Q σ σ := (h.below hb1).box (blk_new W (.cells (opC o) 37))
  have HS0 : ∀ W', J w0 W' (bxo a W.heap.size o) P Q σ σ → W'.cell? ⟨w0.heap.size, 0, none⟩ = some (.pointer (some ⟨a.mb, 0, none⟩)) ∧ W'.cell? ⟨w0.heap.size, 3, none⟩ = some (.pointer (some ⟨a.rb, 0, none⟩)) ∧ W'.cell? ⟨W.heap.size, 27, none⟩ = some (.slice o.pA o.ps.length o.pc) := fun W' hj => ⟨(xb1 hj hx).1, (xb1 hj hx).2.2.1, obc hj 27⟩
  have HS : ∀ W' σ τ, J w0 W' (bxo a W.heap.size o) P Q σ τ → W'.cell? ⟨w0.heap.size, 1, none⟩ = some (.pointer (some ⟨a.gb, 0, none⟩)) ∧ W'.cell? ⟨w0.heap.size, 4, none⟩ = some (.pointer (some ⟨a.hb, 0, none⟩)) ∧ W'.cell? ⟨W.heap.size, 0, none⟩ = some (.int .i64 o.wh) ∧ W'.cell? ⟨W.heap.size, 1, none⟩ = some (.int .i64 o.A) ∧ W'.cell? ⟨W.heap.size, 2, none⟩ = some (.int .i64 o.B) ∧ W'.cell? ⟨W.heap.size, 3, none⟩ = some (.int .i64 o.C) ∧ W'.cell? ⟨W.heap.size, 4, none⟩ = some (.int .i64 o.D) := fun W' σ τ hj => ⟨(xb1 hj hx).2.1, (xb1 hj hx).2.2.2, obc hj 0, obc hj 1, obc hj 2, obc hj 3, obc hj 4⟩
  have HL : ∀ W' σ τ, J w0 W' (bxo a W.heap.size o) P Q σ τ → w0.heap.size < W'.heap.size ∧ W.heap.size < W'.heap.size := fun W' σ τ hj => ⟨blk_lt (jblk hj hx), blk_lt (obx hj)⟩
  have HU : ∀ W' σ τ, J w0 W' (bxo a W.heap.size o) P Q σ τ → J w0 W' a P Q σ τ := fun W' σ τ hj => J.unbox hj
  have hvn : ∀ W', J w0 W' (bxo a W.heap.size o) P Q σ σ → Calls Tryz.prog 20 #[.pointer (some ⟨a.mb, 0, none⟩), .slice o.pA o.ps.length o.pc] W' fun e w' => ∃ B vb db cb, e = .returned (.tuple #[.pointer (some ⟨vb, 0, none⟩), .int .i64 0]) ∧ HalfV w0 w' (bxo a W.heap.size o) P Q σ B vb db cb o.ps := fun W' hj => newP (a := bxo a W.heap.size o) hp hj o.pA o.pc o.ps ok.p h64
  have hun : ∀ W' B vb db cb, HalfV w0 W' (bxo a W.heap.size o) P Q σ B vb db cb o.ps → Calls Tryz.prog 21 #[.pointer (some ⟨a.rb, 0, none⟩), .slice o.pA o.ps.length o.pc] W' fun e w' => ∃ ub, e = .returned (.tuple #[.pointer (some ⟨ub, 0, none⟩), .int .i64 0]) ∧ JV w0 w' (bxo a W.heap.size o) P Q σ σ ⟨B, vb, db, cb, ub, o.pA, o.pc, o.ps⟩ 0 0 ∧ V3 w' B vb db cb a.mb 0 o.ps := fun W' B vb db cb hj => newD (a := bxo a W.heap.size o) hj o.pA o.pc ok.p h64
  have HC : ∀ v : VP, TwoB w0 (bxo a W.heap.size o) P Q σ v (fun W R => Calls Tryz.prog 27 #[.pointer (some ⟨a.gb, 0, none⟩), .pointer (some ⟨v.vb, 0, none⟩), .int .i64 o.A, .int .i64 o.B, .int .i64 o.C, .int .i64 o.D] W R) (fun W R => Calls Tryz.prog 28 #[.pointer (some ⟨a.hb, 0, none⟩), .pointer (some ⟨v.ub, 0, none⟩), .int .i64 o.A, .int .i64 o.B, .int .i64 o.C, .int .i64 o.D] W R) := fun v => read_both (v := v) (a := bxo a W.heap.size o) (P := P) (Q := Q) hs hp o.A o.B o.C o.D ok.i.1 ok.i.2.1
  obtain ⟨ax, hax⟩ : ∃ ax, ax = bxo a W.heap.size o := ⟨_, rfl⟩
  have hxa : ax.toBA = a.toBA := by rw [hax]; rfl
  rw [← hax] at h1 HS0 HS HL HU hvn hun HC
  have E1 := Base.Aside.mk h1
  have HP := Base.Aside.mk (And.intro hp (And.intro HU hxa))
  have HVN := Base.Aside.mk hvn
  have HUN := Base.Aside.mk hun
  have HCA := Base.Aside.mk HC
  clear HC
  unfold opC
  clear h1 h hb1 HU hp hs hvn hun ok hax
  obtain ⟨wh, A, B, C, D, on, ⟨fg, fd, fr, fp, fo⟩, ⟨tg, td, tr, tp, to_⟩, bA, bc, zs, e, pA, pc, ps⟩ := o
  simp only at hw h64 HS0 HS HVN HUN HCA E1 ⊢
  subst hw
  go_enter Tryz.func5, Tryz.ntmps5
  go_upto_region 1 with fail
  refine wp_world (fun W2 => J w0 W2 ax P Q σ σ) E1.out ?_
  intro W2 hj
  have hk := HS0 W2 hj
  obtain ⟨L1, L2⟩ := HL W2 _ _ hj
  have hv2 := fun W' (hW : Below W2.heap.size W2 W') => HVN.out W' (hj.below hW)
  have E2 := Base.Aside.mk hj
  clear hj
  go_cut [5, 6] from 17 to 27 (fun u1 u2 wx => ∃ B vb db cb, u1 = .pointer (some ⟨vb, 0, none⟩) ∧ u2 = .int .i64 0 ∧ Base.Aside (HalfV w0 wx ax P Q σ B vb db cb ps))
  case first =>
    go_region_held3 (fun W' => W'.cell? ⟨w0.heap.size, 0, none⟩ = some (.pointer (some ⟨a.mb, 0, none⟩)) ∧ W'.cell? ⟨w0.heap.size, 3, none⟩ = some (.pointer (some ⟨a.rb, 0, none⟩)) ∧ W'.cell? ⟨W.heap.size, 27, none⟩ = some (.slice pA ps.length pc))
      (first
        | go_keep
        | (with_reducible exact hk)
        | (with_reducible exact HS0 _ E6.out.j)
        | (refine HS0 _ (GzB.J.below E2.out ?_); (repeat (with_reducible first | exact Below.refl _ _ | refine below_drew ?_ | refine below_alloc ?_ _)); done)
        | (refine HS0 _ (GzB.J.below E6.out.j ?_); (repeat (with_reducible first | exact Below.refl _ _ | refine below_drew ?_ | refine below_alloc ?_ _)); done))
      ((first
        | (go_at_call 20; (with_reducible refine (hv2 _ ?_).mono ?_); (focus (repeat (with_reducible first | exact Below.refl _ _ | refine below_drew ?_ | refine below_alloc ?_ _))); rintro z w6 ⟨B0, vb, db, cb, rfl, hj6⟩; have E6 := Base.Aside.mk hj6; clear hj6)))
    all_goals
      go_wp2_with fail
      go_meet
    all_goals
      refine ⟨B0, vb, db, cb, rfl, rfl, ⟨HalfV.below E6.out ?_⟩⟩
      (repeat (with_reducible first | exact Below.refl _ _ | refine below_drew ?_ | refine below_alloc ?_ _))
  case rest =>
    obtain ⟨B0, vb, db, cb, rfl, rfl, hA⟩ := hcut
    have hk := HS0 wc hA.out.j
    obtain ⟨L1, L2⟩ := HL wc _ _ hA.out.j
    have hu2 := fun W' (hW : Below wc.heap.size wc W') => HUN.out W' B0 vb db cb (hA.out.below hW)
    clear hv2 E2 HVN HUN
    go_upto_region 2 with fail
    go_cut [7, 8] from 27 to 37 (fun u1 u2 wx => ∃ ub, u1 = .pointer (some ⟨ub, 0, none⟩) ∧ u2 = .int .i64 0 ∧ Base.Aside (JV w0 wx ax P Q σ σ ⟨B0, vb, db, cb, ub, pA, pc, ps⟩ 0 0 ∧ V3 wx B0 vb db cb a.mb 0 ps))
    case first =>
      go_region_held3 (fun W' => W'.cell? ⟨w0.heap.size, 0, none⟩ = some (.pointer (some ⟨a.mb, 0, none⟩)) ∧ W'.cell? ⟨w0.heap.size, 3, none⟩ = some (.pointer (some ⟨a.rb, 0, none⟩)) ∧ W'.cell? ⟨W.heap.size, 27, none⟩ = some (.slice pA ps.length pc))
        (first
          | go_keep
          | (with_reducible exact hk)
          | (with_reducible exact HS0 _ E7.out.1.j)
          | (refine HS0 _ (GzB.J.below hA.out.j ?_); (repeat (with_reducible first | exact Below.refl _ _ | refine below_drew ?_ | refine below_alloc ?_ _)); done)
          | (refine HS0 _ (GzB.J.below E7.out.1.j ?_); (repeat (with_reducible first | exact Below.refl _ _ | refine below_drew ?_ | refine below_alloc ?_ _)); done))
        ((first
          | (go_at_call 21; (with_reducible refine (hu2 _ ?_).mono ?_); (focus (repeat (with_reducible first | exact Below.refl _ _ | refine below_drew ?_ | refine below_alloc ?_ _))); rintro z w7 ⟨ub, rfl, hj7, hv7⟩; have E7 := Base.Aside.mk (And.intro hj7 hv7); clear hj7 hv7)))
      all_goals
        go_wp2_with fail
        go_meet
      all_goals
        refine ⟨ub, rfl, rfl, ⟨JV.below E7.out.1 ?_, V3.below E7.out.2 ?_⟩⟩
        all_goals (repeat (with_reducible first | exact Below.refl _ _ | refine below_drew ?_ | refine below_alloc ?_ _))
    case rest =>
      obtain ⟨ub, rfl, rfl, hB⟩ := hcut
      clear hk L1 L2 hA hu2 HS0
      have hk := HS wc _ _ hB.out.1.j
      obtain ⟨L1, L2⟩ := HL wc _ _ hB.out.1.j
      go_upto_region 13 with fail
      obtain ⟨ys, er, σ', r, hpu, hy6, hPm, hDm⟩ := HCA.out ⟨B0, vb, db, cb, ub, pA, pc, ps⟩
      have hxa := HP.out.2.2
      rw [hxa] at hpu hPm hDm
      obtain ⟨n, hn⟩ : ∃ n, n = ys.length := ⟨_, rfl⟩
      have HN := Base.Aside.mk hn
      have hP2 : ∀ W', JV w0 W' ax P Q σ σ ⟨B0, vb, db, cb, ub, pA, pc, ps⟩ 0 0 → V3 W' B0 vb db cb a.mb 0 ps → Calls Tryz.prog 27 #[.pointer (some ⟨a.gb, 0, none⟩), .pointer (some ⟨vb, 0, none⟩), .int .i64 A, .int .i64 B, .int .i64 C, .int .i64 D] W' fun e w' => ∃ A l c, l = ys.length ∧ e = .returned (.tuple #[.slice A l c, .int .i64 er]) ∧ Bytes w' A ys ∧ (∀ x, A = some x → x.block ≠ ub ∧ x.block ∉ a.bs) ∧ JV w0 w' ax P Q σ' σ ⟨B0, vb, db, cb, ub, pA, pc, ps⟩ r 0 := hPm
      have hD2 : ∀ W', JV w0 W' ax P Q σ' σ ⟨B0, vb, db, cb, ub, pA, pc, ps⟩ r 0 → Calls Tryz.prog 28 #[.pointer (some ⟨a.hb, 0, none⟩), .pointer (some ⟨ub, 0, none⟩), .int .i64 A, .int .i64 B, .int .i64 C, .int .i64 D] W' fun e w' => ∃ A l c, l = ys.length ∧ e = .returned (.tuple #[.slice A l c, .int .i64 er]) ∧ Bytes w' A ys ∧ JV w0 w' ax P Q σ' σ' ⟨B0, vb, db, cb, ub, pA, pc, ps⟩ r r ∧ Chg (fun x => x = ub ∨ x ∈ a.bs) W' w' := hDm
      rw [← hn] at hP2 hD2
      have hP3 := fun W' (hW : Below wc.heap.size wc W') => hP2 W' (hB.out.1.below hW) (V3.below hB.out.2 hW)
      have HPU := Base.Aside.mk hpu
      have E2 := Base.Aside.mk hB.out.1.j
      clear hB hPm hDm hpu hP2 HCA hxa hn hy6
      go_cut [13, 14] from 127 to 144 (fun u1 u2 wx => ∃ A1 c1, u1 = .slice A1 n c1 ∧ u2 = .int .i64 er ∧ Base.Aside (Bytes wx A1 ys ∧ (∀ x, A1 = some x → x.block ≠ ub ∧ x.block ∉ a.bs) ∧ JV w0 wx ax P Q σ' σ ⟨B0, vb, db, cb, ub, pA, pc, ps⟩ r 0))
      case first =>
        go_region_held3 (fun W' => W'.cell? ⟨w0.heap.size, 1, none⟩ = some (.pointer (some ⟨a.gb, 0, none⟩)) ∧ W'.cell? ⟨w0.heap.size, 4, none⟩ = some (.pointer (some ⟨a.hb, 0, none⟩)) ∧ W'.cell? ⟨W.heap.size, 0, none⟩ = some (.int .i64 2) ∧ W'.cell? ⟨W.heap.size, 1, none⟩ = some (.int .i64 A) ∧ W'.cell? ⟨W.heap.size, 2, none⟩ = some (.int .i64 B) ∧ W'.cell? ⟨W.heap.size, 3, none⟩ = some (.int .i64 C) ∧ W'.cell? ⟨W.heap.size, 4, none⟩ = some (.int .i64 D))
          (first
            | go_keep
            | (with_reducible exact hk)
            | (with_reducible exact HS _ _ _ E6.out.2.2.j)
            | (refine HS _ _ _ (GzB.J.below E6.out.2.2.j ?_); (repeat (with_reducible first | exact Below.refl _ _ | refine below_drew ?_ | refine below_alloc ?_ _)); done)
            | (refine HS _ _ _ (GzB.J.below E2.out ?_); (repeat (with_reducible first | exact Below.refl _ _ | refine below_drew ?_ | refine below_alloc ?_ _)); done))
          ((first
            | (go_at_call 27; (with_reducible refine (hP3 _ ?_).mono ?_); (focus (repeat (with_reducible first | exact Below.refl _ _ | refine below_drew ?_ | refine below_alloc ?_ _))); rintro z w8 ⟨A1, l1, c1, rfl, rfl, hb6, hn6, hj6⟩; have E6 := Base.Aside.mk (And.intro hb6 (And.intro hn6 hj6)); clear hb6 hn6 hj6)))
        all_goals
          go_wp2_with fail
          go_meet
        all_goals
          refine ⟨A1, c1, rfl, rfl, ⟨E6.out.1.below ?_, E6.out.2.1, JV.below E6.out.2.2 ?_⟩⟩
          all_goals (repeat (with_reducible first | exact Below.refl _ _ | refine below_drew ?_ | refine below_alloc ?_ _))
      case rest =>
        obtain ⟨A1, c1, rfl, rfl, hC⟩ := hcut
        have hk := HS wc _ _ hC.out.2.2.j
        obtain ⟨L1, L2⟩ := HL wc _ _ hC.out.2.2.j
        have hD3 := fun W' (hW : Below wc.heap.size wc W') => (hD2 W' (hC.out.2.2.below hW)).mono (R' := fun e w' => ∃ A l c, l = n ∧ e = .returned (.tuple #[.slice A l c, .int .i64 er]) ∧ Bytes w' A1 ys ∧ Bytes w' A ys ∧ JV w0 w' ax P Q σ' σ' ⟨B0, vb, db, cb, ub, pA, pc, ps⟩ r r) (fun e w' ⟨A, l, c, q1, q2, q3, q4, q5⟩ => ⟨A, l, c, q1, q2, (hC.out.1.below hW).chg q5 (fun x hx hor => hor.elim (hC.out.2.1 x hx).1 (hC.out.2.1 x hx).2), q3, q4⟩)
        have E2 := Base.Aside.mk hC.out.2.2.j
        clear hP3 hD2 hC
        go_upto_region 14 with fail
        go_cut [15, 16] from 144 to 161 (fun u1 u2 wx => ∃ A2 c2, u1 = .slice A2 n c2 ∧ u2 = .int .i64 er ∧ Base.Aside (Bytes wx A1 ys ∧ Bytes wx A2 ys ∧ JV w0 wx ax P Q σ' σ' ⟨B0, vb, db, cb, ub, pA, pc, ps⟩ r r))
        case first =>
          go_region_held3 (fun W' => W'.cell? ⟨w0.heap.size, 1, none⟩ = some (.pointer (some ⟨a.gb, 0, none⟩)) ∧ W'.cell? ⟨w0.heap.size, 4, none⟩ = some (.pointer (some ⟨a.hb, 0, none⟩)) ∧ W'.cell? ⟨W.heap.size, 0, none⟩ = some (.int .i64 2) ∧ W'.cell? ⟨W.heap.size, 1, none⟩ = some (.int .i64 A) ∧ W'.cell? ⟨W.heap.size, 2, none⟩ = some (.int .i64 B) ∧ W'.cell? ⟨W.heap.size, 3, none⟩ = some (.int .i64 C) ∧ W'.cell? ⟨W.heap.size, 4, none⟩ = some (.int .i64 D))
            (first
              | go_keep
              | (with_reducible exact hk)
              | (with_reducible exact HS _ _ _ E7.out.2.2.j)
              | (refine HS _ _ _ (GzB.J.below E7.out.2.2.j ?_); (repeat (with_reducible first | exact Below.refl _ _ | refine below_drew ?_ | refine below_alloc ?_ _)); done)
              | (refine HS _ _ _ (GzB.J.below E2.out ?_); (repeat (with_reducible first | exact Below.refl _ _ | refine below_drew ?_ | refine below_alloc ?_ _)); done))
            ((first
              | (go_at_call 28; (with_reducible refine (hD3 _ ?_).mono ?_); (focus (repeat (with_reducible first | exact Below.refl _ _ | refine below_drew ?_ | refine below_alloc ?_ _))); rintro z w9 ⟨A2, l2, c2, rfl, rfl, hb7, hc7, hj7⟩; have E7 := Base.Aside.mk (And.intro hb7 (And.intro hc7 hj7)); clear hb7 hc7 hj7)))
          all_goals
            go_wp2_with fail
            go_meet
          all_goals
            refine ⟨A2, c2, rfl, rfl, ⟨E7.out.1.below ?_, E7.out.2.1.below ?_, JV.below E7.out.2.2 ?_⟩⟩
            all_goals (repeat (with_reducible first | exact Below.refl _ _ | refine below_drew ?_ | refine below_alloc ?_ _))
        case rest =>
          obtain ⟨A2, c2, rfl, rfl, hD⟩ := hcut
          have hcv1 := conv_bytes hD.out.1 n c1 HN.out
          have hcv2 := conv_bytes hD.out.2.1 n c2 HN.out
          clear hk L1 L2 hD3 E2 HS HL
          go_wp2
          go_ret
          exact ⟨σ', HPU.out, by first | rfl | (simp; done), HP.out.2.1 _ _ _ hD.out.2.2.j⟩
end
end Go.Proofs.YthlejchcnfdcpaaGreat.GzU
namespace Go.Proofs.YthlejchcnfdcpaaGreat.GzW
open Go.RowKit Go.Maps Base GaA GaB GaC GaD GmA GmB GmC GpA GgA GeA GeB GfA GfB GfC GfD GjA GjB GjC GjE GjK GwA GwB GwE GwF GwJ GwO GwQ RpA RmA RmB RgA GxA GxC GxD GyA GyB GyE GyN GbA GzA GzB GzC GzD GfF GoB GxB GzE GzF GzG GzH GzI GzJ GzK GzL GzM GzN GzO GzP GzQ GzR GzS GzT GzU GzV
set_option linter.unusedVariables false
set_option linter.unusedSimpArgs false

theorem run_load_op {w : World} {g : Nat} {o : OpV} (hg : w.heap[g]? = some (.cells (opC o) 37 (0, 0))) : (Instr.loadAt 37 (.pointer (some ⟨g, 0, none⟩))).run Tryz.prog w = .ok (.agg (opC o)) w := by
  have hi : (Tryz.prog.info? 37).map (·.size) = some (opC o).size :=
    (by kernel_rfl : (Tryz.prog.info? 37).map (·.size) = some 28).trans rfl
  simp only [Instr.loadAt, Instr.sureAddr, Sem.run_bind, Sem.run_pure, Result.andThen_ok, run_loadVar_row w g 37 37 (opC o) (0, 0) _ hg Tryz.underlying37 rfl hi]
theorem step_load_op {w : World} {ops : Array Oper} {o : Oper} {a : Act} {K : Act → World → Prop} {Q : Exit → Act → World → Prop} {E : Prop} (hgd : o.guard = none) (x : Operand)
    (ho : o.op = .load 37 x) (p : Value) (hx : a.eval x = p) (vo : Value) (hl : (Instr.loadAt 37 p).run Tryz.prog w = .ok vo w)
    (h : K (a.put o.dst vo) w) : if Region.wanted o (yielded ops a.tmps) = true then Oper.wp Tryz.prog o a w K Q else E := by
  have hw : Region.wanted o (yielded ops a.tmps) = true := by simp [Region.wanted, hgd]
  rw [if_pos hw]
  unfold Oper.wp execOp
  simp only [ho, hx, Sem.run_bind, Sem.run_pure, hl, Result.andThen_ok]
  exact h
section
variable {w0 W W' : World} {a : BX} {P Q : Value} {σ τ σ' τ' : SS} {v : VP} {rp rd : Nat}
set_option maxHeartbeats 16000000 in
set_option maxRecDepth 100000 in
theorem play_moves (hs : St w0.heap.size a) (hp : Pu a σ) (hx : a.xb = w0.heap.size) (o : OpV) (ok : OkO w0 o) (h64 : o.ps.length ≤ 64) (hw : o.wh ≠ 0 ∧ o.wh ≠ 1 ∧ o.wh ≠ 2 ∧ o.wh ≠ 3 ∧ o.wh ≠ 6 ∧ o.wh ≠ 7 ∧ o.wh ≠ 8 ∧ o.wh ≠ 9) (h : J w0 W a P Q σ σ) :
    Calls Tryz.prog 5 #[.pointer (some ⟨w0.heap.size, 0, none⟩), .agg (opC o)] W (PlayOut w0 a P Q) := by
  have hb1 := below_alloc (Below.refl W.heap.size W) (.cells (opC o) 37)
  have h1 : J w0 (W.alloc (.cells (opC o) 37)) (bxo a W.heap.size o) P Q σ σ := (h.below hb1).box (blk_new W (.cells (opC o) 37))
  have HS0 : ∀ W', J w0 W' (bxo a W.heap.size o) P Q σ σ → W'.cell? ⟨w0.heap.size, 0, none⟩ = some (.pointer (some ⟨a.mb, 0, none⟩)) ∧ W'.cell? ⟨w0.heap.size, 3, none⟩ = some (.pointer (some ⟨a.rb, 0, none⟩)) ∧ W'.cell? ⟨W.heap.size, 27, none⟩ = some (.slice o.pA o.ps.length o.pc) := fun W' hj => ⟨(xb1 hj hx).1, (xb1 hj hx).2.2.1, obc hj 27⟩
  have HS : ∀ W' σ τ, J w0 W' (bxo a W.heap.size o) P Q σ τ → W'.cell? ⟨w0.heap.size, 1, none⟩ = some (.pointer (some ⟨a.gb, 0, none⟩)) ∧ W'.cell? ⟨W.heap.size, 0, none⟩ = some (.int .i64 o.wh) := fun W' σ τ hj => ⟨(xb1 hj hx).2.1, obc hj 0⟩
  have HL : ∀ W' σ τ, J w0 W' (bxo a W.heap.size o) P Q σ τ → w0.heap.size < W'.heap.size ∧ W.heap.size < W'.heap.size := fun W' σ τ hj => ⟨blk_lt (jblk hj hx), blk_lt (obx hj)⟩
  have HU : ∀ W' σ τ, J w0 W' (bxo a W.heap.size o) P Q σ τ → J w0 W' a P Q σ τ := fun W' σ τ hj => J.unbox hj
  have hvn : ∀ W', J w0 W' (bxo a W.heap.size o) P Q σ σ → Calls Tryz.prog 20 #[.pointer (some ⟨a.mb, 0, none⟩), .slice o.pA o.ps.length o.pc] W' fun e w' => ∃ B vb db cb, e = .returned (.tuple #[.pointer (some ⟨vb, 0, none⟩), .int .i64 0]) ∧ HalfV w0 w' (bxo a W.heap.size o) P Q σ B vb db cb o.ps := fun W' hj => newP (a := bxo a W.heap.size o) hp hj o.pA o.pc o.ps ok.p h64
  have hun : ∀ W' B vb db cb, HalfV w0 W' (bxo a W.heap.size o) P Q σ B vb db cb o.ps → Calls Tryz.prog 21 #[.pointer (some ⟨a.rb, 0, none⟩), .slice o.pA o.ps.length o.pc] W' fun e w' => ∃ ub, e = .returned (.tuple #[.pointer (some ⟨ub, 0, none⟩), .int .i64 0]) ∧ JV w0 w' (bxo a W.heap.size o) P Q σ σ ⟨B, vb, db, cb, ub, o.pA, o.pc, o.ps⟩ 0 0 ∧ V3 w' B vb db cb a.mb 0 o.ps := fun W' B vb db cb hj => newD (a := bxo a W.heap.size o) hj o.pA o.pc ok.p h64
  have HC : ∀ (v : VP) W', JV w0 W' (bxo a W.heap.size o) P Q σ σ v 0 0 → V3 W' v.B v.vb v.db v.cb a.mb 0 v.ps → Calls Tryz.prog 35 #[.pointer (some ⟨w0.heap.size, 0, none⟩), .pointer (some ⟨v.vb, 0, none⟩), .pointer (some ⟨v.ub, 0, none⟩), .agg (opC o)] W' fun e w' => ∃ σ' r, Pu a σ' ∧ e = .returned (.bool true) ∧ JV w0 w' (bxo a W.heap.size o) P Q σ' σ' v r r := fun v W' hj h3 => moves_any (a := bxo a W.heap.size o) hs hp hx o ok hj h3
  have HOB : ∀ W', J w0 W' (bxo a W.heap.size o) P Q σ σ → W'.heap[W.heap.size]? = some (.cells (opC o) 37 (0, 0)) := fun W' hj => obx hj
  have HLO : ∀ W', J w0 W' (bxo a W.heap.size o) P Q σ σ → (Instr.loadAt 37 (.pointer (some ⟨W.heap.size, 0, none⟩))).run Tryz.prog W' = .ok (.agg (opC o)) W' := fun W' hj => run_load_op (HOB W' hj)
  obtain ⟨ax, hax⟩ : ∃ ax, ax = bxo a W.heap.size o := ⟨_, rfl⟩
  have hxa : ax.toBA = a.toBA := by rw [hax]; rfl
  rw [← hax] at h1 HS0 HS HL HU hvn hun HC HLO
  clear HOB
  have E1 := Base.Aside.mk h1
  have HP := Base.Aside.mk (And.intro hp (And.intro HU hxa))
  have HVN := Base.Aside.mk hvn
  have HUN := Base.Aside.mk hun
  unfold opC at HC HLO ⊢
  clear h1 h hb1 HU hp hs hvn hun ok hax
  obtain ⟨wh, A, B, C, D, on, ⟨fg, fd, fr, fp, fo⟩, ⟨tg, td, tr, tp, to_⟩, bA, bc, zs, e, pA, pc, ps⟩ := o
  simp only at hw h64 HS0 HS HVN HUN HC HLO E1 ⊢
  have q0 : (wh == 0) = false := by simp [hw]
  have q1 : (wh == 1) = false := by simp [hw]
  have q2 : (wh == 2) = false := by simp [hw]
  have q3 : (wh == 3) = false := by simp [hw]
  have q6 : (wh == 6) = false := by simp [hw]
  have q7 : (wh == 7) = false := by simp [hw]
  have q8 : (wh == 8) = false := by simp [hw]
  have q9 : (wh == 9) = false := by simp [hw]
  clear hw
  go_enter Tryz.func5, Tryz.ntmps5
  go_upto_region 1 with fail
  refine wp_world (fun W2 => J w0 W2 ax P Q σ σ) E1.out ?_
  intro W2 hj
  generalize (Value.agg #[.int .i64 wh, .int .i64 A, .int .i64 B, .int .i64 C, .int .i64 D, .bool on, .bool fg, .int .i64 fd, .int .i64 fr, .int .i64 fp, .int .i64 fo, .bool tg, .int .i64 td, .int .i64 tr, .int .i64 tp, .int .i64 to_, .slice bA zs.length bc, .int .i64 e.dom, .int .i64 e.ref, .int .i64 e.g.kd, .bool e.g.ro, .bool e.g.sb, .int .i64 e.g.dom, .int .i64 e.g.gp, .int .i64 e.g.of, .int .i64 e.g.le, .int .u8 e.fl, .slice pA ps.length pc]) = vo at HC HLO ⊢
  have hk := HS0 W2 hj
  obtain ⟨L1, L2⟩ := HL W2 _ _ hj
  have hv2 := fun W' (hW : Below W2.heap.size W2 W') => HVN.out W' (hj.below hW)
  have E2 := Base.Aside.mk hj
  clear hj
  go_cut [5, 6] from 17 to 27 (fun u1 u2 wx => ∃ B vb db cb, u1 = .pointer (some ⟨vb, 0, none⟩) ∧ u2 = .int .i64 0 ∧ Base.Aside (HalfV w0 wx ax P Q σ B vb db cb ps))
  case first => as_aux_lemma =>
    go_region_held3 (fun W' => W'.cell? ⟨w0.heap.size, 0, none⟩ = some (.pointer (some ⟨a.mb, 0, none⟩)) ∧ W'.cell? ⟨w0.heap.size, 3, none⟩ = some (.pointer (some ⟨a.rb, 0, none⟩)) ∧ W'.cell? ⟨W.heap.size, 27, none⟩ = some (.slice pA ps.length pc))
      (first
        | go_keep
        | (with_reducible exact hk)
        | (with_reducible exact HS0 _ E6.out.j)
        | (refine HS0 _ (GzB.J.below E2.out ?_); (repeat (with_reducible first | exact Below.refl _ _ | refine below_drew ?_ | refine below_alloc ?_ _)); done)
        | (refine HS0 _ (GzB.J.below E6.out.j ?_); (repeat (with_reducible first | exact Below.refl _ _ | refine below_drew ?_ | refine below_alloc ?_ _)); done))
      ((first
        | (go_at_call 20; (with_reducible refine (hv2 _ ?_).mono ?_); (focus (repeat (with_reducible first | exact Below.refl _ _ | refine below_drew ?_ | refine below_alloc ?_ _))); rintro z w6 ⟨B0, vb, db, cb, rfl, hj6⟩; have E6 := Base.Aside.mk hj6; clear hj6)))
    all_goals
      go_wp2_with fail
      go_meet
    all_goals
      refine ⟨B0, vb, db, cb, rfl, rfl, ⟨HalfV.below E6.out ?_⟩⟩
      (repeat (with_reducible first | exact Below.refl _ _ | refine below_drew ?_ | refine below_alloc ?_ _))
  case rest =>
    obtain ⟨B0, vb, db, cb, rfl, rfl, hA⟩ := hcut
    have hk := HS0 wc hA.out.j
    obtain ⟨L1, L2⟩ := HL wc _ _ hA.out.j
    have hu2 := fun W' (hW : Below wc.heap.size wc W') => HUN.out W' B0 vb db cb (hA.out.below hW)
    clear hv2 E2 HVN HUN
    go_upto_region 2 with fail
    go_cut [7, 8] from 27 to 37 (fun u1 u2 wx => ∃ ub, u1 = .pointer (some ⟨ub, 0, none⟩) ∧ u2 = .int .i64 0 ∧ Base.Aside (JV w0 wx ax P Q σ σ ⟨B0, vb, db, cb, ub, pA, pc, ps⟩ 0 0 ∧ V3 wx B0 vb db cb a.mb 0 ps))
    case first => as_aux_lemma =>
      go_region_held3 (fun W' => W'.cell? ⟨w0.heap.size, 0, none⟩ = some (.pointer (some ⟨a.mb, 0, none⟩)) ∧ W'.cell? ⟨w0.heap.size, 3, none⟩ = some (.pointer (some ⟨a.rb, 0, none⟩)) ∧ W'.cell? ⟨W.heap.size, 27, none⟩ = some (.slice pA ps.length pc))
        (first
          | go_keep
          | (with_reducible exact hk)
          | (with_reducible exact HS0 _ E7.out.1.j)
          | (refine HS0 _ (GzB.J.below hA.out.j ?_); (repeat (with_reducible first | exact Below.refl _ _ | refine below_drew ?_ | refine below_alloc ?_ _)); done)
          | (refine HS0 _ (GzB.J.below E7.out.1.j ?_); (repeat (with_reducible first | exact Below.refl _ _ | refine below_drew ?_ | refine below_alloc ?_ _)); done))
        ((first
          | (go_at_call 21; (with_reducible refine (hu2 _ ?_).mono ?_); (focus (repeat (with_reducible first | exact Below.refl _ _ | refine below_drew ?_ | refine below_alloc ?_ _))); rintro z w7 ⟨ub, rfl, hj7, hv7⟩; have E7 := Base.Aside.mk (And.intro hj7 hv7); clear hj7 hv7)))
      all_goals
        go_wp2_with fail
        go_meet
      all_goals
        refine ⟨ub, rfl, rfl, ⟨JV.below E7.out.1 ?_, V3.below E7.out.2 ?_⟩⟩
        all_goals (repeat (with_reducible first | exact Below.refl _ _ | refine below_drew ?_ | refine below_alloc ?_ _))
    case rest => as_aux_lemma =>
      obtain ⟨ub, rfl, rfl, hB⟩ := hcut
      clear hk L1 L2 hA hu2 HS0
      have hk := HS wc _ _ hB.out.1.j
      obtain ⟨L1, L2⟩ := HL wc _ _ hB.out.1.j
      go_upto_region 27 with fail
      have hlo := HLO wc.drew (hB.out.1.below (below_drew (Below.refl wc.heap.size wc))).j
      have hmv : ∀ W', Below wc.heap.size wc W' → Calls Tryz.prog 35 #[.pointer (some ⟨w0.heap.size, 0, none⟩), .pointer (some ⟨vb, 0, none⟩), .pointer (some ⟨ub, 0, none⟩), vo] W' fun e w' => ∃ σ' r, Pu a σ' ∧ e = .returned (.bool true) ∧ JV w0 w' ax P Q σ' σ' ⟨B0, vb, db, cb, ub, pA, pc, ps⟩ r r := fun W' hW => HC ⟨B0, vb, db, cb, ub, pA, pc, ps⟩ W' (hB.out.1.below hW) (V3.below hB.out.2 hW)
      clear HC HLO hB HS HL
      go_cut [4] from 279 to 293 (fun u wx => u = .bool true ∧ Base.Aside (∃ σ', Pu a σ' ∧ J w0 wx ax P Q σ' σ'))
      case first => as_aux_lemma =>
        refine wp_region_any (by kernel_rfl) ?_
        change wpAny _ _ _ _ _ _ _ (World.drew _)
        refine wpAny_take (i := 0) (oi := ({ dst := some 279, op := Op.move (Operand.tmp 0), type := 24, pos := "law.go:200", after := #[], guard := none } : Oper)) (v := ?_) rfl (by kernel_rfl) (by kernel_rfl) (by kernel_rfl) (fun _ _ _ h => h) (Or.inl ⟨by rfl, ?_⟩) ?_
        rotate_left; (focus (intro w; go_simp; with_reducible rfl))
        try simp only [Act.put, List.setIfInBounds_toArray, List.set_cons_zero, List.set_cons_succ]
        refine wpAny_take (i := 1) (oi := ({ dst := some 280, op := Op.move (Operand.tmp 5), type := 70, pos := "law.go:200", after := #[], guard := none } : Oper)) (v := ?_) rfl (by kernel_rfl) (by kernel_rfl) (by kernel_rfl) (fun _ _ _ h => h) (Or.inl ⟨by rfl, ?_⟩) ?_
        rotate_left; (focus (intro w; go_simp; with_reducible rfl))
        try simp only [Act.put, List.setIfInBounds_toArray, List.set_cons_zero, List.set_cons_succ]
        refine wpAny_take (i := 2) (oi := ({ dst := some 281, op := Op.move (Operand.tmp 7), type := 73, pos := "law.go:200", after := #[], guard := none } : Oper)) (v := ?_) rfl (by kernel_rfl) (by kernel_rfl) (by kernel_rfl) (fun _ _ _ h => h) (Or.inl ⟨by rfl, ?_⟩) ?_
        rotate_left; (focus (intro w; go_simp; with_reducible rfl))
        try simp only [Act.put, List.setIfInBounds_toArray, List.set_cons_zero, List.set_cons_succ]
        refine wpAny_ready (rs := [3]) (by kernel_rfl) (by simp) ?_
        refine AllReady.cons (o := ({ dst := some 282, op := Op.load 37 (Operand.tmp 3), type := 37, pos := "law.go:200", after := #[], guard := none } : Oper)) rfl (fun K hK => ?_) AllReady.nil
        refine step_load_op rfl _ rfl _ (by rfl) vo hlo ?_
        refine hK _ _ ?_
        clear hK K
        try simp only [Act.put, List.setIfInBounds_toArray, List.set_cons_zero, List.set_cons_succ]
        refine wpAny_ready (rs := [4]) (by kernel_rfl) (by simp) ?_
        refine AllReady.cons (o := ({ dst := some 283, op := Op.call { callee := Callee.value (Operand.func 35), args := #[Operand.tmp 279, Operand.tmp 280, Operand.tmp 281, Operand.tmp 282], argTypes := #[24, 70, 73, 37] }, type := 4, pos := "law.go:200", after := #[{ on := 0, ground := Ground.data }, { on := 1, ground := Ground.data }, { on := 2, ground := Ground.data }, { on := 3, ground := Ground.data }], guard := none } : Oper)) rfl (fun K hK => ?_) AllReady.nil
        go_simp
        go_at_call 35
        with_reducible refine (hmv _ ?_).mono ?_
        · (repeat (with_reducible first | exact Below.refl _ _ | refine below_drew ?_ | refine below_alloc ?_ _))
        rintro z w8 ⟨σ8, r8, hp8, rfl, hj8⟩; have hrd8 := reads_blk hj8.b; have k8 := blk_cell hj8.u 2; have L8 := blk_lt hj8.u; have E8 := Base.Aside.mk (And.intro hp8 hj8.j); clear hp8 hj8
        go_wp2_with fail
        try simp only [Act.put, List.setIfInBounds_toArray, List.set_cons_zero, List.set_cons_succ]
        refine wpAny_take (i := 5) (oi := ({ dst := some 284, op := Op.move (Operand.tmp 283), type := 4, pos := "law.go:200", after := #[{ on := 4, ground := Ground.data }, { on := 4, ground := Ground.chain }], guard := none } : Oper)) (v := ?_) rfl (by kernel_rfl) (by kernel_rfl) (by kernel_rfl) (fun _ _ _ h => h) (Or.inl ⟨by rfl, ?_⟩) ?_
        rotate_left; (focus (intro w; go_simp; with_reducible rfl))
        try simp only [Act.put, List.setIfInBounds_toArray, List.set_cons_zero, List.set_cons_succ]
        refine wpAny_take (i := 6) (oi := ({ dst := some 285, op := Op.move (Operand.tmp 5), type := 70, pos := "law.go:200", after := #[{ on := 5, ground := Ground.guard }], guard := some (5, true) } : Oper)) (v := ?_) rfl (by kernel_rfl) (by kernel_rfl) (by kernel_rfl) (fun _ _ _ h => h) (Or.inl ⟨by rfl, ?_⟩) ?_
        rotate_left; (focus (intro w; go_simp; with_reducible rfl))
        try simp only [Act.put, List.setIfInBounds_toArray, List.set_cons_zero, List.set_cons_succ]
        refine wpAny_take (i := 8) (oi := ({ dst := some 287, op := Op.move (Operand.tmp 7), type := 73, pos := "law.go:200", after := #[{ on := 5, ground := Ground.guard }], guard := some (5, true) } : Oper)) (v := ?_) rfl (by kernel_rfl) (by kernel_rfl) (by kernel_rfl) (fun _ _ _ h => h) (Or.inl ⟨by rfl, ?_⟩) ?_
        rotate_left; (focus (intro w; go_simp; with_reducible rfl))
        try simp only [Act.put, List.setIfInBounds_toArray, List.set_cons_zero, List.set_cons_succ]
        refine wpAny_take (i := 9) (oi := ({ dst := some 288, op := Op.nilCheck (Operand.tmp 287), type := 0, pos := "law.go:200", after := #[{ on := 8, ground := Ground.data }, { on := 5, ground := Ground.guard }], guard := some (5, true) } : Oper)) (v := ?_) rfl (by kernel_rfl) (by kernel_rfl) (by kernel_rfl) (fun _ _ _ h => h) (Or.inl ⟨by rfl, ?_⟩) ?_
        rotate_left; (focus (intro w; go_simp; with_reducible rfl))
        try simp only [Act.put, List.setIfInBounds_toArray, List.set_cons_zero, List.set_cons_succ]
        refine wpAny_take (i := 10) (oi := ({ dst := some 289, op := Op.fieldAddr 80 (Operand.tmp 288) 2, type := 0, pos := "law.go:200", after := #[{ on := 9, ground := Ground.data }, { on := 5, ground := Ground.guard }], guard := some (5, true) } : Oper)) (v := ?_) rfl (by kernel_rfl) (by kernel_rfl) (by kernel_rfl) (fun _ _ _ h => h) (Or.inl ⟨by rfl, ?_⟩) ?_
        rotate_left; (focus (intro w; go_simp; with_reducible rfl))
        try simp only [Act.put, List.setIfInBounds_toArray, List.set_cons_zero, List.set_cons_succ]
        refine wpAny_ready (rs := [7, 11]) (by kernel_rfl) (by simp) ?_
        refine AllReady.cons (o := ({ dst := some 286, op := Op.call { callee := Callee.value (Operand.func 24), args := #[Operand.tmp 285], argTypes := #[70] }, type := 3, pos := "law.go:200", after := #[{ on := 6, ground := Ground.data }, { on := 5, ground := Ground.chain }, { on := 5, ground := Ground.guard }], guard := some (5, true) } : Oper)) rfl (fun K hK => ?_) ?_
        · go_simp
          go_at_call 24
          with_reducible refine hrd8.mono ?_
          rintro z w9 ⟨rfl, hw9⟩; obtain rfl := hw9.symm
          go_wp2_with fail
          try simp only [Act.put, List.setIfInBounds_toArray, List.set_cons_zero, List.set_cons_succ]
          refine wpAny_ready (rs := [11]) (by kernel_rfl) (by simp) ?_
          refine AllReady.cons (o := ({ dst := some 290, op := Op.load 3 (Operand.tmp 289), type := 3, pos := "law.go:200", after := #[{ on := 10, ground := Ground.data }, { on := 5, ground := Ground.guard }], guard := some (5, true) } : Oper)) rfl (fun K hK => ?_) AllReady.nil
          go_simp
          refine hK _ _ ?_
          clear hK K
          try simp only [Act.put, List.setIfInBounds_toArray, List.set_cons_zero, List.set_cons_succ]
          refine wpAny_take (i := 12) (oi := ({ dst := some 291, op := Op.binOp BinOp.eql 3 (Operand.tmp 286) (Operand.tmp 290) 3, type := 4, pos := "law.go:200", after := #[{ on := 7, ground := Ground.data }, { on := 11, ground := Ground.data }, { on := 5, ground := Ground.guard }], guard := some (5, true) } : Oper)) (v := ?_) rfl (by kernel_rfl) (by kernel_rfl) (by kernel_rfl) (fun _ _ _ h => h) (Or.inl ⟨by rfl, ?_⟩) ?_
          rotate_left; (focus (intro w; go_simp; with_reducible rfl))
          try simp only [Act.put, List.setIfInBounds_toArray, List.set_cons_zero, List.set_cons_succ]
          refine wpAny_take (i := 13) (oi := ({ dst := some 292, op := Op.pick (Operand.tmp 284) (Operand.tmp 291) (Operand.const (Value.bool false)), type := 4, pos := "law.go:200", after := #[{ on := 5, ground := Ground.data }, { on := 12, ground := Ground.data }], guard := none } : Oper)) (v := ?_) rfl (by kernel_rfl) (by kernel_rfl) (by kernel_rfl) (fun _ _ _ h => h) (Or.inl ⟨by rfl, ?_⟩) ?_
          rotate_left; (focus (intro w; go_simp; with_reducible rfl))
          try simp only [Act.put, List.setIfInBounds_toArray, List.set_cons_zero, List.set_cons_succ]
          refine wpAny_take (i := 14) (oi := ({ dst := some 4, op := Op.assign (Operand.tmp 292), type := 4, pos := "law.go:200", after := #[{ on := 13, ground := Ground.data }, { on := 7, ground := Ground.chain }, { on := 0, ground := Ground.phase }, { on := 1, ground := Ground.phase }, { on := 2, ground := Ground.phase }, { on := 3, ground := Ground.phase }, { on := 4, ground := Ground.phase }, { on := 5, ground := Ground.phase }, { on := 6, ground := Ground.phase }, { on := 7, ground := Ground.phase }, { on := 8, ground := Ground.phase }, { on := 9, ground := Ground.phase }, { on := 10, ground := Ground.phase }, { on := 11, ground := Ground.phase }, { on := 12, ground := Ground.phase }, { on := 13, ground := Ground.phase }], guard := none } : Oper)) (v := ?_) rfl (by kernel_rfl) (by kernel_rfl) (by kernel_rfl) (fun _ _ _ h => h) (Or.inl ⟨by rfl, ?_⟩) ?_
          rotate_left; (focus (intro w; go_simp; with_reducible rfl))
          try simp only [Act.put, List.setIfInBounds_toArray, List.set_cons_zero, List.set_cons_succ]
          refine wpAny_done (by kernel_rfl) ?_ _
          go_wp2_with fail
          go_meet
          refine ⟨by first | rfl | (simp; done), ⟨σ8, E8.out.1, GzB.J.below E8.out.2 ?_⟩⟩
          (repeat (with_reducible first | exact Below.refl _ _ | refine below_drew ?_ | refine below_alloc ?_ _))
        · refine AllReady.cons (o := ({ dst := some 290, op := Op.load 3 (Operand.tmp 289), type := 3, pos := "law.go:200", after := #[{ on := 10, ground := Ground.data }, { on := 5, ground := Ground.guard }], guard := some (5, true) } : Oper)) rfl (fun K hK => ?_) AllReady.nil
          go_simp
          refine hK _ _ ?_
          clear hK K
          try simp only [Act.put, List.setIfInBounds_toArray, List.set_cons_zero, List.set_cons_succ]
          refine wpAny_ready (rs := [7]) (by kernel_rfl) (by simp) ?_
          refine AllReady.cons (o := ({ dst := some 286, op := Op.call { callee := Callee.value (Operand.func 24), args := #[Operand.tmp 285], argTypes := #[70] }, type := 3, pos := "law.go:200", after := #[{ on := 6, ground := Ground.data }, { on := 5, ground := Ground.chain }, { on := 5, ground := Ground.guard }], guard := some (5, true) } : Oper)) rfl (fun K hK => ?_) AllReady.nil
          go_simp
          go_at_call 24
          with_reducible refine hrd8.mono ?_
          rintro z w9 ⟨rfl, hw9⟩; obtain rfl := hw9.symm
          go_wp2_with fail
          try simp only [Act.put, List.setIfInBounds_toArray, List.set_cons_zero, List.set_cons_succ]
          refine wpAny_take (i := 12) (oi := ({ dst := some 291, op := Op.binOp BinOp.eql 3 (Operand.tmp 286) (Operand.tmp 290) 3, type := 4, pos := "law.go:200", after := #[{ on := 7, ground := Ground.data }, { on := 11, ground := Ground.data }, { on := 5, ground := Ground.guard }], guard := some (5, true) } : Oper)) (v := ?_) rfl (by kernel_rfl) (by kernel_rfl) (by kernel_rfl) (fun _ _ _ h => h) (Or.inl ⟨by rfl, ?_⟩) ?_
          rotate_left; (focus (intro w; go_simp; with_reducible rfl))
          try simp only [Act.put, List.setIfInBounds_toArray, List.set_cons_zero, List.set_cons_succ]
          refine wpAny_take (i := 13) (oi := ({ dst := some 292, op := Op.pick (Operand.tmp 284) (Operand.tmp 291) (Operand.const (Value.bool false)), type := 4, pos := "law.go:200", after := #[{ on := 5, ground := Ground.data }, { on := 12, ground := Ground.data }], guard := none } : Oper)) (v := ?_) rfl (by kernel_rfl) (by kernel_rfl) (by kernel_rfl) (fun _ _ _ h => h) (Or.inl ⟨by rfl, ?_⟩) ?_
          rotate_left; (focus (intro w; go_simp; with_reducible rfl))
          try simp only [Act.put, List.setIfInBounds_toArray, List.set_cons_zero, List.set_cons_succ]
          refine wpAny_take (i := 14) (oi := ({ dst := some 4, op := Op.assign (Operand.tmp 292), type := 4, pos := "law.go:200", after := #[{ on := 13, ground := Ground.data }, { on := 7, ground := Ground.chain }, { on := 0, ground := Ground.phase }, { on := 1, ground := Ground.phase }, { on := 2, ground := Ground.phase }, { on := 3, ground := Ground.phase }, { on := 4, ground := Ground.phase }, { on := 5, ground := Ground.phase }, { on := 6, ground := Ground.phase }, { on := 7, ground := Ground.phase }, { on := 8, ground := Ground.phase }, { on := 9, ground := Ground.phase }, { on := 10, ground := Ground.phase }, { on := 11, ground := Ground.phase }, { on := 12, ground := Ground.phase }, { on := 13, ground := Ground.phase }], guard := none } : Oper)) (v := ?_) rfl (by kernel_rfl) (by kernel_rfl) (by kernel_rfl) (fun _ _ _ h => h) (Or.inl ⟨by rfl, ?_⟩) ?_
          rotate_left; (focus (intro w; go_simp; with_reducible rfl))
          try simp only [Act.put, List.setIfInBounds_toArray, List.set_cons_zero, List.set_cons_succ]
          refine wpAny_done (by kernel_rfl) ?_ _
          go_wp2_with fail
          go_meet
          refine ⟨by first | rfl | (simp; done), ⟨σ8, E8.out.1, GzB.J.below E8.out.2 ?_⟩⟩
          (repeat (with_reducible first | exact Below.refl _ _ | refine below_drew ?_ | refine below_alloc ?_ _))
      case rest => as_aux_lemma =>
        obtain ⟨rfl, hC⟩ := hcut
        obtain ⟨σ8, hp8, hj8⟩ := hC.out
        have E9 := Base.Aside.mk (And.intro hp8 hj8)
        clear hp8 hj8 hC
        go_wp2
        go_ret
        exact ⟨σ8, E9.out.1, by first | rfl | (simp; done), HP.out.2.1 _ _ _ E9.out.2⟩
end
end Go.Proofs.YthlejchcnfdcpaaGreat.GzW
