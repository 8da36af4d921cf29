/- Proved: moves: Pull answers the same on both sides (the plain law of the grants). Proved: the views of a call of the script (the plain law of the grants). Proved: play: Map (the plain law of the grants). -/
import Derived.Test.YthlejchcnfdcpaaGreatMlat
import Derived.Test.YthlejchcnfdcpaaGreatMlau
import Derived.Test.YthlejchcnfdcpaaGreatMlbo
import Derived.Deep.QuietTactic
import Derived.BigQuiet
namespace Go.Proofs.YthlejchcnfdcpaaGreat.GzP
open Go.RowKit Go.Maps Base GaA GaB GaC GaD GmA GmB GmC GpA GgA GeA GeB GfA GfB GfC GfD GjA GjB GjC GjE GjK GwA GwB GwE GwF GwJ GwO GwQ RpA RmA RmB RgA GxA GxC GxD GyA GyB GyE GyN GbA GzA GzB GzC GzD GfF GoB GxB GzE GzF GzG GzH GzI GzJ GzK GzL GzM GzN GzO
set_option linter.unusedVariables false
set_option linter.unusedSimpArgs false

section
variable {w0 W W' : World} {a : BX} {P Q : Value} {σ τ σ' τ' : SS} {v : VP} {rp rd : Nat}
set_option maxHeartbeats 16000000 in
set_option maxRecDepth 100000 in
theorem moves_pull (hs : St w0.heap.size a) (hp : Pu a σ) (hx : a.xb = w0.heap.size) (o : OpV) (ok : OkO w0 o) (hw : o.wh = 10) (h : JV w0 W a P Q σ σ v 0 0) (h3 : V3 W v.B v.vb v.db v.cb a.mb 0 v.ps) :
    Calls Tryz.prog 35 #[.pointer (some ⟨w0.heap.size, 0, none⟩), .pointer (some ⟨v.vb, 0, none⟩), .pointer (some ⟨v.ub, 0, none⟩), .agg (opC o)] W fun e w' => ∃ σ' r, Pu a σ' ∧ e = .returned (.bool true) ∧ JV w0 w' a P Q σ' σ' v r r := by
  have hb1 := below_alloc (Below.refl W.heap.size W) (.cells (opC o) 37)
  have h1 := (h.below hb1).box (blk_new W (.cells (opC o) 37))
  have h31 := V3.below h3 hb1
  obtain ⟨ys, er, σ', r, hpu, hy6, hP, hD⟩ := pull_both (v := v) (a := bxo a W.heap.size o) (P := P) (Q := Q) hs hp o.A o.D o.ef ok.i.2.2.2.2.1
  have HS : ∀ W' σ τ r r', JV w0 W' (bxo a W.heap.size o) P Q σ τ v r r' → W'.cell? ⟨w0.heap.size, 1, none⟩ = some (.pointer (some ⟨a.gb, 0, none⟩)) ∧ W'.cell? ⟨w0.heap.size, 4, none⟩ = some (.pointer (some ⟨a.hb, 0, none⟩)) ∧ W'.cell? ⟨W.heap.size, 1, none⟩ = some (.int .i64 o.A) ∧ W'.cell? ⟨W.heap.size, 4, none⟩ = some (.int .i64 o.D) ∧ W'.cell? ⟨W.heap.size, 6, none⟩ = some (.bool o.ef.gr) ∧ W'.cell? ⟨W.heap.size, 7, none⟩ = some (.int .i64 o.ef.dom) ∧ W'.cell? ⟨W.heap.size, 8, none⟩ = some (.int .i64 o.ef.ref) ∧ W'.cell? ⟨W.heap.size, 9, none⟩ = some (.int .i64 o.ef.gpfn) ∧ W'.cell? ⟨W.heap.size, 10, none⟩ = some (.int .i64 o.ef.off) :=
    fun W' σ τ r r' hj => ⟨(xb1 hj.j hx).2.1, (xb1 hj.j hx).2.2.2, obc hj.j 1, obc hj.j 4, obc hj.j 6, obc hj.j 7, obc hj.j 8, obc hj.j 9, obc hj.j 10⟩
  have HL : ∀ W' σ τ r r', JV w0 W' (bxo a W.heap.size o) P Q σ τ v r r' → w0.heap.size < W'.heap.size ∧ W.heap.size < W'.heap.size := fun W' σ τ r r' hj => ⟨blk_lt (jblk hj.j hx), blk_lt (obx hj.j)⟩
  have HU : ∀ W' σ τ r r', JV w0 W' (bxo a W.heap.size o) P Q σ τ v r r' → JV w0 W' a P Q σ τ v r r' := fun W' σ τ r r' hj => hj.unbox
  have H0 : Base.Aside (Pu a σ' ∧ ∀ W' σ τ r r', JV w0 W' (bxo a W.heap.size o) P Q σ τ v r r' → JV w0 W' a P Q σ τ v r r') := ⟨⟨hpu, HU⟩⟩
  have hP2 : ∀ W', JV w0 W' (bxo a W.heap.size o) P Q σ σ v 0 0 → V3 W' v.B v.vb v.db v.cb a.mb 0 v.ps → Calls Tryz.prog 86 #[.pointer (some ⟨a.gb, 0, none⟩), .pointer (some ⟨v.vb, 0, none⟩), .int .i64 o.A, .agg #[.bool o.ef.gr, .int .i64 o.ef.dom, .int .i64 o.ef.ref, .int .i64 o.ef.gpfn, .int .i64 o.ef.off], .int .i64 o.D] W' fun e w' => ∃ A l c, l = ys.length ∧ e = .returned (.tuple #[.slice A l c, .int .i64 er]) ∧ Bytes w' A ys ∧ (∀ x, A = some x → x.block ≠ v.ub ∧ x.block ∉ a.bs) ∧ JV w0 w' (bxo a W.heap.size o) P Q σ' σ v r 0 := hP
  have hD2 : ∀ W', JV w0 W' (bxo a W.heap.size o) P Q σ' σ v r 0 → Calls Tryz.prog 87 #[.pointer (some ⟨a.hb, 0, none⟩), .pointer (some ⟨v.ub, 0, none⟩), .int .i64 o.A, .agg #[.bool o.ef.gr, .int .i64 o.ef.dom, .int .i64 o.ef.ref, .int .i64 o.ef.gpfn, .int .i64 o.ef.off], .int .i64 o.D] W' fun e w' => ∃ A l c, l = ys.length ∧ e = .returned (.tuple #[.slice A l c, .int .i64 er]) ∧ Bytes w' A ys ∧ JV w0 w' (bxo a W.heap.size o) P Q σ' σ' v r r ∧ Chg (fun x => x = v.ub ∨ x ∈ a.bs) W' w' := hD
  have E1 := Base.Aside.mk (And.intro h1 h31)
  generalize hax : bxo a W.heap.size o = ax at HS HL hP2 hD2 H0 E1
  obtain ⟨n, hn⟩ : ∃ n, n = ys.length := ⟨_, rfl⟩
  rw [← hn] at hP2 hD2
  have HN := Base.Aside.mk hn
  have HP2 := Base.Aside.mk hP2
  unfold opC
  clear hP hD h1 h31 h h3 hb1 HU hpu hax ok hp hs hP2 hy6 hn
  obtain ⟨wh, A, B, C, D, on, ⟨fg, fd, fr, fp, fo⟩, ⟨tg, td, tr, tp, to_⟩, bA, bc, zs, e, pA, pc, ps⟩ := o
  simp only at hw HS hD2 HP2 E1 ⊢
  subst hw
  go_enter Tryz.func35, Tryz.ntmps35
  go_upto_region 7 with fail
  refine wp_world (fun W2 => JV w0 W2 ax P Q σ σ v 0 0 ∧ V3 W2 v.B v.vb v.db v.cb a.mb 0 v.ps) E1.out ?_
  intro W2 ⟨hj, hv3⟩
  have hk := HS W2 _ _ _ _ hj
  obtain ⟨L1, L2⟩ := HL W2 _ _ _ _ hj
  have hP3 := fun W' (hW : Below W2.heap.size W2 W') => HP2.out W' (hj.below hW) (V3.below hv3 hW)
  have E2 := Base.Aside.mk hj
  clear hj hv3
  go_cut [9, 10] from 79 to 94 (fun u1 u2 wx => ∃ A1 c1, u1 = .slice A1 n c1 ∧ u2 = .int .i64 er ∧ Base.Aside (Bytes wx A1 ys ∧ (∀ x, A1 = some x → x.block ≠ v.ub ∧ x.block ∉ a.bs) ∧ JV w0 wx ax P Q σ' σ v r 0))
  case first =>
    go_region_held3 (fun W' => W'.cell? ⟨w0.heap.size, 1, none⟩ = some (.pointer (some ⟨a.gb, 0, none⟩)) ∧ W'.cell? ⟨w0.heap.size, 4, none⟩ = some (.pointer (some ⟨a.hb, 0, none⟩)) ∧ W'.cell? ⟨W.heap.size, 1, none⟩ = some (.int .i64 A) ∧ W'.cell? ⟨W.heap.size, 4, none⟩ = some (.int .i64 D) ∧ W'.cell? ⟨W.heap.size, 6, none⟩ = some (.bool fg) ∧ W'.cell? ⟨W.heap.size, 7, none⟩ = some (.int .i64 fd) ∧ W'.cell? ⟨W.heap.size, 8, none⟩ = some (.int .i64 fr) ∧ W'.cell? ⟨W.heap.size, 9, none⟩ = some (.int .i64 fp) ∧ W'.cell? ⟨W.heap.size, 10, none⟩ = some (.int .i64 fo))
      (first
        | go_keep
        | (with_reducible exact hk)
        | (with_reducible exact HS _ _ _ _ _ E6.out.2.2)
        | (refine HS _ _ _ _ _ (JV.below E2.out ?_); (repeat (with_reducible first | exact Below.refl _ _ | refine below_drew ?_ | refine below_alloc ?_ _)); done)
        | (refine HS _ _ _ _ _ (JV.below E6.out.2.2 ?_); (repeat (with_reducible first | exact Below.refl _ _ | refine below_drew ?_ | refine below_alloc ?_ _)); done))
      ((first
        | (go_at_call 86; (with_reducible refine (hP3 _ ?_).mono ?_); (focus (repeat (with_reducible first | exact Below.refl _ _ | refine below_drew ?_ | refine below_alloc ?_ _))); rintro z w6 ⟨A1, l1, c1, rfl, rfl, hb6, hn6, hj6⟩; have E6 := Base.Aside.mk (And.intro hb6 (And.intro hn6 hj6)); clear hb6 hn6 hj6)))
    all_goals
      go_wp2_with fail
      go_meet
    all_goals
      refine ⟨A1, c1, rfl, rfl, ⟨E6.out.1.below ?_, E6.out.2.1, JV.below E6.out.2.2 ?_⟩⟩
      all_goals (repeat (with_reducible first | exact Below.refl _ _ | refine below_drew ?_ | refine below_alloc ?_ _))
  case rest =>
    obtain ⟨A1, c1, rfl, rfl, hA⟩ := hcut
    have hk := HS wc _ _ _ _ hA.out.2.2
    obtain ⟨L1, L2⟩ := HL wc _ _ _ _ hA.out.2.2
    have hD3 := fun W' (hW : Below wc.heap.size wc W') => (hD2 W' (hA.out.2.2.below hW)).mono (R' := fun e w' => ∃ A l c, l = n ∧ e = .returned (.tuple #[.slice A l c, .int .i64 er]) ∧ Bytes w' A1 ys ∧ Bytes w' A ys ∧ JV w0 w' ax P Q σ' σ' v r r) (fun e w' ⟨A, l, c, q1, q2, q3, q4, q5⟩ => ⟨A, l, c, q1, q2, (hA.out.1.below hW).chg q5 (fun x hx hor => hor.elim (hA.out.2.1 x hx).1 (hA.out.2.1 x hx).2), q3, q4⟩)
    have E2 := Base.Aside.mk hA.out.2.2
    clear hD2 hP3 HP2 hA
    go_upto_region 8 with fail
    go_cut [11, 12] from 94 to 109 (fun u1 u2 wx => ∃ A2 c2, u1 = .slice A2 n c2 ∧ u2 = .int .i64 er ∧ Base.Aside (Bytes wx A1 ys ∧ Bytes wx A2 ys ∧ JV w0 wx ax P Q σ' σ' v r r))
    case first =>
      go_region_held3 (fun W' => W'.cell? ⟨w0.heap.size, 1, none⟩ = some (.pointer (some ⟨a.gb, 0, none⟩)) ∧ W'.cell? ⟨w0.heap.size, 4, none⟩ = some (.pointer (some ⟨a.hb, 0, none⟩)) ∧ W'.cell? ⟨W.heap.size, 1, none⟩ = some (.int .i64 A) ∧ W'.cell? ⟨W.heap.size, 4, none⟩ = some (.int .i64 D) ∧ W'.cell? ⟨W.heap.size, 6, none⟩ = some (.bool fg) ∧ W'.cell? ⟨W.heap.size, 7, none⟩ = some (.int .i64 fd) ∧ W'.cell? ⟨W.heap.size, 8, none⟩ = some (.int .i64 fr) ∧ W'.cell? ⟨W.heap.size, 9, none⟩ = some (.int .i64 fp) ∧ W'.cell? ⟨W.heap.size, 10, none⟩ = some (.int .i64 fo))
      (first
        | go_keep
        | (with_reducible exact hk)
        | (with_reducible exact HS _ _ _ _ _ E7.out.2.2)
        | (refine HS _ _ _ _ _ (JV.below E2.out ?_); (repeat (with_reducible first | exact Below.refl _ _ | refine below_drew ?_ | refine below_alloc ?_ _)); done)
        | (refine HS _ _ _ _ _ (JV.below E7.out.2.2 ?_); (repeat (with_reducible first | exact Below.refl _ _ | refine below_drew ?_ | refine below_alloc ?_ _)); done))
        ((first
          | (go_at_call 87; (with_reducible refine (hD3 _ ?_).mono ?_); (focus (repeat (with_reducible first | exact Below.refl _ _ | refine below_drew ?_ | refine below_alloc ?_ _))); rintro z w7 ⟨A2, l2, c2, rfl, rfl, hb7, hc7, hj7⟩; have E7 := Base.Aside.mk (And.intro hb7 (And.intro hc7 hj7)); clear hb7 hc7 hj7)))
      all_goals
        go_wp2_with fail
        go_meet
      all_goals
        refine ⟨A2, c2, rfl, rfl, ⟨E7.out.1.below ?_, E7.out.2.1.below ?_, JV.below E7.out.2.2 ?_⟩⟩
        all_goals (repeat (with_reducible first | exact Below.refl _ _ | refine below_drew ?_ | refine below_alloc ?_ _))
    case rest =>
      obtain ⟨A2, c2, rfl, rfl, hB⟩ := hcut
      have hcv1 := conv_bytes hB.out.1 n c1 HN.out
      have hcv2 := conv_bytes hB.out.2.1 n c2 HN.out
      clear hk L1 L2 hD3 E2 HS HL
      go_wp2
      go_ret
      exact ⟨σ', r, H0.out.1, by first | rfl | (simp; done), H0.out.2 _ _ _ _ _ hB.out.2.2⟩
end
end Go.Proofs.YthlejchcnfdcpaaGreat.GzP
namespace Go.Proofs.YthlejchcnfdcpaaGreat.GzQ
open Go.RowKit Go.Maps Base GaA GaB GaC GaD GmA GmB GmC GpA GgA GeA GeB GfA GfB GfC GfD GjA GjB GjC GjE GjK GwA GwB GwE GwF GwJ GwO GwQ RpA RmA RmB RgA GxA GxC GxD GyA GyB GyE GyN GbA GzA GzB GzC GzD GfF GoB GxB GzE GzF GzG GzH GzI GzJ GzK GzL GzM GzN GzO GzP
set_option linter.unusedVariables false
set_option linter.unusedSimpArgs false

section
variable {w0 W W' : World} {a : BX} {P Q : Value} {σ τ σ' τ' : SS} {v : VP} {rp rd : Nat}
theorem cr_zero : GvA.cr 0 = 0 := rfl
theorem pks_below {A : Option Addr} {ps : List Pk} (h : GwE.Pks W A ps) (hb : Below W.heap.size W W') : GwE.Pks W' A ps := by
  rcases h with h | ⟨x, h1, h2, h3⟩
  · exact .inl h
  · exact .inr ⟨x, h1, Nat.lt_of_lt_of_le h2 hb.size, fun i p hp => GwE.PkAt.below (h3 i p hp) (by rw [add_block]; exact h2) hb⟩
/-- Behind the program's view. -/
structure HalfV (w0 W : World) (a : BX) (P Q : Value) (σ : SS) (B vb db cb : Nat) (ps : List Pk) : Prop where
  j : J w0 W a P Q σ σ
  v : V3 W B vb db cb a.mb 0 ps
  lo : w0.heap.size ≤ B ∧ a.mb < B ∧ a.fb < B ∧ a.hm < B ∧ (∀ i, i < 3 → a.fm i < B ∧ a.pm i < B)
theorem HalfV.below {B vb db cb : Nat} {ps : List Pk} (h : HalfV w0 W a P Q σ B vb db cb ps) (hb : Below W.heap.size W W') : HalfV w0 W' a P Q σ B vb db cb ps := ⟨h.j.below hb, V3.below h.v hb, h.lo⟩
theorem newP (hp : Pu a σ) (h : J w0 W a P Q σ σ) (A : Option Addr) (c : Nat) (ps : List Pk) (hps : GwE.Pks w0 A ps) (h64 : ps.length ≤ 64) : Calls Tryz.prog 20 #[.pointer (some ⟨a.mb, 0, none⟩), .slice A ps.length c] W fun e w' => ∃ B vb db cb, e = .returned (.tuple #[.pointer (some ⟨vb, 0, none⟩), .int .i64 0]) ∧ HalfV w0 w' a P Q σ B vb db cb ps := by
  refine (GwE.new_pokes h.p.m (by rw [hp.n]; omega) A c ps (pks_below hps h.x.bel) h64).mono ?_
  rintro e w' ⟨vb, db, cb, h1, h2, h3⟩
  exact ⟨W.heap.size, vb, db, cb, h1, h.below h3, h2, h.x.bel.size, h.p.m.lt.1, h.p.m.lt.2, h.p.k.lt, fun i hi => ⟨(h.p.p i hi).mf.lt, (h.p.p i hi).mp.lt⟩⟩
theorem newD {B vb db cb : Nat} {ps : List Pk} (h : HalfV w0 W a P Q σ B vb db cb ps) (A : Option Addr) (c : Nat) (hps : GwE.Pks w0 A ps) (h64 : ps.length ≤ 64) : Calls Tryz.prog 21 #[.pointer (some ⟨a.rb, 0, none⟩), .slice A ps.length c] W fun e w' => ∃ ub, e = .returned (.tuple #[.pointer (some ⟨ub, 0, none⟩), .int .i64 0]) ∧ JV w0 w' a P Q σ σ ⟨B, vb, db, cb, ub, A, c, ps⟩ 0 0 ∧ V3 w' B vb db cb a.mb 0 ps := by
  refine (GxD.vnew_any (rb := a.rb) (A := A) (cap := c) ps.length W h64).mono ?_
  rintro e w' ⟨ub, h1, h2, h3, h4⟩
  have hv := V3.below h.v h4
  exact ⟨ub, h1, ⟨h.j.below h4, hv.blk, h2, hps, h64, h.lo.1, hv.ge.1, h.lo.2.1, h.lo.2.2.1, h.lo.2.2.2.1, h.lo.2.2.2.2, Nat.le_trans h.j.x.bel.size h3⟩, hv⟩
theorem moves_any (hs : St w0.heap.size a) (hp : Pu a σ) (hx : a.xb = w0.heap.size) (o : OpV) (ok : OkO w0 o) (h : JV w0 W a P Q σ σ v 0 0) (h3 : V3 W v.B v.vb v.db v.cb a.mb 0 v.ps) :
    Calls Tryz.prog 35 #[.pointer (some ⟨w0.heap.size, 0, none⟩), .pointer (some ⟨v.vb, 0, none⟩), .pointer (some ⟨v.ub, 0, none⟩), .agg (opC o)] W fun e w' => ∃ σ' r, Pu a σ' ∧ e = .returned (.bool true) ∧ JV w0 w' a P Q σ' σ' v r r := by
  by_cases h4 : o.wh = 4
  · exact moves_copy hs hp hx o ok h4 h h3
  by_cases h5 : o.wh = 5
  · exact moves_transfer hs hp hx o ok h5 h h3
  by_cases h10 : o.wh = 10
  · exact moves_pull hs hp hx o ok h10 h h3
  exact moves_push hs hp hx o ok ⟨h4, h5, h10⟩ h h3
/-- What play answers. -/
def PlayOut (w0 : World) (a : BX) (P Q : Value) (e : Ending) (w' : World) : Prop := ∃ σ', Pu a σ' ∧ e = .returned (.bool true) ∧ J w0 w' a P Q σ' σ'
set_option maxHeartbeats 16000000 in
set_option maxRecDepth 100000 in
/-- A call with too many pokes. -/
theorem play_long (hs : St w0.heap.size a) (hp : Pu a σ) (hx : a.xb = w0.heap.size) (o : OpV) (h64 : 64 < o.ps.length) (h : J w0 W a P Q σ σ) :
    Calls Tryz.prog 5 #[.pointer (some ⟨w0.heap.size, 0, none⟩), .agg (opC o)] W (PlayOut w0 a P Q) := by
  have hb1 := below_alloc (Below.refl W.heap.size W) (.cells (opC o) 37)
  have h1 : J w0 (W.alloc (.cells (opC o) 37)) (bxo a W.heap.size o) P Q σ σ := (h.below hb1).box (blk_new W (.cells (opC o) 37))
  have HS : ∀ W', J w0 W' (bxo a W.heap.size o) P Q σ σ → W'.cell? ⟨w0.heap.size, 0, none⟩ = some (.pointer (some ⟨a.mb, 0, none⟩)) ∧ W'.cell? ⟨w0.heap.size, 3, none⟩ = some (.pointer (some ⟨a.rb, 0, none⟩)) ∧ W'.cell? ⟨W.heap.size, 27, none⟩ = some (.slice o.pA o.ps.length o.pc) := fun W' hj => ⟨(xb1 hj hx).1, (xb1 hj hx).2.2.1, obc hj 27⟩
  have HL : ∀ W', J w0 W' (bxo a W.heap.size o) P Q σ σ → w0.heap.size < W'.heap.size ∧ W.heap.size < W'.heap.size := fun W' hj => ⟨blk_lt (jblk hj hx), blk_lt (obx hj)⟩
  have HU : ∀ W', J w0 W' (bxo a W.heap.size o) P Q σ σ → J w0 W' a P Q σ σ := fun W' hj => J.unbox hj
  have hvn : ∀ W', J w0 W' (bxo a W.heap.size o) P Q σ σ → _ := fun W' hj => GwE.new_long hj.p.m (by rw [hp.n]; omega) o.pA o.ps.length o.pc h64
  have hun := fun W' => GxD.vnew_long (A := o.pA) (cap := o.pc) (.pointer (some ⟨a.rb, 0, none⟩)) o.ps.length W' h64
  obtain ⟨ax, hax⟩ : ∃ ax, ax = bxo a W.heap.size o := ⟨_, rfl⟩
  have hxa : ax.toBA = a.toBA := by rw [hax]; rfl
  rw [← hax] at h1 HS HL HU hvn
  rw [hxa] at hvn
  have E1 := Base.Aside.mk h1
  have HP := Base.Aside.mk (And.intro hp HU)
  unfold opC
  clear h1 h hb1 HU hax hxa hp hs
  obtain ⟨wh, A, B, C, D, on, ⟨fg, fd, fr, fp, fo⟩, ⟨tg, td, tr, tp, to_⟩, bA, bc, zs, e, pA, pc, ps⟩ := o
  simp only at h64 HS hvn hun E1 ⊢
  go_enter Tryz.func5, Tryz.ntmps5
  go_upto_region 1 with fail
  refine wp_world (fun W2 => J w0 W2 ax P Q σ σ) E1.out ?_
  intro W2 hj
  have hk := HS W2 hj
  obtain ⟨L1, L2⟩ := HL W2 hj
  have hv2 := fun W' (hW : Below W2.heap.size W2 W') => hvn W' (hj.below hW)
  have E2 := Base.Aside.mk hj
  clear hj
  go_cut [5, 6] from 17 to 27 (fun u1 u2 wx => u1 = .pointer none ∧ u2 = .int .i64 2 ∧ Base.Aside (J w0 wx ax P Q σ σ))
  case first =>
    go_region_held3 (fun W' => W'.cell? ⟨w0.heap.size, 0, none⟩ = some (.pointer (some ⟨a.mb, 0, none⟩)) ∧ W'.cell? ⟨w0.heap.size, 3, none⟩ = some (.pointer (some ⟨a.rb, 0, none⟩)) ∧ W'.cell? ⟨W.heap.size, 27, none⟩ = some (.slice pA ps.length pc))
      (first
        | go_keep
        | (with_reducible exact hk)
        | (refine HS _ (GzB.J.below E2.out ?_); (repeat (with_reducible first | exact Below.refl _ _ | refine below_drew ?_ | refine below_alloc ?_ _)); done))
      ((first
        | (go_at_call 20; (with_reducible refine (hv2 _ ?_).mono ?_); (focus (repeat (with_reducible first | exact Below.refl _ _ | refine below_drew ?_ | refine below_alloc ?_ _))); rintro z w9 ⟨rfl, hw9⟩; obtain rfl := hw9.symm)))
    all_goals
      go_wp2_with fail
      go_meet
    all_goals
      refine ⟨rfl, rfl, ⟨GzB.J.below E2.out ?_⟩⟩
      (repeat (with_reducible first | exact Below.refl _ _ | refine below_drew ?_ | refine below_alloc ?_ _))
  case rest =>
    obtain ⟨rfl, rfl, hA⟩ := hcut
    have hk := HS wc hA.out
    obtain ⟨L1, L2⟩ := HL wc hA.out
    clear hv2 E2
    go_upto_region 2 with fail
    go_cut [7, 8] from 27 to 37 (fun u1 u2 wx => u1 = .pointer none ∧ u2 = .int .i64 2 ∧ Base.Aside (J w0 wx ax P Q σ σ))
    case first =>
      go_region_held3 (fun W' => W'.cell? ⟨w0.heap.size, 0, none⟩ = some (.pointer (some ⟨a.mb, 0, none⟩)) ∧ W'.cell? ⟨w0.heap.size, 3, none⟩ = some (.pointer (some ⟨a.rb, 0, none⟩)) ∧ W'.cell? ⟨W.heap.size, 27, none⟩ = some (.slice pA ps.length pc))
        (first
          | go_keep
          | (with_reducible exact hk)
          | (refine HS _ (GzB.J.below hA.out ?_); (repeat (with_reducible first | exact Below.refl _ _ | refine below_drew ?_ | refine below_alloc ?_ _)); done))
        ((first
          | (go_at_call 21; (with_reducible refine (hun _).mono ?_); rintro z w9 ⟨rfl, hw9⟩; obtain rfl := hw9.symm)))
      all_goals
        go_wp2_with fail
        go_meet
      all_goals
        refine ⟨rfl, rfl, ⟨GzB.J.below hA.out ?_⟩⟩
        (repeat (with_reducible first | exact Below.refl _ _ | refine below_drew ?_ | refine below_alloc ?_ _))
    case rest =>
      obtain ⟨rfl, rfl, hB⟩ := hcut
      clear hk L1 L2 hA HS HL
      go_wp2
      go_ret
      exact ⟨σ, HP.out.1, by first | rfl | (simp; done), HP.out.2 _ hB.out⟩
end
end Go.Proofs.YthlejchcnfdcpaaGreat.GzQ
namespace Go.Proofs.YthlejchcnfdcpaaGreat.GzT
open Go.RowKit Go.Maps Base GaA GaB GaC GaD GmA GmB GmC GpA GgA GeA GeB GfA GfB GfC GfD GjA GjB GjC GjE GjK GwA GwB GwE GwF GwJ GwO GwQ RpA RmA RmB RgA GxA GxC GxD GyA GyB GyE GyN GbA GzA GzB GzC GzD GfF GoB GxB GzE GzF GzG GzH GzI GzJ GzK GzL GzM GzN GzO GzP GzQ
set_option linter.unusedVariables false
set_option linter.unusedSimpArgs false

section
variable {w0 W W' : World} {a : BX} {P Q : Value} {σ τ σ' τ' : SS} {v : VP} {rp rd : Nat}
set_option maxHeartbeats 16000000 in
set_option maxRecDepth 100000 in
theorem play_map (hs : St w0.heap.size a) (hp : Pu a σ) (hx : a.xb = w0.heap.size) (o : OpV) (ok : OkO w0 o) (h64 : o.ps.length ≤ 64) (hw : o.wh = 0) (h : J w0 W a P Q σ σ) :
    Calls Tryz.prog 5 #[.pointer (some ⟨w0.heap.size, 0, none⟩), .agg (opC o)] W (PlayOut w0 a P Q) := by
  have hb1 := below_alloc (Below.refl W.heap.size W) (.cells (opC o) 37)
  have h1 : J w0 (W.alloc (.cells (opC o) 37)) (bxo a W.heap.size o) P Q σ σ := (h.below hb1).box (blk_new W (.cells (opC o) 37))
  have HS0 : ∀ W', J w0 W' (bxo a W.heap.size o) P Q σ σ → W'.cell? ⟨w0.heap.size, 0, none⟩ = some (.pointer (some ⟨a.mb, 0, none⟩)) ∧ W'.cell? ⟨w0.heap.size, 3, none⟩ = some (.pointer (some ⟨a.rb, 0, none⟩)) ∧ W'.cell? ⟨W.heap.size, 27, none⟩ = some (.slice o.pA o.ps.length o.pc) := fun W' hj => ⟨(xb1 hj hx).1, (xb1 hj hx).2.2.1, obc hj 27⟩
  have HS : ∀ W' σ τ, J w0 W' (bxo a W.heap.size o) P Q σ τ → W'.cell? ⟨w0.heap.size, 1, none⟩ = some (.pointer (some ⟨a.gb, 0, none⟩)) ∧ W'.cell? ⟨w0.heap.size, 4, none⟩ = some (.pointer (some ⟨a.hb, 0, none⟩)) ∧ W'.cell? ⟨W.heap.size, 0, none⟩ = some (.int .i64 o.wh) ∧ W'.cell? ⟨W.heap.size, 1, none⟩ = some (.int .i64 o.A) ∧ W'.cell? ⟨W.heap.size, 2, none⟩ = some (.int .i64 o.B) ∧ W'.cell? ⟨W.heap.size, 3, none⟩ = some (.int .i64 o.C) ∧ W'.cell? ⟨W.heap.size, 5, none⟩ = some (.bool o.on) := fun W' σ τ hj => ⟨(xb1 hj hx).2.1, (xb1 hj hx).2.2.2, obc hj 0, obc hj 1, obc hj 2, obc hj 3, obc hj 5⟩
  have HL : ∀ W' σ τ, J w0 W' (bxo a W.heap.size o) P Q σ τ → w0.heap.size < W'.heap.size ∧ W.heap.size < W'.heap.size := fun W' σ τ hj => ⟨blk_lt (jblk hj hx), blk_lt (obx hj)⟩
  have HU : ∀ W' σ τ, J w0 W' (bxo a W.heap.size o) P Q σ τ → J w0 W' a P Q σ τ := fun W' σ τ hj => J.unbox hj
  have hvn : ∀ W', J w0 W' (bxo a W.heap.size o) P Q σ σ → Calls Tryz.prog 20 #[.pointer (some ⟨a.mb, 0, none⟩), .slice o.pA o.ps.length o.pc] W' fun e w' => ∃ B vb db cb, e = .returned (.tuple #[.pointer (some ⟨vb, 0, none⟩), .int .i64 0]) ∧ HalfV w0 w' (bxo a W.heap.size o) P Q σ B vb db cb o.ps := fun W' hj => newP (a := bxo a W.heap.size o) hp hj o.pA o.pc o.ps ok.p h64
  have hun : ∀ W' B vb db cb, HalfV w0 W' (bxo a W.heap.size o) P Q σ B vb db cb o.ps → Calls Tryz.prog 21 #[.pointer (some ⟨a.rb, 0, none⟩), .slice o.pA o.ps.length o.pc] W' fun e w' => ∃ ub, e = .returned (.tuple #[.pointer (some ⟨ub, 0, none⟩), .int .i64 0]) ∧ JV w0 w' (bxo a W.heap.size o) P Q σ σ ⟨B, vb, db, cb, ub, o.pA, o.pc, o.ps⟩ 0 0 ∧ V3 w' B vb db cb a.mb 0 o.ps := fun W' B vb db cb hj => newD (a := bxo a W.heap.size o) hj o.pA o.pc ok.p h64
  have HC : ∀ v : VP, Two (fun x y => .tuple #[.int .i64 x, .int .i64 y]) w0 (bxo a W.heap.size o) P Q σ v (fun W R => Calls Tryz.prog 22 #[.pointer (some ⟨a.gb, 0, none⟩), .pointer (some ⟨v.vb, 0, none⟩), .int .i64 o.A, .int .i64 o.B, .int .i64 o.C, .bool o.on] W R) (fun W R => Calls Tryz.prog 23 #[.pointer (some ⟨a.hb, 0, none⟩), .pointer (some ⟨v.ub, 0, none⟩), .int .i64 o.A, .int .i64 o.B, .int .i64 o.C, .bool o.on] W R) := fun v => map_both (v := v) (a := bxo a W.heap.size o) (P := P) (Q := Q) hs hp o.A o.B o.C ok.i.2.1 o.on
  obtain ⟨ax, hax⟩ : ∃ ax, ax = bxo a W.heap.size o := ⟨_, rfl⟩
  have hxa : ax.toBA = a.toBA := by rw [hax]; rfl
  rw [← hax] at h1 HS0 HS HL HU hvn hun HC
  have E1 := Base.Aside.mk h1
  have HP := Base.Aside.mk (And.intro hp (And.intro HU hxa))
  have HVN := Base.Aside.mk hvn
  have HUN := Base.Aside.mk hun
  have HCA := Base.Aside.mk HC
  clear HC
  unfold opC
  clear h1 h hb1 HU hp hs hvn hun ok hax
  obtain ⟨wh, A, B, C, D, on, ⟨fg, fd, fr, fp, fo⟩, ⟨tg, td, tr, tp, to_⟩, bA, bc, zs, e, pA, pc, ps⟩ := o
  simp only at hw h64 HS0 HS HVN HUN HCA E1 ⊢
  subst hw
  go_enter Tryz.func5, Tryz.ntmps5
  go_upto_region 1 with fail
  refine wp_world (fun W2 => J w0 W2 ax P Q σ σ) E1.out ?_
  intro W2 hj
  have hk := HS0 W2 hj
  obtain ⟨L1, L2⟩ := HL W2 _ _ hj
  have hv2 := fun W' (hW : Below W2.heap.size W2 W') => HVN.out W' (hj.below hW)
  have E2 := Base.Aside.mk hj
  clear hj
  go_cut [5, 6] from 17 to 27 (fun u1 u2 wx => ∃ B vb db cb, u1 = .pointer (some ⟨vb, 0, none⟩) ∧ u2 = .int .i64 0 ∧ Base.Aside (HalfV w0 wx ax P Q σ B vb db cb ps))
  case first =>
    go_region_held3 (fun W' => W'.cell? ⟨w0.heap.size, 0, none⟩ = some (.pointer (some ⟨a.mb, 0, none⟩)) ∧ W'.cell? ⟨w0.heap.size, 3, none⟩ = some (.pointer (some ⟨a.rb, 0, none⟩)) ∧ W'.cell? ⟨W.heap.size, 27, none⟩ = some (.slice pA ps.length pc))
      (first
        | go_keep
        | (with_reducible exact hk)
        | (with_reducible exact HS0 _ E6.out.j)
        | (refine HS0 _ (GzB.J.below E2.out ?_); (repeat (with_reducible first | exact Below.refl _ _ | refine below_drew ?_ | refine below_alloc ?_ _)); done)
        | (refine HS0 _ (GzB.J.below E6.out.j ?_); (repeat (with_reducible first | exact Below.refl _ _ | refine below_drew ?_ | refine below_alloc ?_ _)); done))
      ((first
        | (go_at_call 20; (with_reducible refine (hv2 _ ?_).mono ?_); (focus (repeat (with_reducible first | exact Below.refl _ _ | refine below_drew ?_ | refine below_alloc ?_ _))); rintro z w6 ⟨B0, vb, db, cb, rfl, hj6⟩; have E6 := Base.Aside.mk hj6; clear hj6)))
    all_goals
      go_wp2_with fail
      go_meet
    all_goals
      refine ⟨B0, vb, db, cb, rfl, rfl, ⟨HalfV.below E6.out ?_⟩⟩
      (repeat (with_reducible first | exact Below.refl _ _ | refine below_drew ?_ | refine below_alloc ?_ _))
  case rest =>
    obtain ⟨B0, vb, db, cb, rfl, rfl, hA⟩ := hcut
    have hk := HS0 wc hA.out.j
    obtain ⟨L1, L2⟩ := HL wc _ _ hA.out.j
    have hu2 := fun W' (hW : Below wc.heap.size wc W') => HUN.out W' B0 vb db cb (hA.out.below hW)
    clear hv2 E2 HVN HUN
    go_upto_region 2 with fail
    go_cut [7, 8] from 27 to 37 (fun u1 u2 wx => ∃ ub, u1 = .pointer (some ⟨ub, 0, none⟩) ∧ u2 = .int .i64 0 ∧ Base.Aside (JV w0 wx ax P Q σ σ ⟨B0, vb, db, cb, ub, pA, pc, ps⟩ 0 0 ∧ V3 wx B0 vb db cb a.mb 0 ps))
    case first =>
      go_region_held3 (fun W' => W'.cell? ⟨w0.heap.size, 0, none⟩ = some (.pointer (some ⟨a.mb, 0, none⟩)) ∧ W'.cell? ⟨w0.heap.size, 3, none⟩ = some (.pointer (some ⟨a.rb, 0, none⟩)) ∧ W'.cell? ⟨W.heap.size, 27, none⟩ = some (.slice pA ps.length pc))
        (first
          | go_keep
          | (with_reducible exact hk)
          | (with_reducible exact HS0 _ E7.out.1.j)
          | (refine HS0 _ (GzB.J.below hA.out.j ?_); (repeat (with_reducible first | exact Below.refl _ _ | refine below_drew ?_ | refine below_alloc ?_ _)); done)
          | (refine HS0 _ (GzB.J.below E7.out.1.j ?_); (repeat (with_reducible first | exact Below.refl _ _ | refine below_drew ?_ | refine below_alloc ?_ _)); done))
        ((first
          | (go_at_call 21; (with_reducible refine (hu2 _ ?_).mono ?_); (focus (repeat (with_reducible first | exact Below.refl _ _ | refine below_drew ?_ | refine below_alloc ?_ _))); rintro z w7 ⟨ub, rfl, hj7, hv7⟩; have E7 := Base.Aside.mk (And.intro hj7 hv7); clear hj7 hv7)))
      all_goals
        go_wp2_with fail
        go_meet
      all_goals
        refine ⟨ub, rfl, rfl, ⟨JV.below E7.out.1 ?_, V3.below E7.out.2 ?_⟩⟩
        all_goals (repeat (with_reducible first | exact Below.refl _ _ | refine below_drew ?_ | refine below_alloc ?_ _))
    case rest =>
      obtain ⟨ub, rfl, rfl, hB⟩ := hcut
      clear hk L1 L2 hA hu2 HS0
      have hk := HS wc _ _ hB.out.1.j
      obtain ⟨L1, L2⟩ := HL wc _ _ hB.out.1.j
      go_upto_region 7 with fail
      obtain ⟨x, y, σ', r, hpu, hPm, hDm⟩ := HCA.out ⟨B0, vb, db, cb, ub, pA, pc, ps⟩
      have hxa := HP.out.2.2
      rw [hxa] at hpu hPm
      have hP2 : ∀ W', JV w0 W' ax P Q σ σ ⟨B0, vb, db, cb, ub, pA, pc, ps⟩ 0 0 → V3 W' B0 vb db cb a.mb 0 ps → Calls Tryz.prog 22 #[.pointer (some ⟨a.gb, 0, none⟩), .pointer (some ⟨vb, 0, none⟩), .int .i64 A, .int .i64 B, .int .i64 C, .bool on] W' fun e w' => e = .returned (.tuple #[.int .i64 x, .int .i64 y]) ∧ JV w0 w' ax P Q σ' σ ⟨B0, vb, db, cb, ub, pA, pc, ps⟩ r 0 := hPm
      have hD2 : ∀ W', JV w0 W' ax P Q σ' σ ⟨B0, vb, db, cb, ub, pA, pc, ps⟩ r 0 → Calls Tryz.prog 23 #[.pointer (some ⟨a.hb, 0, none⟩), .pointer (some ⟨ub, 0, none⟩), .int .i64 A, .int .i64 B, .int .i64 C, .bool on] W' fun e w' => e = .returned (.tuple #[.int .i64 x, .int .i64 y]) ∧ JV w0 w' ax P Q σ' σ' ⟨B0, vb, db, cb, ub, pA, pc, ps⟩ r r := hDm
      have hP3 := fun W' (hW : Below wc.heap.size wc W') => hP2 W' (hB.out.1.below hW) (V3.below hB.out.2 hW)
      have HPU := Base.Aside.mk hpu
      have E2 := Base.Aside.mk hB.out.1.j
      clear hB hPm hDm hpu hP2 HCA hxa
      go_cut [9, 10] from 53 to 70 (fun u1 u2 wx => u1 = .int .i64 x ∧ u2 = .int .i64 y ∧ Base.Aside (JV w0 wx ax P Q σ' σ ⟨B0, vb, db, cb, ub, pA, pc, ps⟩ r 0))
      case first =>
        go_region_held3 (fun W' => W'.cell? ⟨w0.heap.size, 1, none⟩ = some (.pointer (some ⟨a.gb, 0, none⟩)) ∧ W'.cell? ⟨w0.heap.size, 4, none⟩ = some (.pointer (some ⟨a.hb, 0, none⟩)) ∧ W'.cell? ⟨W.heap.size, 0, none⟩ = some (.int .i64 0) ∧ W'.cell? ⟨W.heap.size, 1, none⟩ = some (.int .i64 A) ∧ W'.cell? ⟨W.heap.size, 2, none⟩ = some (.int .i64 B) ∧ W'.cell? ⟨W.heap.size, 3, none⟩ = some (.int .i64 C) ∧ W'.cell? ⟨W.heap.size, 5, none⟩ = some (.bool on))
          (first
            | go_keep
            | (with_reducible exact hk)
            | (with_reducible exact HS _ _ _ E6.out.j)
            | (refine HS _ _ _ (GzB.J.below E6.out.j ?_); (repeat (with_reducible first | exact Below.refl _ _ | refine below_drew ?_ | refine below_alloc ?_ _)); done)
            | (refine HS _ _ _ (GzB.J.below E2.out ?_); (repeat (with_reducible first | exact Below.refl _ _ | refine below_drew ?_ | refine below_alloc ?_ _)); done))
          ((first
            | (go_at_call 22; (with_reducible refine (hP3 _ ?_).mono ?_); (focus (repeat (with_reducible first | exact Below.refl _ _ | refine below_drew ?_ | refine below_alloc ?_ _))); rintro z w8 ⟨rfl, hj6⟩; have E6 := Base.Aside.mk hj6; clear hj6)))
        all_goals
          go_wp2_with fail
          go_meet
        all_goals
          refine ⟨rfl, rfl, ⟨JV.below E6.out ?_⟩⟩
          (repeat (with_reducible first | exact Below.refl _ _ | refine below_drew ?_ | refine below_alloc ?_ _))
      case rest =>
        obtain ⟨rfl, rfl, hC⟩ := hcut
        have hk := HS wc _ _ hC.out.j
        obtain ⟨L1, L2⟩ := HL wc _ _ hC.out.j
        have hD3 := fun W' (hW : Below wc.heap.size wc W') => hD2 W' (hC.out.below hW)
        have E2 := Base.Aside.mk hC.out.j
        clear hP3 hD2 hC
        go_upto_region 8 with fail
        go_cut [11, 12] from 70 to 87 (fun u1 u2 wx => u1 = .int .i64 x ∧ u2 = .int .i64 y ∧ Base.Aside (JV w0 wx ax P Q σ' σ' ⟨B0, vb, db, cb, ub, pA, pc, ps⟩ r r))
        case first =>
          go_region_held3 (fun W' => W'.cell? ⟨w0.heap.size, 1, none⟩ = some (.pointer (some ⟨a.gb, 0, none⟩)) ∧ W'.cell? ⟨w0.heap.size, 4, none⟩ = some (.pointer (some ⟨a.hb, 0, none⟩)) ∧ W'.cell? ⟨W.heap.size, 0, none⟩ = some (.int .i64 0) ∧ W'.cell? ⟨W.heap.size, 1, none⟩ = some (.int .i64 A) ∧ W'.cell? ⟨W.heap.size, 2, none⟩ = some (.int .i64 B) ∧ W'.cell? ⟨W.heap.size, 3, none⟩ = some (.int .i64 C) ∧ W'.cell? ⟨W.heap.size, 5, none⟩ = some (.bool on))
            (first
              | go_keep
              | (with_reducible exact hk)
              | (with_reducible exact HS _ _ _ E7.out.j)
              | (refine HS _ _ _ (GzB.J.below E7.out.j ?_); (repeat (with_reducible first | exact Below.refl _ _ | refine below_drew ?_ | refine below_alloc ?_ _)); done)
              | (refine HS _ _ _ (GzB.J.below E2.out ?_); (repeat (with_reducible first | exact Below.refl _ _ | refine below_drew ?_ | refine below_alloc ?_ _)); done))
            ((first
              | (go_at_call 23; (with_reducible refine (hD3 _ ?_).mono ?_); (focus (repeat (with_reducible first | exact Below.refl _ _ | refine below_drew ?_ | refine below_alloc ?_ _))); rintro z w9 ⟨rfl, hj7⟩; have E7 := Base.Aside.mk hj7; clear hj7)))
          all_goals
            go_wp2_with fail
            go_meet
          all_goals
            refine ⟨rfl, rfl, ⟨JV.below E7.out ?_⟩⟩
            (repeat (with_reducible first | exact Below.refl _ _ | refine below_drew ?_ | refine below_alloc ?_ _))
        case rest =>
          obtain ⟨rfl, rfl, hD⟩ := hcut
          have hrd := fun m => reads_blk (blk_below hD.out.b (blk_lt hD.out.b) (below_drewN (Below.refl wc.heap.size wc) m))
          have k2 : wc.cell? ⟨ub, 2, none⟩ = some (.int .i64 (GvA.cr r)) := blk_cell hD.out.u 2
          have L3 : ub < wc.heap.size := blk_lt hD.out.u
          have E9 := Base.Aside.mk hD.out.j
          clear hk L1 L2 hD3 E2 hD HS HL
          go_upto_region 9 with fail
          go_quiet ((go_at_call 24; refine Calls.quiet_of_same (hrd _)))
          go_wp2
          go_ret
          exact ⟨σ', HPU.out, by first | rfl | (simp; done), HP.out.2.1 _ _ _ (GzB.J.below E9.out (below_drewN (Below.refl _ _) _))⟩
end
end Go.Proofs.YthlejchcnfdcpaaGreat.GzT
