/- Proved: Build's closures: a frame is taken; nothing is given back where nothing erred (contracts for the laws of the domains). -/
import Derived.Test.YtebhpmmibffbeaaDeC
namespace Go.Proofs.Ytebhpmmibffbeaa.DfA
open Go.RowKit Go.Maps Go.Proofs.Ytebhpmmibffbeaa.Base Go.Proofs.Ytebhpmmibffbeaa.GaA Go.Proofs.Ytebhpmmibffbeaa.GaB Go.Proofs.Ytebhpmmibffbeaa.GaC Go.Proofs.Ytebhpmmibffbeaa.GaD Go.Proofs.Ytebhpmmibffbeaa.DaB Go.Proofs.Ytebhpmmibffbeaa.DdA
set_option linter.unusedVariables false
set_option linter.unusedSimpArgs false

set_option maxHeartbeats 2000000 in
set_option maxRecDepth 100000 in
theorem build1_idle (a5 a6 a2 a4 : Addr) (u : FrameMode) (w : World) (hc : w.cell? a5 = some (.int .i64 0)) :
    CallsD Try.prog 18 #[.pointer (some a5), .pointer (some a6), .pointer (some a2), .pointer (some a4)] u w fun e u' w' => u' = u ∧ (e = .returned (.tuple #[]) ∧ w' = w) := by
  go_enter_d Try.func18, Try.ntmps18
  go_wp2
  go_end0
  exact ⟨rfl, rfl⟩
/-- Build's boxes, and the row of the frames that it has taken. -/
structure Tn (W : World) (g2 g4 g5 g6 hb d B : Nat) (V : Value) (l : List Int) : Prop where
  b2 : W.heap[g2]? = some (.cells #[.pointer (some ⟨hb, 0, none⟩)] 23 (0, 0))
  b4 : W.heap[g4]? = some (.cells #[.int .i64 d] 3 (0, 0))
  b5 : W.heap[g5]? = some (.cells #[.int .i64 0] 24 (0, 0))
  b6 : W.heap[g6]? = some (.cells #[V] 22 (0, 0))
  row : W.ownsRow B 3 1 V l.length (vals l)
  lt : g4 < B ∧ B ≤ W.heap.size
section
variable {w w' W W' : World} {g2 g4 g5 g6 hb d B mb fb : Nat} {V : Value} {l : List Int} {s : MS}
theorem row_ty {g : Nat} {cs : Array Value} {t : TypeId} {b n : Nat} {v : Value} {xs : List Value} (h : W.ownsRow b 3 1 v n xs) (hg : W.heap[g]? = some (.cells cs t (0, 0))) (ht : t ≠ 3) : ¬ v.ownBlock = some g := by
  intro e
  rcases h.2 with ⟨hv, _⟩ | ⟨g', cap', cur', hv, _, hb', _⟩
  · rw [hv] at e
    cases e
  · rw [hv] at e
    have e2 : g' = g := by simpa [Value.ownBlock] using e
    subst e2
    rw [hb'] at hg
    have e4 := Option.some.inj hg
    injection e4 with e5 e6 e7
    exact ht e6.symm
theorem Tn.chg (h : Tn W g2 g4 g5 g6 hb d B V l) {F : Nat → Prop} (hc : Chg F W W') (h2 : ¬ F g2) (h4 : ¬ F g4) (h5 : ¬ F g5) (h6 : ¬ F g6) (hr : ∀ x, V.ownBlock = some x → ¬ F x) : Tn W' g2 g4 g5 g6 hb d B V l := by
  refine ⟨hc.blk h.b2 h2, hc.blk h.b4 h4, hc.blk h.b5 h5, hc.blk h.b6 h6, ⟨h.row.1, ?_⟩, h.lt.1, Nat.le_trans h.lt.2 hc.size⟩
  rcases h.row.2 with hv | ⟨g, cap, cur, hv, hb1, hb2, hb3⟩
  · exact .inl hv
  · exact .inr ⟨g, cap, cur, hv, hb1, hc.blk hb2 (hr g (by rw [hv]; rfl)), hb3⟩
theorem Tn.below (h : Tn W g2 g4 g5 g6 hb d B V l) (hB : Below W.heap.size W W') : Tn W' g2 g4 g5 g6 hb d B V l := h.chg (Chg.below (fun _ => False) hB) (fun h => h) (fun h => h) (fun h => h) (fun h => h) (fun _ _ h => h)
theorem alloc_chg (hM : Mach W mb fb s) (dd : Int) (d0 : 0 ≤ dd) (d8 : dd < 8) (k : Nat) (hk : k < s.n) (hok : (s.fr k).own = -1) (hlow : ∀ j, j < k → (s.fr j).own ≠ -1) :
    Calls Try.prog 11 #[.pointer (some ⟨mb, 0, none⟩), .int .i64 dd] W fun e w' => e = .returned (.tuple #[.int .i64 k, .int .i64 0]) ∧ Mach w' mb fb (give s k dd) ∧ Chg (fun x => x = fb) W w' :=
  (GaD.alloc_calls W mb fb s dd d0 d8 hM k hk hok hlow).mono fun e w' ⟨q1, q2, q3, q4⟩ => ⟨q1, q2, ⟨q3.1, q3.2.1, q3.2.2.1, q3.2.2.2, fun x hx hn => q4 x hx hn⟩⟩
def TaOut (W : World) (g2 g4 g5 g6 hb d B mb fb : Nat) (V : Value) (l : List Int) (s : MS) (k : Nat) (e : Ending) (w' : World) : Prop := e = .returned (.int .i64 k) ∧ Mach w' mb fb (give s k d) ∧ (∃ V', Tn w' g2 g4 g5 g6 hb d B V' (l ++ [(k : Int)])) ∧ Chg (fun x => x = fb ∨ x = g6 ∨ V.ownBlock = some x) W w'
set_option maxHeartbeats 8000000 in
set_option maxRecDepth 100000 in
theorem take_calls (hT : Tn W g2 g4 g5 g6 hb d B V l) {hc : Array Value} (hh : W.heap[hb]? = some (.cells hc 51 (0, 0))) (h0 : hc[0]? = some (.pointer (some ⟨mb, 0, none⟩))) (hM : Mach W mb fb s) (k : Nat) (hk : k < s.n) (hok : (s.fr k).own = -1) (hlow : ∀ j, j < k → (s.fr j).own ≠ -1) (hd : d < 8) (hl : l.length ≤ 60) :
    Calls Try.prog 20 #[.pointer (some ⟨g2, 0, none⟩), .pointer (some ⟨g4, 0, none⟩), .pointer (some ⟨g5, 0, none⟩), .pointer (some ⟨g6, 0, none⟩)] W (TaOut W g2 g4 g5 g6 hb d B mb fb V l s k) := by
  obtain ⟨i0, hi, hz0, hz1, hz2⟩ := info_parts infoI
  obtain ⟨fs, m1, m2⟩ := hM.lst
  have nf : ∀ {g : Nat} {cs : Array Value} {t : TypeId}, W.heap[g]? = some (.cells cs t (0, 0)) → t ≠ 76 → g ≠ fb := fun hg ht => ty_ne hg m1 ht
  have hal := fun W' (hW : Below W.heap.size W W') => (alloc_chg (hM.below hW) d (by omega) (by omega) k hk hok hlow).mono (R' := fun e w' => e = .returned (.tuple #[.int .i64 k, .int .i64 0]) ∧ Mach w' mb fb (give s k d) ∧ Tn w' g2 g4 g5 g6 hb d B V l ∧ Chg (fun x => x = fb) W w') (fun e w' ⟨q1, q2, q3⟩ => by
    have hc3 := (Chg.below (fun x => x = fb) hW).trans q3
    refine ⟨q1, q2, hT.chg hc3 (nf hT.b2 (by decide)) (nf hT.b4 (by decide)) (nf hT.b5 (by decide)) (nf hT.b6 (by decide)) (fun x e => ?_), hc3⟩
    intro e2
    subst e2
    exact row_ty hT.row m1 (by decide) e)
  have k2 : W.cell? ⟨g2, 0, none⟩ = some (.pointer (some ⟨hb, 0, none⟩)) := blk_cell hT.b2 0
  have k4 : W.cell? ⟨g4, 0, none⟩ = some (.int .i64 d) := blk_cell hT.b4 0
  have k0 : W.cell? ⟨hb, 0, none⟩ = some (.pointer (some ⟨mb, 0, none⟩)) := (blk_cell hh 0).trans h0
  have l2 := blk_lt hT.b2
  have l4 := blk_lt hT.b4
  have l0 := blk_lt hh
  have SC : ∀ w3, Chg (fun x => x = fb) W w3 → w3.cell? ⟨g2, 0, none⟩ = some (.pointer (some ⟨hb, 0, none⟩)) ∧ w3.cell? ⟨hb, 0, none⟩ = some (.pointer (some ⟨mb, 0, none⟩)) ∧ w3.cell? ⟨g4, 0, none⟩ = some (.int .i64 d) := fun w3 hc3 => ⟨blk_cell (hc3.blk hT.b2 (nf hT.b2 (by decide))) 0, (blk_cell (hc3.blk hh (nf hh (by decide))) 0).trans h0, blk_cell (hc3.blk hT.b4 (nf hT.b4 (by decide))) 0⟩
  have n6 := nf hT.b6 (by decide)
  have HT := Base.Aside.mk hT
  clear hT hM hok hlow m1 m2 hh nf
  go_enter Try.func20, Try.ntmps20
  go_upto_region 1 with fail
  go_cut [5, 6] from 7 to 15 (fun v v2 wx => v = .int .i64 k ∧ v2 = .int .i64 0 ∧ Base.Aside (Mach wx mb fb (give s k d) ∧ Tn wx g2 g4 g5 g6 hb d B V l ∧ Chg (fun x => x = fb) W wx))
  case first => as_aux_lemma =>
    go_region_held3 (fun Wx => Wx.cell? ⟨g2, 0, none⟩ = some (.pointer (some ⟨hb, 0, none⟩)) ∧ Wx.cell? ⟨hb, 0, none⟩ = some (.pointer (some ⟨mb, 0, none⟩)) ∧ Wx.cell? ⟨g4, 0, none⟩ = some (.int .i64 d))
      (first
        | go_keep
        | (with_reducible exact ⟨k2, k0, k4⟩)
        | (with_reducible exact SC _ E4.out.2.2))
      ((first
        | (go_at_call 11; (with_reducible refine (hal _ ?_).mono ?_); (focus (repeat (with_reducible first | exact Below.refl _ _ | refine below_drew ?_ | refine below_alloc ?_ _))); rintro z w4 ⟨rfl, hM4, hT4, hC4⟩; have E4 := Base.Aside.mk (And.intro hM4 (And.intro hT4 hC4)); clear hM4 hT4 hC4)))
    all_goals
      go_wp2_with fail
      go_meet
    case rel => exact ⟨rfl, rfl, ⟨E4.out.1.below (by first | exact Below.refl _ _ | exact (Below.refl _ _).drew), E4.out.2.1.below (by first | exact Below.refl _ _ | exact (Below.refl _ _).drew), by first | exact E4.out.2.2 | exact Chg.drew E4.out.2.2⟩⟩
  case rest => as_aux_lemma =>
    obtain ⟨rfl, rfl, hA⟩ := hcut
    have c6 : wc.cell? ⟨g6, 0, none⟩ = some V := blk_cell hA.out.2.1.b6 0
    have l6 := blk_lt hA.out.2.1.b6
    clear k2 k4 k0 l2 l4 l0 SC hal
    go_wp2_with (first
      | (at_builtin; refine wpList_append_own_at _ rfl _ _ 22 rfl B 3 i0 (.int .i64 0) 1 8 Try.underlying22 hi hz0 hz1 hz2 rfl (by decide) V l.length (vals l) rfl (hA.out.2.1.row.alloc _) ⟨wc.heap.size, 0, none⟩ 1 1 [.int .i64 k] rfl rfl (cell_one_new _ _ _) (by intro u hu; simp at hu; subst hu; rfl) (by unfold maxLen; omega) (by omega) (by have := hA.out.2.1.lt.2; simp; omega) ?_)
      | go_in)
    intro v' w1 hown hg hnil hloc
    obtain ⟨g, cap, rfl, hg2⟩ := row_full hown (by omega)
    have hT := hA.out.2.1
    obtain ⟨fs, m1, m2⟩ := hA.out.1.lst
    have hcA : Chg (fun x => V.ownBlock = some x) wc w1 := (Chg.below _ (below_alloc (Below.refl wc.heap.size wc) (.cells #[.int .i64 k] 3))).trans (grown_chg hg)
    have b6 := hcA.blk hT.b6 (row_ty hT.row hT.b6 (by decide))
    have C6 := fun i => blk_cell b6 i
    have F6 := fun i => blk_frozen b6 i
    have L6 := blk_lt b6
    have hgl := (hown.lt g rfl).2
    have hM1 := hA.out.1.chg hcA (row_ty hT.row hA.out.1.blk (by decide)) (row_ty hT.row m1 (by decide))
    have b2 := hcA.blk hT.b2 (row_ty hT.row hT.b2 (by decide))
    have b4 := hcA.blk hT.b4 (fun e => by have h1 := (hT.row.lt g4 e).1; have h2 := hT.lt.1; omega)
    have b5 := hcA.blk hT.b5 (row_ty hT.row hT.b5 (by decide))
    have hset : Chg (fun x => x = g6) w1 (w1.setCell ⟨g6, 0, none⟩ (.slice (some ⟨g, 0, none⟩) (l.length + 1) cap)) := Chg.set (F := fun x => x = g6) (p := ⟨g6, 0, none⟩) (Chg.refl _ w1) (.inl rfl) _
    have n64 : g4 ≠ g6 := ty_ne b4 b6 (by decide)
    have n62 : g2 ≠ g6 := ty_ne b2 b6 (by decide)
    have n65 : g5 ≠ g6 := ty_ne b5 b6 (by decide)
    have nm6 : mb ≠ g6 := ty_ne hM1.blk b6 (by decide)
    have ng6 : g ≠ g6 := by
      rcases hown.2 with ⟨hv, _⟩ | ⟨g', cap', cur', hv, _, hb', _⟩
      · cases hv
      · have e2 : g' = g := by injection hv with e; injection e with e; injection e with e; exact e.symm
        subst e2
        exact ty_ne hb' b6 (by decide)
    have hTn : Tn (w1.setCell ⟨g6, 0, none⟩ (.slice (some ⟨g, 0, none⟩) (l.length + 1) cap)) g2 g4 g5 g6 hb d B (.slice (some ⟨g, 0, none⟩) (l.length + 1) cap) (l ++ [(k : Int)]) := by
      refine ⟨hset.blk b2 n62, hset.blk b4 n64, hset.blk b5 n65, blk_put b6 0 _ rfl, ?_, hT.lt.1, by rw [size_set]; exact Nat.le_trans hT.lt.2 hcA.size⟩
      rw [List.length_append, vals_snoc]
      refine hown.kept (row := some g6) ⟨rfl, rfl, rfl, hset.size, fun x hx hf => hset.block x hx (fun e => hf (by rw [e]))⟩ (.inr ?_)
      intro e
      have : g = g6 := by simpa [Value.ownBlock] using e
      exact ng6 this
    have hcF : Chg (fun x => x = fb ∨ x = g6 ∨ V.ownBlock = some x) W (w1.setCell ⟨g6, 0, none⟩ (.slice (some ⟨g, 0, none⟩) (l.length + 1) cap)) := (hA.out.2.2.mono fun _ h => .inl h).trans ((hcA.mono fun _ h => .inr (.inr h)).trans (hset.mono fun _ h => .inr (.inl h)))
    have HF := Base.Aside.mk (And.intro (hM1.chg hset nm6 (fun e => n6 e.symm)) (And.intro hTn hcF))
    clear hown hg hnil hloc hg2 hT m1 m2 hcA b6 hgl hM1 b2 b4 b5 hset n64 n62 n65 nm6 ng6 hTn hcF
    go_wp2
    go_ret
    exact ⟨by first | rfl | (simp; done), HF.out.1, ⟨_, HF.out.2.1⟩, HF.out.2.2⟩
end
end Go.Proofs.Ytebhpmmibffbeaa.DfA
