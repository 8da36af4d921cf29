/- Proved: what Owned and Left tell of a machine (contracts for the laws of the domains). -/
import Derived.Test.YtebhpmmibffbeaaGaD
import Derived.Maps.OwnIn
import Derived.RangeFuncGives
namespace Go.Proofs.Ytebhpmmibffbeaa.DaB
open Go.RowKit Go.Maps Go.Shelf Go.Proofs.Ytebhpmmibffbeaa.Base Go.Proofs.Ytebhpmmibffbeaa.GaA Go.Proofs.Ytebhpmmibffbeaa.GaB Go.Proofs.Ytebhpmmibffbeaa.GaC Go.Proofs.Ytebhpmmibffbeaa.GaD
attribute [local go_sem] Oper.semAt_some
set_option linter.unusedVariables false
set_option linter.unusedSimpArgs false

/-- What lay below a bound lies there, but for one block. -/
def Kx (n x : Nat) (A B : World) : Prop := Chg (fun k => k = x ∨ n ≤ k) A B
theorem kx_t {n x : Nat} {A B C : World} (h : Kx n x A B) (k : Kx n x B C) : Kx n x A C := Chg.trans h k
theorem kx_b {n x : Nat} {w : World} (hn : n ≤ w.heap.size) (W : World) (l : Nat) (o o' : Obj) (hl : w.heap.size ≤ l) (h : W.heap[l]? = some o) (h1 : o.isCells = false) (h2 : o.isWalk = false) : Kx n x W (W.putObj l o') := by
  have hb := belowK_b hn W l o o' hl h h1 h2
  exact ⟨hb.os, hb.tape, hb.output, hb.size, fun k hk hf => hb.block k (by omega)⟩
set_option maxRecDepth 100000 in
set_option maxHeartbeats 4000000 in
/-- The iterator, for every loop body that keeps what lay below. -/
theorem ofx_in (m : Nat) (hm : 1 ≤ m) (l B1 B2 mb fb n n₀ x₀ : Nat) (s : MS) (hsn : s.n = n) (o : Nat → Int) (hso : owners s = o) (owner : Int) (hn : n ≤ 1000) (hmb : mb < n₀) (hfb : fb < n₀) (hB1 : B1 < n₀) (hB2 : B2 < n₀) (hx : mb ≠ x₀ ∧ fb ≠ x₀ ∧ B1 ≠ x₀ ∧ B2 ≠ x₀) (J Jx : List Int → World → Prop) (W : World) (hJ : AbidesFrom W.heap.size J)
    (hY : ∀ pre (x : Nat) W, x < n → o x = owner → J pre W → pre.length < n → YieldAt Fence.wide (m - 1) Try.prog l #[.int .i64 x] W fun e W' =>
      (e = .returned (.bool true) ∧ J (pre ++ [(x : Int)]) W' ∧ Kx n₀ x₀ W W') ∨ (e = .returned (.bool false) ∧ Jx (pre ++ [(x : Int)]) W'))
    (hb1 : W.heap[B1]? = some (.cells #[.pointer (some ⟨mb, 0, none⟩)] 27 (0, 0))) (hb2 : W.heap[B2]? = some (.cells #[.int .i64 owner] 3 (0, 0))) (hM : Mach W mb fb s) (h0 : J [] W) :
    CallsIn Fence.wide m Try.prog 54 #[.func (.yield l) #[] #[], .pointer (some ⟨B1, 0, none⟩), .pointer (some ⟨B2, 0, none⟩)] W fun e W' => (∃ v, e = .returned v) ∧
      ((∃ ys, ys = mine o owner n ∧ J ys W') ∨ (∃ pre, (∃ k, k < n ∧ o k = owner ∧ pre = mine o owner k ++ [(k : Int)]) ∧ Jx pre W')) := by
  subst hsn
  subst hso
  have HX := Base.Aside.mk (And.intro hx (And.intro hb1 hb2))
  have G1 : W.cell? ⟨B1, 0, none⟩ = some (.pointer (some ⟨mb, 0, none⟩)) := blk_cell hb1 0
  have G2 : W.cell? ⟨B2, 0, none⟩ = some (.int .i64 owner) := blk_cell hb2 0
  clear hx hb1 hb2
  have hfn : ∀ f, Fence.wide.fn f := fun _ => trivial
  have hro : Fence.wide.round = none := rfl
  have hsz := fun n => callsIn_wide (n := n).2 (size_calls hM)
  refine callsIn_of_wp Try.func54 rfl trivial ?_ rfl
  simp only [Try.ntmps54, List.size_toArray, List.length_cons, List.length_nil, Nat.reduceAdd, Nat.reduceSub, Array.replicate_succ, Array.replicate_zero, List.push_toArray, List.append_toArray, List.nil_append, List.cons_append]
  gi_wp2_with (first
    | (gi_at_call 32; refine (hsz _).mono ?_; rintro z w1 ⟨rfl, hw1⟩; obtain rfl := hw1.symm)
    | gi_in)
  gi_loopw [7] (fun i wr => ∃ k : Nat, k ≤ s.n ∧ i = .int .i64 k ∧ J (mine (owners s) owner k) wr ∧ Kx n₀ x₀ W wr) (fun i _ => s.n - (intOf i).toNat)
  case atStart => exact ⟨0, Nat.zero_le _, rfl, h0, Chg.refl _ _⟩
  case round =>
    obtain ⟨k, hk, rfl, hJs, hnx⟩ := hrel
    have hM2 := hM.chg hnx (by have hx := HX.out.1; rintro (e | e) <;> omega) (by have hx := HX.out.1; rintro (e | e) <;> omega)
    have E1 := hnx.blk HX.out.2.1 (by have hx := HX.out.1; rintro (e | e) <;> omega)
    have E2 := hnx.blk HX.out.2.2 (by have hx := HX.out.1; rintro (e | e) <;> omega)
    have D1 : wr.cell? ⟨B1, 0, none⟩ = some (.pointer (some ⟨mb, 0, none⟩)) := blk_cell E1 0
    have D2 : wr.cell? ⟨B2, 0, none⟩ = some (.int .i64 owner) := blk_cell E2 0
    have C0 := fun i => blk_cell hM2.blk i
    have L0 := hM2.lt
    by_cases hlt : k < s.n
    · have CO : wr.cell? ⟨fb, k * 260, none⟩ = some (.int .i64 (owners s k)) := hM2.own k hlt
      have hdJ : J (mine (owners s) owner k) wr.drew := hJ _ wr wr.drew none hJs ⟨rfl, rfl, rfl, Nat.le_refl _, fun _ _ _ => rfl⟩ (fun r e => by cases e)
      have hdB : Kx n₀ x₀ W wr.drew := Chg.drew hnx
      by_cases ho : owners s k = owner
      · have hb : (owners s k == owner) = true := by simpa using ho
        obtain ⟨fn, tmps, assign, body, hy, hR⟩ := hY _ k wr.drew hlt ho hdJ (by have := mine_len (owners s) owner k; omega)
        have hR2 := hR.mono (R' := fun e W' => ∃ bb, e = .returned (.bool bb) ∧ ((bb = true ∧ J (mine (owners s) owner k ++ [(k : Int)]) W' ∧ Kx n₀ x₀ wr.drew W') ∨ (bb = false ∧ Jx (mine (owners s) owner k ++ [(k : Int)]) W'))) (fun e W' h => h.elim (fun h => ⟨true, h.1, .inl ⟨rfl, h.2⟩⟩) (fun h => ⟨false, h.1, .inr ⟨rfl, h.2⟩⟩))
        clear hR
        gi_wp2
        gi_region_with (refine hR2.mono ?_; rintro e W3 ⟨bb, rfl, hbb⟩)
        all_goals
          rcases hbb with ⟨rfl, hJ3, hk3⟩ | ⟨rfl, hJx3⟩
          · gi_wp2
            go_roundw
            case rel => exact ⟨k + 1, by omega, by simp, by rw [mine_hit hb]; exact hJ3, hdB.trans hk3⟩
            case measure => simp [intOf]; omega
          · gi_wp2
            refine bodyPost_ret (results_none rfl _ _ _) rfl ?_
            exact ⟨⟨_, rfl⟩, .inr ⟨_, ⟨k, hlt, ho, rfl⟩, hJx3⟩⟩
      · have hb : (owners s k == owner) = false := beq_eq_false_iff_ne.2 ho
        gi_wp2
        gi_quiet (fail)
        gi_wp2
        go_roundw
        case rel => exact ⟨k + 1, by omega, by simp, by rw [mine_miss hb]; exact hJ _ wr _ none hJs ⟨rfl, rfl, rfl, Nat.le_refl _, fun _ _ _ => rfl⟩ (fun r e => by cases e), Chg.drewN hnx _⟩
        case measure => simp [intOf]; omega
    · obtain rfl : k = s.n := by omega
      gi_wp2
      go_end0
      exact ⟨⟨_, rfl⟩, .inl ⟨_, rfl, hJs⟩⟩
theorem ofx_stops (m : Nat) (hm : 1 ≤ m) (B1 B2 mb fb n n₀ x₀ : Nat) (s : MS) (hsn : s.n = n) (o : Nat → Int) (hso : owners s = o) (owner : Int) (hn : n ≤ 1000) (hmb : mb < n₀) (hfb : fb < n₀) (hB1 : B1 < n₀) (hB2 : B2 < n₀) (hx : mb ≠ x₀ ∧ fb ≠ x₀ ∧ B1 ≠ x₀ ∧ B2 ≠ x₀) (w0 : World) (h0 : n₀ ≤ w0.heap.size)
    (hb1 : w0.heap[B1]? = some (.cells #[.pointer (some ⟨mb, 0, none⟩)] 27 (0, 0))) (hb2 : w0.heap[B2]? = some (.cells #[.int .i64 owner] 3 (0, 0))) (hM : Mach w0 mb fb s) :
    SeqStopsK Fence.wide m Try.prog 54 #[.pointer (some ⟨B1, 0, none⟩), .pointer (some ⟨B2, 0, none⟩)] (fun x : Own1 o owner n => #[.int .i64 x.1]) (Kx n₀ x₀)
      (fun ys => ints ys = mine o owner n) (fun pre => ∃ k, k < n ∧ o k = owner ∧ ints pre = mine o owner k ++ [(k : Int)]) n w0 := by
  intro l J Jx W hW hJ hJx hY hJ0
  refine (ofx_in m hm l B1 B2 mb fb n n₀ x₀ s hsn o hso owner hn hmb hfb hB1 hB2 hx (fun t W => ∃ la, ints la = t ∧ J la W) (fun t W => ∃ la, ints la = t ∧ Jx la W) W (fun t A B row ⟨la, h1, h2⟩ hg hr => ⟨la, h1, hJ la A B row h2 hg hr⟩) ?_
    (blk_below hb1 (blk_lt hb1) hW) (blk_below hb2 (blk_lt hb2) hW) (hM.below hW) ⟨[], rfl, hJ0⟩).mono ?_
  · rintro pre x W1 hx ho ⟨la, rfl, hla⟩ hlen
    have hy := hY la ⟨x, hx, ho⟩ W1 hla (by simpa [ints] using hlen)
    obtain ⟨fn, tmps, assign, body, h1, h2⟩ := hy
    refine ⟨fn, tmps, assign, body, h1, h2.mono ?_⟩
    rintro e W' (⟨he, hj, hk⟩ | ⟨he, hj⟩)
    · exact .inl ⟨he, ⟨_, ints_snoc la ⟨x, hx, ho⟩, hj⟩, hk⟩
    · exact .inr ⟨he, ⟨_, ints_snoc la ⟨x, hx, ho⟩, hj⟩⟩
  · rintro e W' ⟨hv, ⟨ys, rfl, la, h1, h2⟩ | ⟨pre, ⟨k, hk, ho, rfl⟩, la, h1, h2⟩⟩
    · exact ⟨hv, .inl ⟨la, h1, h2⟩⟩
    · exact ⟨hv, .inr ⟨la, ⟨k, hk, ho, h1⟩, h2⟩⟩


theorem infoI : (Try.prog.info? 3).map (fun i => (i.zero, i.size, i.bytes)) = some (some (.int .i64 0), 1, 8) := by kernel_rfl
def vals (l : List Int) : List Value := l.map (Value.int .i64)
theorem vals_snoc (l : List Int) (x : Int) : vals (l ++ [x]) = vals l ++ [.int .i64 x] := List.map_append
/-- What Owned holds between two rounds. -/
structure OwnedAt (w W : World) (l : List Int) (V : Value) : Prop where
  bx : W.heap[w.heap.size]? = some (.cells #[V] 22 (0, 0))
  row : W.ownsRow (w.heap.size + 3) 3 1 V l.length (vals l)
  bel : Below w.heap.size w W
theorem row_full {W : World} {n e size b : Nat} {v : Value} {xs : List Value} (hr : W.ownsRow b e size v n xs) (hn : 0 < n) : ∃ g cap, v = .slice (some ⟨g, 0, none⟩) n cap ∧ b ≤ g := by
  obtain ⟨_, ⟨rfl, h0⟩ | ⟨g', cap', cur', rfl, hbase, hb', _⟩⟩ := hr
  · omega
  · exact ⟨g', cap', rfl, hbase⟩
theorem row_len {W : World} {n e size b : Nat} {v : Value} {xs : List Value} (hr : W.ownsRow b e size v n xs) : ∃ A cap, v = .slice A n cap := by
  obtain ⟨_, ⟨rfl, h0⟩ | ⟨g', cap', cur', rfl, hbase, hb', _⟩⟩ := hr
  · exact ⟨none, 0, by rw [h0]⟩
  · exact ⟨_, cap', rfl⟩
theorem grown_chg {W W' : World} {r : Option Nat} (h : W.grownBy W' r) : Chg (fun x => r = some x) W W' := ⟨h.os, h.tape, h.output, h.size, fun k hk hf => h.block k hk (fun e => hf e.symm)⟩
theorem OwnedAt.own {w : World} {B : Nat} (hB : w.heap.size < B) {β : Type} (f : β → List Int) : OwnFrom B (fun (b : β) W => ∃ V, OwnedAt w W (f b) V) := by
  intro b A C row ⟨V, h⟩ hg hr
  refine ⟨V, keep_blk (B := B) h.bx hB hg hr, h.row.kept hg ?_, ?_⟩
  · rcases h.row.2 with ⟨hv, _⟩ | ⟨g, cap, cur, hv, _, hb, _⟩
    · exact .inl (by rw [hv]; rfl)
    · refine .inr ?_
      rw [hv]
      intro e
      obtain ⟨_, o, ho, hc⟩ := hr g e.symm
      rw [hb] at ho
      cases ho
      cases hc
  · exact h.bel.grown hg h.bel.size (fun k e => by have := (hr k e).1; omega)
/-- A round of Owned's: what it has, and one more. -/
theorem OwnedAt.step {w W W1 : World} {l : List Int} {V : Value} {x : Int} {g cap n : Nat} (h : OwnedAt w W l V) (hn : n = l.length + 1) (hown : W1.ownsRow (w.heap.size + 3) 3 1 (.slice (some ⟨g, 0, none⟩) n cap) n (vals l ++ [.int .i64 x])) (hg : (W.alloc (.cells #[.int .i64 x] 3)).grownBy W1 V.ownBlock) (hs : w.heap.size + 3 ≤ W.heap.size) :
    OwnedAt w (W1.setCell ⟨w.heap.size, 0, none⟩ (.slice (some ⟨g, 0, none⟩) n cap)) (l ++ [x]) (.slice (some ⟨g, 0, none⟩) n cap) ∧ KeepsOthers W (W1.setCell ⟨w.heap.size, 0, none⟩ (.slice (some ⟨g, 0, none⟩) n cap)) ∧ Kx (w.heap.size + 3) w.heap.size W (W1.setCell ⟨w.heap.size, 0, none⟩ (.slice (some ⟨g, 0, none⟩) n cap)) := by
  subst hn
  have hb1 := below_alloc (Below.refl W.heap.size W) (.cells #[.int .i64 x] 3)
  have hlow : ∀ k, V.ownBlock = some k → w.heap.size + 3 ≤ k := fun k e => (h.row.lt k e).1
  have hc : Chg (fun k => V.ownBlock = some k) W W1 := (Chg.below _ hb1).trans (grown_chg hg)
  have hbx := hc.blk h.bx (fun e => by have := hlow _ e; omega)
  have hgl := hown.lt g rfl
  have hset : Chg (fun k => k = w.heap.size) W1 (W1.setCell ⟨w.heap.size, 0, none⟩ (.slice (some ⟨g, 0, none⟩) (l.length + 1) cap)) := Chg.set (F := fun k => k = w.heap.size) (p := ⟨w.heap.size, 0, none⟩) (Chg.refl _ W1) (.inl rfl) _
  refine ⟨⟨blk_put hbx 0 _ rfl, ?_, ?_⟩, ?_, ?_⟩
  · rw [List.length_append, vals_snoc]
    refine hown.kept (row := some w.heap.size) ⟨rfl, rfl, rfl, hset.size, fun k hk hf => hset.block k hk (fun e => hf (by rw [e]))⟩ (.inr ?_)
    intro e
    have : g = w.heap.size := by simpa [Value.ownBlock] using e
    omega
  · exact (hc.out h.bel h.bel.size (fun k e => by have := hlow k e; omega)).setCell (Nat.le_refl _) _
  · refine ((KeepsOthers.alloc W _).trans (KeepsOthers.of_grownBy hg ?_)).trans (KeepsOthers.setCell _ _ _)
    intro j o hj ho
    rcases h.row.2 with ⟨hv, _⟩ | ⟨g', cap', cur', hv, _, hb', _⟩
    · rw [hv] at hj
      cases hj
    · rw [hv] at hj
      have hj2 : g' = j := by simpa [Value.ownBlock] using hj
      subst hj2
      rw [blk_alloc hb'] at ho
      cases ho
      rfl
  · exact (hc.mono (fun k e => .inr (hlow k e))).trans (hset.mono (fun k e => .inl e))
set_option maxRecDepth 100000 in
set_option maxHeartbeats 8000000 in
theorem owned_in (m : Nat) (hm : 6 ≤ m) (w : World) (mb fb : Nat) (s : MS) (hM : Mach w mb fb s) (d : Int) :
    CallsIn Fence.wide m Try.prog 16 #[.pointer (some ⟨mb, 0, none⟩), .int .i64 d] w fun e w' => (∃ A c, e = .returned (.slice A (mine (owners s) d s.n).length c)) ∧ Below w.heap.size w w' := by
  have hfn : ∀ f, Fence.wide.fn f := fun _ => trivial
  have hro : Fence.wide.round = none := rfl
  have hm1 : 1 ≤ m := by omega
  have hm2 : 1 ≤ m - 1 := by omega
  obtain ⟨i0, hi, hz0, hz1, hz2⟩ := info_parts infoI
  refine callsIn_of_wp_marks Try.func16 rfl trivial ?_ rfl
  simp only [Try.ntmps16, List.size_toArray, List.length_cons, List.length_nil, Nat.reduceAdd, Nat.reduceSub, Array.replicate_succ, Array.replicate_zero, List.push_toArray, List.append_toArray, List.nil_append, List.cons_append]
  have hbm := hM.lt
  have hof := fun m => callsIn_wide (n := m).2 (of_calls mb d (w.alloc (.cells #[.slice none 0 0] 22)))
  gi_wp2_with (first
    | (gi_at_call 31; refine (hof _).mono ?_; rintro z w1 ⟨rfl, hw1⟩; obtain rfl := hw1)
    | gi_in)
  have hb3 := below_alloc (below_alloc (below_alloc (Below.refl w.heap.size w) (.cells #[.slice none 0 0] 22)) (.cells #[.pointer (some ⟨mb, 0, none⟩)] 27)) (.cells #[.int .i64 d] 3)
  have hA : OwnedAt w (((w.alloc (.cells #[.slice none 0 0] 22)).alloc (.cells #[.pointer (some ⟨mb, 0, none⟩)] 27)).alloc (.cells #[.int .i64 d] 3)) [] (.slice none 0 0) := ⟨blk_alloc (blk_alloc (blk_new _ _) _) _, World.ownsRow_nil _ _ _ _, hb3⟩
  have hc4 : (((w.alloc (.cells #[.slice none 0 0] 22)).alloc (.cells #[.pointer (some ⟨mb, 0, none⟩)] 27)).alloc (.cells #[.int .i64 d] 3)).heap[w.heap.size + 1]? = some (.cells #[.pointer (some ⟨mb, 0, none⟩)] 27 (0, 0)) := blk_alloc (blk_newest (by simp) _) _
  have hc5 : (((w.alloc (.cells #[.slice none 0 0] 22)).alloc (.cells #[.pointer (some ⟨mb, 0, none⟩)] 27)).alloc (.cells #[.int .i64 d] 3)).heap[w.heap.size + 1 + 1]? = some (.cells #[.int .i64 d] 3 (0, 0)) := blk_newest (by simp) _
  have hM3 := hM.below hb3
  have hsz : (((w.alloc (.cells #[.slice none 0 0] 22)).alloc (.cells #[.pointer (some ⟨mb, 0, none⟩)] 27)).alloc (.cells #[.int .i64 d] 3)).heap.size = w.heap.size + 3 := by simp
  generalize (((w.alloc (.cells #[.slice none 0 0] 22)).alloc (.cells #[.pointer (some ⟨mb, 0, none⟩)] 27)).alloc (.cells #[.int .i64 d] 3)) = W0 at hA hc4 hc5 hsz hM3 hb3 ⊢
  clear hof hb3
  have hst := ofx_stops (m - 1) hm2 (w.heap.size + 1) (w.heap.size + 1 + 1) mb fb s.n (w.heap.size + 3) w.heap.size s rfl (owners s) rfl d hM.few (by omega) (by omega) (by omega) (by omega) (by omega) W0 (by omega) hc4 hc5 hM3
  refine wpIn_rangeFunc_ownF hro hm1 (gf := 54) (lb := #[.pointer (some ⟨w.heap.size + 1, 0, none⟩), .pointer (some ⟨w.heap.size + 1 + 1, 0, none⟩)]) rfl trivial (enters_of Try.func54 (by kernel_rfl) rfl)
    hst kx_t (kx_b (by omega)) (Below.refl _ _) (fun _ => rfl)
    (fun pre W => (∃ V, OwnedAt w W (ints pre) V) ∧ w.heap.size + 3 ≤ W.heap.size)
    (fun _ _ _ => False)
    (OwnFrom.and (OwnedAt.own (by omega) (fun pre => ints pre)) (fun b A B row hs hg hr => Nat.le_trans hs hg.size))
    (fun _ _ _ _ _ hs _ _ => hs)
    ⟨⟨_, hA⟩, by omega⟩
    (fun x => { tmps := #[.pointer (some ⟨mb, 0, none⟩), .int .i64 d, undef, undef, .slice none 0 0, .pointer (some ⟨w.heap.size, 0, none⟩), .int .i64 x.1, .pointer (some ⟨mb, 0, none⟩), .int .i64 d, .func (.func 54) #[] #[.pointer (some ⟨w.heap.size + 1, 0, none⟩), .pointer (some ⟨w.heap.size + 1 + 1, 0, none⟩)], .int .i64 x.1, undef, undef, undef, undef, undef], defers := [] }) ?assign ?body ?done ?stop
  case assign =>
    intro l x W K hK
    gi_wp2
    exact hK
  case body =>
    rintro l pre x W ⟨⟨V, hW⟩, hsW⟩ hlen
    have hlen2 : (ints pre).length < s.n := by simpa [ints] using hlen
    have hfew := hM.few
    have C0 := fun i => blk_cell hW.bx i
    have L0 := blk_lt hW.bx
    have HW := Base.Aside.mk hW
    clear hW hst hlen
    gi_wp2_with (first
      | (gi_at_builtin; refine wpListIn_append_own_at _ rfl _ _ 22 rfl (w.heap.size + 3) 3 i0 (.int .i64 0) 1 8 Try.underlying22 hi hz0 hz1 hz2 rfl (by decide) V (ints pre).length (vals (ints pre)) rfl (HW.out.row.alloc _) ⟨W.heap.size, 0, none⟩ 1 1 [.int .i64 x.1] rfl rfl (cell_one_new _ _ _) (by intro u hu; simp at hu; subst hu; rfl) (by unfold maxLen; omega) (by omega) (by simp; omega) ?_)
      | gi_in)
    intro v' w1 hown hg hnil hloc
    obtain ⟨g, cap, rfl, hg2⟩ := row_full hown (by omega)
    have hst2 := HW.out.step rfl hown hg hsW
    have hbx1 := ((Chg.below _ (below_alloc (Below.refl W.heap.size W) (.cells #[.int .i64 x.1] 3))).trans (grown_chg hg)).blk HW.out.bx (fun e => by have := (HW.out.row.lt _ e).1; omega)
    have C1 := fun i => blk_cell hbx1 i
    have F1 := fun i => blk_frozen hbx1 i
    have L1 := blk_lt hbx1
    have H2 := Base.Aside.mk hst2
    have hz := Base.Aside.mk hg.size
    clear hst2 hown hg hnil hloc hbx1 hg2
    gi_wp2
    obtain ⟨q1, q2, q3⟩ := H2.out
    have q4 := q3.size
    exact ⟨q2, q3, ⟨_, by rw [ints_snoc]; exact q1⟩, by omega⟩
  case done =>
    rintro D ys W hD hys ⟨⟨V, hW⟩, hsW⟩ hK
    obtain ⟨A, cap, hV⟩ := row_len hW.row
    have C0 := fun i => blk_cell hW.bx i
    have L0 := blk_lt hW.bx
    have HW := Base.Aside.mk hW
    rw [hV] at C0
    clear hW hst
    gi_wp2
    refine ⟨by simp, .inl ⟨_, _, rfl, run_takeDeferred hK, ?_⟩⟩
    have hb := fun o' => HW.out.bel.trans (belowK_b (w := w) (Nat.le_refl _) W D _ o' (by omega) hK rfl rfl)
    refine ⟨.slice A (ints ys).length cap, ?_, ?_⟩
    · simp [results, Try.f16, go_sem]
      rw [hys]
    · rw [← hys]
      exact ⟨⟨A, cap, rfl⟩, hb _⟩
  case stop =>
    rintro D c pre W _ _ h _
    exact h.elim
theorem owned_calls (w : World) {mb fb : Nat} {s : MS} (hM : Mach w mb fb s) (d : Int) :
    Calls Try.prog 16 #[.pointer (some ⟨mb, 0, none⟩), .int .i64 d] w fun e w' => (∃ A c, e = .returned (.slice A (mine (owners s) d s.n).length c)) ∧ Below w.heap.size w w' :=
  callsIn_wide.1 (owned_in 6 (Nat.le_refl _) w mb fb s hM d)
set_option maxRecDepth 100000 in
set_option maxHeartbeats 4000000 in
theorem left_calls (w : World) {mb fb : Nat} {s : MS} (hM : Mach w mb fb s) :
    Calls Try.prog 6 #[.pointer (some ⟨mb, 0, none⟩)] w fun e w' => e = .returned (.int .i64 (mine (owners s) (-1) s.n).length) ∧ Below w.heap.size w w' := by
  have ho := owned_calls w hM (-1)
  generalize (mine (owners s) (-1) s.n).length = n at ho ⊢
  clear hM
  go_enter Try.func6, Try.ntmps6
  go_wp2_with (first
    | (go_at_call 16; refine ho.mono ?_; rintro z w1 ⟨⟨A, c, rfl⟩, hB1⟩; have E1 := Base.Aside.mk hB1; clear hB1)
    | go_in)
  go_ret
  exact ⟨by first | rfl | (simp; done), E1.out⟩
end Go.Proofs.Ytebhpmmibffbeaa.DaB
