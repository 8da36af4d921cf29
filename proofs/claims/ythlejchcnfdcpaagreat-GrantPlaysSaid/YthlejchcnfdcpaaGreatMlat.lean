/- Proved: a rewrite is taken into a view (lemmas and contracts for the laws of the grants). Proved: a view with rewrites is made (contracts for the laws of the grants). -/
import Derived.Test.YthlejchcnfdcpaaGreatMlao
import Derived.Maps.AppendAt
import Derived.Deep.AppendLies
import Derived.Deep.RegionHeld3
namespace Go.Proofs.YthlejchcnfdcpaaGreat.GwD
open Go.RowKit Go.Maps Base GaA GaB GaC GmA GvA GfA GfB GfC GwA GwB GwC
set_option linter.unusedVariables false
set_option linter.unusedSimpArgs false

/-- How many entries there are behind a store. -/
def cnt' (f : Int → Option Value) (x : Int) (c : Nat) : Nat := if (f x).isSome then c else c + 1
theorem cnt_le (f : Int → Option Value) (x : Int) (c : Nat) : cnt' f x c ≤ c + 1 := by unfold cnt'; split <;> omega
section
variable {W W' : World} {M c : Nat} {f : Int → Option Value}
/-- A store, whether there is such an entry or not. -/
theorem store_any (h : IMap W M f c) {t e : TypeId} (ht : Tryz.prog.underlying t = some (.map 3 e)) (x : Int) (h0 : -9223372036854775808 ≤ x) (h1 : x ≤ 9223372036854775807) (v : Value) (hc : c < 1000000) :
    ∃ W', (Instr.mapUpdate t (.map (some M)) (.int .i64 x) v).run Tryz.prog W = .ok () W' ∧ IMap W' M (put f x v) (cnt' f x c) ∧ Chg (fun k => k = M) W W' := by
  obtain ⟨D, h2, h3, h4, h5⟩ := h
  obtain ⟨W', hrun, ho, hg⟩ := h2.update K3 ht (by unfold maxLen; omega) (keyOf_int_mk Tryz.underlying3 (wf64 h0 h1)) (show hv v = some (.held v, []) from rfl)
  have hsz : Maps.size (D.put (.int .i64 x) (.held v)) = cnt' f x c := by
    rw [size_put (h2.tidy K3), h4 x, h3]
    unfold cnt'
    cases (f x).isSome <;> rfl
  refine ⟨W', hrun, ⟨D.put (.int .i64 x) (.held v), ?_, hsz, fun y => ?_, fun y z => ?_⟩, ⟨hg.os, hg.tape, hg.output, hg.size, fun k hk hf => hg.block k hk (fun e => hf (Option.some.inj e))⟩⟩
  · have := ownsMap_tight ho
    rw [hsz] at this
    exact this
  · unfold put
    by_cases e : y = x
    · subst e
      rw [if_pos rfl, has_put_same h2.isMap (int_key _)]
      rfl
    · rw [if_neg e, has_put_other (int_ne e), h4 y]
  · unfold put
    by_cases e : y = x
    · subst e
      rw [if_pos rfl, atKey_put_same h2.isMap (int_key _)]
      rfl
    · rw [if_neg e, atKey_put_other (int_ne e), h5 y]
/-- The world behind a store, by the value stored and the world: one function. -/
theorem store_fun (h : IMap W M f c) {t e : TypeId} (ht : Tryz.prog.underlying t = some (.map 3 e)) (x : Int) (h0 : -9223372036854775808 ≤ x) (h1 : x ≤ 9223372036854775807) (hc : c < 1000000) :
    ∃ X : Value → World → World, ∀ v w2, w2.heap[M]? = W.heap[M]? → (Instr.mapUpdate t (.map (some M)) (.int .i64 x) v).run Tryz.prog w2 = .ok () (X v w2) ∧ IMap (X v w2) M (put f x v) (cnt' f x c) ∧ Chg (fun k => k = M) w2 (X v w2) := by
  have hex : ∀ (v : Value) (w2 : World), ∃ W', w2.heap[M]? = W.heap[M]? → (Instr.mapUpdate t (.map (some M)) (.int .i64 x) v).run Tryz.prog w2 = .ok () W' ∧ IMap W' M (put f x v) (cnt' f x c) ∧ Chg (fun k => k = M) w2 W' := by
    intro v w2
    by_cases e : w2.heap[M]? = W.heap[M]?
    · obtain ⟨W', q⟩ := store_any (h.block e) ht x h0 h1 v hc
      exact ⟨W', fun _ => q⟩
    · exact ⟨w2, fun h => absurd h e⟩
  exact ⟨fun v w2 => Classical.choose (hex v w2), fun v w2 e => Classical.choose_spec (hex v w2) e⟩
end
section
variable {W W' W1 W2 W3 : World} {B vb db cb mb fb r : Nat} {ps : List Pk} {F : Nat → Prop} {s : MS}
theorem row_kind {b e size n : Nat} {v : Value} {xs : List Value} (h : W.ownsRow b e size v n xs) : ∀ g, v.ownBlock = some g → ∃ cs, W.heap[g]? = some (.cells cs e (0, 0)) := by
  intro g hg
  rcases h.2 with ⟨h1, _⟩ | ⟨g', cap, cur, h1, hb, hh, _⟩
  · rw [h1] at hg
    cases hg
  · rw [h1] at hg
    simp only [Value.ownBlock, Option.some.injEq] at hg
    subst hg
    exact ⟨_, hh⟩
theorem clo_keep {v : Value} {p : Pk} (h : Clo W B cb v p) (hc : Chg F W W') (hF : ∀ y cs t, W.heap[y]? = some (.cells cs t (0, 0)) → t ≠ 1 → ¬ F y) : Clo W' B cb v p := by
  obtain ⟨t8, t9, A, c, pv, h1, h2, h3, h4, h5, h6⟩ := h
  refine ⟨t8, t9, A, c, pv, h1, hc.blk h2 (hF _ _ _ h2 (by decide)), hc.blk h3 (hF _ _ _ h3 (by decide)), RpA.row_chg h4 hc fun g hg => ?_, h5, h6⟩
  obtain ⟨cs, hcs⟩ := row_kind h4 g hg
  exact hF _ _ _ hcs (by decide)
theorem due_snoc (ps : List Pk) (p : Pk) (key : Int) : GwB.due (ps ++ [p]) key = if p.at_ = key then GwB.due ps key ++ [p] else GwB.due ps key := by
  unfold GwB.due
  rw [List.filter_append]
  by_cases e : p.at_ = key
  · rw [if_pos e, List.filter_cons, if_pos (by simp [e])]
    rfl
  · rw [if_neg e, List.filter_cons, if_neg (by simp [e]), List.filter_nil, List.append_nil]
/-- What a view holds at a number, as a row. -/
theorem slot_row {f : Option Value} {l : List Pk} (h : Slot W B cb f l) : ∃ v vs, f.getD (.slice none 0 0) = v ∧ W.ownsRow B 1 1 v l.length vs ∧ (∀ (i : Nat) (p : Pk), l[i]? = some p → ∃ u, vs[i]? = some u ∧ Clo W B cb u p) ∧ ∀ g, v.ownBlock = some g → ∃ cap, f = some (.slice (some ⟨g, 0, none⟩) l.length cap) := by
  rcases h with ⟨rfl, rfl⟩ | ⟨g, cap, vs, rfl, h2, h3, h4⟩
  · exact ⟨_, [], rfl, World.ownsRow_nil _ _ _ _, (fun i p hp => by cases hp), (fun g hg => by cases hg)⟩
  · refine ⟨_, vs, rfl, h3, h4, fun g' hg' => ?_⟩
    simp only [Option.getD_some, Value.ownBlock, Option.some.injEq] at hg'
    subst hg'
    exact ⟨_, rfl⟩
/-- One rewrite more. -/
theorem v3_add (hblk : W.heap[vb]? = some (.cells #[.pointer (some ⟨mb, 0, none⟩), .map (some db), .int .i64 (cr r)] 144 (0, 0))) (hbox : W.heap[cb]? = some (.cells #[.pointer (some ⟨vb, 0, none⟩)] 70 (0, 0)))
    {f : Int → Option Value} {c : Nat} (hmap : IMap W db f c) (hcl : c ≤ ps.length) (hslot : ∀ key, Slot W B cb (f key) (GwB.due ps key)) (hinj : ∀ k1 k2 g n1 c1 n2 c2, f k1 = some (.slice (some ⟨g, 0, none⟩) n1 c1) → f k2 = some (.slice (some ⟨g, 0, none⟩) n2 c2) → k1 = k2) (hge : B ≤ vb ∧ B ≤ db ∧ B ≤ cb)
    (p : Pk) {v u : Value} {vs : List Value} (hrow : W.ownsRow B 1 1 v (GwB.due ps p.at_).length vs) (hclo : ∀ (i : Nat) (q : Pk), (GwB.due ps p.at_)[i]? = some q → ∃ u, vs[i]? = some u ∧ Clo W B cb u q) (hvf : ∀ g, v.ownBlock = some g → ∃ cap, f p.at_ = some (.slice (some ⟨g, 0, none⟩) (GwB.due ps p.at_).length cap))
    (hB1 : Below W.heap.size W W1) (hu : Clo W1 B cb u p) (hg : W1.grownBy W2 v.ownBlock) {g cap : Nat} (hown : W2.ownsRow B 1 1 (.slice (some ⟨g, 0, none⟩) ((GwB.due ps p.at_).length + 1) cap) ((GwB.due ps p.at_).length + 1) (vs ++ [u])) (hgg : v.ownBlock = some g ∨ W.heap.size ≤ g)
    (hmap3 : IMap W3 db (put f p.at_ (.slice (some ⟨g, 0, none⟩) ((GwB.due ps p.at_).length + 1) cap)) (cnt' f p.at_ c)) (hc3 : Chg (fun k => k = db) W2 W3) : V3 W3 B vb db cb mb r (ps ++ [p]) := by
  have hlv : vs.length = (GwB.due ps p.at_).length := by have := hrow.1; omega
  have hg2 : Chg (fun x => v.ownBlock = some x ∨ x = db) W1 W2 := ⟨hg.os, hg.tape, hg.output, hg.size, fun k hk hf => hg.block k hk (fun e => hf (.inl e.symm))⟩
  have hc23 : Chg (fun x => v.ownBlock = some x ∨ x = db) W2 W3 := hc3.mono fun _ h => .inr h
  have HC : Chg (fun x => v.ownBlock = some x ∨ x = db) W W3 := ((Chg.below _ hB1).trans hg2).trans hc23
  have hF : ∀ y cs t, W.heap[y]? = some (.cells cs t (0, 0)) → t ≠ 1 → ¬ (v.ownBlock = some y ∨ y = db) := by
    intro y cs t hy ht hor
    rcases hor with h1 | h1
    · exact RpA.row_ne hrow hy ht h1
    · exact bnm hy hmap h1
  have hF1 : ∀ y cs t, W1.heap[y]? = some (.cells cs t (0, 0)) → t ≠ 1 → ¬ (v.ownBlock = some y ∨ y = db) := by
    intro y cs t hy ht hor
    rcases hor with h1 | h1
    · exact RpA.row_ne (RpA.row_chg hrow (Chg.below (fun _ => False) hB1) (fun _ _ h => h)) hy ht h1
    · exact bnm hy (hmap.below hB1) h1
  have hown3 := RpA.row_chg hown hc3 (by
    intro g' hg' e
    subst e
    obtain ⟨cs, hcs⟩ := row_kind hown g' hg'
    have hm2 := hc3
    obtain ⟨es, clock, hes⟩ := hmap.is
    have h1 : W1.heap[g']? = some (.map es clock) := (hB1.block _ hmap.lt).trans hes
    have h2 : W2.heap[g']? = some (.map es clock) := (hg.block g' (blk_lt h1) (fun e => by
      obtain ⟨cs', hcs'⟩ := row_kind hrow g' e.symm
      rw [hes] at hcs'
      cases hcs')).trans h1
    rw [h2] at hcs
    cases hcs)
  refine ⟨HC.blk hblk (hF _ _ _ hblk (by decide)), HC.blk hbox (hF _ _ _ hbox (by decide)), ⟨_, _, hmap3, ?_, fun key => ?_, ?_⟩, hge⟩
  · have := cnt_le f p.at_ c
    rw [List.length_append]
    simp only [List.length_singleton]
    omega
  · rw [due_snoc]
    unfold put
    by_cases e : p.at_ = key
    · subst e
      rw [if_pos rfl, if_pos rfl]
      refine .inr ⟨g, cap, vs ++ [u], ?_, ?_, ?_, fun i q hq => ?_⟩
      · rw [List.length_append]; rfl
      · rw [List.length_append]; simp
      · rw [List.length_append]; exact hown3
      · by_cases hi : i < (GwB.due ps p.at_).length
        · rw [List.getElem?_append_left hi] at hq
          obtain ⟨u', hu', hk⟩ := hclo i q hq
          exact ⟨u', by rw [List.getElem?_append_left (by omega)]; exact hu', clo_keep hk HC hF⟩
        · rw [List.getElem?_append_right (by omega)] at hq
          have hi2 : i - (GwB.due ps p.at_).length = 0 := by
            have := (List.getElem?_eq_some_iff.1 hq).1
            simp at this
            omega
          rw [hi2] at hq
          simp only [List.getElem?_cons_zero, Option.some.injEq] at hq
          subst hq
          refine ⟨u, ?_, clo_keep hu (hg2.trans hc23) hF1⟩
          rw [List.getElem?_append_right (by omega), hlv, hi2]
          rfl
    · rw [if_neg e, if_neg (fun h => e h.symm)]
      rcases hslot key with h5 | ⟨g2, cap2, vs2, h5, h6, h7, h8⟩
      · exact .inl h5
      · refine .inr ⟨g2, cap2, vs2, h5, h6, RpA.row_chg h7 HC ?_, fun i q hq => ?_⟩
        · intro g' hg' hor
          have : g2 = g' := by simpa [Value.ownBlock] using hg'
          subst this
          rcases hor with h1 | h1
          · obtain ⟨cap1, hf1⟩ := hvf _ h1
            exact e (hinj _ _ _ _ _ _ _ hf1 h5)
          · obtain ⟨cs, hcs⟩ := row_kind h7 g2 rfl
            exact bnm hcs hmap h1
        · obtain ⟨u', hu', hk⟩ := h8 i q hq
          exact ⟨u', hu', clo_keep hk HC hF⟩
  · intro k1 k2 g' n1 c1 n2 c2 h1 h2
    have hnew : ∀ k n1 c1, k ≠ p.at_ → f k = some (.slice (some ⟨g, 0, none⟩) n1 c1) → False := by
      intro k n1 c1 hk hf
      rcases hgg with h5 | h5
      · obtain ⟨cap1, hf1⟩ := hvf _ h5
        exact hk (hinj _ _ _ _ _ _ _ hf hf1)
      · rcases hslot k with ⟨_, h6⟩ | ⟨g2, cap2, vs2, h6, _, h7, _⟩
        · rw [h6] at hf; cases hf
        · rw [h6] at hf
          injection hf with hf
          injection hf with hf
          injection hf with hf
          injection hf with hf
          subst hf
          obtain ⟨cs, hcs⟩ := row_kind h7 g2 rfl
          have := blk_lt hcs
          omega
    unfold put at h1 h2
    by_cases e1 : k1 = p.at_
    · by_cases e2 : k2 = p.at_
      · rw [e1, e2]
      · rw [if_pos e1] at h1
        rw [if_neg e2] at h2
        injection h1 with h1
        injection h1 with h1
        injection h1 with h1
        injection h1 with h1
        subst h1
        exact (hnew _ _ _ e2 h2).elim
    · by_cases e2 : k2 = p.at_
      · rw [if_neg e1] at h1
        rw [if_pos e2] at h2
        injection h2 with h2
        injection h2 with h2
        injection h2 with h2
        injection h2 with h2
        subst h2
        exact (hnew _ _ _ e1 h1).elim
      · rw [if_neg e1] at h1
        rw [if_neg e2] at h2
        exact hinj _ _ _ _ _ _ _ h1 h2
end
end Go.Proofs.YthlejchcnfdcpaaGreat.GwD
namespace Go.Proofs.YthlejchcnfdcpaaGreat.GwE
open Go.RowKit Go.Maps Base GaA GaB GaC GmA GvA GfA GfB GfC GwA GwB GwC GwD
set_option linter.unusedVariables false
set_option linter.unusedSimpArgs false

theorem info8 : (Tryz.prog.info? 5).map (fun i => (i.zero, i.size, i.bytes)) = some (some (.int .u8 0), 1, 1) := by kernel_rfl
theorem infoC : (Tryz.prog.info? 1).map (fun i => (i.zero, i.size, i.bytes)) = some (some .nilFunc, 1, 8) := by kernel_rfl
theorem info_parts {t : TypeId} {z : Value} {n b : Nat} (h : (Tryz.prog.info? t).map (fun i => (i.zero, i.size, i.bytes)) = some (some z, n, b)) : ∃ i, Tryz.prog.info? t = some i ∧ i.zero = some z ∧ i.size = n ∧ i.bytes = b := by
  cases e : Tryz.prog.info? t with
  | none => rw [e] at h; cases h
  | some i =>
    rw [e] at h
    simp only [Option.map_some, Option.some.injEq, Prod.mk.injEq] at h
    exact ⟨i, rfl, h.1, h.2.1, h.2.2⟩
/-- Bytes are copied behind no slice. -/
theorem run_app8 (w : World) (ty : TypeId) (A : Option Addr) (c : Nat) (zs : List UInt8) (hz : Bytes w A zs) (h47 : zs.length ≤ 140737488355328) :
    ∃ A' c' w', (Builtin.append_ #[30, 30] ty #[.slice none 0 0, .slice A zs.length c]).run Tryz.prog w = .ok (.slice A' zs.length c') w' ∧ w'.ownsRow w.heap.size 5 1 (.slice A' zs.length c') zs.length (u8s zs) ∧ Below w.heap.size w w' := by
  obtain ⟨i, hi, hz0, hz1, hz2⟩ := info_parts info8
  cases A with
  | none =>
    have : zs = [] := by
      rcases hz with h | ⟨x, h, _⟩
      · exact h
      · cases h
    subst this
    refine ⟨none, 0, w, ?_, World.ownsRow_nil _ _ _ _, Below.refl _ _⟩
    simp [Builtin.append_, run_underlying Tryz.underlying30, sizeOf, typeInfo, hi, Builtin.lenOf, Builtin.firstCells]
  | some ad =>
    have hnews : ∀ j u, (u8s zs)[j]? = some u → w.cell? (ad.add j) = some u := by
      rcases hz with h | ⟨x, h, hh⟩
      · subst h
        intro j u hu
        simp [u8s] at hu
      · injection h with h
        subst h
        exact hh.src
    obtain ⟨v', w', hrun, h2, h3, _, h5⟩ := run_append_own_at (P := Tryz.prog) w w.heap.size 30 ty 5 i _ 1 1 Tryz.underlying30 hi hz0 hz1 hz2 rfl (by decide) (.slice none 0 0) 0 [] (World.ownsRow_nil _ _ _ _) ad zs.length c (u8s zs) (by rw [u8s_len]; omega) hnews u8s_one (by unfold maxLen; omega) (by omega) (Nat.le_refl _)
    rw [Nat.zero_add, List.nil_append] at h2
    have hb : Below w.heap.size w w' := ⟨h3.os, h3.tape, h3.output, h3.size, fun k hk => h3.block k hk (by intro e; cases e)⟩
    rcases h2.2 with ⟨h6, h7⟩ | ⟨g, cap, cur, h6, h7, h8⟩
    · subst h6
      have hl : zs.length = 0 := by
        have := h2.1
        rw [h7] at this
        simp at this
        omega
      rw [hl] at h2 ⊢
      exact ⟨none, 0, w', by rw [← hl] at hrun ⊢; first | exact hrun | (rw [hl] at hrun ⊢; exact hrun), h2, hb⟩
    · subst h6
      exact ⟨_, cap, w', hrun, h2, hb⟩
theorem wpList_app8 {w : World} {ops : Array Oper} {rest : List Oper} {o : Oper} {a : Act} {Q : Exit → Act → World → Prop} (hgd : o.guard = none) (s x : Operand)
    (ho : o.op = .call { callee := .builtin .append, args := #[s, x], argTypes := #[30, 30] }) (hs : a.eval s = .slice none 0 0) (A : Option Addr) (n c : Nat) (zs : List UInt8) (hx : a.eval x = .slice A n c) (hn : n = zs.length) (hz : Bytes w A zs) (h47 : zs.length ≤ 140737488355328)
    (h : ∀ A' c' w', w'.ownsRow w.heap.size 5 1 (.slice A' zs.length c') zs.length (u8s zs) → Below w.heap.size w w' → wpList Tryz.prog ops Q rest (a.put o.dst (.slice A' zs.length c')) w') : wpList Tryz.prog ops Q (o :: rest) a w := by
  subst hn
  refine wpList_plain hgd fun K hK => ?_
  obtain ⟨A', c', w', hr, h2, h3⟩ := run_app8 w o.type A c zs hz h47
  unfold Oper.wp execOp
  simp only [ho, resolve, invoke, builtin, Sem.run_bind, Sem.run_pure, Result.andThen_ok, List.map_toArray, List.map_cons, List.map_nil, hs, hx, hr]
  exact hK _ _ (h A' c' w' h2 h3)
/-- A rewrite's cells in an argument. -/
structure PkAt (w : World) (x : Addr) (p : Pk) : Prop where
  c0 : w.cell? x = some (.int .i64 p.at_)
  c1 : w.cell? ⟨x.block, x.off + 1, none⟩ = some (.int .i64 p.mfn)
  c2 : w.cell? ⟨x.block, x.off + 2, none⟩ = some (.int .i64 p.off)
  c3 : ∃ A c, w.cell? ⟨x.block, x.off + 3, none⟩ = some (.slice A p.zs.length c) ∧ Bytes w A p.zs
  ok : -9223372036854775808 ≤ p.at_ ∧ p.at_ ≤ 9223372036854775807 ∧ p.zs.length ≤ 140737488355328
/-- Rewrites as they come in. -/
def Pks (w : World) (A : Option Addr) (ps : List Pk) : Prop := ps = [] ∨ ∃ x, A = some x ∧ x.block < w.heap.size ∧ ∀ i p, ps[i]? = some p → PkAt w (x.add (i * 4)) p
theorem PkAt.below {w w' : World} {x : Addr} {p : Pk} (h : PkAt w x p) (hx : x.block < w.heap.size) (hb : Below w.heap.size w w') : PkAt w' x p := by
  obtain ⟨A, c, h3, h4⟩ := h.c3
  exact ⟨(hb.cell hx).trans h.c0, (hb.cell (p := ⟨x.block, x.off + 1, none⟩) hx).trans h.c1, (hb.cell (p := ⟨x.block, x.off + 2, none⟩) hx).trans h.c2, ⟨A, c, (hb.cell (p := ⟨x.block, x.off + 3, none⟩) hx).trans h3, h4.below hb⟩, h.ok⟩
theorem row_mono {W : World} {b b' e size n : Nat} {v : Value} {xs : List Value} (h : W.ownsRow b e size v n xs) (hb : b' ≤ b) : W.ownsRow b' e size v n xs := ⟨h.1, h.2.imp id fun ⟨g, cap, cur, h1, h2, h3⟩ => ⟨g, cap, cur, h1, Nat.le_trans hb h2, h3⟩⟩
/-- A view is made. -/
def NewOut (w : World) (mb : Nat) (ps : List Pk) (e : Ending) (w' : World) : Prop := ∃ vb db cb, e = .returned (.tuple #[.pointer (some ⟨vb, 0, none⟩), .int .i64 0]) ∧ V3 w' w.heap.size vb db cb mb 0 ps ∧ Below w.heap.size w w'
section
variable {w w' : World} {mb fb : Nat} {s : MS}
set_option maxHeartbeats 4000000 in
set_option maxRecDepth 100000 in
theorem new_long (h : Mach w mb fb s) (hn : 0 < s.n) (A : Option Addr) (n cap : Nat) (h64 : 64 < n) : Calls Tryz.prog 20 #[.pointer (some ⟨mb, 0, none⟩), .slice A n cap] w fun e w' => e = .returned (.tuple #[.pointer none, .int .i64 2]) ∧ w' = w := by
  have hs := size_calls h
  have d0 : ((s.n : Int) == 0) = false := by simp; omega
  have d1 : decide (64 < n) = true := decide_eq_true h64
  have d2 : decide ((64 : Int) < n) = true := decide_eq_true (by omega)
  clear h
  go_enter Tryz.func20, Tryz.ntmps20
  go_wp2_with (first
    | (go_at_call 44; (with_reducible refine hs.mono ?_); rintro z w1 ⟨rfl, hw1⟩; obtain rfl := hw1.symm)
    | go_in)
  go_ret2
  exact ⟨by first | rfl | (simp; done), rfl⟩
set_option maxHeartbeats 16000000 in
set_option maxRecDepth 100000 in
theorem new_pokes (h : Mach w mb fb s) (hn : 0 < s.n) (A : Option Addr) (cap : Nat) (ps : List Pk) (hps : Pks w A ps) (h64 : ps.length ≤ 64) :
    Calls Tryz.prog 20 #[.pointer (some ⟨mb, 0, none⟩), .slice A ps.length cap] w (NewOut w mb ps) := by
  have hmm := @run_makeMap Tryz.prog
  have hs := size_calls h
  have d0 : ((s.n : Int) == 0) = false := by simp; omega
  have d1 : decide (64 < ps.length) = false := decide_eq_false (by omega)
  have d2 : decide ((64 : Int) < ps.length) = false := decide_eq_false (by omega)
  obtain ⟨n, hnl⟩ : ∃ n, n = ps.length := ⟨_, rfl⟩
  rw [← hnl] at d1 d2 ⊢
  have n64 : n ≤ 64 := by omega
  have HN := Base.Aside.mk hnl
  clear h hnl h64
  go_enter Tryz.func20, Tryz.ntmps20
  go_wp2_with (first
    | (go_at_call 44; (with_reducible refine hs.mono ?_); rintro z w1 ⟨rfl, hw1⟩; obtain rfl := hw1.symm)
    | go_in)
  obtain ⟨i0, hi, hz0, hz1, hz2⟩ := info_parts infoC
  go_loopw [24] (fun v wr => ∃ (i : Nat) (W2 : World), i ≤ n ∧ v = .int .i64 i ∧ wr = W2 ∧ Base.Aside (V3 W2 w.heap.size (w.heap.size + 1) w.heap.size (w.heap.size + 1 + 1) mb 0 (ps.take i) ∧ Below w.heap.size w W2)) (fun v _ => n - (intOf v).toNat)
  case atStart =>
    refine ⟨0, _, by omega, rfl, rfl, ⟨⟨?_, ?_, ⟨fun _ => none, 0, IMap.made_at (blk_alloc (blk_alloc (blk_new _ _) _) _), Nat.zero_le _, fun key => .inl ⟨rfl, rfl⟩, fun k1 k2 g n1 c1 n2 c2 h _ => by cases h⟩, by omega⟩, below_alloc (below_alloc (below_alloc (Below.refl _ _) _) _) _⟩⟩
    · exact blk_alloc (blk_newest (by simp) _) _
    · exact blk_newest (by simp) _
  case round => as_aux_lemma =>
    obtain ⟨i, W2, hi2, rfl, hwr, hA2⟩ := hrel
    obtain rfl := hwr.symm
    by_cases hlt : i < n
    · have hip : i < ps.length := by have := HN.out; omega
      obtain ⟨p, hp⟩ : ∃ p, p = ps[i] := ⟨_, rfl⟩
      have hpi : ps[i]? = some p := by rw [hp]; exact List.getElem?_eq_getElem hip
      rcases hps with h0 | ⟨x, rfl, hx1, hx2⟩
      · rw [h0] at hip
        simp at hip
      have hpk := (hx2 i p hpi).below (by rw [add_block]; exact hx1) hA2.out.2
      obtain ⟨A3, c3, hc3, hz3⟩ := hpk.c3
      have hok := hpk.ok
      have hxb : (x.add (i * 4)).block < W2.heap.size := by rw [add_block]; exact Nat.lt_of_lt_of_le hx1 hA2.out.2.size
      obtain ⟨f, c, hmap, hcl, hslot, hinj⟩ := hA2.out.1.due
      obtain ⟨v, vs, hv, hrow, hclo, hvf⟩ := slot_row (hslot p.at_)
      have hll : (GwB.due (ps.take i) p.at_).length ≤ 64 := Nat.le_trans (List.length_filter_le _ _) (by rw [List.length_take]; omega)
      have hcl2 : c ≤ 64 := by rw [List.length_take] at hcl; omega
      have k0 := hpk.c0
      have k1 := hpk.c1
      have k2 := hpk.c2
      have hb8 : Bytes (W2.alloc (.cells #[.int .i64 p.at_, .int .i64 p.mfn, .int .i64 p.off, .slice A3 p.zs.length c3] 146)) A3 p.zs := hz3.below (below_alloc (Below.refl _ _) _)
      have HI := Base.Aside.mk (And.intro hA2.out (And.intro hmap (And.intro hcl (And.intro hslot (And.intro hinj (And.intro hrow (And.intro hclo (And.intro hvf (And.intro hv (And.intro hpi (And.intro hcl2 hll)))))))))))
      have i0' : (0 : Int) ≤ i := by omega
      have i1' : (i : Int) < n := by omega
      clear hA2 hmap hcl hslot hinj hrow hclo hvf hv hpi hx2 hp hip hpk hz3 hcl2 hll
      go_upto_region 10 with (first
        | (at_builtin; refine wpList_app8 (by rfl) _ _ (by rfl) (by rfl) A3 _ c3 p.zs (by rfl) rfl hb8 hok.2.2 ?_; intro A4 c4 w4 hr4 hb4; have E4 := Base.Aside.mk (And.intro hr4 hb4); clear hr4 hb4)
        | go_in)
      have hsz2 := HI.out.1.2.size
      refine wp_world (fun W => Below W2.heap.size W2 W ∧ W.heap[W2.heap.size]? = some (.cells #[.int .i64 p.at_, .int .i64 p.mfn, .int .i64 p.off, .slice A3 p.zs.length c3] 146 (0, 0)) ∧ W.heap[w4.heap.size]? = some (.cells #[.slice A4 p.zs.length c4] 30 (0, 0)) ∧ W.ownsRow w.heap.size 5 1 (.slice A4 p.zs.length c4) p.zs.length (u8s p.zs) ∧ W2.heap.size < w4.heap.size) ?_ ?_
      · have h1 := below_alloc (Below.refl W2.heap.size W2) (.cells #[.int .i64 p.at_, .int .i64 p.mfn, .int .i64 p.off, .slice A3 p.zs.length c3] 146)
        have h2 := E4.out.2.size
        simp only [World.size_alloc] at h2
        refine ⟨below_alloc (below_step h1 E4.out.2) _, blk_alloc (blk_below (blk_new W2 _) (by simp) E4.out.2) _, blk_new _ _, RpA.row_chg (row_mono E4.out.1 (by simp; omega)) (Chg.below (fun _ => False) (below_alloc (Below.refl _ _) _)) (fun _ _ h => h), by omega⟩
      intro W5 ⟨hb5, h8, h9, hr5, h89⟩
      obtain ⟨⟨hv3, hbw⟩, hmap, hcl, hslot, hinj, hrow, hclo, hvf, hv, hpi, hcl2, hll⟩ := HI.out
      have hmap5 := hmap.below hb5
      have hlkA := (hmap5.block (W' := W5.drew) rfl).look Tryz.underlying142 (zeroF _) p.at_ hok.1 hok.2.1
      have hlkB : ∀ o, _ := fun o => ((hmap5.below (below_alloc (Below.refl _ _) o)).block (W' := (W5.alloc o).drew) rfl).look Tryz.underlying142 (zeroF _) p.at_ hok.1 hok.2.1
      rw [hv] at hlkA
      simp only [hv] at hlkB
      obtain ⟨X, hX⟩ := store_fun hmap5 Tryz.underlying142 p.at_ hok.1 hok.2.1 (by omega)
      have hmu := fun v w2 h => (hX v w2 h).1
      have hrow5 := RpA.row_chg hrow (Chg.below (fun _ => False) hb5) (fun _ _ h => h)
      have hbox5 := blk_below hv3.box (blk_lt hv3.box) hb5
      have hblk5 := blk_below hv3.blk (blk_lt hv3.blk) hb5
      have hdb : ∀ y cs t, W5.heap[y]? = some (.cells cs t (0, 0)) → t ≠ 1 → ¬ (v.ownBlock = some y ∨ y = w.heap.size) := by
        intro y cs t hy ht hor
        rcases hor with h1 | h1
        · exact RpA.row_ne hrow5 hy ht h1
        · exact bnm hy hmap5 h1
      have KS : ∀ W' : World, Chg (fun y => v.ownBlock = some y ∨ y = w.heap.size) W5 W' → W'.cell? ⟨w.heap.size + 1 + 1, 0, none⟩ = some (.pointer (some ⟨w.heap.size + 1, 0, none⟩)) ∧ W'.cell? ⟨w.heap.size + 1, 1, none⟩ = some (.map (some w.heap.size)) ∧ W'.cell? ⟨W2.heap.size, 0, none⟩ = some (.int .i64 p.at_) := fun W' hc =>
        ⟨blk_cell (hc.blk hbox5 (hdb _ _ _ hbox5 (by decide))) 0, blk_cell (hc.blk hblk5 (hdb _ _ _ hblk5 (by decide))) 1, blk_cell (hc.blk h8 (hdb _ _ _ h8 (by decide))) 0⟩
      have KB : ∀ W' : World, Below W5.heap.size W5 W' → W'.cell? ⟨w.heap.size + 1 + 1, 0, none⟩ = some (.pointer (some ⟨w.heap.size + 1, 0, none⟩)) ∧ W'.cell? ⟨w.heap.size + 1, 1, none⟩ = some (.map (some w.heap.size)) ∧ W'.cell? ⟨W2.heap.size, 0, none⟩ = some (.int .i64 p.at_) := fun W' hb => KS _ (Chg.below _ hb)
      have R6 : ∀ W' w6 : World, Below W5.heap.size W5 W' → W'.grownBy w6 v.ownBlock → Chg (fun y => v.ownBlock = some y ∨ y = w.heap.size) W5 w6 ∧ w6.heap[w.heap.size]? = W5.heap[w.heap.size]? := by
        intro W' w6 hb hg
        refine ⟨(Chg.below _ hb).trans ⟨hg.os, hg.tape, hg.output, hg.size, fun k hk hf => hg.block k hk (fun e => hf (.inl e.symm))⟩, ?_⟩
        rw [hg.block w.heap.size (Nat.lt_of_lt_of_le hmap5.lt hb.size) (fun e => ?_), hb.block _ hmap5.lt]
        obtain ⟨cs, hcs⟩ := row_kind hrow5 _ e.symm
        exact bnm hcs hmap5 rfl
      have K0 := KB W5 (Below.refl _ _)
      obtain ⟨q0, q1, q2⟩ := K0
      have KX : ∀ v6 w6, w6.heap[w.heap.size]? = W5.heap[w.heap.size]? → Chg (fun y => v.ownBlock = some y ∨ y = w.heap.size) W5 w6 → Chg (fun y => v.ownBlock = some y ∨ y = w.heap.size) W5 (X v6 w6) := fun v6 w6 h hc => hc.trans ((hX v6 w6 h).2.2.mono fun _ h => .inr h)
      have HJ := Base.Aside.mk (And.intro hb5 (And.intro h8 (And.intro h9 (And.intro hr5 hX))))
      obtain ⟨m, hm⟩ : ∃ m, m = (GwB.due (ps.take i) p.at_).length := ⟨_, rfl⟩
      rw [← hm] at hrow5 hll
      have HM := Base.Aside.mk hm
      have hsz5 := hb5.size
      clear hmap hcl hslot hinj hrow hclo hvf hv hpi hv3 hbw hmap5 hbox5 hblk5 hdb h8 h9 hr5 hX hb5 hm
      go_region_held3 (fun Wx => Wx.cell? ⟨w.heap.size + 1 + 1, 0, none⟩ = some (.pointer (some ⟨w.heap.size + 1, 0, none⟩)) ∧ Wx.cell? ⟨w.heap.size + 1, 1, none⟩ = some (.map (some w.heap.size)) ∧ Wx.cell? ⟨W2.heap.size, 0, none⟩ = some (.int .i64 p.at_))
        (first
          | go_keep
          | (with_reducible exact ⟨q0, q1, q2⟩)
          | (with_reducible exact KS _ E6.out.2.2.1)
          | (with_reducible exact KS _ (KX _ _ hm6 E6.out.2.2.1))
          | (refine KB _ ?_; (repeat (with_reducible first | exact Below.refl _ _ | refine below_drew ?_ | refine below_alloc ?_ _))))
        ((refine step_append_lies _ (by rfl) _ _ _ (by rfl) w.heap.size 1 i0 .nilFunc 1 8 Tryz.underlying147 hi hz0 hz1 hz2 rfl (by omega) v m vs (by rfl) (RpA.row_chg hrow5 (Chg.below (fun _ => False) (by (repeat (with_reducible first | exact Below.refl _ _ | refine below_drew ?_ | refine below_alloc ?_ _)))) (fun _ _ h => h))
              ⟨W5.heap.size, 0, none⟩ 1 1 [.func (.func 60) #[] #[.pointer (some ⟨w.heap.size + 1 + 1, 0, none⟩), .pointer (some ⟨W2.heap.size, 0, none⟩), .pointer (some ⟨w4.heap.size, 0, none⟩)]] (by rfl) (by rfl) (World.news_of_block (cs := #[.func (.func 60) #[] #[.pointer (some ⟨w.heap.size + 1 + 1, 0, none⟩), .pointer (some ⟨W2.heap.size, 0, none⟩), .pointer (some ⟨w4.heap.size, 0, none⟩)]]) (t := 1) (fr := (0, 0)) (heap_alloc_new W5 _)) (by simp [Value.oneCell'])
              (by omega) (by unfold maxLen; omega) (by omega) (by simp; omega) (W5.heap.size + 1) (by simp) ?_; intro g6 cap6 w6 hown6 hgr6 hat6 hlt6; obtain ⟨hc6, hm6⟩ := R6 _ _ (by (repeat (with_reducible first | exact Below.refl _ _ | refine below_drew ?_ | refine below_alloc ?_ _))) hgr6; have h16 : ∃ W1 : World, Below W5.heap.size W5 W1 ∧ W1.grownBy w6 v.ownBlock := ⟨_, (by (repeat (with_reducible first | exact Below.refl _ _ | refine below_drew ?_ | refine below_alloc ?_ _))), hgr6⟩; have E6 := Base.Aside.mk (And.intro hown6 (And.intro h16 (And.intro hc6 hat6))); clear hown6 hgr6 hat6 hlt6 hc6 h16))
      all_goals
        go_wp2_with fail
        refine ⟨⟨i + 1, _, by omega, by simp, rfl, ?_⟩, by simp [intOf]; omega⟩
        obtain ⟨⟨hv3, hbw⟩, hmap, hcl, hslot, hinj, hrow, hclo, hvf, hv, hpi, hcl2, hll⟩ := HI.out
        obtain ⟨hb5, h8, h9, hr5, hX⟩ := HJ.out
        obtain ⟨hown6, ⟨W1, hb1, hgr6⟩, hc6, hat6⟩ := E6.out
        have hmm := HM.out
        subst hmm
        have hX6 := hX (.slice (some ⟨g6, 0, none⟩) ((GwB.due (ps.take i) p.at_).length + 1) cap6) w6 hm6
        have hb21 : Below W2.heap.size W2 W1 := below_step hb5 hb1
        have hclo1 : Clo W1 w.heap.size (w.heap.size + 1 + 1) (.func (.func 60) #[] #[.pointer (some ⟨w.heap.size + 1 + 1, 0, none⟩), .pointer (some ⟨W2.heap.size, 0, none⟩), .pointer (some ⟨w4.heap.size, 0, none⟩)]) p :=
          ⟨_, _, A4, c4, _, rfl, blk_below h8 (blk_lt h8) hb1, blk_below h9 (blk_lt h9) hb1, RpA.row_chg hr5 (Chg.below (fun _ => False) hb1) (fun _ _ h => h), by omega, by omega⟩
        have hs21 := hb21.size
        have hs5 := hb5.size
        have key := v3_add (r := 0) hv3.blk hv3.box hmap hcl hslot hinj hv3.ge p hrow hclo hvf hb21 hclo1 hgr6 hown6 (by rcases hat6 with h | h; exact .inl h; exact .inr (by omega)) hX6.2.1 hX6.2.2
        have e1 : ps.take (i + 1) = ps.take i ++ [p] := by rw [List.take_add_one, hpi]; rfl
        rw [e1]
        have hlow : ∀ k, (v.ownBlock = some k ∨ k = w.heap.size) → w.heap.size ≤ k := by
          intro k hk
          rcases hk with hk | hk
          · obtain ⟨cap1, hf1⟩ := hvf k hk
            exact (hrow.lt k hk).1
          · omega
        exact ⟨key.below (by first | exact Below.refl _ _ | exact (Below.refl _ _).drew), ((KX _ _ hm6 hc6).out (below_step hbw hb5) (by omega) hlow).trans (by first | exact (Below.refl _ _).mono (by omega) | exact ((Below.refl _ _).drew).mono (by have := ((KX _ _ hm6 hc6)).size; omega))⟩
    · obtain rfl : i = n := by omega
      obtain ⟨hv3, hb3⟩ := hA2.out
      have e1 : ps.take i = ps := by rw [HN.out, List.take_length]
      rw [e1] at hv3
      have C2 := fun i => blk_cell hv3.box i
      have HE := Base.Aside.mk (And.intro hv3 hb3)
      clear hv3 hb3 hlt
      go_wp2
      go_ret2
      exact ⟨_, _, _, rfl, HE.out.1, HE.out.2⟩
end
end Go.Proofs.YthlejchcnfdcpaaGreat.GwE
