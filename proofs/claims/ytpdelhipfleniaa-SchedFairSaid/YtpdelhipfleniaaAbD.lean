/- Proved: what Drop of the program's scheduler makes of the state that it holds (contracts for the laws of the scheduler). -/
import Derived.Test.YtpdelhipfleniaaAbC
namespace Go.Proofs.Ytpdelhipfleniaa.AbD
open Go.RowKit Go.Maps Go.Proofs.Ytpdelhipfleniaa.Base Go.Proofs.Ytpdelhipfleniaa.SchA Go.Proofs.Ytpdelhipfleniaa.PlB Go.Proofs.Ytpdelhipfleniaa.PlC Go.Proofs.Ytpdelhipfleniaa.PlD Go.Proofs.Ytpdelhipfleniaa.PlE Go.Proofs.Ytpdelhipfleniaa.PlF Go.Proofs.Ytpdelhipfleniaa.PlG Go.Proofs.Ytpdelhipfleniaa.PlH Go.Proofs.Ytpdelhipfleniaa.PlI Go.Proofs.Ytpdelhipfleniaa.PlJ Go.Proofs.Ytpdelhipfleniaa.PlK Go.Proofs.Ytpdelhipfleniaa.PlL Go.Proofs.Ytpdelhipfleniaa.RfA Go.Proofs.Ytpdelhipfleniaa.RfB Go.Proofs.Ytpdelhipfleniaa.RfC Go.Proofs.Ytpdelhipfleniaa.RfD Go.Proofs.Ytpdelhipfleniaa.RfE Go.Proofs.Ytpdelhipfleniaa.RfF Go.Proofs.Ytpdelhipfleniaa.RfG Go.Proofs.Ytpdelhipfleniaa.RfH Go.Proofs.Ytpdelhipfleniaa.AbA Go.Proofs.Ytpdelhipfleniaa.AbB Go.Proofs.Ytpdelhipfleniaa.AbC
set_option linter.unusedVariables false

/-- Those of a list that are a domain's are dropped. -/
def dropL (σ : St) (dom : Int) (l : List Int) : St := { σ with p := fun k => σ.p k && !(l.contains (k : Int) && ((σ.e k).dom == dom)), q := σ.q.filter (fun y => !(l.contains y && ((σ.e y.toNat).dom == dom))) }
def dropN (σ : St) (dom : Int) (l : List Int) : Nat := (l.filter (fun x => (σ.e x.toNat).dom == dom)).length
section
variable {X F : Nat → Prop} {w : World} {S : Nat} {σ : St} {dom : Int} {l : List Int}
theorem dropL_nil : dropL σ dom [] = σ := by
  unfold dropL
  have e1 : (fun k => σ.p k && !(([] : List Int).contains (k : Int) && ((σ.e k).dom == dom))) = σ.p := by
    funext k
    simp
  have e2 : σ.q.filter (fun y => !(([] : List Int).contains y && ((σ.e y.toNat).dom == dom))) = σ.q := by
    rw [List.filter_eq_self]
    intro y _
    simp
  rw [e1, e2]
theorem dropL_miss (k : Nat) (h : ((σ.e k).dom == dom) = false) : dropL σ dom (l ++ [(k : Int)]) = dropL σ dom l := by
  unfold dropL
  congr 1
  · funext j
    by_cases e1 : j = k
    · subst e1
      rw [h, Bool.and_false, Bool.and_false]
    · have : ((l ++ [(k : Int)]).contains (j : Int)) = l.contains (j : Int) := by
        simp only [List.contains_eq_mem, List.mem_append, List.mem_singleton]
        exact decide_eq_decide.2 ⟨fun h => h.elim id (fun h => by omega), .inl⟩
      rw [this]
  · refine List.filter_congr fun y _ => ?_
    by_cases e1 : y = (k : Int)
    · subst e1
      rw [Int.toNat_natCast, h, Bool.and_false, Bool.and_false]
    · have : ((l ++ [(k : Int)]).contains y) = l.contains y := by
        simp only [List.contains_eq_mem, List.mem_append, List.mem_singleton]
        exact decide_eq_decide.2 ⟨fun h => h.elim id (fun h => absurd h e1), .inl⟩
      rw [this]
theorem dropL_hit (k : Nat) (h : ((σ.e k).dom == dom) = true) : dropL σ dom (l ++ [(k : Int)]) = removeS (dropL σ dom l) k := by
  unfold dropL removeS delP outr
  simp only [List.filter_filter]
  congr 1
  · funext j
    by_cases e1 : j = k
    · subst e1
      rw [if_pos rfl, h]
      simp
    · rw [if_neg e1]
      have : ((l ++ [(k : Int)]).contains (j : Int)) = l.contains (j : Int) := by
        simp only [List.contains_eq_mem, List.mem_append, List.mem_singleton]
        exact decide_eq_decide.2 ⟨fun h => h.elim id (fun h => by omega), .inl⟩
      rw [this]
  · refine List.filter_congr fun y _ => ?_
    by_cases e1 : y = (k : Int)
    · subst e1
      rw [Int.toNat_natCast, h]
      simp
    · have : ((l ++ [(k : Int)]).contains y) = l.contains y := by
        simp only [List.contains_eq_mem, List.mem_append, List.mem_singleton]
        exact decide_eq_decide.2 ⟨fun h => h.elim id (fun h => absurd h e1), .inl⟩
      rw [this, show (y != (k : Int)) = true by simpa using e1, Bool.true_and]
theorem dropN_miss (k : Nat) (h : ((σ.e k).dom == dom) = false) : dropN σ dom (l ++ [(k : Int)]) = dropN σ dom l := by
  unfold dropN
  rw [List.filter_append]
  simp [h]
theorem dropN_hit (k : Nat) (h : ((σ.e k).dom == dom) = true) : dropN σ dom (l ++ [(k : Int)]) = dropN σ dom l + 1 := by
  unfold dropN
  rw [List.filter_append]
  simp [h]
theorem dropN_le : dropN σ dom l ≤ l.length := List.length_filter_le _ _
theorem mem_keysP {p : Nat → Bool} {x : Int} : x ∈ keysP p ↔ ∃ k : Nat, x = k ∧ k < 16 ∧ p k = true := by
  simp only [keysP, List.mem_map, List.mem_filter, List.mem_range]
  exact ⟨fun ⟨k, ⟨h1, h2⟩, h3⟩ => ⟨k, h3.symm, h1, h2⟩, fun ⟨k, h3, h1, h2⟩ => ⟨k, ⟨h1, h2⟩, h3.symm⟩⟩
theorem dropL_all (hi : Inv σ) : dropL σ dom (keysP σ.p) = dropS σ dom := by
  have hc : ∀ k : Nat, (keysP σ.p).contains (k : Int) = (decide (k < 16) && σ.p k) := fun k => by
    rw [List.contains_eq_mem]
    cases hp : σ.p k with
    | false => simp only [Bool.and_false, decide_eq_false_iff_not]; rw [mem_keysP]; rintro ⟨j, e1, _, h⟩; have : j = k := by omega
               subst this; rw [hp] at h; cases h
    | true => rw [Bool.and_true]; exact decide_eq_decide.2 ⟨fun h => by obtain ⟨j, e1, h, _⟩ := mem_keysP.1 h; omega, fun h => mem_keysP.2 ⟨k, rfl, h, hp⟩⟩
  unfold dropL dropS
  congr 1
  · funext k
    rw [hc, dropP]
    cases σ.p k <;> simp
  · unfold dropQ
    refine List.filter_congr fun y hy => ?_
    obtain ⟨k, rfl, h16, hp⟩ := hi.qin y hy
    rw [hc, Int.toNat_natCast, hit, hp]
    simp
theorem dropN_all : dropN σ dom (keysP σ.p) = dropC σ.p σ.e dom 16 := by
  unfold dropN dropC keysP
  rw [List.filter_map, List.length_map, List.filter_filter]
  congr 1
  refine List.filter_congr fun k _ => ?_
  simp [hit, Bool.and_comm]
theorem row_form2 {base : Nat} {w : World} {qv : Value} {q : List Int} (h : Row base w qv q) : ∃ a cap, qv = .slice a q.length cap ∧ (q.length = 0 ∨ ∃ g cur, a = some ⟨g, 0, none⟩ ∧ base ≤ g ∧ w.heap[g]? = some (.cells cur 3 (0, 0)) ∧ ∀ j, j < q.length → cur[j]? = some (.int .i64 (q.getD j 0))) := by
  rcases Row.form h with ⟨rfl, rfl⟩ | ⟨g, cap, cur, rfl, hb, hbk, _⟩
  · exact ⟨none, 0, rfl, .inl rfl⟩
  · exact ⟨_, cap, rfl, .inr ⟨g, cur, rfl, hb, hbk, fun j hj => (blk_cell hbk j).symm.trans (Row.cell h j hj)⟩⟩
theorem keysP_nodup (p : Nat → Bool) : (keysP p).Nodup := by
  unfold keysP
  refine List.pairwise_map.2 ((List.nodup_range.filter p).imp fun h => by omega)

set_option maxHeartbeats 4000000 in
set_option maxRecDepth 100000 in
theorem sDrop (h : Sst X F w S σ) (hb : Old X w) (hi : Inv σ) (dom : Int) :
    Calls Try.prog 18 #[.pointer (some ⟨S, 0, none⟩), .int .i64 dom] w fun z w' => z = .returned (.int .i64 (dropC σ.p σ.e dom 16)) ∧ ∃ F', Sst X F' w' S (dropS σ dom) ∧ Kept X w w' := by
  obtain ⟨M, s, c, qv, hS, hp, hc, hF⟩ := id h
  have hks : keysS s = keysP σ.p := by
    unfold keysS keysP
    rw [show (fun k => (s k).isSome) = σ.p from funext hp]
  have hhi : ∀ k, 16 ≤ k → s k = none := fun k hk => by
    rcases s_none (n := (k : Int)) hp (.inr (by rw [Int.toNat_natCast]; exact hi.hi k hk)) with h | h
    · omega
    · rw [Int.toNat_natCast] at h
      exact h
  have hnum := numbers_calls hS (by rw [hc]; exact keysP_len _) hhi
  rw [hks] at hnum
  have hfin := dropL_all (dom := dom) hi
  have hfinN := dropN_all (σ := σ) (dom := dom)
  have hl16 := keysP_len σ.p
  have hnd := keysP_nodup σ.p
  have hmem : ∀ x ∈ keysP σ.p, ∃ k : Nat, x = k ∧ k < 16 ∧ σ.p k = true := fun x hx => mem_keysP.1 hx
  generalize keysP σ.p = ks at hnum hfin hfinN hl16 hnd hmem
  have LS := hS.lt
  have CS := fun i => blk_cell hS.blk i
  go_enter Try.func18, Try.ntmps18
  go_wp2_with (first
    | (go_at_call 24; refine (none_calls hS).mono ?_; rintro z w1 ⟨rfl, hw1⟩; obtain rfl := hw1.symm)
    | (go_at_call 30; refine hnum.mono ?_; rintro z w1 ⟨v, rfl, hrow, hbel⟩; obtain ⟨a, cap, rfl, hfo⟩ := row_form2 hrow)
    | go_in)
  have hX : ∃ X' : Nat → Prop, (∀ k, X k → X' k) ∧ Old X' w1 ∧ Sst X' F w1 S σ ∧ ∀ j, j < ks.length → ∃ g cur, a = some ⟨g, 0, none⟩ ∧ X' g ∧ w1.heap[g]? = some (.cells cur 3 (0, 0)) ∧ cur[j]? = some (.int .i64 (ks.getD j 0)) := by
    rcases hfo with hn | ⟨g, cur, rfl, hg0, hgb, hgc⟩
    · exact ⟨X, fun _ h => h, Old.up hb hbel.size, h.move (fun k hk => hbel.block k (h.lt k hk)) h.apart, fun j hj => by omega⟩
    · refine ⟨fun k => X k ∨ k = g, fun k hk => .inl hk, fun k hk => hk.elim (fun h => Nat.lt_of_lt_of_le (hb k h) hbel.size) (fun e => e ▸ blk_lt hgb), h.move (fun k hk => hbel.block k (h.lt k hk)) (fun k hk hx => ?_), fun j hj => ⟨g, cur, rfl, .inr rfl, hgb, hgc j hj⟩⟩
      rcases hx with hx | rfl
      · exact h.apart k hk hx
      · have := h.lt k hk
        omega
  obtain ⟨X', hXX, hold, hst, hcells⟩ := hX
  have H : Base.Aside (∃ F', Sst X' F' w1 S (dropL σ dom (ks.take 0)) ∧ Kept X' w1 w1) := Aside.mk ⟨F, by rw [List.take_zero, dropL_nil]; exact hst, Kept.refl _ _⟩
  clear hfo hst
  go_loopw [5, 13] (fun m i wr => ∃ (j : Nat) (W2 : World), j ≤ ks.length ∧ m = .int .i64 (dropN σ dom (ks.take j)) ∧ i = .int .i64 j ∧ wr = W2 ∧ Aside (∃ F', Sst X' F' W2 S (dropL σ dom (ks.take j)) ∧ Kept X' w1 W2)) (fun _ i _ => ks.length - (intOf i).toNat)
  case atStart => exact ⟨0, w1, Nat.zero_le _, rfl, rfl, rfl, H.out⟩
  case round =>
    obtain ⟨j, W2, hj, rfl, rfl, hwr, hE⟩ := hrel
    obtain rfl := hwr.symm
    obtain ⟨F2, hst, hK⟩ := hE.out
    obtain ⟨M2, s2, c2, qv2, hS2, hp2, hc2, hF2⟩ := id hst
    have C0 := fun i => blk_cell hS2.blk i
    have L0 := blk_lt hS2.blk
    have hnle : dropN σ dom (ks.take j) ≤ 16 := Nat.le_trans dropN_le (by rw [List.length_take]; omega)
    clear H
    by_cases hlt : j < ks.length
    · obtain ⟨g, cur, rfl, hXg, hgb, hgc⟩ := hcells j hlt
      have hgb2 := (hK.block g hXg).trans hgb
      have hcell := (blk_cell hgb2 j).trans hgc
      have Lg := blk_lt hgb2
      have hget : ks.getD j 0 = ks[j] := by rw [List.getD_eq_getElem?_getD, List.getElem?_eq_getElem hlt]; rfl
      rw [hget] at hcell
      obtain ⟨k, ek, h16, hpk⟩ := hmem _ (List.getElem_mem hlt)
      rw [ek] at hcell
      have hstep : ks.take (j + 1) = ks.take j ++ [(k : Int)] := by rw [take_snoc ks j hlt, ek]
      have hnin : (k : Int) ∉ ks.take j := fun hm => by
        have h1 : (ks.take j ++ [(k : Int)]).Nodup := by rw [← hstep]; exact (List.take_sublist _ _).nodup hnd
        rw [List.nodup_append] at h1
        exact h1.2.2 _ hm _ (List.mem_singleton.2 rfl) rfl
      have hpk2 : (dropL σ dom (ks.take j)).p k = true := by
        show (σ.p k && !((ks.take j).contains (k : Int) && _)) = true
        rw [hpk, List.contains_eq_mem, decide_eq_false hnin]
        rfl
      obtain ⟨g3, hg3⟩ := s_some hp2 hpk2
      have hl := hS2.map.look k (by omega)
      rw [hg3] at hl
      simp only [pv] at hl
      have CE := blk_cell (hS2.ent k g3 hg3) 0
      have LE := blk_lt (hS2.ent k g3 hg3)
      simp only [vcells, dropL] at CE
      by_cases hd : (σ.e k).dom = dom
      · have b1 : ((σ.e k).dom == dom) = true := by simpa using hd
        have hrm := sRemove1 hst (Old.up hold hK.size) (hi.nd.filter _) k h16 hpk2
        have HK := Aside.mk hK
        have e1 := Aside.mk (dropL_hit (σ := σ) (l := ks.take j) k b1)
        have e2 := Aside.mk (dropN_hit (σ := σ) (l := ks.take j) k b1)
        have e3 := Aside.mk hstep
        clear hst hK hE hstep ek hfin hfinN
        go_wp2_with (first
          | (go_at_call 16; refine hrm.mono ?_; rintro z w3 ⟨rfl, F3, h3, hK3⟩; have H3 := Aside.mk (And.intro h3 (HK.out.trans hK3)); clear h3 hK3)
          | go_in)
        refine ⟨⟨j + 1, w3, by omega, by rw [e3.out, e2.out]; simp, by simp, rfl, ?_⟩, by simp [intOf]; omega⟩
        rw [e3.out, e1.out]
        exact ⟨F3, H3.out.1, H3.out.2⟩
      · have b1 : ((σ.e k).dom == dom) = false := beq_eq_false_iff_ne.2 hd
        have HE := Aside.mk hE.out
        have e1 := Aside.mk (dropL_miss (σ := σ) (l := ks.take j) k b1)
        have e2 := Aside.mk (dropN_miss (σ := σ) (l := ks.take j) k b1)
        have e3 := Aside.mk hstep
        clear hst hK hE hstep ek hfin hfinN
        go_wp2
        refine ⟨⟨j + 1, W2, by omega, by rw [e3.out, e2.out], by simp, rfl, ?_⟩, by simp [intOf]; omega⟩
        rw [e3.out, e1.out]
        exact HE.out
    · obtain rfl : j = ks.length := by omega
      have HE := Aside.mk hE.out
      rw [List.take_length] at *
      have e1 := Aside.mk hfin
      have e2 := Aside.mk hfinN
      clear hst hK hE hfin hfinN
      go_wp2
      go_ret
      obtain ⟨F9, h9, k9⟩ := HE.out
      rw [e1.out] at h9
      have h10 : Sst X F9 W2 S (dropS σ dom) := h9.move (fun _ _ => rfl) (fun k hk hx => h9.apart k hk (hXX k hx))
      have k10 : Kept X w W2 := ⟨k9.os.trans hbel.os, k9.tape.trans hbel.tape, k9.output.trans hbel.output, Nat.le_trans hbel.size k9.size, fun k hk => (k9.block k (hXX k hk)).trans (hbel.block k (hb k hk))⟩
      refine ⟨by rw [e2.out]; first | rfl | (simp; done), ?_⟩
      first
        | exact ⟨F9, h10, k10⟩
        | exact ⟨⟨F9, h10⟩, k10⟩
end
end Go.Proofs.Ytpdelhipfleniaa.AbD
