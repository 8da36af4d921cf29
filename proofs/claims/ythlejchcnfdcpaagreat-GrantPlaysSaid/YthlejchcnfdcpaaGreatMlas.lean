/- Proved: places, and a frame given away, at every argument (contracts for the laws of the grants). Proved: the document's frames, at every argument (contracts for the laws of the grants). Proved: a domain's places, listed (contracts for the laws of the grants). -/
import Derived.Test.YthlejchcnfdcpaaGreatMlad
import Derived.Test.YthlejchcnfdcpaaGreatMlae
import Derived.Test.YthlejchcnfdcpaaGreatMlah
import Derived.Test.YthlejchcnfdcpaaGreatMlai
import Derived.Test.YthlejchcnfdcpaaGreatMlan
import Derived.Test.YthlejchcnfdcpaaGreatMlar
namespace Go.Proofs.YthlejchcnfdcpaaGreat.GwO
open Go.RowKit Go.Maps Base GaA GaB GaC GaD GmA GmB GpA GfB GfC
set_option linter.unusedVariables false
set_option linter.unusedSimpArgs false

/-- Why a frame does not stand at a place. -/
def setE (size : Nat) (fr pl : Int → Option Int) (g m : Int) : Int := if ¬ (0 ≤ g ∧ g < size) then 1 else if ¬ (0 ≤ m ∧ m < 256) then 1 else if (fr g).isSome then 30 else if (pl m).isSome then 8 else 0
theorem wpJ_delete {P : Program} {w : World} {ops : Array Oper} {rest : List Oper} {o : Oper} {a : Act} {Q : Exit → Act → World → Prop} {M c : Nat} {f : Int → Option Value} (hP : P = Tryz.prog) (hg : o.guard = none) (m x : Operand)
    (hop : o.op = Op.call { callee := Callee.builtin Builtin.delete, args := #[m, x], argTypes := #[123, 3] }) (h : IMap w M f c) (p : Int) (hp : okI p) (hn : (f p).isSome = true)
    (hm : a.eval m = .map (some M)) (hx : a.eval x = .int .i64 p)
    (hK : ∀ w', IMap w' M (del f p) (c - 1) → Chg (fun k => k = M) w w' → wpList P ops Q rest (a.put o.dst (.tuple #[])) w') :
    wpList P ops Q (o :: rest) a w := by
  subst hP
  refine wpList_plain hg fun K' hK' => ?_
  obtain ⟨w', hrun, r1, r2⟩ := h.drop Tryz.underlying123 p hp.1 hp.2 hn o.type
  unfold Oper.wp
  simp [execOp, hop, resolve, invoke, builtin, hm, hx, hrun, Result.andThen]
  exact hK' _ _ (hK w' r1 r2)
def idel (f : Int → Option Int) (k : Int) : Int → Option Int := fun x => if x = k then none else f x
theorem ivs_del (f : Int → Option Int) (k : Int) : ivs (idel f k) = del (ivs f) k := by
  funext x
  unfold ivs idel del
  split <;> rfl
section
variable {w w' W : World} {pb fm pm size : Nat} {fr pl : Int → Option Int} {c : Nat}
set_option maxHeartbeats 4000000 in
set_option maxRecDepth 100000 in
theorem set_no (h : P2 w pb fm pm size fr pl c) (hs : size ≤ 48) (g m : Int) (hne : setE size fr pl g m ≠ 0) :
    Calls Tryz.prog 15 #[.pointer (some ⟨pb, 0, none⟩), .int .i64 g, .int .i64 m] w fun e w' => e = .returned (.int .i64 (setE size fr pl g m)) ∧ w' = w := by
  have C0 := fun i => blk_cell h.blk i
  have L0 := blk_lt h.blk
  by_cases hg : 0 ≤ g ∧ g < size
  · obtain ⟨k, rfl⟩ : ∃ k : Nat, g = k := ⟨g.toNat, by omega⟩
    have hp := place_calls h k (by omega)
    have e0 : setE size fr pl k m = if ¬ (0 ≤ m ∧ m < 256) then 1 else if (fr k).isSome then 30 else if (pl m).isSome then 8 else 0 := if_neg (by simp; omega)
    rw [e0] at hne ⊢
    by_cases hm : 0 ≤ m ∧ m < 256
    · have d0 : decide (m < 0) = false := decide_eq_false (by omega)
      have d1 : decide (256 ≤ m) = false := decide_eq_false (by omega)
      rw [if_neg (by simp; omega)] at hne ⊢
      have hk1 := h.mf.look_ok Tryz.underlying123 (zeroI w) k (by omega) (by omega)
      have hk2 := h.mp.look_ok Tryz.underlying123 (zeroI w) m (by omega) (by omega)
      cases hf : fr k with
      | some x =>
        have e1 : ivs fr k = some (.int .i64 x) := by unfold ivs; rw [hf]; rfl
        rw [e1] at hk1
        simp only [Option.getD_some, Option.isSome_some] at hk1
        clear h hg hne hm hk2 e0 e1
        go_enter Tryz.func15, Tryz.ntmps15
        go_wp2_with (first
          | (go_at_call 50; (with_reducible refine hp.mono ?_); rintro z w1 ⟨rfl, hw1⟩; obtain rfl := hw1.symm)
          | go_in)
        go_ret
        exact ⟨by first | rfl | (simp; done), rfl⟩
      | none =>
        rw [hf] at hne
        have e1 : ivs fr k = none := by unfold ivs; rw [hf]; rfl
        rw [e1] at hk1
        simp only [Option.getD_none, Option.isSome_none] at hk1
        cases hf2 : pl m with
        | none => rw [hf2] at hne; simp at hne
        | some x =>
          have e2 : ivs pl m = some (.int .i64 x) := by unfold ivs; rw [hf2]; rfl
          rw [e2] at hk2
          simp only [Option.getD_some, Option.isSome_some] at hk2
          clear h hg hne hm e0 e1 e2
          go_enter Tryz.func15, Tryz.ntmps15
          go_wp2_with (first
            | (go_at_call 50; (with_reducible refine hp.mono ?_); rintro z w1 ⟨rfl, hw1⟩; obtain rfl := hw1.symm)
            | go_in)
          go_ret
          exact ⟨by first | rfl | (simp; done), rfl⟩
    · rw [if_pos hm]
      have hd : decide (m < 0) = true ∨ (decide (m < 0) = false ∧ decide (256 ≤ m) = true) := by
        by_cases h1 : m < 0
        · exact .inl (decide_eq_true h1)
        · exact .inr ⟨decide_eq_false h1, decide_eq_true (by omega)⟩
      clear h hg hne hm e0
      rcases hd with d0 | ⟨d0, d1⟩
      all_goals
        go_enter Tryz.func15, Tryz.ntmps15
        go_wp2_with (first
          | (go_at_call 50; (with_reducible refine hp.mono ?_); rintro z w1 ⟨rfl, hw1⟩; obtain rfl := hw1.symm)
          | go_in)
        go_ret
        exact ⟨by first | rfl | (simp; done), rfl⟩
  · have hp := place_out h g (by omega)
    have e0 : setE size fr pl g m = 1 := if_pos hg
    rw [e0]
    clear h hg hne e0
    go_enter Tryz.func15, Tryz.ntmps15
    go_wp2_with (first
      | (go_at_call 50; (with_reducible refine hp.mono ?_); rintro z w1 ⟨rfl, hw1⟩; obtain rfl := hw1.symm)
      | go_in)
    go_ret
    exact ⟨by first | rfl | (simp; done), rfl⟩
set_option maxHeartbeats 4000000 in
set_option maxRecDepth 100000 in
/-- A place is emptied. -/
theorem clear_ok (h : P2 w pb fm pm size fr pl c) (hs : size ≤ 48) (g m : Int) (hg : 0 ≤ g ∧ g < size) (hf : fr g = some m) (hok : okI m) (hp : (pl m).isSome = true) :
    Calls Tryz.prog 105 #[.pointer (some ⟨pb, 0, none⟩), .int .i64 g] w fun e w' => (∃ v, e = .returned v) ∧ P2 w' pb fm pm size (idel fr g) (idel pl m) (c - 1) ∧ Chg (fun k => k = fm ∨ k = pm) w w' := by
  have C0 := fun i => blk_cell h.blk i
  have L0 := blk_lt h.blk
  have hge := get_calls h g hs
  have e1 : getV size fr g = (m, 0) := by unfold getV; rw [if_pos hg, hf]
  rw [e1] at hge
  simp only at hge
  have hokg : okI g := ⟨by omega, by omega⟩
  have s1 : (ivs fr g).isSome = true := by unfold ivs; rw [hf]; rfl
  have s2 : (ivs pl m).isSome = true := by
    unfold ivs
    cases hpm : pl m with
    | none => rw [hpm] at hp; cases hp
    | some x => rfl
  have HH := Base.Aside.mk h
  have R1 : ∀ w4, Chg (fun k => k = fm) w w4 → w4.heap[pb]? = some (.cells #[.map (some fm), .map (some pm), .int .i64 size] 125 (0, 0)) ∧ IMap w4 pm (ivs pl) c := fun w4 hc => ⟨hc.blk h.blk h.nef, h.mp.chg hc (fun e => h.ne e.symm)⟩
  clear h hf hp e1
  go_enter Tryz.func105, Tryz.ntmps105
  go_upto_region 3 with (first
    | (go_at_call 100; (with_reducible refine hge.mono ?_); rintro z w1 ⟨rfl, hw1⟩; obtain rfl := hw1.symm)
    | go_in)
  go_upto_region 4 with (first
    | (at_delete; (refine wpJ_delete rfl rfl _ _ rfl HH.out.mf g hokg s1 (by go_simp) (by go_simp) ?_); intro w4 hI4 hC4; obtain ⟨q1, q2⟩ := R1 w4 hC4; have C4 := fun i => blk_cell q1 i; have L4 := blk_lt q1; have E4 := Base.Aside.mk (And.intro hI4 (And.intro hC4 (And.intro q1 q2))); clear hI4 hC4 q1 q2)
    | go_in)
  clear C0
  go_wp2_with (first
    | (at_delete; (refine wpJ_delete rfl rfl _ _ rfl E4.out.2.2.2 m hok s2 (by go_simp) (by go_simp) ?_); intro w5 hI5 hC5; have E5 := Base.Aside.mk (And.intro hI5 hC5); clear hI5 hC5)
    | go_in)
  refine bodyPost_ret (v := .tuple #[.int .i64 m, .int .i64 0]) (by simp only [results, Tryz.results105]; go_simp; try rfl) rfl ⟨⟨_, rfl⟩, ⟨?_, ?_, ?_, HH.out.ne⟩, ?_⟩
  · exact E5.out.2.blk E4.out.2.2.1 HH.out.nep
  · rw [ivs_del]
    exact E4.out.1.chg E5.out.2 HH.out.ne
  · rw [ivs_del]
    exact E5.out.1
  · exact (E4.out.2.1.mono fun _ h => .inl h).trans (E5.out.2.mono fun _ h => .inr h)
end
section
variable {w w' W : World} {mb fb : Nat} {s : MS}
/-- Why a frame is not given away. -/
def giveE (s : MS) (k d : Int) : Int := if ¬ (0 ≤ k ∧ k < s.n) then 1 else if ¬ (0 ≤ d ∧ d < 8) then 1 else if (s.fr k.toNat).own = -1 then 11 else if (s.fr k.toNat).tot ≠ 0 then 9 else 0
set_option maxHeartbeats 4000000 in
set_option maxRecDepth 100000 in
theorem rest_calls (h : Mach w mb fb s) (k : Nat) (hk : k < s.n) : Calls Tryz.prog 112 #[.pointer (some ⟨fb, k * 260, none⟩)] w fun e w' => e = .returned (.int .i64 (if (s.fr k).own = -1 then 11 else if (s.fr k).tot ≠ 0 then 9 else 0)) ∧ w' = w := by
  have c0 := h.own k hk
  have c3 := h.tot k hk
  have L1 := h.lt.2
  clear h
  by_cases h1 : (s.fr k).own = -1
  · have d0 : ((s.fr k).own == -1) = true := by simp [h1]
    rw [if_pos h1]
    go_enter Tryz.func112, Tryz.ntmps112
    go_wp2
    go_ret
    exact ⟨by first | rfl | (simp; done), rfl⟩
  · have d0 : ((s.fr k).own == -1) = false := by simp [h1]
    rw [if_neg h1]
    by_cases h2 : (s.fr k).tot = 0
    · have d3 : ((s.fr k).tot == 0) = true := by simp [h2]
      have d4 : ((s.fr k).tot != 0) = false := by simp [h2]
      rw [if_neg (by simp [h2])]
      clear h1 h2
      go_enter Tryz.func112, Tryz.ntmps112
      go_wp2
      go_ret
      exact ⟨by first | rfl | (simp; done), rfl⟩
    · have d3 : ((s.fr k).tot == 0) = false := by simp [h2]
      have d4 : ((s.fr k).tot != 0) = true := by simp [h2]
      rw [if_pos h2]
      clear h1 h2
      go_enter Tryz.func112, Tryz.ntmps112
      go_wp2
      go_ret
      exact ⟨by first | rfl | (simp; done), rfl⟩
set_option maxHeartbeats 4000000 in
set_option maxRecDepth 100000 in
/-- A frame that rests is given to another domain. -/
theorem give_ok (h : Mach w mb fb s) (k : Nat) (hk : k < s.n) (d : Int) (h0 : 0 ≤ d ∧ d < 8) (ho : (s.fr k).own ≠ -1) (ht : (s.fr k).tot = 0) : Calls Tryz.prog 106 #[.pointer (some ⟨mb, 0, none⟩), .int .i64 k, .int .i64 d] w fun e w' => e = .returned (.int .i64 0) ∧ Mach w' mb fb (give s k d) ∧ Chg (fun x => x = fb) w w' := by
  have ha := at_calls h k hk
  have hr := rest_calls h k hk
  rw [if_neg ho, if_neg (by simp [ht])] at hr
  have hd := domain_in d h0.1 h0.2
  have hg := GaD.Mach.give h k hk d
  have c0 := h.own k hk
  have f0 := fun i => h.frozen i
  have L1 := h.lt.2
  have HG := Base.Aside.mk hg
  clear h hg ho ht
  go_enter Tryz.func106, Tryz.ntmps106
  go_wp2_with (first
    | (go_at_call 90; (with_reducible refine ha.mono ?_); rintro z w1 ⟨rfl, hw1⟩; obtain rfl := hw1.symm)
    | (go_at_call 112; (with_reducible refine hr.mono ?_); rintro z w1 ⟨rfl, hw1⟩; obtain rfl := hw1.symm)
    | (go_at_call 46; (with_reducible refine (hd _).mono ?_); rintro z w1 ⟨rfl, hw1⟩; obtain rfl := hw1.symm)
    | go_in)
  go_ret
  exact ⟨by first | rfl | (simp; done), HG.out, Chg.set (F := fun x => x = fb) (p := ⟨fb, k * 260, none⟩) (Chg.refl _ w) (.inl rfl) _⟩
end
end Go.Proofs.YthlejchcnfdcpaaGreat.GwO
namespace Go.Proofs.YthlejchcnfdcpaaGreat.GxA
open Go.RowKit Go.Maps Base GaA GaB GaC GaD RpA RmA RmB RmC GfA GfB GoA GjB GwO GwQ
set_option linter.unusedVariables false
set_option linter.unusedSimpArgs false

/-- A frame's type is told by its count. -/
def Fr.tk (f : Fr) : Prop := (f.cnt = 0 → f.typ = 0) ∧ (f.cnt ≠ 0 → f.typ ≠ 0)
section
variable {w w' : World} {rb Fb Bb cF cB : Nat} {bs : List Nat} {s : MS}
set_option maxHeartbeats 8000000 in
set_option maxRecDepth 100000 in
theorem is_any (h : RMach w rb Fb Bb cF cB bs s) (k : Int) : Calls Tryz.prog 96 #[.pointer (some ⟨rb, 0, none⟩), .int .i64 k] w fun e w' => e = .returned (.bool (decide (0 ≤ k) && decide (k < s.n))) ∧ w' = w := by
  have C0 := fun i => blk_cell h.blk i
  have L0 := blk_lt h.blk
  clear h
  by_cases h1 : 0 ≤ k
  · have d1 : decide (0 ≤ k) = true := decide_eq_true h1
    by_cases h2 : k < s.n
    · have d2 : decide (k < s.n) = true := decide_eq_true h2
      go_enter Tryz.func96, Tryz.ntmps96
      go_wp2
      go_ret
      exact ⟨by first | rfl | (rw [d1, d2]; first | rfl | (simp; done)) | (simp [d1, d2]; done), rfl⟩
    · have d2 : decide (k < s.n) = false := decide_eq_false h2
      go_enter Tryz.func96, Tryz.ntmps96
      go_wp2
      go_ret
      exact ⟨by first | rfl | (rw [d1, d2]; first | rfl | (simp; done)) | (simp [d1, d2]; done), rfl⟩
  · have d1 : decide (0 ≤ k) = false := decide_eq_false h1
    go_enter Tryz.func96, Tryz.ntmps96
    go_wp2
    go_ret
    exact ⟨by first | rfl | (rw [d1]; first | rfl | (simp; done)) | (simp [d1]; done), rfl⟩
theorem is_out (h : RMach w rb Fb Bb cF cB bs s) (k : Int) (hk : ¬ (0 ≤ k ∧ k < s.n)) : Calls Tryz.prog 96 #[.pointer (some ⟨rb, 0, none⟩), .int .i64 k] w fun e w' => e = .returned (.bool false) ∧ w' = w := by
  have := is_any h k
  rwa [show (decide (0 ≤ k) && decide (k < s.n)) = false by simp; omega] at this
set_option maxHeartbeats 8000000 in
set_option maxRecDepth 100000 in
theorem domain_any (n : Int) (w : World) : Calls Tryz.prog 48 #[.int .i64 n] w fun e w' => e = .returned (.bool (decide (0 ≤ n) && decide (n < 8))) ∧ w' = w := by
  by_cases h : 0 ≤ n
  · have h1 : decide (0 ≤ n) = true := decide_eq_true h
    go_enter Tryz.func48, Tryz.ntmps48
    go_wp2
    go_ret
    exact ⟨by first | rfl | (rw [h1]; first | rfl | (simp; done)) | (simp [h1]; done), rfl⟩
  · have h1 : decide (0 ≤ n) = false := decide_eq_false h
    go_enter Tryz.func48, Tryz.ntmps48
    go_wp2
    go_ret
    exact ⟨by first | rfl | (rw [h1]; first | rfl | (simp; done)) | (simp [h1]; done), rfl⟩
set_option maxHeartbeats 8000000 in
set_option maxRecDepth 100000 in
theorem in_bad (h : RMach w rb Fb Bb cF cB bs s) (k off n : Int) (hb : ¬ inR s k off n) : Calls Tryz.prog 97 #[.pointer (some ⟨rb, 0, none⟩), .int .i64 k, .int .i64 off, .int .i64 n] w fun e w' => e = .returned (.bool false) ∧ w' = w := by
  by_cases hk : 0 ≤ k ∧ k < s.n
  · obtain ⟨j, rfl⟩ : ∃ j : Nat, k = j := ⟨k.toNat, by omega⟩
    have hi := is_calls h j (by omega)
    unfold inR at hb
    have hc : decide ((0 : Int) ≤ off) = false ∨ (decide ((0 : Int) ≤ off) = true ∧ decide ((0 : Int) ≤ n) = false) ∨ (decide ((0 : Int) ≤ off) = true ∧ decide ((0 : Int) ≤ n) = true ∧ decide (off ≤ 256) = false) ∨ (decide ((0 : Int) ≤ off) = true ∧ decide ((0 : Int) ≤ n) = true ∧ decide (off ≤ 256) = true ∧ decide (n ≤ 256 - off) = false ∧ 0 ≤ off ∧ off ≤ 256) := by
      by_cases h1 : 0 ≤ off
      · by_cases h2 : 0 ≤ n
        · by_cases h3 : off ≤ 256
          · exact .inr (.inr (.inr ⟨decide_eq_true h1, decide_eq_true h2, decide_eq_true h3, decide_eq_false (by omega), h1, h3⟩))
          · exact .inr (.inr (.inl ⟨decide_eq_true h1, decide_eq_true h2, decide_eq_false h3⟩))
        · exact .inr (.inl ⟨decide_eq_true h1, decide_eq_false h2⟩)
      · exact .inl (decide_eq_false h1)
    clear h hb hk
    rcases hc with d0 | ⟨d0, d1⟩ | ⟨d0, d1, d2⟩ | ⟨d0, d1, d2, d3, e0, e1⟩
    all_goals
      go_enter Tryz.func97, Tryz.ntmps97
      go_wp2_with (first
        | (go_at_call 96; (with_reducible refine hi.mono ?_); rintro z w1 ⟨rfl, hw1⟩; obtain rfl := hw1.symm)
        | go_in)
      go_ret
      exact ⟨by first | rfl | (simp; done), rfl⟩
  · have hi := is_out h k hk
    clear h hb hk
    go_enter Tryz.func97, Tryz.ntmps97
    go_wp2_with (first
      | (go_at_call 96; (with_reducible refine hi.mono ?_); rintro z w1 ⟨rfl, hw1⟩; obtain rfl := hw1.symm)
      | go_in)
    go_ret
    exact ⟨by first | rfl | (simp; done), rfl⟩
set_option maxHeartbeats 8000000 in
set_option maxRecDepth 100000 in
theorem get_free (h : RMach w rb Fb Bb cF cB bs s) (k : Nat) (hk : k < s.n) (owner o y cn tt : Int) (hs : s.fr k = ⟨o, y, cn, tt⟩) (hf : Fr.few ⟨o, y, cn, tt⟩) (b : Bool) (h1 : o = -1) : Calls Tryz.prog 56 #[.pointer (some ⟨rb, 0, none⟩), .int .i64 k, .int .i64 owner, .int .i64 (if b then 1 else 0)] w fun e w' => e = .returned (.int .i64 11) ∧ RMach w' rb Fb Bb cF cB bs (s) ∧ Chg (fun x => x = Fb) w w' := by
  have hi := is_calls h k hk
  have C0 := fun i => blk_cell h.blk i
  have L0 := blk_lt h.blk
  have LF := h.lt.2.1
  have c0 := h.cell k 0 hk (by omega)
  have c1 := h.cell k 1 hk (by omega)
  have c2 := h.cell k 2 hk (by omega)
  have c3 := h.cell k 3 hk (by omega)
  simp only [cellM] at c0 c1 c2 c3
  simp at c0 c1 c2 c3
  have F0 := h.frozen
  have e2 : (0 : Int) ≤ (k : Int) := Int.natCast_nonneg _
  have e3 : (k : Int) < (s.n : Int) := by omega
  have HP := Base.Aside.mk (fun f => put4 h k hk f)
  have HH := Base.Aside.mk h
  rw [hs] at c0 c1 c2 c3
  unfold Fr.few at hf
  simp only at hf c0 c1 c2 c3
  clear h
  have d1 : (o == -1) = true := by simp [h1]
  clear h1 hs
  cases b
  all_goals
    go_enter Tryz.func56, Tryz.ntmps56
    go_wp2_with (first
      | (go_at_call 96; (with_reducible refine hi.mono ?_); rintro z w1 ⟨rfl, hw1⟩; obtain rfl := hw1.symm)
      | go_in)
    go_ret
    exact ⟨by first | rfl | (simp; done), HH.out.below (by first | exact Below.refl _ _ | exact below_alloc (Below.refl _ _) _), Chg.below _ (by first | exact Below.refl _ _ | exact below_alloc (Below.refl _ _) _)⟩
set_option maxHeartbeats 8000000 in
set_option maxRecDepth 100000 in
theorem get_other (h : RMach w rb Fb Bb cF cB bs s) (k : Nat) (hk : k < s.n) (owner o y cn tt : Int) (hs : s.fr k = ⟨o, y, cn, tt⟩) (hf : Fr.few ⟨o, y, cn, tt⟩) (b : Bool) (h1 : o ≠ -1) (h2 : o ≠ owner) : Calls Tryz.prog 56 #[.pointer (some ⟨rb, 0, none⟩), .int .i64 k, .int .i64 owner, .int .i64 (if b then 1 else 0)] w fun e w' => e = .returned (.int .i64 12) ∧ RMach w' rb Fb Bb cF cB bs (s) ∧ Chg (fun x => x = Fb) w w' := by
  have hi := is_calls h k hk
  have C0 := fun i => blk_cell h.blk i
  have L0 := blk_lt h.blk
  have LF := h.lt.2.1
  have c0 := h.cell k 0 hk (by omega)
  have c1 := h.cell k 1 hk (by omega)
  have c2 := h.cell k 2 hk (by omega)
  have c3 := h.cell k 3 hk (by omega)
  simp only [cellM] at c0 c1 c2 c3
  simp at c0 c1 c2 c3
  have F0 := h.frozen
  have e2 : (0 : Int) ≤ (k : Int) := Int.natCast_nonneg _
  have e3 : (k : Int) < (s.n : Int) := by omega
  have HP := Base.Aside.mk (fun f => put4 h k hk f)
  have HH := Base.Aside.mk h
  rw [hs] at c0 c1 c2 c3
  unfold Fr.few at hf
  simp only at hf c0 c1 c2 c3
  clear h
  have d1 : (o == -1) = false := by simp [h1]
  have d2 : (o != owner) = true := by simp [h2]
  clear h1 h2 hs
  cases b
  all_goals
    go_enter Tryz.func56, Tryz.ntmps56
    go_wp2_with (first
      | (go_at_call 96; (with_reducible refine hi.mono ?_); rintro z w1 ⟨rfl, hw1⟩; obtain rfl := hw1.symm)
      | go_in)
    go_ret
    exact ⟨by first | rfl | (simp; done), HH.out.below (by first | exact Below.refl _ _ | exact below_alloc (Below.refl _ _) _), Chg.below _ (by first | exact Below.refl _ _ | exact below_alloc (Below.refl _ _) _)⟩
set_option maxHeartbeats 8000000 in
set_option maxRecDepth 100000 in
theorem get_type (h : RMach w rb Fb Bb cF cB bs s) (k : Nat) (hk : k < s.n) (owner o y cn tt : Int) (hs : s.fr k = ⟨o, y, cn, tt⟩) (hf : Fr.few ⟨o, y, cn, tt⟩) (h1 : o ≠ -1) (h2 : o = owner) (h3 : cn ≠ 0) (h4 : y ≠ 1) : Calls Tryz.prog 56 #[.pointer (some ⟨rb, 0, none⟩), .int .i64 k, .int .i64 owner, .int .i64 1] w fun e w' => e = .returned (.int .i64 13) ∧ RMach w' rb Fb Bb cF cB bs (s) ∧ Chg (fun x => x = Fb) w w' := by
  have hi := is_calls h k hk
  have C0 := fun i => blk_cell h.blk i
  have L0 := blk_lt h.blk
  have LF := h.lt.2.1
  have c0 := h.cell k 0 hk (by omega)
  have c1 := h.cell k 1 hk (by omega)
  have c2 := h.cell k 2 hk (by omega)
  have c3 := h.cell k 3 hk (by omega)
  simp only [cellM] at c0 c1 c2 c3
  simp at c0 c1 c2 c3
  have F0 := h.frozen
  have e2 : (0 : Int) ≤ (k : Int) := Int.natCast_nonneg _
  have e3 : (k : Int) < (s.n : Int) := by omega
  have HP := Base.Aside.mk (fun f => put4 h k hk f)
  have HH := Base.Aside.mk h
  rw [hs] at c0 c1 c2 c3
  unfold Fr.few at hf
  simp only at hf c0 c1 c2 c3
  clear h
  have d1 : (o == -1) = false := by simp [h1]
  have d2 : (o != owner) = false := by simp [h2]
  have d3 : (cn != 0) = true := by simp [h3]
  have d4 : (y != 1) = true := by simp [h4]
  clear h1 h2 h3 h4 hs
  go_enter Tryz.func56, Tryz.ntmps56
  go_wp2_with (first
    | (go_at_call 96; (with_reducible refine hi.mono ?_); rintro z w1 ⟨rfl, hw1⟩; obtain rfl := hw1.symm)
    | go_in)
  go_ret
  exact ⟨by first | rfl | (simp; done), HH.out.below (by first | exact Below.refl _ _ | exact below_alloc (Below.refl _ _) _), Chg.below _ (by first | exact Below.refl _ _ | exact below_alloc (Below.refl _ _) _)⟩
set_option maxHeartbeats 8000000 in
set_option maxRecDepth 100000 in
theorem get_none (h : RMach w rb Fb Bb cF cB bs s) (k : Nat) (hk : k < s.n) (owner o y cn tt : Int) (hs : s.fr k = ⟨o, y, cn, tt⟩) (hf : Fr.few ⟨o, y, cn, tt⟩) (h1 : o ≠ -1) (h2 : o = owner) : Calls Tryz.prog 56 #[.pointer (some ⟨rb, 0, none⟩), .int .i64 k, .int .i64 owner, .int .i64 0] w fun e w' => e = .returned (.int .i64 0) ∧ RMach w' rb Fb Bb cF cB bs (MS.put1 s k ⟨o, y, cn, tt + 1⟩) ∧ Chg (fun x => x = Fb) w w' := by
  have hi := is_calls h k hk
  have C0 := fun i => blk_cell h.blk i
  have L0 := blk_lt h.blk
  have LF := h.lt.2.1
  have c0 := h.cell k 0 hk (by omega)
  have c1 := h.cell k 1 hk (by omega)
  have c2 := h.cell k 2 hk (by omega)
  have c3 := h.cell k 3 hk (by omega)
  simp only [cellM] at c0 c1 c2 c3
  simp at c0 c1 c2 c3
  have F0 := h.frozen
  have e2 : (0 : Int) ≤ (k : Int) := Int.natCast_nonneg _
  have e3 : (k : Int) < (s.n : Int) := by omega
  have HP := Base.Aside.mk (fun f => put4 h k hk f)
  have HH := Base.Aside.mk h
  rw [hs] at c0 c1 c2 c3
  unfold Fr.few at hf
  simp only at hf c0 c1 c2 c3
  clear h
  have d1 : (o == -1) = false := by simp [h1]
  have d2 : (o != owner) = false := by simp [h2]
  clear h1 h2 hs
  go_enter Tryz.func56, Tryz.ntmps56
  go_wp2_with (first
    | (go_at_call 96; (with_reducible refine hi.mono ?_); rintro z w1 ⟨rfl, hw1⟩; obtain rfl := hw1.symm)
    | go_in)
  go_region
  all_goals
    go_wp2
    go_ret
    exact ⟨by first | rfl | (simp; done), ((HP.out ⟨o, y, cn, tt + 1⟩).1.below (below_alloc (Below.refl _ _) _)).below ((Below.refl _ _).drew), ((HP.out ⟨o, y, cn, tt + 1⟩).2.alloc _).drew⟩
set_option maxHeartbeats 8000000 in
set_option maxRecDepth 100000 in
theorem get_new (h : RMach w rb Fb Bb cF cB bs s) (k : Nat) (hk : k < s.n) (owner o y cn tt : Int) (hs : s.fr k = ⟨o, y, cn, tt⟩) (hf : Fr.few ⟨o, y, cn, tt⟩) (h1 : o ≠ -1) (h2 : o = owner) (h3 : cn = 0) : Calls Tryz.prog 56 #[.pointer (some ⟨rb, 0, none⟩), .int .i64 k, .int .i64 owner, .int .i64 1] w fun e w' => e = .returned (.int .i64 0) ∧ RMach w' rb Fb Bb cF cB bs (MS.put1 s k ⟨o, 1, cn + 1, tt + 1⟩) ∧ Chg (fun x => x = Fb) w w' := by
  have hi := is_calls h k hk
  have C0 := fun i => blk_cell h.blk i
  have L0 := blk_lt h.blk
  have LF := h.lt.2.1
  have c0 := h.cell k 0 hk (by omega)
  have c1 := h.cell k 1 hk (by omega)
  have c2 := h.cell k 2 hk (by omega)
  have c3 := h.cell k 3 hk (by omega)
  simp only [cellM] at c0 c1 c2 c3
  simp at c0 c1 c2 c3
  have F0 := h.frozen
  have e2 : (0 : Int) ≤ (k : Int) := Int.natCast_nonneg _
  have e3 : (k : Int) < (s.n : Int) := by omega
  have HP := Base.Aside.mk (fun f => put4 h k hk f)
  have HH := Base.Aside.mk h
  rw [hs] at c0 c1 c2 c3
  unfold Fr.few at hf
  simp only at hf c0 c1 c2 c3
  clear h
  have d1 : (o == -1) = false := by simp [h1]
  have d2 : (o != owner) = false := by simp [h2]
  have d3 : (cn != 0) = false := by simp [h3]
  clear h1 h2 h3 hs
  go_enter Tryz.func56, Tryz.ntmps56
  go_wp2_with (first
    | (go_at_call 96; (with_reducible refine hi.mono ?_); rintro z w1 ⟨rfl, hw1⟩; obtain rfl := hw1.symm)
    | go_in)
  go_region
  all_goals
    go_wp2
    go_ret
    exact ⟨by first | rfl | (simp; done), ((HP.out ⟨o, 1, cn + 1, tt + 1⟩).1.below (below_alloc (Below.refl _ _) _)).below ((Below.refl _ _).drew), ((HP.out ⟨o, 1, cn + 1, tt + 1⟩).2.alloc _).drew⟩
set_option maxHeartbeats 8000000 in
set_option maxRecDepth 100000 in
theorem get_more (h : RMach w rb Fb Bb cF cB bs s) (k : Nat) (hk : k < s.n) (owner o y cn tt : Int) (hs : s.fr k = ⟨o, y, cn, tt⟩) (hf : Fr.few ⟨o, y, cn, tt⟩) (h1 : o ≠ -1) (h2 : o = owner) (h3 : cn ≠ 0) (h4 : y = 1) : Calls Tryz.prog 56 #[.pointer (some ⟨rb, 0, none⟩), .int .i64 k, .int .i64 owner, .int .i64 1] w fun e w' => e = .returned (.int .i64 0) ∧ RMach w' rb Fb Bb cF cB bs (MS.put1 s k ⟨o, 1, cn + 1, tt + 1⟩) ∧ Chg (fun x => x = Fb) w w' := by
  have hi := is_calls h k hk
  have C0 := fun i => blk_cell h.blk i
  have L0 := blk_lt h.blk
  have LF := h.lt.2.1
  have c0 := h.cell k 0 hk (by omega)
  have c1 := h.cell k 1 hk (by omega)
  have c2 := h.cell k 2 hk (by omega)
  have c3 := h.cell k 3 hk (by omega)
  simp only [cellM] at c0 c1 c2 c3
  simp at c0 c1 c2 c3
  have F0 := h.frozen
  have e2 : (0 : Int) ≤ (k : Int) := Int.natCast_nonneg _
  have e3 : (k : Int) < (s.n : Int) := by omega
  have HP := Base.Aside.mk (fun f => put4 h k hk f)
  have HH := Base.Aside.mk h
  rw [hs] at c0 c1 c2 c3
  unfold Fr.few at hf
  simp only at hf c0 c1 c2 c3
  clear h
  have d1 : (o == -1) = false := by simp [h1]
  have d2 : (o != owner) = false := by simp [h2]
  have d3 : (cn != 0) = true := by simp [h3]
  have d4 : (y != 1) = false := by simp [h4]
  clear h1 h2 h3 h4 hs
  go_enter Tryz.func56, Tryz.ntmps56
  go_wp2_with (first
    | (go_at_call 96; (with_reducible refine hi.mono ?_); rintro z w1 ⟨rfl, hw1⟩; obtain rfl := hw1.symm)
    | go_in)
  go_region
  all_goals
    go_wp2
    go_ret
    exact ⟨by first | rfl | (simp; done), ((HP.out ⟨o, 1, cn + 1, tt + 1⟩).1.below (below_alloc (Below.refl _ _) _)).below ((Below.refl _ _).drew), ((HP.out ⟨o, 1, cn + 1, tt + 1⟩).2.alloc _).drew⟩
theorem get_any (h : RMach w rb Fb Bb cF cB bs s) (k : Nat) (hk : k < s.n) (owner : Int) (b : Bool) (hf : Fr.few (s.fr k)) (ht : Fr.tk (s.fr k)) : Calls Tryz.prog 56 #[.pointer (some ⟨rb, 0, none⟩), .int .i64 k, .int .i64 owner, .int .i64 (if b then 1 else 0)] w fun e w' => e = .returned (.int .i64 (getE (s.fr k) owner (if b then 1 else 0))) ∧ RMach w' rb Fb Bb cF cB bs (getS s k owner (if b then 1 else 0)) ∧ Chg (fun x => x = Fb) w w' := by
  obtain ⟨o, y, cn, tt, hs⟩ : ∃ o y cn tt, s.fr k = ⟨o, y, cn, tt⟩ := ⟨_, _, _, _, rfl⟩
  rw [hs] at hf ht
  unfold Fr.tk at ht
  simp only at ht
  have key : ∀ (kk er : Int) (S : MS), getE ⟨o, y, cn, tt⟩ owner kk = er → (er = 0 → S = MS.put1 s k (getF ⟨o, y, cn, tt⟩ kk)) → (er ≠ 0 → S = s) → getE (s.fr k) owner kk = er ∧ getS s k owner kk = S := by
    intro kk er S q1 q2 q3
    unfold getS
    rw [hs, q1]
    refine ⟨rfl, ?_⟩
    by_cases q : er = 0
    · rw [if_pos q, q2 q]
    · rw [if_neg q, q3 q]
  by_cases h1 : o = -1
  · obtain ⟨k1, k2⟩ := key (if b then 1 else 0) 11 s (if_pos h1) (fun h => by omega) (fun _ => rfl)
    rw [k1, k2]
    exact get_free h k hk owner o y cn tt hs hf b h1
  · by_cases h2 : o = owner
    · cases b with
      | false =>
        obtain ⟨k1, k2⟩ := key 0 0 (MS.put1 s k ⟨o, y, cn, tt + 1⟩) (by unfold getE; rw [if_neg h1, if_neg (by simp [h2]), if_neg (by simp)]) (fun _ => rfl) (fun h => absurd rfl h)
        simp only [Bool.false_eq_true, if_false]
        rw [k1, k2]
        exact get_none h k hk owner o y cn tt hs hf h1 h2
      | true =>
        simp only [if_true]
        by_cases h3 : cn = 0
        · obtain ⟨k1, k2⟩ := key 1 0 (MS.put1 s k ⟨o, 1, cn + 1, tt + 1⟩) (by unfold getE; rw [if_neg h1, if_neg (by simp [h2]), if_neg (by simp [ht.1 h3])]) (fun _ => rfl) (fun h => absurd rfl h)
          rw [k1, k2]
          exact get_new h k hk owner o y cn tt hs hf h1 h2 h3
        · by_cases h4 : y = 1
          · obtain ⟨k1, k2⟩ := key 1 0 (MS.put1 s k ⟨o, 1, cn + 1, tt + 1⟩) (by unfold getE; rw [if_neg h1, if_neg (by simp [h2]), if_neg (by simp [h4])]) (fun _ => rfl) (fun h => absurd rfl h)
            rw [k1, k2]
            exact get_more h k hk owner o y cn tt hs hf h1 h2 h3 h4
          · obtain ⟨k1, k2⟩ := key 1 13 s (by unfold getE; rw [if_neg h1, if_neg (by simp [h2]), if_pos ⟨by simp, ht.2 h3, by simpa using h4⟩]) (fun h => by omega) (fun _ => rfl)
            rw [k1, k2]
            exact get_type h k hk owner o y cn tt hs hf h1 h2 h3 h4
    · obtain ⟨k1, k2⟩ := key (if b then 1 else 0) 12 s (by unfold getE; rw [if_neg h1, if_pos h2]) (fun h => by omega) (fun _ => rfl)
      rw [k1, k2]
      exact get_other h k hk owner o y cn tt hs hf b h1 h2
set_option maxHeartbeats 8000000 in
set_option maxRecDepth 100000 in
theorem get_out (h : RMach w rb Fb Bb cF cB bs s) (k : Int) (hk : ¬ (0 ≤ k ∧ k < s.n)) (owner kind : Int) : Calls Tryz.prog 56 #[.pointer (some ⟨rb, 0, none⟩), .int .i64 k, .int .i64 owner, .int .i64 kind] w fun e w' => e = .returned (.int .i64 1) ∧ w' = w := by
  have hi := is_out h k hk
  clear h hk
  go_enter Tryz.func56, Tryz.ntmps56
  go_wp2_with (first
    | (go_at_call 96; (with_reducible refine hi.mono ?_); rintro z w1 ⟨rfl, hw1⟩; obtain rfl := hw1.symm)
    | go_in)
  go_ret
  exact ⟨by first | rfl | (simp; done), rfl⟩
set_option maxHeartbeats 8000000 in
set_option maxRecDepth 100000 in
theorem put_n0 (h : RMach w rb Fb Bb cF cB bs s) (k : Nat) (hk : k < s.n) (o y cn tt : Int) (hs : s.fr k = ⟨o, y, cn, tt⟩) (hf : Fr.few ⟨o, y, cn, tt⟩) (h1 : tt ≠ cn) (h2 : cn = 0) : Calls Tryz.prog 76 #[.pointer (some ⟨rb, 0, none⟩), .int .i64 k, .int .i64 0] w fun e w' => (∃ v, e = .returned v) ∧ RMach w' rb Fb Bb cF cB bs (MS.put1 s k ⟨o, 0, cn, tt - 1⟩) ∧ Chg (fun x => x = Fb) w w' := by
  have hi := is_calls h k hk
  have C0 := fun i => blk_cell h.blk i
  have L0 := blk_lt h.blk
  have LF := h.lt.2.1
  have c0 := h.cell k 0 hk (by omega)
  have c1 := h.cell k 1 hk (by omega)
  have c2 := h.cell k 2 hk (by omega)
  have c3 := h.cell k 3 hk (by omega)
  simp only [cellM] at c0 c1 c2 c3
  simp at c0 c1 c2 c3
  have F0 := h.frozen
  have e2 : (0 : Int) ≤ (k : Int) := Int.natCast_nonneg _
  have e3 : (k : Int) < (s.n : Int) := by omega
  have HP := Base.Aside.mk (fun f => put4 h k hk f)
  have HH := Base.Aside.mk h
  rw [hs] at c0 c1 c2 c3
  unfold Fr.few at hf
  simp only at hf c0 c1 c2 c3
  clear h
  have d1 : (tt == cn) = false := by simp [h1]
  have d2 : (cn == 0) = true := by simp [h2]
  clear h1 h2 hs
  go_enter Tryz.func76, Tryz.ntmps76
  go_wp2_with (first
    | (go_at_call 96; (with_reducible refine hi.mono ?_); rintro z w1 ⟨rfl, hw1⟩; obtain rfl := hw1.symm)
    | go_in)
  go_region
  all_goals
    go_wp2
    go_ret
    exact ⟨⟨_, rfl⟩, ((HP.out ⟨o, 0, cn, tt - 1⟩).1.below (below_alloc (Below.refl _ _) _)).below ((Below.refl _ _).drew), ((HP.out ⟨o, 0, cn, tt - 1⟩).2.alloc _).drew⟩
set_option maxHeartbeats 8000000 in
set_option maxRecDepth 100000 in
theorem put_n1 (h : RMach w rb Fb Bb cF cB bs s) (k : Nat) (hk : k < s.n) (o y cn tt : Int) (hs : s.fr k = ⟨o, y, cn, tt⟩) (hf : Fr.few ⟨o, y, cn, tt⟩) (h1 : tt ≠ cn) (h2 : cn ≠ 0) : Calls Tryz.prog 76 #[.pointer (some ⟨rb, 0, none⟩), .int .i64 k, .int .i64 0] w fun e w' => (∃ v, e = .returned v) ∧ RMach w' rb Fb Bb cF cB bs (MS.put1 s k ⟨o, y, cn, tt - 1⟩) ∧ Chg (fun x => x = Fb) w w' := by
  have hi := is_calls h k hk
  have C0 := fun i => blk_cell h.blk i
  have L0 := blk_lt h.blk
  have LF := h.lt.2.1
  have c0 := h.cell k 0 hk (by omega)
  have c1 := h.cell k 1 hk (by omega)
  have c2 := h.cell k 2 hk (by omega)
  have c3 := h.cell k 3 hk (by omega)
  simp only [cellM] at c0 c1 c2 c3
  simp at c0 c1 c2 c3
  have F0 := h.frozen
  have e2 : (0 : Int) ≤ (k : Int) := Int.natCast_nonneg _
  have e3 : (k : Int) < (s.n : Int) := by omega
  have HP := Base.Aside.mk (fun f => put4 h k hk f)
  have HH := Base.Aside.mk h
  rw [hs] at c0 c1 c2 c3
  unfold Fr.few at hf
  simp only at hf c0 c1 c2 c3
  clear h
  have d1 : (tt == cn) = false := by simp [h1]
  have d2 : (cn == 0) = false := by simp [h2]
  clear h1 h2 hs
  go_enter Tryz.func76, Tryz.ntmps76
  go_wp2_with (first
    | (go_at_call 96; (with_reducible refine hi.mono ?_); rintro z w1 ⟨rfl, hw1⟩; obtain rfl := hw1.symm)
    | go_in)
  go_region
  all_goals
    go_wp2
    go_ret
    exact ⟨⟨_, rfl⟩, ((HP.out ⟨o, y, cn, tt - 1⟩).1.below (below_alloc (Below.refl _ _) _)).below ((Below.refl _ _).drew), ((HP.out ⟨o, y, cn, tt - 1⟩).2.alloc _).drew⟩
set_option maxHeartbeats 8000000 in
set_option maxRecDepth 100000 in
theorem put_w0 (h : RMach w rb Fb Bb cF cB bs s) (k : Nat) (hk : k < s.n) (o y cn tt : Int) (hs : s.fr k = ⟨o, y, cn, tt⟩) (hf : Fr.few ⟨o, y, cn, tt⟩) (h1 : y = 1) (h2 : cn ≠ 0) (h3 : cn - 1 = 0) : Calls Tryz.prog 76 #[.pointer (some ⟨rb, 0, none⟩), .int .i64 k, .int .i64 1] w fun e w' => (∃ v, e = .returned v) ∧ RMach w' rb Fb Bb cF cB bs (MS.put1 s k ⟨o, 0, cn - 1, tt - 1⟩) ∧ Chg (fun x => x = Fb) w w' := by
  have hi := is_calls h k hk
  have C0 := fun i => blk_cell h.blk i
  have L0 := blk_lt h.blk
  have LF := h.lt.2.1
  have c0 := h.cell k 0 hk (by omega)
  have c1 := h.cell k 1 hk (by omega)
  have c2 := h.cell k 2 hk (by omega)
  have c3 := h.cell k 3 hk (by omega)
  simp only [cellM] at c0 c1 c2 c3
  simp at c0 c1 c2 c3
  have F0 := h.frozen
  have e2 : (0 : Int) ≤ (k : Int) := Int.natCast_nonneg _
  have e3 : (k : Int) < (s.n : Int) := by omega
  have HP := Base.Aside.mk (fun f => put4 h k hk f)
  have HH := Base.Aside.mk h
  rw [hs] at c0 c1 c2 c3
  unfold Fr.few at hf
  simp only at hf c0 c1 c2 c3
  clear h
  have d1 : (cn == 0) = false := by simp [h2]
  have d2 : (cn - 1 == 0) = true := by simp [h3]
  have d3 : (y != 1) = false := by simp [h1]
  clear h1 h2 h3 hs
  go_enter Tryz.func76, Tryz.ntmps76
  go_wp2_with (first
    | (go_at_call 96; (with_reducible refine hi.mono ?_); rintro z w1 ⟨rfl, hw1⟩; obtain rfl := hw1.symm)
    | go_in)
  go_region
  all_goals
    go_wp2
    go_ret
    exact ⟨⟨_, rfl⟩, ((HP.out ⟨o, 0, cn - 1, tt - 1⟩).1.below (below_alloc (Below.refl _ _) _)).below ((Below.refl _ _).drew), ((HP.out ⟨o, 0, cn - 1, tt - 1⟩).2.alloc _).drew⟩
set_option maxHeartbeats 8000000 in
set_option maxRecDepth 100000 in
theorem put_w1 (h : RMach w rb Fb Bb cF cB bs s) (k : Nat) (hk : k < s.n) (o y cn tt : Int) (hs : s.fr k = ⟨o, y, cn, tt⟩) (hf : Fr.few ⟨o, y, cn, tt⟩) (h1 : y = 1) (h2 : cn ≠ 0) (h3 : cn - 1 ≠ 0) : Calls Tryz.prog 76 #[.pointer (some ⟨rb, 0, none⟩), .int .i64 k, .int .i64 1] w fun e w' => (∃ v, e = .returned v) ∧ RMach w' rb Fb Bb cF cB bs (MS.put1 s k ⟨o, y, cn - 1, tt - 1⟩) ∧ Chg (fun x => x = Fb) w w' := by
  have hi := is_calls h k hk
  have C0 := fun i => blk_cell h.blk i
  have L0 := blk_lt h.blk
  have LF := h.lt.2.1
  have c0 := h.cell k 0 hk (by omega)
  have c1 := h.cell k 1 hk (by omega)
  have c2 := h.cell k 2 hk (by omega)
  have c3 := h.cell k 3 hk (by omega)
  simp only [cellM] at c0 c1 c2 c3
  simp at c0 c1 c2 c3
  have F0 := h.frozen
  have e2 : (0 : Int) ≤ (k : Int) := Int.natCast_nonneg _
  have e3 : (k : Int) < (s.n : Int) := by omega
  have HP := Base.Aside.mk (fun f => put4 h k hk f)
  have HH := Base.Aside.mk h
  rw [hs] at c0 c1 c2 c3
  unfold Fr.few at hf
  simp only at hf c0 c1 c2 c3
  clear h
  have d1 : (cn == 0) = false := by simp [h2]
  have d2 : (cn - 1 == 0) = false := by simp [h3]
  have d3 : (y != 1) = false := by simp [h1]
  clear h1 h2 h3 hs
  go_enter Tryz.func76, Tryz.ntmps76
  go_wp2_with (first
    | (go_at_call 96; (with_reducible refine hi.mono ?_); rintro z w1 ⟨rfl, hw1⟩; obtain rfl := hw1.symm)
    | go_in)
  go_region
  all_goals
    go_wp2
    go_ret
    exact ⟨⟨_, rfl⟩, ((HP.out ⟨o, y, cn - 1, tt - 1⟩).1.below (below_alloc (Below.refl _ _) _)).below ((Below.refl _ _).drew), ((HP.out ⟨o, y, cn - 1, tt - 1⟩).2.alloc _).drew⟩
theorem put_any (h : RMach w rb Fb Bb cF cB bs s) (k : Nat) (hk : k < s.n) (b : Bool) (hf : Fr.few (s.fr k)) (ht : Fr.tk (s.fr k)) (hp : putE (s.fr k) (if b then 1 else 0) = 0) : Calls Tryz.prog 76 #[.pointer (some ⟨rb, 0, none⟩), .int .i64 k, .int .i64 (if b then 1 else 0)] w fun e w' => (∃ v, e = .returned v) ∧ RMach w' rb Fb Bb cF cB bs (putS s k (if b then 1 else 0)) ∧ Chg (fun x => x = Fb) w w' := by
  have e0 : putS s k (if b then 1 else 0) = MS.put1 s k (putF (s.fr k) (if b then 1 else 0)) := if_pos hp
  rw [e0]
  obtain ⟨o, y, cn, tt, hs⟩ : ∃ o y cn tt, s.fr k = ⟨o, y, cn, tt⟩ := ⟨_, _, _, _, rfl⟩
  rw [hs] at hf ht hp ⊢
  unfold Fr.tk at ht
  unfold putE at hp
  unfold putF
  simp only at ht hp ⊢
  cases b with
  | false =>
    simp only [Bool.false_eq_true, if_false, if_true] at hp ⊢
    have h1 : tt ≠ cn := by
      intro h1
      rw [if_pos (.inr ⟨trivial, h1⟩)] at hp
      cases hp
    by_cases h2 : cn = 0
    · have := put_n0 h k hk o y cn tt hs hf h1 h2
      rw [if_pos h2]
      exact this
    · have := put_n1 h k hk o y cn tt hs hf h1 h2
      rw [if_neg h2]
      exact this
  | true =>
    simp only [if_true] at hp ⊢
    have e1 : (if (1 : Int) = 0 then cn else cn - 1) = cn - 1 := if_neg (by omega)
    rw [e1]
    have h1 : y = 1 := by
      by_cases h3 : y = 1
      · exact h3
      · rw [if_pos (.inl ⟨by omega, h3⟩)] at hp
        cases hp
    have h2 : cn ≠ 0 := fun h4 => by
      have := ht.1 h4
      omega
    by_cases h3 : cn - 1 = 0
    · have := put_w0 h k hk o y cn tt hs hf h1 h2 h3
      rw [if_pos h3]
      exact this
    · have := put_w1 h k hk o y cn tt hs hf h1 h2 h3
      rw [if_neg h3]
      exact this
end
end Go.Proofs.YthlejchcnfdcpaaGreat.GxA
namespace Go.Proofs.YthlejchcnfdcpaaGreat.GwP
open Go.RowKit Go.Maps Base GaA GaB GaC GaD GmA GmB GpA GfB GfC RpA GwO
set_option linter.unusedVariables false
set_option linter.unusedSimpArgs false

theorem infoPr : (Tryz.prog.info? 106).map (fun i => (i.zero, i.size, i.bytes)) = some (some (.agg #[.int .i64 0, .int .i64 0]), 2, 16) := by kernel_rfl
def pcells (p : Int × Int) : List Value := [.int .i64 p.1, .int .i64 p.2]
theorem pcell_new (w : World) (p : Int × Int) (t : TypeId) : ∀ j u, (pcells p)[j]? = some u → (w.alloc (.cells #[.int .i64 p.1, .int .i64 p.2] t)).cell? ((⟨w.heap.size, 0, none⟩ : Addr).add j) = some u := by
  intro j u h
  rw [addB, Nat.zero_add, blk_cell (blk_new w (.cells #[.int .i64 p.1, .int .i64 p.2] t)) j]
  rw [← h]
  simp [pcells]
theorem pcells_one (p : Int × Int) : ∀ u ∈ pcells p, u.oneCell' = true := by
  intro u hu
  simp [pcells] at hu
  rcases hu with rfl | rfl <;> rfl
/-- The places below k at which a frame stands, with it. -/
def prsL (fr : Int → Option Int) (k : Nat) : List (Int × Int) := (List.range k).filterMap fun i : Nat => (fr (i : Int)).map fun m => ((i : Int), m)
theorem prsL_len (fr : Int → Option Int) (k : Nat) : (prsL fr k).length ≤ k := by
  unfold prsL
  have := List.length_filterMap_le (fun i : Nat => (fr (i : Int)).map fun m => ((i : Int), m)) (List.range k)
  rwa [List.length_range] at this
theorem prsL_hit {fr : Int → Option Int} {k : Nat} {m : Int} (h : fr k = some m) : prsL fr (k + 1) = prsL fr k ++ [((k : Int), m)] := by
  unfold prsL
  rw [List.range_succ, List.filterMap_append]
  simp [h]
theorem prsL_miss {fr : Int → Option Int} {k : Nat} (h : fr k = none) : prsL fr (k + 1) = prsL fr k := by
  unfold prsL
  rw [List.range_succ, List.filterMap_append]
  simp [h]
def ListOut (W : World) (L : List (Int × Int)) (e : Ending) (w' : World) : Prop := ∃ v, e = .returned v ∧ w'.ownsRow W.heap.size 106 2 v L.length (L.flatMap pcells) ∧ Below W.heap.size W w'
section
variable {w w' W : World} {pb fm pm size : Nat} {fr pl : Int → Option Int} {c : Nat}
set_option maxHeartbeats 4000000 in
set_option maxRecDepth 100000 in
theorem size_calls (h : P2 W pb fm pm size fr pl c) : Calls Tryz.prog 92 #[.pointer (some ⟨pb, 0, none⟩)] W fun e w' => e = .returned (.int .i64 size) ∧ w' = W := by
  have C0 := fun i => blk_cell h.blk i
  have L0 := blk_lt h.blk
  have hn := GpA.none_calls h
  clear h
  go_enter Tryz.func92, Tryz.ntmps92
  go_wp2_with (first
    | (go_at_call 94; (with_reducible refine hn.mono ?_); rintro z w1 ⟨rfl, hw1⟩; obtain rfl := hw1.symm)
    | go_in)
  go_ret
  exact ⟨by first | rfl | (simp; done), rfl⟩
set_option maxHeartbeats 8000000 in
set_option maxRecDepth 100000 in
theorem list_calls (h : P2 W pb fm pm size fr pl c) (hs : size ≤ 48) : Calls Tryz.prog 42 #[.pointer (some ⟨pb, 0, none⟩)] W (ListOut W (prsL fr size)) := by
  obtain ⟨i0, hi, hz0, hz1, hz2⟩ := info_parts infoPr
  have hsz := size_calls h
  obtain ⟨n, hn⟩ : ∃ n, n = size := ⟨_, rfl⟩
  rw [← hn] at hsz hs ⊢
  have HN := Base.Aside.mk hn
  clear hn
  go_enter Tryz.func42, Tryz.ntmps42
  go_wp2_with (first
    | (go_at_call 92; (with_reducible refine hsz.mono ?_); rintro z w1 ⟨rfl, hw1⟩; obtain rfl := hw1.symm)
    | go_in)
  go_loopw [3, 9] (fun v i wr => ∃ (k : Nat) (W2 : World), k ≤ n ∧ i = .int .i64 k ∧ wr = W2 ∧ Base.Aside (W2.ownsRow W.heap.size 106 2 v (prsL fr k).length ((prsL fr k).flatMap pcells) ∧ Below W.heap.size W W2)) (fun _ i _ => n - (intOf i).toNat)
  case atStart => exact ⟨0, W, by omega, rfl, rfl, ⟨World.ownsRow_nil _ _ _ _, Below.refl _ _⟩⟩
  case round =>
    obtain ⟨k, W2, hk, rfl, hwr, hA⟩ := hrel
    obtain rfl := hwr.symm
    have h2 := h.below hA.out.2
    have C2 := fun i => blk_cell h2.blk i
    have L2 := blk_lt h2.blk
    by_cases hlt : k < n
    · have hlk := h2.mf.look_ok Tryz.underlying123 (zeroI W2) k (by omega) (by omega)
      have hl := prsL_len fr k
      cases hf : fr (k : Int) with
      | none =>
        have e1 : ivs fr k = none := by unfold ivs; rw [hf]; rfl
        rw [e1] at hlk
        simp only [Option.getD_none, Option.isSome_none] at hlk
        clear h2 e1
        go_wp2
        refine ⟨⟨k + 1, _, by omega, by simp, rfl, ⟨?_, hA.out.2⟩⟩, by simp [intOf]; omega⟩
        rw [prsL_miss hf]
        exact hA.out.1
      | some m =>
        have e1 : ivs fr k = some (.int .i64 m) := by unfold ivs; rw [hf]; rfl
        rw [e1] at hlk
        simp only [Option.getD_some, Option.isSome_some] at hlk
        have hsz2 := hA.out.2.size
        clear h2 e1
        go_wp2_with (first
          | (at_builtin; refine wpList_append_own_at _ rfl _ _ 103 rfl W.heap.size 106 i0 (.agg #[.int .i64 0, .int .i64 0]) 2 16 Tryz.underlying103 hi hz0 hz1 hz2 rfl (by decide) _ _ _ rfl (hA.out.1.alloc _) ⟨W2.heap.size, 0, none⟩ 1 1 (pcells ((k : Int), m)) rfl rfl (pcell_new W2 ((k : Int), m) 106) (pcells_one _) (by unfold maxLen; omega) (by omega) (by simp; omega) ?_; intro v' w3 hown' hg3 hnil3 hloc3; go_frame)
          | go_in)
        refine ⟨⟨k + 1, w3, by omega, by simp, rfl, ⟨?_, ?_⟩⟩, by simp [intOf]; omega⟩
        · rw [prsL_hit hf]
          simpa using hown'
        · exact (below_alloc hA.out.2 _).grown hg3 (by simp; omega) (fun j hj => (hA.out.1.lt j hj).1)
    · obtain rfl : k = n := by omega
      clear h2
      go_wp2
      go_ret
      exact ⟨_, rfl, hA.out.1, hA.out.2⟩
end
end Go.Proofs.YthlejchcnfdcpaaGreat.GwP
