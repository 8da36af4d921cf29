/- Proved: what one call of a script makes of both schedulers (contracts for the laws of the scheduler). -/
import Derived.Test.YtpdelhipfleniaaAbE
import Derived.Deep.RegionWith
namespace Go.Proofs.Ytpdelhipfleniaa.AbF
open Go.RowKit Go.Maps Go.Proofs.Ytpdelhipfleniaa.Base Go.Proofs.Ytpdelhipfleniaa.SchA Go.Proofs.Ytpdelhipfleniaa.PlB Go.Proofs.Ytpdelhipfleniaa.PlC Go.Proofs.Ytpdelhipfleniaa.PlD Go.Proofs.Ytpdelhipfleniaa.PlE Go.Proofs.Ytpdelhipfleniaa.PlF Go.Proofs.Ytpdelhipfleniaa.PlG Go.Proofs.Ytpdelhipfleniaa.PlH Go.Proofs.Ytpdelhipfleniaa.PlI Go.Proofs.Ytpdelhipfleniaa.PlJ Go.Proofs.Ytpdelhipfleniaa.PlK Go.Proofs.Ytpdelhipfleniaa.PlL Go.Proofs.Ytpdelhipfleniaa.RfA Go.Proofs.Ytpdelhipfleniaa.RfB Go.Proofs.Ytpdelhipfleniaa.RfC Go.Proofs.Ytpdelhipfleniaa.RfD Go.Proofs.Ytpdelhipfleniaa.RfE Go.Proofs.Ytpdelhipfleniaa.RfF Go.Proofs.Ytpdelhipfleniaa.RfG Go.Proofs.Ytpdelhipfleniaa.RfH Go.Proofs.Ytpdelhipfleniaa.AbA Go.Proofs.Ytpdelhipfleniaa.AbB Go.Proofs.Ytpdelhipfleniaa.AbC Go.Proofs.Ytpdelhipfleniaa.AbD Go.Proofs.Ytpdelhipfleniaa.AbE
set_option linter.unusedVariables false

section
variable {B : Nat → Prop} {w : World} {S R : Nat} {σ τ : St}
theorem pTickS (h : Pair B w S R σ τ) (hi : Inv σ) (ht : σ.t < 9223372036854775807) : Calls Try.prog 11 #[.pointer (some ⟨S, 0, none⟩)] w fun z w' => z = .returned (.int .i64 (tickR σ.e σ.q)) ∧ Pair B w' S R (tickS σ) τ ∧ Kept B w w' :=
  liftS h (fun X F h1 ho => sTick h1 ho hi ht)
theorem pTickR (h : Pair B w S R σ τ) (hi : Inv τ) (ht : τ.t < 9223372036854775807) : Calls Try.prog 22 #[.pointer (some ⟨R, 0, none⟩)] w fun z w' => z = .returned (.int .i64 (tickR τ.e τ.q)) ∧ Pair B w' S R σ (tickS τ) ∧ Kept B w w' :=
  liftR h (fun X F h1 ho => rTick h1 ho hi ht)
theorem pAddS (h : Pair B w S R σ τ) (hi : Inv σ) (a b l : Int) : Calls Try.prog 9 #[.pointer (some ⟨S, 0, none⟩), .int .i64 a, .int .i64 b, .int .i64 l] w fun z w' => z = .returned (.tuple #[.int .i64 (addR σ a b l).1, .int .i64 (addR σ a b l).2.1]) ∧ Pair B w' S R ((addR σ a b l).2.2) τ ∧ Kept B w w' :=
  liftS h (fun X F h1 ho => sAdd h1 ho hi a b l)
theorem pAddR (h : Pair B w S R σ τ) (hi : Inv τ) (a b l : Int) : Calls Try.prog 31 #[.pointer (some ⟨R, 0, none⟩), .int .i64 a, .int .i64 b, .int .i64 l] w fun z w' => z = .returned (.tuple #[.int .i64 (addR τ a b l).1, .int .i64 (addR τ a b l).2.1]) ∧ Pair B w' S R σ ((addR τ a b l).2.2) ∧ Kept B w w' :=
  liftR h (fun X F h1 ho => rAdd h1 ho hi a b l)
theorem pWakeS (h : Pair B w S R σ τ) (hi : Inv σ) (n : Int) (n1 : -9223372036854775808 ≤ n) (n2 : n ≤ 9223372036854775807) : Calls Try.prog 10 #[.pointer (some ⟨S, 0, none⟩), .int .i64 n] w fun z w' => z = .returned (.int .i64 (onS σ n wakeS).1) ∧ Pair B w' S R ((onS σ n wakeS).2) τ ∧ Kept B w w' :=
  liftS h (fun X F h1 ho => sWake h1 ho hi n n1 n2)
theorem pWakeR (h : Pair B w S R σ τ) (hi : Inv τ) (n : Int) : Calls Try.prog 32 #[.pointer (some ⟨R, 0, none⟩), .int .i64 n] w fun z w' => z = .returned (.int .i64 (onS τ n wakeS).1) ∧ Pair B w' S R σ ((onS τ n wakeS).2) ∧ Kept B w w' :=
  liftR h (fun X F h1 ho => rWake h1 ho hi n)
theorem pSleepS (h : Pair B w S R σ τ) (hi : Inv σ) (n : Int) (n1 : -9223372036854775808 ≤ n) (n2 : n ≤ 9223372036854775807) : Calls Try.prog 17 #[.pointer (some ⟨S, 0, none⟩), .int .i64 n] w fun z w' => z = .returned (.int .i64 (onS σ n sleepS).1) ∧ Pair B w' S R ((onS σ n sleepS).2) τ ∧ Kept B w w' :=
  liftS h (fun X F h1 ho => sSleep h1 ho hi n n1 n2)
theorem pSleepR (h : Pair B w S R σ τ) (hi : Inv τ) (n : Int) : Calls Try.prog 33 #[.pointer (some ⟨R, 0, none⟩), .int .i64 n] w fun z w' => z = .returned (.int .i64 (onS τ n sleepS).1) ∧ Pair B w' S R σ ((onS τ n sleepS).2) ∧ Kept B w w' :=
  liftR h (fun X F h1 ho => rSleep h1 ho hi n)
theorem pRemoveS (h : Pair B w S R σ τ) (hi : Inv σ) (n : Int) (n1 : -9223372036854775808 ≤ n) (n2 : n ≤ 9223372036854775807) : Calls Try.prog 16 #[.pointer (some ⟨S, 0, none⟩), .int .i64 n] w fun z w' => z = .returned (.int .i64 (onS σ n removeS).1) ∧ Pair B w' S R ((onS σ n removeS).2) τ ∧ Kept B w w' :=
  liftS h (fun X F h1 ho => sRemove h1 ho hi n n1 n2)
theorem pRemoveR (h : Pair B w S R σ τ) (hi : Inv τ) (n : Int) : Calls Try.prog 34 #[.pointer (some ⟨R, 0, none⟩), .int .i64 n] w fun z w' => z = .returned (.int .i64 (onS τ n removeS).1) ∧ Pair B w' S R σ ((onS τ n removeS).2) ∧ Kept B w w' :=
  liftR h (fun X F h1 ho => rRemove h1 ho hi n)
theorem pDropS (h : Pair B w S R σ τ) (hi : Inv σ) (dom : Int) : Calls Try.prog 18 #[.pointer (some ⟨S, 0, none⟩), .int .i64 dom] w fun z w' => z = .returned (.int .i64 (dropC σ.p σ.e dom 16)) ∧ Pair B w' S R (dropS σ dom) τ ∧ Kept B w w' :=
  liftS h (fun X F h1 ho => sDrop h1 ho hi dom)
theorem pDropR (h : Pair B w S R σ τ) (hi : Inv τ) (dom : Int) : Calls Try.prog 35 #[.pointer (some ⟨R, 0, none⟩), .int .i64 dom] w fun z w' => z = .returned (.int .i64 (dropC τ.p τ.e dom 16)) ∧ Pair B w' S R σ (dropS τ dom) ∧ Kept B w w' :=
  liftR h (fun X F h1 ho => rDrop h1 ho hi dom)
theorem Inv.on_wake (h : Inv σ) (n : Int) : Inv (onS σ n wakeS).2 := by
  unfold onS
  cases ho : isn σ.p n with
  | false => exact h
  | true =>
    obtain ⟨k, rfl, h16, hpk⟩ := isn_some ho
    rw [Int.toNat_natCast]
    exact Inv.wake h h16 hpk
theorem Inv.on_sleep (h : Inv σ) (n : Int) : Inv (onS σ n sleepS).2 := by
  unfold onS
  cases ho : isn σ.p n with
  | false => exact h
  | true =>
    obtain ⟨k, rfl, h16, hpk⟩ := isn_some ho
    rw [Int.toNat_natCast]
    exact Inv.sleep h h16 hpk
theorem Inv.on_remove (h : Inv σ) (n : Int) : Inv (onS σ n removeS).2 := by
  unfold onS
  cases ho : isn σ.p n with
  | false => exact h
  | true => exact Inv.remove h _
theorem Inv.on_add (h : Inv σ) (a b l : Int) : Inv (addR σ a b l).2.2 := by
  unfold addR
  cases ho : okArgs a b l with
  | false => exact h
  | true =>
    cases hf : freeP σ.p with
    | none => exact h
    | some n => exact Inv.add h hf ho
theorem t_wake (n : Int) : (onS σ n wakeS).2.t = σ.t := by
  unfold onS
  cases isn σ.p n with
  | false => rfl
  | true =>
    show (wakeS σ n.toNat).t = σ.t
    unfold wakeS
    cases (σ.e n.toNat).ready <;> rfl
theorem t_sleep (n : Int) : (onS σ n sleepS).2.t = σ.t := by
  unfold onS
  cases isn σ.p n <;> rfl
theorem t_remove (n : Int) : (onS σ n removeS).2.t = σ.t := by
  unfold onS
  cases isn σ.p n <;> rfl
theorem t_add (a b l : Int) : (addR σ a b l).2.2.t = σ.t := by
  unfold addR
  cases okArgs a b l with
  | false => rfl
  | true => cases freeP σ.p <;> rfl

/-- What is told of one call. -/
def Played (B : Nat → Prop) (w w' : World) (S R : Nat) (t : Int) : Prop := ∃ σ', Pair B w' S R σ' σ' ∧ Inv σ' ∧ σ'.t ≤ t + 1 ∧ Kept B w w'
set_option maxHeartbeats 4000000 in
set_option maxRecDepth 100000 in
theorem play_calls (h : Pair B w S R σ σ) (hi : Inv σ) (ht : σ.t < 9223372036854775807) (o a b l : Int) (n1 : -9223372036854775808 ≤ a) (n2 : a ≤ 9223372036854775807) :
    Calls Try.prog 20 #[.pointer (some ⟨S, 0, none⟩), .pointer (some ⟨R, 0, none⟩), .agg #[.int .i64 o, .int .i64 a, .int .i64 b, .int .i64 l]] w fun z w' => z = .returned (.bool true) ∧ Played B w w' S R σ.t := by
  have hB := blk_new w (.cells #[.int .i64 o, .int .i64 a, .int .i64 b, .int .i64 l] 52)
  have CB := fun i => blk_cell hB i
  have hbel := Below.alloc (Below.refl w.heap.size w) (Nat.le_refl _) (.cells #[.int .i64 o, .int .i64 a, .int .i64 b, .int .i64 l] 52)
  have ho : Old (fun k => B k ∨ k = w.heap.size) (w.alloc (.cells #[.int .i64 o, .int .i64 a, .int .i64 b, .int .i64 l] 52)) := fun k hk => hk.elim (fun h1 => Nat.lt_of_lt_of_le (h.1 k h1) hbel.size) (fun e => e ▸ blk_lt hB)
  have h1 := h.more hbel (B' := fun k => B k ∨ k = w.heap.size) (fun k hk => hk.imp id (fun e => Nat.le_of_eq e.symm)) ho
  have hbb : Kept B w (w.alloc (.cells #[.int .i64 o, .int .i64 a, .int .i64 b, .int .i64 l] 52)) := Kept.of_below h.1 hbel
  have H1 := Aside.mk (And.intro h1 hbb)
  clear h1 hbb hbel ho
  by_cases o0 : o = 0
  · subst o0
    have hs := pTickS H1.out.1 hi ht
    go_enter Try.func20, Try.ntmps20
    go_wp2_with (first
      | (go_at_call 11; refine hs.mono ?_; rintro z w2 ⟨rfl, h2, hB2⟩; have hr := pTickR h2 hi ht; have H2 := Aside.mk hB2; have hB22 := (hB2.block _ (Or.inr rfl)).trans hB; have CB2 := fun i => blk_cell hB22 i; have LB2 := blk_lt hB22; clear h2 hB2 hB22)
      | (go_at_call 22; refine hr.mono ?_; rintro z w3 ⟨rfl, h3, hB3⟩; have H3 := Aside.mk (And.intro (h3.less (B' := B) (fun _ h => Or.inl h)) ((H1.out.2.trans (Kept.less H2.out (fun _ h => Or.inl h))).trans (Kept.less hB3 (fun _ h => Or.inl h)))); clear h3 hB3)
      | go_in)
    go_ret
    exact ⟨by first | rfl | (simp; done), tickS σ, H3.out.1, Inv.tick hi, by rw [tick_t]; omega, H3.out.2⟩
  have b0 : (o == 0) = false := beq_eq_false_iff_ne.2 o0
  by_cases o1 : o = 1
  · subst o1
    have hs := pAddS H1.out.1 hi a b l
    go_enter Try.func20, Try.ntmps20
    go_wp2_with (first
      | (go_at_call 9; refine hs.mono ?_; rintro z w2 ⟨rfl, h2, hB2⟩; have hr := pAddR h2 hi a b l; have H2 := Aside.mk hB2; have hB22 := (hB2.block _ (Or.inr rfl)).trans hB; have CB2 := fun i => blk_cell hB22 i; have LB2 := blk_lt hB22; clear h2 hB2 hB22)
      | (go_at_call 31; refine hr.mono ?_; rintro z w3 ⟨rfl, h3, hB3⟩; have H3 := Aside.mk (And.intro (h3.less (B' := B) (fun _ h => Or.inl h)) ((H1.out.2.trans (Kept.less H2.out (fun _ h => Or.inl h))).trans (Kept.less hB3 (fun _ h => Or.inl h)))); clear h3 hB3)
      | go_in)
    go_ret
    exact ⟨by first | rfl | (simp; done), (addR σ a b l).2.2, H3.out.1, Inv.on_add hi a b l, by rw [t_add]; omega, H3.out.2⟩
  have b1 : (o == 1) = false := beq_eq_false_iff_ne.2 o1
  by_cases o2 : o = 2
  · subst o2
    have H1 := Aside.mk (And.intro (Pair.drew H1.out.1) (Kept.drew H1.out.2))
    have hs := pWakeS H1.out.1 hi a n1 n2
    go_enter Try.func20, Try.ntmps20
    go_wp2
    go_region_with (first | (go_at_call 10; refine hs.mono ?_; rintro z w2 ⟨rfl, h2, hB2⟩; have hr := pWakeR h2 hi a; have H2 := Aside.mk hB2; have hB22 := (hB2.block _ (Or.inr rfl)).trans hB; have CB2 := fun i => blk_cell hB22 i; have LB2 := blk_lt hB22; clear h2 hB2 hB22) | (go_at_call 32; refine hr.mono ?_; rintro z w3 ⟨rfl, h3, hB3⟩; have H3 := Aside.mk (And.intro (h3.less (B' := B) (fun _ h => Or.inl h)) ((H1.out.2.trans (Kept.less H2.out (fun _ h => Or.inl h))).trans (Kept.less hB3 (fun _ h => Or.inl h)))); clear h3 hB3))
    all_goals go_wp2
    all_goals go_ret
    all_goals exact ⟨by first | rfl | (simp; done), (onS σ a wakeS).2, H3.out.1, Inv.on_wake hi a, by rw [t_wake]; omega, H3.out.2⟩
  have b2 : (o == 2) = false := beq_eq_false_iff_ne.2 o2
  by_cases o3 : o = 3
  · subst o3
    have H1 := Aside.mk (And.intro (Pair.drew H1.out.1) (Kept.drew H1.out.2))
    have hs := pSleepS H1.out.1 hi a n1 n2
    go_enter Try.func20, Try.ntmps20
    go_wp2
    go_region_with (first | (go_at_call 17; refine hs.mono ?_; rintro z w2 ⟨rfl, h2, hB2⟩; have hr := pSleepR h2 hi a; have H2 := Aside.mk hB2; have hB22 := (hB2.block _ (Or.inr rfl)).trans hB; have CB2 := fun i => blk_cell hB22 i; have LB2 := blk_lt hB22; clear h2 hB2 hB22) | (go_at_call 33; refine hr.mono ?_; rintro z w3 ⟨rfl, h3, hB3⟩; have H3 := Aside.mk (And.intro (h3.less (B' := B) (fun _ h => Or.inl h)) ((H1.out.2.trans (Kept.less H2.out (fun _ h => Or.inl h))).trans (Kept.less hB3 (fun _ h => Or.inl h)))); clear h3 hB3))
    all_goals go_wp2
    all_goals go_ret
    all_goals exact ⟨by first | rfl | (simp; done), (onS σ a sleepS).2, H3.out.1, Inv.on_sleep hi a, by rw [t_sleep]; omega, H3.out.2⟩
  have b3 : (o == 3) = false := beq_eq_false_iff_ne.2 o3
  by_cases o4 : o = 4
  · subst o4
    have H1 := Aside.mk (And.intro (Pair.drew H1.out.1) (Kept.drew H1.out.2))
    have hs := pRemoveS H1.out.1 hi a n1 n2
    go_enter Try.func20, Try.ntmps20
    go_wp2
    go_region_with (first | (go_at_call 16; refine hs.mono ?_; rintro z w2 ⟨rfl, h2, hB2⟩; have hr := pRemoveR h2 hi a; have H2 := Aside.mk hB2; have hB22 := (hB2.block _ (Or.inr rfl)).trans hB; have CB2 := fun i => blk_cell hB22 i; have LB2 := blk_lt hB22; clear h2 hB2 hB22) | (go_at_call 34; refine hr.mono ?_; rintro z w3 ⟨rfl, h3, hB3⟩; have H3 := Aside.mk (And.intro (h3.less (B' := B) (fun _ h => Or.inl h)) ((H1.out.2.trans (Kept.less H2.out (fun _ h => Or.inl h))).trans (Kept.less hB3 (fun _ h => Or.inl h)))); clear h3 hB3))
    all_goals go_wp2
    all_goals go_ret
    all_goals exact ⟨by first | rfl | (simp; done), (onS σ a removeS).2, H3.out.1, Inv.on_remove hi a, by rw [t_remove]; omega, H3.out.2⟩
  have b4 : (o == 4) = false := beq_eq_false_iff_ne.2 o4
  have H1 := Aside.mk (And.intro (Pair.drew H1.out.1) (Kept.drew H1.out.2))
  have hs := pDropS H1.out.1 hi a
  go_enter Try.func20, Try.ntmps20
  go_wp2
  go_region_with (first | (go_at_call 18; refine hs.mono ?_; rintro z w2 ⟨rfl, h2, hB2⟩; have hr := pDropR h2 hi a; have H2 := Aside.mk hB2; have hB22 := (hB2.block _ (Or.inr rfl)).trans hB; have CB2 := fun i => blk_cell hB22 i; have LB2 := blk_lt hB22; clear h2 hB2 hB22) | (go_at_call 35; refine hr.mono ?_; rintro z w3 ⟨rfl, h3, hB3⟩; have H3 := Aside.mk (And.intro (h3.less (B' := B) (fun _ h => Or.inl h)) ((H1.out.2.trans (Kept.less H2.out (fun _ h => Or.inl h))).trans (Kept.less hB3 (fun _ h => Or.inl h)))); clear h3 hB3))
  all_goals go_wp2
  all_goals go_ret
  all_goals exact ⟨by first | rfl | (simp; done), dropS σ a, H3.out.1, Inv.drop hi a, by show σ.t ≤ σ.t + 1; omega, H3.out.2⟩
end
end Go.Proofs.Ytpdelhipfleniaa.AbF
