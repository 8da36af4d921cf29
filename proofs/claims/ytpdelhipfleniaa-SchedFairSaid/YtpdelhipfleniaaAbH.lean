/- Proved: a scheduler under any script of calls and ticks tells what the document's tells (the walk of the law SchedPlays). -/
import Derived.Test.YtpdelhipfleniaaAbF
import Derived.Test.YtpdelhipfleniaaAbG
namespace Go.Proofs.Ytpdelhipfleniaa.AbH
open Go.RowKit Go.Maps Go.Proofs.Ytpdelhipfleniaa.Base Go.Proofs.Ytpdelhipfleniaa.SchA Go.Proofs.Ytpdelhipfleniaa.PlB Go.Proofs.Ytpdelhipfleniaa.PlC Go.Proofs.Ytpdelhipfleniaa.PlD Go.Proofs.Ytpdelhipfleniaa.PlE Go.Proofs.Ytpdelhipfleniaa.PlF Go.Proofs.Ytpdelhipfleniaa.PlG Go.Proofs.Ytpdelhipfleniaa.PlH Go.Proofs.Ytpdelhipfleniaa.PlI Go.Proofs.Ytpdelhipfleniaa.PlJ Go.Proofs.Ytpdelhipfleniaa.PlK Go.Proofs.Ytpdelhipfleniaa.PlL Go.Proofs.Ytpdelhipfleniaa.RfA Go.Proofs.Ytpdelhipfleniaa.RfB Go.Proofs.Ytpdelhipfleniaa.RfC Go.Proofs.Ytpdelhipfleniaa.RfD Go.Proofs.Ytpdelhipfleniaa.RfE Go.Proofs.Ytpdelhipfleniaa.RfF Go.Proofs.Ytpdelhipfleniaa.RfG Go.Proofs.Ytpdelhipfleniaa.RfH Go.Proofs.Ytpdelhipfleniaa.AbA Go.Proofs.Ytpdelhipfleniaa.AbB Go.Proofs.Ytpdelhipfleniaa.AbC Go.Proofs.Ytpdelhipfleniaa.AbD Go.Proofs.Ytpdelhipfleniaa.AbE Go.Proofs.Ytpdelhipfleniaa.AbF Go.Proofs.Ytpdelhipfleniaa.AbG
set_option linter.unusedVariables false

def st0 : St := ⟨fun _ => false, fun _ => ⟨0, 0, 0, 0, false, 0⟩, [], 0⟩
def st1 : St := addS st0 0 0 1 0
def st2 : St := { st1 with e := fun j => if j = 0 then setReady (st1.e 0) true else st1.e j, q := st1.q ++ [((0 : Nat) : Int)] }
theorem add01 : addR st0 0 1 0 = (0, 0, st1) := by
  unfold addR
  rw [show okArgs 0 1 0 = true by decide, show freeP st0.p = some 0 by decide]
  rfl
theorem wake01 : onS st1 0 wakeS = (0, st2) := by
  unfold onS
  rw [show isn st1.p 0 = true by decide]
  rfl
theorem tick01 : tickR st2.e st2.q = 0 := by decide
theorem inv1 : Inv st1 := by
  have := Inv.on_add Inv.start 0 1 0
  have e1 := add01
  unfold st0 at e1
  rw [e1] at this
  exact this
theorem inv2 : Inv st2 := by
  have := Inv.on_wake inv1 0
  rw [wake01] at this
  exact this
set_option maxHeartbeats 4000000 in
set_option maxRecDepth 100000 in
theorem awake_calls (w : World) : Calls Try.prog 13 #[] w fun z w' => z = .returned (.bool true) ∧ Below w.heap.size w w' := by
  have hb0 : Old (fun k => k < w.heap.size) w := fun k hk => hk
  have k1 : ∀ {F : Nat → Prop} {w1 : World} {S : Nat}, Sst (fun k => k < w.heap.size) F w1 S st0 → Old (fun k => k < w.heap.size) w1 → Calls Try.prog 9 #[.pointer (some ⟨S, 0, none⟩), .int .i64 0, .int .i64 1, .int .i64 0] w1 fun z w' => z = .returned (.tuple #[.int .i64 0, .int .i64 0]) ∧ ∃ F', Sst (fun k => k < w.heap.size) F' w' S st1 ∧ Kept (fun k => k < w.heap.size) w1 w' := fun h ho => by
    have := sAdd h ho Inv.start 0 1 0
    rw [add01] at this
    exact this
  have k2 : ∀ {F : Nat → Prop} {w1 : World} {S : Nat}, Sst (fun k => k < w.heap.size) F w1 S st1 → Old (fun k => k < w.heap.size) w1 → Calls Try.prog 10 #[.pointer (some ⟨S, 0, none⟩), .int .i64 0] w1 fun z w' => z = .returned (.int .i64 0) ∧ ∃ F', Sst (fun k => k < w.heap.size) F' w' S st2 ∧ Kept (fun k => k < w.heap.size) w1 w' := fun h ho => by
    have := sWake h ho inv1 0 (by omega) (by omega)
    rw [wake01] at this
    exact this
  have k3 : ∀ {F : Nat → Prop} {w1 : World} {S : Nat}, Sst (fun k => k < w.heap.size) F w1 S st2 → Old (fun k => k < w.heap.size) w1 → Calls Try.prog 11 #[.pointer (some ⟨S, 0, none⟩)] w1 fun z w' => z = .returned (.int .i64 0) ∧ ∃ F', Sst (fun k => k < w.heap.size) F' w' S (tickS st2) ∧ Kept (fun k => k < w.heap.size) w1 w' := fun h ho => by
    have := sTick h ho inv2 (by decide)
    rw [tick01] at this
    exact this
  have k4 : ∀ {F : Nat → Prop} {w1 : World} {S : Nat}, Sst (fun k => k < w.heap.size) F w1 S (tickS st2) → Calls Try.prog 15 #[.pointer (some ⟨S, 0, none⟩)] w1 fun z w' => z = .returned (.int .i64 1) ∧ w' = w1 := fun h => by
    have := sTicks h
    rw [tick_t] at this
    exact this
  go_enter Try.func13, Try.ntmps13
  go_wp2_with (first
    | (go_at_call 8; refine (new_calls w hb0).mono ?_; rintro z w1 ⟨S, M, rfl, h1, hB1⟩; obtain ⟨F1, h1⟩ := sst_of (p := fun _ => false) h1 (fun _ => rfl) (of_decide_eq_true rfl); have H1 := Aside.mk (And.intro h1 (Kept.of_below hb0 hB1)); clear h1 hB1)
    | (go_at_call 9; refine (k1 H1.out.1 (Old.up hb0 H1.out.2.size)).mono ?_; rintro z w2 ⟨rfl, F2, h2, hB2⟩; have H2 := Aside.mk (And.intro h2 (H1.out.2.trans hB2)); clear h2 hB2)
    | (go_at_call 10; refine (k2 H2.out.1 (Old.up hb0 H2.out.2.size)).mono ?_; rintro z w3 ⟨rfl, F3, h3, hB3⟩; have H3 := Aside.mk (And.intro h3 (H2.out.2.trans hB3)); clear h3 hB3)
    | (go_at_call 11; refine (k3 H3.out.1 (Old.up hb0 H3.out.2.size)).mono ?_; rintro z w4 ⟨rfl, F4, h4, hB4⟩; have H4 := Aside.mk (And.intro h4 (H3.out.2.trans hB4)); clear h4 hB4)
    | (go_at_call 15; refine (k4 H4.out.1).mono ?_; rintro z w5 ⟨rfl, hw5⟩; obtain rfl := hw5.symm)
    | go_in)
  go_ret
  exact ⟨by first | rfl | (simp; done), Kept.below H4.out.2⟩

theorem add_add' (a : Addr) (i j : Nat) : (a.add i).add j = a.add (i + j) := by
  unfold Addr.add
  by_cases hi : i = 0 <;> by_cases hj : j = 0 <;> simp [hi, hj, Nat.add_assoc]
/-- A script lies in memory. -/
def Script (w : World) (a : Option Addr) (n : Nat) (f : Nat → Int × Int × Int × Int) : Prop :=
  ∀ i, i < n → (∃ x, a = some x ∧ w.cell? (x.add (i * 4)) = some (.int .i64 (f i).1) ∧ w.cell? (x.add (i * 4 + 1)) = some (.int .i64 (f i).2.1) ∧ w.cell? (x.add (i * 4 + 2)) = some (.int .i64 (f i).2.2.1) ∧ w.cell? (x.add (i * 4 + 3)) = some (.int .i64 (f i).2.2.2)) ∧ -9223372036854775808 ≤ (f i).2.1 ∧ (f i).2.1 ≤ 9223372036854775807
set_option maxHeartbeats 8000000 in
set_option maxRecDepth 100000 in
theorem law (a : Option Addr) (n cap : Nat) (f : Nat → Int × Int × Int × Int) (w : World) (hn : n ≤ maxLen) (hs : Script w a n f) :
    Calls Try.prog 6 #[.slice a n cap] w fun z w' => z = .returned (.bool true) ∧ Below w.heap.size w w' := by
  have hb0 : Old (fun k => k < w.heap.size) w := fun k hk => hk
  unfold maxLen at hn
  have HS := Aside.mk hs
  clear hs
  go_enter Try.func6, Try.ntmps6
  go_wp2_with (first
    | (go_at_call 8; refine (new_calls w hb0).mono ?_; rintro z w1 ⟨S, M, rfl, h1, hB1⟩; have H1 := Aside.mk (And.intro h1 hB1); clear h1 hB1)
    | (go_at_call 19; refine (rnew_calls w1).mono ?_; rintro z w2 ⟨R, L, cs, rfl, h2, hB2⟩; have H2 := Aside.mk (And.intro (pair_new H1.out.1 H1.out.2 h2 hB2) (below_step H1.out.2 hB2)); clear h2 hB2)
    | go_in)
  go_loopw [5] (fun v wr => ∃ (k : Nat) (W2 : World), k ≤ n ∧ v = .int .i64 k ∧ wr = W2 ∧ Aside (∃ σ, Pair (fun k => k < w.heap.size) W2 S R σ σ ∧ Inv σ ∧ σ.t ≤ k ∧ Below w.heap.size w W2)) (fun v _ => n - (intOf v).toNat)
  case atStart => exact ⟨0, w2, Nat.zero_le _, rfl, rfl, _, H2.out.1, Inv.start, Int.le_refl _, H2.out.2⟩
  case round =>
    obtain ⟨k, W2, hk, rfl, hwr, hE⟩ := hrel
    obtain rfl := hwr.symm
    obtain ⟨σ, hP, hi, ht, hbel⟩ := hE.out
    by_cases hlt : k < n
    · obtain ⟨⟨x, rfl, c0, c1, c2, c3⟩, n1, n2⟩ := HS.out k hlt
      have D0 := cell_below hbel c0
      have D1 : W2.cell? ⟨(x.add (k * 4)).block, (x.add (k * 4)).off + 1, none⟩ = some (.int .i64 (f k).2.1) := by
        have h := cell_below hbel c1
        rw [← add_add'] at h
        exact h
      have D2 : W2.cell? ⟨(x.add (k * 4)).block, (x.add (k * 4)).off + 2, none⟩ = some (.int .i64 (f k).2.2.1) := by
        have h := cell_below hbel c2
        rw [← add_add'] at h
        exact h
      have D3 : W2.cell? ⟨(x.add (k * 4)).block, (x.add (k * 4)).off + 3, none⟩ = some (.int .i64 (f k).2.2.2) := by
        have h := cell_below hbel c3
        rw [← add_add'] at h
        exact h
      have hpl := play_calls hP hi (by omega) (f k).1 (f k).2.1 (f k).2.2.1 (f k).2.2.2 n1 n2
      have HB := Aside.mk hbel
      clear hE hP hbel c0 c1 c2 c3
      go_wp2_with (first
        | (go_at_call 20; refine hpl.mono ?_; rintro z w3 ⟨rfl, σ3, h3, hi3, ht3, hB3⟩; have hsm := same_calls h3 hi3; have H3 := Aside.mk (And.intro h3 (And.intro hi3 (And.intro ht3 (HB.out.trans (Kept.below hB3))))); clear h3 hB3)
        | (go_at_call 21; refine hsm.mono ?_; rintro z w4 ⟨rfl, hB4⟩; have H4 := Aside.mk hB4; clear hB4)
        | go_in)
      refine ⟨⟨k + 1, w4, by omega, by simp, rfl, σ3, H3.out.1.kept H4.out, H3.out.2.1, by have := H3.out.2.2.1; omega, below_step H3.out.2.2.2 H4.out⟩, by simp [intOf]; omega⟩
    · have HB := Aside.mk hbel
      clear hE hP hbel
      go_wp2_with (first
        | (go_at_call 13; refine (awake_calls W2).mono ?_; rintro z w4 ⟨rfl, hB4⟩; have H4 := Aside.mk hB4; clear hB4)
        | go_in)
      go_ret
      exact ⟨by first | rfl | (simp; done), below_step HB.out H4.out⟩
end Go.Proofs.Ytpdelhipfleniaa.AbH
