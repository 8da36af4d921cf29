/- Proved: what is always so of the schedulers' state stays so under each call (plain lemmas for the laws of the scheduler). -/
import Derived.Test.YtpdelhipfleniaaAbA
namespace Go.Proofs.Ytpdelhipfleniaa.AbB
open Go.RowKit Go.Maps Go.Proofs.Ytpdelhipfleniaa.Base Go.Proofs.Ytpdelhipfleniaa.SchA Go.Proofs.Ytpdelhipfleniaa.PlB Go.Proofs.Ytpdelhipfleniaa.PlC Go.Proofs.Ytpdelhipfleniaa.PlD Go.Proofs.Ytpdelhipfleniaa.PlE Go.Proofs.Ytpdelhipfleniaa.PlF Go.Proofs.Ytpdelhipfleniaa.PlG Go.Proofs.Ytpdelhipfleniaa.PlH Go.Proofs.Ytpdelhipfleniaa.PlI Go.Proofs.Ytpdelhipfleniaa.PlJ Go.Proofs.Ytpdelhipfleniaa.PlK Go.Proofs.Ytpdelhipfleniaa.PlL Go.Proofs.Ytpdelhipfleniaa.RfA Go.Proofs.Ytpdelhipfleniaa.RfB Go.Proofs.Ytpdelhipfleniaa.RfC Go.Proofs.Ytpdelhipfleniaa.RfD Go.Proofs.Ytpdelhipfleniaa.RfE Go.Proofs.Ytpdelhipfleniaa.RfF Go.Proofs.Ytpdelhipfleniaa.RfG Go.Proofs.Ytpdelhipfleniaa.RfH Go.Proofs.Ytpdelhipfleniaa.AbA
set_option linter.unusedVariables false

section
variable {σ : St}
theorem isn_some {p : Nat → Bool} {n : Int} (h : isn p n = true) : ∃ k : Nat, n = (k : Int) ∧ k < 16 ∧ p k = true := by
  unfold isn at h
  simp only [Bool.and_eq_true, decide_eq_true_eq] at h
  exact ⟨n.toNat, by omega, by omega, h.2⟩
theorem isn_off {p : Nat → Bool} {n : Int} (hi : ∀ k, 16 ≤ k → p k = false) (h : isn p n = false) : n < 0 ∨ p n.toNat = false := by
  by_cases h0 : n < 0
  · exact .inl h0
  · refine .inr ?_
    by_cases h1 : n < 16
    · unfold isn at h
      rw [decide_eq_true (by omega), decide_eq_true h1] at h
      simpa using h
    · exact hi _ (by omega)
/-- What the queue must have, once the entries are these. -/
def Mem (q : List Int) (p : Nat → Bool) (e : Nat → V) : Prop := ∀ x, x ∈ q ↔ ∃ k : Nat, x = (k : Int) ∧ k < 16 ∧ p k = true ∧ (e k).ready = true
theorem Inv.add (h : Inv σ) {n : Nat} (hn : freeP σ.p = some n) {a b c : Int} (ho : okArgs a b c = true) : Inv (addS σ n a b c) := by
  obtain ⟨h16, hpn, _⟩ := freeP_some hn
  refine ⟨fun k hk => ?_, h.nd, fun x => ?_, fun k hk => ?_, h.t0⟩
  · show addP σ.p n k = false
    rw [addP, if_neg (by omega)]
    exact h.hi k hk
  · show x ∈ σ.q ↔ _
    rw [h.mem x]
    constructor
    · rintro ⟨k, rfl, h1, h2, h3⟩
      have hne : k ≠ n := by
        rintro rfl
        rw [hpn] at h2
        cases h2
      exact ⟨k, rfl, h1, by show addP σ.p n k = true; rw [addP, if_neg hne]; exact h2, by show (if k = n then _ else σ.e k).ready = true; rw [if_neg hne]; exact h3⟩
    · rintro ⟨k, rfl, h1, h2, h3⟩
      change addP σ.p n k = true at h2
      change (if k = n then (⟨a, b, c, 0, false, 0⟩ : V) else σ.e k).ready = true at h3
      by_cases hne : k = n
      · rw [if_pos hne] at h3
        cases h3
      · rw [addP, if_neg hne] at h2
        rw [if_neg hne] at h3
        exact ⟨k, rfl, h1, h2, h3⟩
  · change addP σ.p n k = true at hk
    show 1 ≤ (if k = n then (⟨a, b, c, 0, false, 0⟩ : V) else σ.e k).weight ∧ (if k = n then (⟨a, b, c, 0, false, 0⟩ : V) else σ.e k).weight ≤ 1024 ∧ 0 ≤ (if k = n then (⟨a, b, c, 0, false, 0⟩ : V) else σ.e k).cap ∧ (if k = n then (⟨a, b, c, 0, false, 0⟩ : V) else σ.e k).cap ≤ 100
    by_cases hne : k = n
    · rw [if_pos hne]
      simp only [okArgs, Bool.and_eq_true, decide_eq_true_eq] at ho
      exact ⟨ho.1.1.1.2, ho.1.1.2, ho.1.2, ho.2⟩
    · rw [if_neg hne]
      rw [addP, if_neg hne] at hk
      exact h.val k hk
theorem vin_ready {p : Nat → Bool} {e : Nat → V} (h : Vin p e) (n : Nat) (r : Bool) : Vin p (fun j => if j = n then setReady (e n) r else e j) := by
  intro k hk
  show 1 ≤ (if k = n then setReady (e n) r else e k).weight ∧ (if k = n then setReady (e n) r else e k).weight ≤ 1024 ∧ 0 ≤ (if k = n then setReady (e n) r else e k).cap ∧ (if k = n then setReady (e n) r else e k).cap ≤ 100
  by_cases hne : k = n
  · subst hne
    rw [if_pos rfl]
    exact h k hk
  · rw [if_neg hne]
    exact h k hk
theorem Inv.wake (h : Inv σ) {n : Nat} (h16 : n < 16) (hp : σ.p n = true) : Inv (wakeS σ n) := by
  unfold wakeS
  by_cases hr : (σ.e n).ready = true
  · rw [if_pos hr]
    exact h
  · rw [if_neg hr]
    have hnq : (n : Int) ∉ σ.q := fun hm => by
      obtain ⟨k, e1, _, _, h3⟩ := (h.mem n).1 hm
      have : k = n := by omega
      subst this
      exact hr h3
    refine ⟨h.hi, ?_, fun x => ?_, vin_ready h.val n true, h.t0⟩
    · show (σ.q ++ [(n : Int)]).Nodup
      rw [List.nodup_append]
      exact ⟨h.nd, by simp, fun a ha b hb => by rw [List.mem_singleton] at hb; rintro rfl; exact hnq (hb ▸ ha)⟩
    · show x ∈ σ.q ++ [(n : Int)] ↔ ∃ k : Nat, x = (k : Int) ∧ k < 16 ∧ σ.p k = true ∧ (if k = n then setReady (σ.e n) true else σ.e k).ready = true
      rw [List.mem_append, List.mem_singleton, h.mem x]
      constructor
      · rintro (⟨k, rfl, h1, h2, h3⟩ | rfl)
        · refine ⟨k, rfl, h1, h2, ?_⟩
          by_cases hne : k = n
          · rw [if_pos hne]; rfl
          · rw [if_neg hne]; exact h3
        · exact ⟨n, rfl, h16, hp, by rw [if_pos rfl]; rfl⟩
      · rintro ⟨k, rfl, h1, h2, h3⟩
        by_cases hne : k = n
        · exact .inr (by rw [hne])
        · rw [if_neg hne] at h3
          exact .inl ⟨k, rfl, h1, h2, h3⟩
theorem Inv.sleep (h : Inv σ) {n : Nat} (h16 : n < 16) (hp : σ.p n = true) : Inv (sleepS σ n) := by
  refine ⟨h.hi, h.nd.filter _, fun x => ?_, vin_ready h.val n false, h.t0⟩
  show x ∈ outr σ.q n ↔ ∃ k : Nat, x = (k : Int) ∧ k < 16 ∧ σ.p k = true ∧ (if k = n then setReady (σ.e n) false else σ.e k).ready = true
  unfold outr
  rw [List.mem_filter, h.mem x]
  constructor
  · rintro ⟨⟨k, rfl, h1, h2, h3⟩, hx⟩
    have hne : k ≠ n := by
      rintro rfl
      simp at hx
    exact ⟨k, rfl, h1, h2, by rw [if_neg hne]; exact h3⟩
  · rintro ⟨k, rfl, h1, h2, h3⟩
    by_cases hne : k = n
    · rw [if_pos hne] at h3
      cases h3
    · rw [if_neg hne] at h3
      exact ⟨⟨k, rfl, h1, h2, h3⟩, by simp; omega⟩
theorem Inv.remove (h : Inv σ) (n : Nat) : Inv (removeS σ n) := by
  refine ⟨fun k hk => ?_, h.nd.filter _, fun x => ?_, fun k hk => ?_, h.t0⟩
  · show delP σ.p n k = false
    unfold delP
    by_cases hne : k = n
    · rw [if_pos hne]
    · rw [if_neg hne]; exact h.hi k hk
  · show x ∈ outr σ.q n ↔ ∃ k : Nat, x = (k : Int) ∧ k < 16 ∧ delP σ.p n k = true ∧ (σ.e k).ready = true
    unfold outr
    rw [List.mem_filter, h.mem x]
    constructor
    · rintro ⟨⟨k, rfl, h1, h2, h3⟩, hx⟩
      have hne : k ≠ n := by
        rintro rfl
        simp at hx
      exact ⟨k, rfl, h1, by rw [delP, if_neg hne]; exact h2, h3⟩
    · rintro ⟨k, rfl, h1, h2, h3⟩
      by_cases hne : k = n
      · rw [delP, if_pos hne] at h2
        cases h2
      · rw [delP, if_neg hne] at h2
        exact ⟨⟨k, rfl, h1, h2, h3⟩, by simp; omega⟩
  · change delP σ.p n k = true at hk
    by_cases hne : k = n
    · rw [delP, if_pos hne] at hk
      cases hk
    · rw [delP, if_neg hne] at hk
      exact h.val k hk
theorem Inv.drop (h : Inv σ) (dom : Int) : Inv (dropS σ dom) := by
  refine ⟨fun k hk => ?_, h.nd.filter _, fun x => ?_, fun k hk => ?_, h.t0⟩
  · show dropP σ.p σ.e dom 16 k = false
    rw [dropP, h.hi k hk]
    rfl
  · show x ∈ dropQ σ.p σ.e dom 16 σ.q ↔ ∃ k : Nat, x = (k : Int) ∧ k < 16 ∧ dropP σ.p σ.e dom 16 k = true ∧ (σ.e k).ready = true
    unfold dropQ
    rw [List.mem_filter, h.mem x]
    constructor
    · rintro ⟨⟨k, rfl, h1, h2, h3⟩, hx⟩
      refine ⟨k, rfl, h1, ?_, h3⟩
      rw [Int.toNat_natCast, hit, h2, decide_eq_true h1] at hx
      rw [dropP, h2, decide_eq_true h1]
      simpa using hx
    · rintro ⟨k, rfl, h1, h2, h3⟩
      have hp : σ.p k = true := by
        unfold dropP at h2
        simp at h2
        exact h2.1
      refine ⟨⟨k, rfl, h1, hp, h3⟩, ?_⟩
      rw [dropP, hp, decide_eq_true h1] at h2
      rw [Int.toNat_natCast, hit, hp, decide_eq_true h1]
      simpa using h2
  · change dropP σ.p σ.e dom 16 k = true at hk
    unfold dropP at hk
    simp at hk
    exact h.val k hk.1
theorem give_keep (p : Nat → Bool) (e : Nat → V) (W : Int) (n j : Nat) : (giveP W p e n j).weight = (e j).weight ∧ (giveP W p e n j).cap = (e j).cap ∧ (giveP W p e n j).ready = (e j).ready ∧ (giveP W p e n j).dom = (e j).dom := by
  unfold giveP
  by_cases h : j < n ∧ p j = true ∧ (e j).ready = true
  · rw [if_pos h]; exact ⟨rfl, rfl, rfl, rfl⟩
  · rw [if_neg h]; exact ⟨rfl, rfl, rfl, rfl⟩
theorem share_keep (p : Nat → Bool) (e : Nat → V) (q : List Int) (t : Int) (j : Nat) : (shareS p e q t j).weight = (e j).weight ∧ (shareS p e q t j).cap = (e j).cap ∧ (shareS p e q t j).ready = (e j).ready ∧ (shareS p e q t j).dom = (e j).dom := by
  unfold shareS
  by_cases h : t % 10 = 0
  · rw [if_pos h]; exact give_keep _ _ _ _ _
  · rw [if_neg h]; exact ⟨rfl, rfl, rfl, rfl⟩
theorem run_keep (e : Nat → V) (k j : Nat) : (runE e k j).weight = (e j).weight ∧ (runE e k j).cap = (e j).cap ∧ (runE e k j).ready = (e j).ready ∧ (runE e k j).dom = (e j).dom := by
  unfold runE
  by_cases h : j = k
  · subst h
    rw [if_pos rfl]; exact ⟨rfl, rfl, rfl, rfl⟩
  · rw [if_neg h]; exact ⟨rfl, rfl, rfl, rfl⟩
theorem last_mem {q : List Int} {x : Int} (hx : x ∈ q) (y : Int) : y ∈ outr q x ++ [x] ↔ y ∈ q := by
  unfold outr
  rw [List.mem_append, List.mem_filter, List.mem_singleton]
  constructor
  · rintro (h | rfl)
    · exact h.1
    · exact hx
  · intro h
    by_cases e : y = x
    · exact .inr e
    · exact .inl ⟨h, by simpa using e⟩
theorem last_nodup {q : List Int} (h : q.Nodup) (x : Int) : (outr q x ++ [x]).Nodup := by
  rw [List.nodup_append]
  refine ⟨h.filter _, by simp, fun a ha b hb => ?_⟩
  rw [List.mem_singleton] at hb
  rintro rfl
  rw [hb] at ha
  have := (List.mem_filter.1 ha).2
  simp at this
theorem Inv.tick (h : Inv σ) : Inv (tickS σ) := by
  unfold tickS
  have h0 := h.t0
  cases hn : nextOf σ.q σ.e with
  | none =>
    refine ⟨h.hi, h.nd, fun x => ?_, fun k hk => ?_, by show 0 ≤ σ.t + 1; omega⟩
    · show x ∈ σ.q ↔ ∃ k : Nat, x = (k : Int) ∧ k < 16 ∧ σ.p k = true ∧ (shareS σ.p σ.e σ.q (σ.t + 1) k).ready = true
      simp only [(share_keep _ _ _ _ _).2.2.1]
      exact h.mem x
    · have h1 := share_keep σ.p σ.e σ.q (σ.t + 1) k
      have h2 := h.val k hk
      show 1 ≤ (shareS σ.p σ.e σ.q (σ.t + 1) k).weight ∧ (shareS σ.p σ.e σ.q (σ.t + 1) k).weight ≤ 1024 ∧ 0 ≤ (shareS σ.p σ.e σ.q (σ.t + 1) k).cap ∧ (shareS σ.p σ.e σ.q (σ.t + 1) k).cap ≤ 100
      rw [h1.1, h1.2.1]
      exact h2
  | some x =>
    have hx := nextOf_mem hn
    refine ⟨h.hi, last_nodup h.nd x, fun y => ?_, fun k hk => ?_, by show 0 ≤ σ.t + 1; omega⟩
    · show y ∈ outr σ.q x ++ [x] ↔ ∃ k : Nat, y = (k : Int) ∧ k < 16 ∧ σ.p k = true ∧ (shareS σ.p (runE σ.e x.toNat) (outr σ.q x ++ [x]) (σ.t + 1) k).ready = true
      simp only [(share_keep _ _ _ _ _).2.2.1, (run_keep _ _ _).2.2.1]
      rw [last_mem hx]
      exact h.mem y
    · have h1 := share_keep σ.p (runE σ.e x.toNat) (outr σ.q x ++ [x]) (σ.t + 1) k
      have h3 := run_keep σ.e x.toNat k
      have h2 := h.val k hk
      show 1 ≤ (shareS σ.p (runE σ.e x.toNat) (outr σ.q x ++ [x]) (σ.t + 1) k).weight ∧ (shareS σ.p (runE σ.e x.toNat) (outr σ.q x ++ [x]) (σ.t + 1) k).weight ≤ 1024 ∧ 0 ≤ (shareS σ.p (runE σ.e x.toNat) (outr σ.q x ++ [x]) (σ.t + 1) k).cap ∧ (shareS σ.p (runE σ.e x.toNat) (outr σ.q x ++ [x]) (σ.t + 1) k).cap ≤ 100
      rw [h1.1, h1.2.1, h3.1, h3.2.1]
      exact h2
theorem tick_t : (tickS σ).t = σ.t + 1 := by
  unfold tickS
  cases nextOf σ.q σ.e <;> rfl
/-- Credits to all in the queue are credits to all that are ready. -/
theorem giveAll_hit (W : Int) (k : Nat) : ∀ (q : List Int) (e : Nat → V), q.Nodup → (∀ x ∈ q, 0 ≤ x) → (k : Int) ∈ q → giveAll W e q k = give (e k) W
  | [], e, _, _, h => by simp at h
  | x :: q, e, hn, h0, h => by
    obtain ⟨hx, hn⟩ := List.nodup_cons.1 hn
    have h0x := h0 x (List.mem_cons_self ..)
    by_cases e1 : (k : Int) = x
    · have e2 : k = x.toNat := by omega
      rw [giveAll, giveAll_other W k q _ (fun y hy e3 => hx (by
        have := h0 y (List.mem_cons_of_mem _ hy)
        have e4 : y = x := by omega
        rw [← e4]
        exact hy))]
      rw [if_pos e2]
    · have hk : (k : Int) ∈ q := by
        rcases List.mem_cons.1 h with h | h
        · exact absurd h e1
        · exact h
      rw [giveAll, giveAll_hit W k q _ hn (fun y hy => h0 y (List.mem_cons_of_mem _ hy)) hk, if_neg (by omega)]
theorem giveAll_eq {p : Nat → Bool} {e : Nat → V} {q : List Int} (W : Int) (hn : q.Nodup) (hm : ∀ x, x ∈ q ↔ ∃ k : Nat, x = (k : Int) ∧ k < 16 ∧ p k = true ∧ (e k).ready = true) : giveAll W e q = giveP W p e 16 := by
  have h0 : ∀ x ∈ q, 0 ≤ x := fun x hx => by
    obtain ⟨k, rfl, _⟩ := (hm x).1 hx
    omega
  funext j
  unfold giveP
  by_cases h : j < 16 ∧ p j = true ∧ (e j).ready = true
  · rw [if_pos h, giveAll_hit W j q e hn h0 ((hm j).2 ⟨j, rfl, h⟩)]
  · rw [if_neg h]
    refine giveAll_other W j q e fun x hx e1 => h ?_
    obtain ⟨k, rfl, h1⟩ := (hm x).1 hx
    have : k = j := by omega
    subst this
    exact h1
/-- The program's Tick makes of the state what the document's does. -/
theorem tick_same (h : Inv σ) : shareE (σ.t + 1) (tickE σ.e σ.q) (tickQ σ.e σ.q) = (tickS σ).e ∧ tickQ σ.e σ.q = (tickS σ).q := by
  unfold tickS tickE tickQ shareE shareS
  cases hn : nextOf σ.q σ.e with
  | none =>
    refine ⟨?_, rfl⟩
    show (if (σ.t + 1) % 10 = 0 then giveAll (sumW σ.e σ.q) σ.e σ.q else σ.e) = (if (σ.t + 1) % 10 = 0 then giveP (sumW σ.e σ.q) σ.p σ.e 16 else σ.e)
    rw [giveAll_eq _ h.nd h.mem]
  | some x =>
    have hx := nextOf_mem hn
    refine ⟨?_, congrArg (· ++ [x]) (outr_erase h.nd x)⟩
    have e1 : (fun j => if j = x.toNat then runV (σ.e j) else σ.e j) = runE σ.e x.toNat := by
      funext j
      unfold runE
      by_cases hj : j = x.toNat
      · rw [if_pos hj, if_pos hj, hj]
      · rw [if_neg hj, if_neg hj]
    show (if (σ.t + 1) % 10 = 0 then giveAll (sumW (fun j => if j = x.toNat then runV (σ.e j) else σ.e j) (outq σ.q x ++ [x])) (fun j => if j = x.toNat then runV (σ.e j) else σ.e j) (outq σ.q x ++ [x]) else (fun j => if j = x.toNat then runV (σ.e j) else σ.e j)) = (if (σ.t + 1) % 10 = 0 then giveP (sumW (runE σ.e x.toNat) (outr σ.q x ++ [x])) σ.p (runE σ.e x.toNat) 16 else runE σ.e x.toNat)
    rw [e1, outr_erase h.nd x, giveAll_eq (p := σ.p) _ (last_nodup h.nd x) (fun y => by
      rw [last_mem hx, h.mem y]
      simp only [(run_keep _ _ _).2.2.1])]
end
end Go.Proofs.Ytpdelhipfleniaa.AbB
