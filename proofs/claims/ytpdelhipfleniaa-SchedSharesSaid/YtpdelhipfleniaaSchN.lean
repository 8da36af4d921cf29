/- Proved: the ticks of a scheduler whose entries are all ready (for the law SchedShares). -/
import Derived.Test.YtpdelhipfleniaaSchL
namespace Go.Proofs.Ytpdelhipfleniaa.SchN
open Go.RowKit Go.Maps Go.Proofs.Ytpdelhipfleniaa.Base Go.Proofs.Ytpdelhipfleniaa.SchA Go.Proofs.Ytpdelhipfleniaa.SchB Go.Proofs.Ytpdelhipfleniaa.SchC Go.Proofs.Ytpdelhipfleniaa.SchD Go.Proofs.Ytpdelhipfleniaa.SchE Go.Proofs.Ytpdelhipfleniaa.SchF Go.Proofs.Ytpdelhipfleniaa.SchG Go.Proofs.Ytpdelhipfleniaa.SchH Go.Proofs.Ytpdelhipfleniaa.SchI Go.Proofs.Ytpdelhipfleniaa.SchJ Go.Proofs.Ytpdelhipfleniaa.SchK Go.Proofs.Ytpdelhipfleniaa.SchL
set_option linter.unusedVariables false

/-- What all entries ran, together. -/
def sumR (e : Nat → V) : Nat → Int
  | 0 => 0
  | n + 1 => sumR e n + (e n).ran
theorem sumR_same (e e' : Nat → V) : ∀ n, (∀ k, k < n → (e' k).ran = (e k).ran) → sumR e' n = sumR e n
  | 0, _ => rfl
  | n + 1, h => by rw [sumR, sumR, sumR_same e e' n (fun k hk => h k (by omega)), h n (by omega)]
theorem sumR_one (e e' : Nat → V) (k : Nat) : ∀ n, k < n → (e' k).ran = (e k).ran + 1 → (∀ j, j < n → j ≠ k → (e' j).ran = (e j).ran) → sumR e' n = sumR e n + 1
  | 0, h, _, _ => absurd h (Nat.not_lt_zero _)
  | n + 1, h, h1, h2 => by
    by_cases e1 : k = n
    · subst e1
      rw [sumR, sumR, sumR_same e e' k (fun j hj => h2 j (by omega) (by omega)), h1]
      omega
    · rw [sumR, sumR, sumR_one e e' k n (by omega) h1 (fun j hj => h2 j (by omega)), h2 n (by omega) (fun e2 => e1 e2.symm)]
      omega
/-- What is true of an entry behind i ticks. -/
def Pv (i : Nat) (v : V) : Prop := 1 ≤ v.weight ∧ v.weight ≤ 1024 ∧ v.cap = 0 ∧ -100 * (i : Int) ≤ v.credit ∧ v.credit ≤ 1000 ∧ 0 ≤ v.ran ∧ v.ran ≤ i
theorem give_P {i : Nat} (hi : i ≤ 1000) {v : V} {W : Int} (hW : 0 < W) (h : Pv i v) : Pv i (give v W) := by
  obtain ⟨h1, h2, h3, h4, h5, h6, h7⟩ := h
  have hm : more v W = 1000 * v.weight / W := by rw [more, if_neg (by omega)]
  have hq : 0 ≤ 1000 * v.weight / W := Int.ediv_nonneg (by omega) (by omega)
  have hq2 : 1000 * v.weight / W ≤ 1000 * v.weight := Int.ediv_le_self _ (by omega)
  have hc : (give v W).credit = min 1000 (v.credit + 1000 * v.weight / W) := by
    show min 1000 (wrap64 (v.credit + more v W)) = _
    rw [hm]
    unfold wrap64
    omega
  refine ⟨h1, h2, h3, ?_, ?_, h6, h7⟩ <;> rw [hc] <;> omega
theorem giveAll_P {i : Nat} (hi : i ≤ 1000) {W : Int} (hW : 0 < W) (k : Nat) : ∀ (q : List Int) (e : Nat → V), Pv i (e k) → Pv i (giveAll W e q k)
  | [], e, h => h
  | x :: q, e, h => by
    refine giveAll_P hi hW k q _ ?_
    show Pv i (if k = x.toNat then give (e k) W else e k)
    by_cases h1 : k = x.toNat
    · rw [if_pos h1]
      exact give_P hi hW h
    · rw [if_neg h1]
      exact h
theorem giveAll_ran (W : Int) (k : Nat) : ∀ (q : List Int) (e : Nat → V), (giveAll W e q k).ran = (e k).ran
  | [], e => rfl
  | x :: q, e => by
    rw [giveAll, giveAll_ran W k q]
    by_cases h1 : k = x.toNat
    · rw [if_pos h1]
      rfl
    · rw [if_neg h1]

/-- n entries that are ready all the time, behind i ticks. -/
def SharesAt (base : Nat) (W : World) (S n i : Nat) : Prop :=
  ∃ M s e qv q, Sch base W S M s e n qv q i ∧ (∀ k, (s k).isSome = decide (k < n)) ∧ q.length = n ∧ (∀ x ∈ q, ∃ k : Nat, k < n ∧ x = k) ∧ (∀ k, k < n → Pv i (e k)) ∧ sumR e n = (min n 1 * i : Nat)
theorem shares_start {base : Nat} {W : World} {S n : Nat} {f : Nat → V} (hf : ∀ k, k < n → 1 ≤ (f k).weight ∧ (f k).weight ≤ 1024 ∧ (f k).cap = 0 ∧ (f k).credit = 0 ∧ (f k).ran = 0) (h : SetUp base W S f n) : SharesAt base W S n 0 := by
  obtain ⟨M, s, e, qv, hs, hd, he⟩ := h
  have hr : ∀ k, k < n → (e k).ran = 0 := fun k hk => by rw [he k hk]; exact (hf k hk).2.2.2.2
  refine ⟨M, s, e, qv, nat n, hs, hd, nat_len n, fun x hx => mem_nat.1 hx, fun k hk => ?_, ?_⟩
  · rw [he k hk]
    have := hf k hk
    unfold Pv
    omega
  · have : ∀ m, m ≤ n → sumR e m = 0 := by
      intro m
      induction m with
      | zero => intro _; rfl
      | succ m ih => intro hm; rw [sumR, ih (by omega), hr m (by omega)]; rfl
    rw [this n (Nat.le_refl _)]
    simp
theorem shares_tick {base : Nat} {w : World} {S n i : Nat} (h : SharesAt base w S n i) (hb : base ≤ w.heap.size) (hn : n ≤ 16) (hi : i ≤ 500) :
    Calls Try.prog 11 #[.pointer (some ⟨S, 0, none⟩)] w fun z w' => ∃ r : Int, z = .returned (.int .i64 r) ∧ decide (0 ≤ r) = decide (0 < n) ∧ SharesAt base w' S n (i + 1) ∧ Below base w w' := by
  obtain ⟨M, s, e, qv, q, hs, hd, hl, hm, hP, hsum⟩ := h
  have hq : Qok q s := fun x hx => by
    obtain ⟨k, hk, rfl⟩ := hm x hx
    obtain ⟨g, hg⟩ := some_of hd hk
    exact ⟨k, g, rfl, by omega, hg⟩
  have hv : Vok s e := fun k g hg => by
    have := hP k (lt_of_some hd hg)
    unfold Pv at this
    omega
  refine (tick_calls hs hb hq hv (by omega) (by omega) (by omega)).mono ?_
  rintro z w' ⟨rfl, qv', h', hb'⟩
  -- behind the tick itself
  have key : (tickQ e q).length = n ∧ (∀ x ∈ tickQ e q, ∃ k : Nat, k < n ∧ x = k) ∧ (∀ k, k < n → Pv (i + 1) (tickE e q k)) ∧ sumR (tickE e q) n = (min n 1 * (i + 1) : Nat) ∧ decide (0 ≤ tickR e q) = decide (0 < n) := by
    cases hno : nextOf q e with
    | none =>
      have h0 := nextOf_none hno
      rw [h0] at hl
      have hn0 : n = 0 := hl.symm
      subst hn0
      rw [tickQ, tickE, tickR, hno]
      exact ⟨by rw [h0]; rfl, by rw [h0]; exact fun x hx => by simp at hx, fun k hk => absurd hk (Nat.not_lt_zero _), by simp [sumR], by decide⟩
    | some x =>
      have hx := nextOf_mem hno
      obtain ⟨k, hk, rfl⟩ := hm x hx
      have hpos : 0 < q.length := List.length_pos_of_mem hx
      have e1 : tickE e q = fun j => if j = k then runV (e k) else e j := by
        rw [tickE, hno]
        funext j
        by_cases hj : j = k
        · simp [hj]
        · simp [hj]
      have er : (runV (e k)).ran = (e k).ran + 1 := by
        have := hP k hk
        unfold Pv at this
        show wrap64 ((e k).ran + 1) = _
        unfold wrap64
        omega
      have ec : (runV (e k)).credit = (e k).credit - 100 := by
        have := hP k hk
        unfold Pv at this
        show wrap64 ((e k).credit - 100) = _
        unfold wrap64
        omega
      refine ⟨?_, ?_, ?_, ?_, ?_⟩
      · rw [tickQ, hno]
        show (outq q k ++ [(k : Int)]).length = n
        rw [outq, List.length_append, List.length_erase_of_mem hx, List.length_singleton]
        omega
      · rw [tickQ, hno]
        intro y hy
        rcases List.mem_append.1 hy with hy | hy
        · exact hm y (List.mem_of_mem_erase hy)
        · rw [List.mem_singleton] at hy
          exact ⟨k, hk, hy⟩
      · intro j hj
        rw [e1]
        show Pv (i + 1) (if j = k then runV (e k) else e j)
        by_cases hjk : j = k
        · rw [if_pos hjk]
          have := hP k hk
          unfold Pv at this ⊢
          rw [er, ec]
          refine ⟨this.1, this.2.1, this.2.2.1, ?_, ?_, ?_, ?_⟩ <;> omega
        · rw [if_neg hjk]
          have := hP j hj
          unfold Pv at this ⊢
          refine ⟨this.1, this.2.1, this.2.2.1, ?_, ?_, ?_, ?_⟩ <;> omega
      · rw [sumR_one e (tickE e q) k n hk (by rw [e1]; show (if k = k then runV (e k) else e k).ran = _; rw [if_pos rfl, er]) (fun j hj hjk => by rw [e1]; show (if j = k then runV (e k) else e j).ran = _; rw [if_neg hjk]), hsum]
        have : min n 1 = 1 := by omega
        rw [this]
        omega
      · rw [tickR, hno]
        show decide (0 ≤ (k : Int)) = _
        rw [decide_eq_true (by omega), decide_eq_true (by omega)]
  obtain ⟨k1, k2, k3, k4, k5⟩ := key
  refine ⟨_, rfl, k5, ⟨M, s, _, qv', tickQ e q, h', hd, k1, k2, ?_, ?_⟩, hb'⟩
  · intro k hk
    unfold shareE
    split
    · have hq2 : Qok (tickQ e q) s := fun x hx => by
        obtain ⟨k, hk, rfl⟩ := k2 x hx
        obtain ⟨g, hg⟩ := some_of hd hk
        exact ⟨k, g, rfl, by omega, hg⟩
      have hv2 : Vok s (tickE e q) := fun k g hg => by
        have := k3 k (lt_of_some hd hg)
        unfold Pv at this
        omega
      have := sumW_le s (tickE e q) hv2 (tickQ e q) hq2
      exact giveAll_P (by omega) (by omega) k _ _ (k3 k hk)
    · exact k3 k hk
  · rw [← k4]
    refine sumR_same _ _ n fun k hk => ?_
    unfold shareE
    split
    · exact giveAll_ran _ _ _ _
    · rfl
theorem SharesAt.below {base : Nat} {W W' : World} {S n i : Nat} (h : SharesAt base W S n i) (hb : Below W.heap.size W W') : SharesAt base W' S n i := by
  obtain ⟨M, s, e, qv, q, hs, h2⟩ := h
  exact ⟨M, s, e, qv, q, hs.below hb, h2⟩
theorem sumR_le {e : Nat → V} {n : Nat} (h : ∀ k, k < n → 0 ≤ (e k).ran) : ∀ m, m ≤ n → 0 ≤ sumR e m ∧ sumR e m ≤ sumR e n := by
  have mono : ∀ d m, m + d ≤ n → sumR e m ≤ sumR e (m + d) := by
    intro d
    induction d with
    | zero => intro m _; exact Int.le_refl _
    | succ d ih =>
      intro m hm
      have := ih m (by omega)
      have h2 := h (m + d) (by omega)
      show _ ≤ sumR e (m + d) + (e (m + d)).ran
      omega
  intro m hm
  have h1 := mono m 0 (by omega)
  have h2 := mono (n - m) m (by omega)
  rw [Nat.zero_add] at h1
  rw [show m + (n - m) = n by omega] at h2
  exact ⟨h1, h2⟩
end Go.Proofs.Ytpdelhipfleniaa.SchN
