/- Proved: the least free handle (lemmas for Map of the grants). -/
import Derived.Test.YtjeobbhaoahdcaaGjD
namespace Go.Proofs.Ytjeobbhaoahdcaa.GjE
open Go.RowKit Go.Maps Go.Proofs.Ytjeobbhaoahdcaa.Base Go.Proofs.Ytjeobbhaoahdcaa.GaA Go.Proofs.Ytjeobbhaoahdcaa.GaB Go.Proofs.Ytjeobbhaoahdcaa.GaC Go.Proofs.Ytjeobbhaoahdcaa.GmA Go.Proofs.Ytjeobbhaoahdcaa.GmB Go.Proofs.Ytjeobbhaoahdcaa.GmC Go.Proofs.Ytjeobbhaoahdcaa.GpA Go.Proofs.Ytjeobbhaoahdcaa.GgA Go.Proofs.Ytjeobbhaoahdcaa.GvA Go.Proofs.Ytjeobbhaoahdcaa.GeA Go.Proofs.Ytjeobbhaoahdcaa.GfA Go.Proofs.Ytjeobbhaoahdcaa.GfB Go.Proofs.Ytjeobbhaoahdcaa.GfC Go.Proofs.Ytjeobbhaoahdcaa.GfD Go.Proofs.Ytjeobbhaoahdcaa.GfH Go.Proofs.Ytjeobbhaoahdcaa.GjA Go.Proofs.Ytjeobbhaoahdcaa.GjB
set_option linter.unusedVariables false
set_option linter.unusedSimpArgs false

/-- The first number from h on that the list does not go on with. -/
def lead : Nat → List Mp → Nat
  | h, [] => h
  | h, m :: t => if m.h = h then lead (h + 1) t else h
theorem lead_le : ∀ (L : List Mp) (h : Nat), lead h L ≤ h + L.length
  | [], h => by simp [lead]
  | m :: t, h => by
    have := lead_le t (h + 1)
    simp only [lead, List.length_cons]
    split <;> omega
theorem lead_snoc (m : Mp) : ∀ (L : List Mp) (h : Nat), lead h (L ++ [m]) = if lead h L = h + L.length then (if m.h = ((h + L.length : Nat) : Int) then h + L.length + 1 else h + L.length) else lead h L
  | [], h => by simp [lead]
  | x :: t, h => by
    have ih := lead_snoc m t (h + 1)
    have hl := lead_le t (h + 1)
    simp only [lead, List.cons_append, List.length_cons]
    by_cases e : x.h = h
    · rw [if_pos e, if_pos e, ih]
      have e2 : h + 1 + t.length = h + (t.length + 1) := by omega
      rw [e2]
    · rw [if_neg e, if_neg e, if_neg (by omega)]
theorem lead_step (L : List Mp) (k : Nat) (hk : k < L.length) : lead k (L.drop k) = if (L[k]).h = k then lead (k + 1) (L.drop (k + 1)) else k := by
  rw [List.drop_eq_getElem_cons hk, lead]
theorem lead_spec {F : Int × Int → Option Mp} (hF : ∀ c h m, F (c, h) = some m → m.h = h) (c : Int) : ∀ k : Nat, lead 0 (mapsL F c k) ≤ k ∧ (∀ i : Nat, i < lead 0 (mapsL F c k) → (F (c, (i : Int))).isSome = true) ∧
    (lead 0 (mapsL F c k) < k → F (c, (lead 0 (mapsL F c k) : Nat)) = none) ∧ ((mapsL F c k).length = k → lead 0 (mapsL F c k) = k)
  | 0 => ⟨Nat.le_refl _, fun i hi => absurd hi (Nat.not_lt_zero i), fun h => absurd h (Nat.not_lt_zero _), fun _ => rfl⟩
  | k + 1 => by
    obtain ⟨i1, i2, i3, i4⟩ := lead_spec hF c k
    have hl := mapsL_len F c k
    have h0 := lead_le (mapsL F c k) 0
    cases hf : F (c, (k : Int)) with
    | none =>
      rw [mapsL_miss hf]
      refine ⟨by omega, i2, fun h => ?_, fun h => by omega⟩
      by_cases e : lead 0 (mapsL F c k) = k
      · rw [e]; exact hf
      · exact i3 (by omega)
    | some m =>
      have hm := hF _ _ _ hf
      rw [mapsL_hit hf, lead_snoc, hm]
      simp only [Nat.zero_add] at *
      rw [List.length_append]
      simp only [List.length_singleton]
      by_cases e1 : lead 0 (mapsL F c k) = (mapsL F c k).length
      · rw [if_pos e1]
        by_cases e2 : (k : Int) = ((mapsL F c k).length : Nat)
        · rw [if_pos e2]
          refine ⟨by omega, fun i hi => ?_, fun h => by omega, fun h => by omega⟩
          by_cases e3 : i = k
          · rw [e3, hf]; rfl
          · exact i2 i (by omega)
        · rw [if_neg e2, ← e1]
          exact ⟨by omega, i2, fun h => i3 (by omega), fun h => by omega⟩
      · rw [if_neg e1]
        refine ⟨by omega, i2, fun h => i3 ?_, fun h => ?_⟩
        · by_cases e3 : lead 0 (mapsL F c k) = k
          · omega
          · omega
        · have := i4 (by omega)
          omega
/-- A row of maps in memory: their handles. -/
def MRow (N : Nat) (W : World) (A : Option Addr) (L : List Mp) : Prop :=
  (A = none ∧ L = []) ∨ ∃ g cs, A = some ⟨g, 0, none⟩ ∧ N ≤ g ∧ W.heap[g]? = some (.cells cs 135 (0, 0)) ∧ ∀ j (hj : j < L.length), cs[6 * j]? = some (.int .i64 (L[j]).h)
theorem flat_at : ∀ (L : List Mp) (j : Nat) (hj : j < L.length), (L.flatMap mcells)[6 * j]? = some (.int .i64 (L[j]).h)
  | [], j, hj => absurd hj (Nat.not_lt_zero _)
  | m :: t, 0, hj => rfl
  | m :: t, j + 1, hj => by
    have ih := flat_at t j (by simpa using hj)
    rw [List.flatMap_cons, List.getElem?_append_right (by simp [mcells]; omega)]
    have e : 6 * (j + 1) - (mcells m).length = 6 * j := by simp [mcells]; omega
    rw [e, ih]
    rfl
theorem mrow_of {N : Nat} {W : World} {v : Value} {L : List Mp} (h : W.ownsRow N 135 6 v L.length (L.flatMap mcells)) : ∃ A c, v = .slice A L.length c ∧ MRow N W A L := by
  obtain ⟨h1, ⟨rfl, h2⟩ | ⟨g, cap, cur, rfl, hb, hg, q1, q2, q3, q4⟩⟩ := h
  · have : L = [] := List.length_eq_zero_iff.1 h2
    subst this
    exact ⟨none, 0, rfl, .inl ⟨rfl, rfl⟩⟩
  · refine ⟨_, cap, rfl, .inr ⟨g, cur, rfl, hb, hg, fun j hj => ?_⟩⟩
    rw [← flat_at L j hj, ← q4, List.getElem?_take, if_pos (by omega), Array.getElem?_toList]
theorem MRow.chg {N : Nat} {W W' : World} {A : Option Addr} {L : List Mp} {F : Nat → Prop} (h : MRow N W A L) (hc : Chg F W W') (hF : ∀ x, F x → x < N) : MRow N W' A L := by
  rcases h with h | ⟨g, cs, h1, h2, h3, h4⟩
  · exact .inl h
  · exact .inr ⟨g, cs, h1, h2, hc.blk h3 (fun hf => by have := hF g hf; omega), h4⟩
theorem MRow.below {N : Nat} {W W' : World} {A : Option Addr} {L : List Mp} (h : MRow N W A L) (hb : Below W.heap.size W W') : MRow N W' A L := h.chg (Chg.below (fun _ => False) hb) (fun x hx => hx.elim)
end Go.Proofs.Ytjeobbhaoahdcaa.GjE
