/- Proved: one caller's maps of one entry, and what its frame counts of them (lemmas for the laws of the grants). -/
import Derived.Test.YtjeobbhaoahdcaaGjG
namespace Go.Proofs.Ytjeobbhaoahdcaa.GqA
open Go.RowKit Go.Maps Go.Proofs.Ytjeobbhaoahdcaa.Base Go.Proofs.Ytjeobbhaoahdcaa.GaA Go.Proofs.Ytjeobbhaoahdcaa.GaB Go.Proofs.Ytjeobbhaoahdcaa.GmA Go.Proofs.Ytjeobbhaoahdcaa.GmB Go.Proofs.Ytjeobbhaoahdcaa.GmC Go.Proofs.Ytjeobbhaoahdcaa.GeB Go.Proofs.Ytjeobbhaoahdcaa.GfC Go.Proofs.Ytjeobbhaoahdcaa.GjA Go.Proofs.Ytjeobbhaoahdcaa.GjB Go.Proofs.Ytjeobbhaoahdcaa.GjC Go.Proofs.Ytjeobbhaoahdcaa.GjD Go.Proofs.Ytjeobbhaoahdcaa.GjE Go.Proofs.Ytjeobbhaoahdcaa.GjF
set_option linter.unusedVariables false
set_option linter.unusedSimpArgs false

/-- Which handles are in use, and whether for writing. -/
abbrev Hn := Nat → Option Bool
def upd (b : Hn) (k : Nat) (v : Option Bool) : Hn := fun i => if i = k then v else b i
def pick (p : Bool → Bool) (v : Option Bool) : Bool := match v with | some x => p x | none => false
def cb (p : Bool → Bool) (b : Hn) : Nat := (List.range 16).countP fun i => pick p (b i)
def all1 : Bool → Bool := fun _ => true
theorem range_upd (q : Nat → Bool) (k : Nat) (v : Bool) : ∀ n : Nat, (List.range n).countP (fun i => if i = k then v else q i) + (if k < n ∧ q k = true then 1 else 0) = (List.range n).countP q + (if k < n ∧ v = true then 1 else 0)
  | 0 => by simp
  | n + 1 => by
    have ih := range_upd q k v n
    rw [List.range_succ, List.countP_append, List.countP_append]
    simp only [List.countP_cons, List.countP_nil, Nat.zero_add]
    by_cases e : n = k
    · subst e
      simp only [Nat.lt_irrefl, false_and, if_false, Nat.add_zero, Nat.lt_succ_self, true_and, if_true] at ih ⊢
      omega
    · rw [if_neg e]
      by_cases h : k < n
      · have h2 : k < n + 1 := by omega
        simp only [h, h2, true_and] at ih ⊢
        omega
      · have h2 : ¬ k < n + 1 := by omega
        simp only [h, h2, false_and, if_false, Nat.add_zero] at ih ⊢
        omega
theorem cb_upd (p : Bool → Bool) (b : Hn) {k : Nat} (hk : k < 16) (v : Option Bool) : cb p (upd b k v) + (if pick p (b k) = true then 1 else 0) = cb p b + (if pick p v = true then 1 else 0) := by
  have h := range_upd (fun i => pick p (b i)) k (pick p v) 16
  simp only [hk, true_and] at h
  unfold cb upd
  rw [← h]
  congr 2
  funext i
  split <;> rfl
theorem cb_le (b : Hn) : cb id b ≤ cb all1 b := by
  unfold cb
  refine List.countP_mono_left fun i _ h => ?_
  cases hb : b i with
  | none => rw [hb] at h; cases h
  | some x => rfl
theorem cb_16 (p : Bool → Bool) (b : Hn) : cb p b ≤ 16 := by
  unfold cb
  have := List.countP_le_length (p := fun i => pick p (b i)) (l := List.range 16)
  rwa [List.length_range] at this
section
variable {cl ow rf mf : Int} {b : Hn}
/-- The maps themselves. -/
def HF (cl ow rf mf : Int) (b : Hn) : Int × Int → Option Mp := fun p => if p.1 = cl ∧ 0 ≤ p.2 ∧ p.2 < 16 then (b p.2.toNat).map (fun wr => ⟨p.2, cl, ow, rf, mf, wr⟩) else none
theorem hf_at {i : Nat} (hi : i < 16) : HF cl ow rf mf b (cl, (i : Int)) = (b i).map fun wr => ⟨(i : Int), cl, ow, rf, mf, wr⟩ := by
  unfold HF
  rw [if_pos ⟨rfl, by simp only; omega, by simp only; omega⟩]
  simp
theorem hf_h (c h : Int) (m : Mp) (e : HF cl ow rf mf b (c, h) = some m) : m.h = h := by
  unfold HF at e
  split at e
  · cases hb : b ((c, h) : Int × Int).2.toNat with
    | none => rw [hb] at e; cases e
    | some x => rw [hb] at e; cases e; rfl
  · cases e
theorem hf_put {k : Nat} (hk : k < 16) (wr : Bool) : kput (HF cl ow rf mf b) (cl, (k : Int)) ⟨(k : Int), cl, ow, rf, mf, wr⟩ = HF cl ow rf mf (upd b k (some wr)) := by
  funext p
  obtain ⟨c, h⟩ := p
  unfold kput
  by_cases e : (c, h) = (cl, (k : Int))
  · rw [if_pos e, e, hf_at hk]
    unfold upd
    rw [if_pos rfl]
    rfl
  · rw [if_neg e]
    unfold HF upd
    simp only
    by_cases e2 : c = cl ∧ 0 ≤ h ∧ h < 16
    · rw [if_pos e2, if_pos e2, if_neg]
      intro e3
      exact e (by rw [e2.1]; congr 1; omega)
    · rw [if_neg e2, if_neg e2]
theorem hf_del {k : Nat} (hk : k < 16) : kdel (HF cl ow rf mf b) (cl, (k : Int)) = HF cl ow rf mf (upd b k none) := by
  funext p
  obtain ⟨c, h⟩ := p
  unfold kdel
  by_cases e : (c, h) = (cl, (k : Int))
  · rw [if_pos e, e, hf_at hk]
    unfold upd
    rw [if_pos rfl]
    rfl
  · rw [if_neg e]
    unfold HF upd
    simp only
    by_cases e2 : c = cl ∧ 0 ≤ h ∧ h < 16
    · rw [if_pos e2, if_pos e2, if_neg]
      intro e3
      exact e (by rw [e2.1]; congr 1; omega)
    · rw [if_neg e2, if_neg e2]
theorem hf_lead {j : Nat} (hj : j < 16) (h1 : ∀ i, i < j → (b i).isSome = true) (h2 : b j = none) : lead 0 (mapsL (HF cl ow rf mf b) cl 16) = j ∧ (mapsL (HF cl ow rf mf b) cl 16).length < 16 := by
  obtain ⟨i1, i2, i3, i4⟩ := lead_spec (F := HF cl ow rf mf b) hf_h cl 16
  have hl := mapsL_len (HF cl ow rf mf b) cl 16
  have hjn : HF cl ow rf mf b (cl, (j : Int)) = none := by rw [hf_at hj, h2]; rfl
  generalize lead 0 (mapsL (HF cl ow rf mf b) cl 16) = e at i1 i2 i3 i4
  have he : e = j := by
    by_cases a1 : j < e
    · have := i2 j a1
      rw [hjn] at this
      cases this
    · by_cases a2 : e < j
      · have h3 := i3 (by omega)
        rw [hf_at (by omega)] at h3
        have h4 := h1 e a2
        cases hb : b e with
        | none => rw [hb] at h4; cases h4
        | some x => rw [hb] at h3; cases h3
      · omega
  refine ⟨he, ?_⟩
  by_cases a : (mapsL (HF cl ow rf mf b) cl 16).length = 16
  · have := i4 a
    omega
  · omega
theorem hf_full (h : ∀ i, i < 16 → (b i).isSome = true) : (mapsL (HF cl ow rf mf b) cl 16).length = 16 := by
  have key : ∀ k : Nat, k ≤ 16 → (mapsL (HF cl ow rf mf b) cl k).length = k := by
    intro k
    induction k with
    | zero => intro _; rfl
    | succ k ih =>
      intro hk
      have h1 := h k (by omega)
      cases hb : b k with
      | none => rw [hb] at h1; cases h1
      | some x =>
        rw [mapsL_hit (m := ⟨(k : Int), cl, ow, rf, mf, x⟩) (by rw [hf_at (by omega), hb]; rfl), List.length_append, ih (by omega)]
        rfl
  exact key 16 (by omega)
/-- The keys in use. -/
def hL (cl : Int) (b : Hn) : List (Int × Int) := ((List.range 16).filter fun i : Nat => (b i).isSome).map fun i : Nat => (cl, (i : Int))
theorem hL_len : (hL cl b).length = cb all1 b := by
  unfold hL cb
  rw [List.length_map, ← List.countP_eq_length_filter]
  congr 1
  funext i
  cases b i <;> rfl
theorem hL_keys (hc : okI cl) : Keys (HF cl ow rf mf b) (hL cl b) := by
  refine ⟨?_, fun k hk => ?_, fun k hk => ?_⟩
  · unfold hL
    refine List.Pairwise.map _ (fun x y hxy e => hxy ?_) (List.Pairwise.filter _ (List.nodup_range (n := 16)))
    have := congrArg Prod.snd e
    simp only at this
    omega
  · unfold hL at hk
    rw [List.mem_map] at hk
    obtain ⟨i, hi, rfl⟩ := hk
    have := List.mem_range.1 (List.mem_filter.1 hi).1
    exact ⟨hc, by unfold okI; simp only; omega⟩
  · obtain ⟨c, h⟩ := k
    unfold HF hL
    simp only
    rw [List.mem_map]
    constructor
    · intro h1
      split at h1
      · rename_i h2
        refine ⟨h.toNat, List.mem_filter.2 ⟨List.mem_range.2 (by omega), by simpa using h1⟩, ?_⟩
        rw [h2.1]
        congr 1
        omega
      · cases h1
    · rintro ⟨i, hi, e⟩
      obtain ⟨h1, h2⟩ := List.mem_filter.1 hi
      have h3 := List.mem_range.1 h1
      cases e
      rw [if_pos ⟨rfl, by omega, by omega⟩]
      simpa using h2
theorem hL_own : (hL cl b).countP (ownIs (HF cl ow rf mf b) ow) = cb all1 b := by
  rw [← hL_len (cl := cl), List.countP_eq_length]
  intro k hk
  unfold hL at hk
  rw [List.mem_map] at hk
  obtain ⟨i, hi, rfl⟩ := hk
  obtain ⟨h1, h2⟩ := List.mem_filter.1 hi
  have h3 := List.mem_range.1 h1
  unfold ownIs
  rw [hf_at h3]
  cases hb : b i with
  | none => rw [hb] at h2; cases h2
  | some x => simp
end
/-- What the frame counts. -/
def frB (d : Int) (b : Hn) : Fr := ⟨d, if cb id b = 0 then 0 else 1, (cb id b : Nat), (cb all1 b : Nat)⟩
theorem frB_few (d : Int) (b : Hn) : Fr.few (frB d b) := by
  have h1 := cb_16 id b
  have h2 := cb_16 all1 b
  unfold Fr.few frB
  simp only
  omega
theorem frB_getE (d : Int) (hd : d ≠ -1) (b : Hn) (wr : Bool) : getE (frB d b) d (kindI wr) = 0 := by
  unfold getE frB
  simp only
  rw [if_neg hd, if_neg (by simp), if_neg]
  rintro ⟨h1, h2, h3⟩
  cases wr
  · exact h1 rfl
  · by_cases e : cb id b = 0
    · rw [if_pos e] at h2; exact h2 rfl
    · rw [if_neg e] at h3; exact h3 rfl
theorem frB_get (d : Int) (b : Hn) {k : Nat} (hk : k < 16) (h : b k = none) (wr : Bool) : getF (frB d b) (kindI wr) = frB d (upd b k (some wr)) := by
  have u1 := cb_upd id b hk (some wr)
  have u2 := cb_upd all1 b hk (some wr)
  rw [h] at u1 u2
  unfold getF frB kindI
  cases wr
  · simp [pick, all1] at u1 u2 ⊢
    rw [u1, u2]
    simp
  · simp [pick, all1] at u1 u2 ⊢
    rw [u1, u2]
    simp
theorem frB_put (d : Int) (b : Hn) {k : Nat} (hk : k < 16) (wr : Bool) (h : b k = some wr) : putE (frB d b) (kindI wr) = 0 ∧ putF (frB d b) (kindI wr) = frB d (upd b k none) := by
  have u1 := cb_upd id b hk none
  have u2 := cb_upd all1 b hk none
  have u3 := cb_le (upd b k none)
  rw [h] at u1 u2
  unfold putE putF frB kindI
  cases wr
  · simp [pick, all1] at u1 u2 ⊢
    refine ⟨by omega, by rw [u1]; split <;> simp_all, by omega, by omega⟩
  · simp [pick, all1] at u1 u2 ⊢
    refine ⟨by omega, ?_, by omega, by omega⟩
    by_cases e : cb id (upd b k none) = 0
    · rw [if_pos (by omega), if_pos e]
    · rw [if_neg (by omega), if_neg (by omega), if_neg e]
end Go.Proofs.Ytjeobbhaoahdcaa.GqA
