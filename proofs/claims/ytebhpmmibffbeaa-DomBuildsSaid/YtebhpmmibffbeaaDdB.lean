/- Proved: what a new domain's tables come to, entry by entry (plain laws; contracts of the second level). -/
import Derived.Test.YtebhpmmibffbeaaDdA
namespace Go.Proofs.Ytebhpmmibffbeaa.DdB
open Go.RowKit Go.Maps Go.Proofs.Ytebhpmmibffbeaa.Base Go.Proofs.Ytebhpmmibffbeaa.GaA Go.Proofs.Ytebhpmmibffbeaa.GaB Go.Proofs.Ytebhpmmibffbeaa.GaC Go.Proofs.Ytebhpmmibffbeaa.GfB Go.Proofs.Ytebhpmmibffbeaa.DbB Go.Proofs.Ytebhpmmibffbeaa.DbC Go.Proofs.Ytebhpmmibffbeaa.DcB Go.Proofs.Ytebhpmmibffbeaa.DcC Go.Proofs.Ytebhpmmibffbeaa.DdA
set_option linter.unusedVariables false
set_option linter.unusedSimpArgs false

/-- The machine while the first level's entries are taken. -/
def seq1 (s0 : MS) (T m : Nat) : Nat → MS
  | 0 => s0
  | k + 1 => if k < m then refS (seq1 s0 T m k) (T + k) else seq1 s0 T m k
theorem seq1_n (s0 : MS) (T m k : Nat) : (seq1 s0 T m k).n = s0.n := by
  induction k with
  | zero => rfl
  | succ k ih =>
    unfold seq1
    split
    · exact ih
    · exact ih
theorem seq1_byt (s0 : MS) (T m k : Nat) : (seq1 s0 T m k).byt = s0.byt := by
  induction k with
  | zero => rfl
  | succ k ih =>
    unfold seq1
    split
    · exact ih
    · exact ih
theorem seq1_fr (s0 : MS) (T m k j : Nat) : (seq1 s0 T m k).fr j = if T ≤ j ∧ j < T + min k m then getF (s0.fr j) 1 else s0.fr j := by
  induction k with
  | zero =>
    rw [if_neg (by omega)]
    rfl
  | succ k ih =>
    unfold seq1
    by_cases hk : k < m
    · rw [if_pos hk]
      by_cases hj : j = T + k
      · subst hj
        have e1 : (refS (seq1 s0 T m k) (T + k)).fr (T + k) = getF ((seq1 s0 T m k).fr (T + k)) 1 := if_pos rfl
        rw [e1, ih, if_neg (by omega), if_pos (by omega)]
      · have e1 : (refS (seq1 s0 T m k) (T + k)).fr j = (seq1 s0 T m k).fr j := if_neg hj
        rw [e1, ih]
        by_cases hc : T ≤ j ∧ j < T + min k m
        · rw [if_pos hc, if_pos (by omega)]
        · rw [if_neg hc, if_neg (by omega)]
    · rw [if_neg hk, ih, show min (k + 1) m = min k m by omega]
/-- A new domain's frames, ahead of its tables' validation. -/
structure Raw (s : MS) (d : Int) (T m : Nat) : Prop where
  n : T + m + 2 ≤ s.n
  n2 : s.n ≤ 256
  m1 : 1 ≤ m
  m2 : m ≤ 48
  fr : ∀ j, T ≤ j → j < T + m + 2 → s.fr j = ⟨d, 0, 0, 0⟩
  d : 0 ≤ d ∧ d < 8
  z1 : ∀ k, k < 64 → MS.rd s (T + m + 1) (4 * k) 4 = entZ (if k < m then some (T + k) else none)
  z2 : ∀ k, k < 64 → MS.rd s (T + m) (4 * k) 4 = entZ (if k = 0 then some (T + m + 1) else none)
/-- .. with the root taken; with the first level's table taken. -/
def at2 (s : MS) (T m : Nat) : MS := MS.put1 s (T + m) (getF (s.fr (T + m)) 3)
def at1 (s : MS) (T m : Nat) : MS := MS.put1 (at2 s T m) (T + m + 1) (getF ((at2 s T m).fr (T + m + 1)) 2)
def done1 (s : MS) (T m : Nat) : MS := seq1 (at1 s T m) T m 64
def seq2 (s : MS) (T m : Nat) : Nat → MS
  | 0 => at2 s T m
  | _ + 1 => done1 s T m
theorem at1_fr {s : MS} {d : Int} {T m : Nat} (h : Raw s d T m) (j : Nat) : (at1 s T m).fr j = if j = T + m + 1 then ⟨d, 2, 1, 1⟩ else if j = T + m then ⟨d, 3, 1, 1⟩ else s.fr j := by
  have m1 := h.m1
  by_cases h1 : j = T + m + 1
  · subst h1
    rw [if_pos rfl]
    have e1 : (at1 s T m).fr (T + m + 1) = getF ((at2 s T m).fr (T + m + 1)) 2 := if_pos rfl
    have e2 : (at2 s T m).fr (T + m + 1) = s.fr (T + m + 1) := if_neg (by omega)
    rw [e1, e2, h.fr _ (by omega) (by omega)]
    rfl
  · rw [if_neg h1]
    have e1 : (at1 s T m).fr j = (at2 s T m).fr j := if_neg h1
    rw [e1]
    by_cases h2 : j = T + m
    · subst h2
      rw [if_pos rfl]
      have e2 : (at2 s T m).fr (T + m) = getF (s.fr (T + m)) 3 := if_pos rfl
      rw [e2, h.fr _ (by omega) (by omega)]
      rfl
    · rw [if_neg h2]
      exact if_neg h2
theorem done1_fr {s : MS} {d : Int} {T m : Nat} (h : Raw s d T m) (j : Nat) : (done1 s T m).fr j = if T ≤ j ∧ j < T + m then ⟨d, 1, 1, 1⟩ else if j = T + m + 1 then ⟨d, 2, 1, 1⟩ else if j = T + m then ⟨d, 3, 1, 1⟩ else s.fr j := by
  have m1 := h.m1
  have m2 := h.m2
  unfold done1
  rw [seq1_fr, show min 64 m = m by omega]
  by_cases hj : T ≤ j ∧ j < T + m
  · rw [if_pos hj, if_pos hj, at1_fr h, if_neg (by omega), if_neg (by omega), h.fr _ (by omega) (by omega)]
    rfl
  · rw [if_neg hj, if_neg hj, at1_fr h]
theorem done1_n (s : MS) (T m : Nat) : (done1 s T m).n = s.n := seq1_n _ _ _ _
theorem done1_byt (s : MS) (T m : Nat) : (done1 s T m).byt = s.byt := seq1_byt _ _ _ _
theorem few0 (d t c n : Int) (h : 0 ≤ c ∧ c ≤ 10 ∧ 0 ≤ n ∧ n ≤ 10) : Fr.few ⟨d, t, c, n⟩ := by unfold Fr.few; simp only; omega
section
variable {w w' W : World} {xb mb fb t1 t5 t3 : Nat} {rt : Nat → Int} {s : MS} {d : Int} {T m : Nat}
/-- The first level's entries are taken in their turn. -/
theorem tkseq1 (h : Raw s d T m) : TkSeq xb mb fb t1 t5 t3 rt d 1 (T + m + 1) (seq1 (at1 s T m) T m) (fun k => if k < m then some (T + k) else none) := by
  have m1 := h.m1
  have m2 := h.m2
  have hn := h.n
  have hn2 := h.n2
  refine ⟨fun k _ => ?_, fun k _ x hx => ?_, fun k hk => ?_, fun k hk W' hX hM => ?_⟩
  · rw [seq1_n]
    show _ < s.n ∧ 1 ≤ s.n
    omega
  · split at hx
    · have := Option.some.inj hx
      omega
    · cases hx
  · unfold MS.rd
    rw [seq1_byt]
    exact h.z1 k hk
  · by_cases hkm : k < m
    · have e1 : (if k < m then some (T + k) else none) = some (T + k) := if_pos hkm
      have e2 : seq1 (at1 s T m) T m (k + 1) = refS (seq1 (at1 s T m) T m k) (T + k) := by
        show (if k < m then _ else _) = _
        rw [if_pos hkm]
      have e3 : (seq1 (at1 s T m) T m k).fr (T + k) = ⟨d, 0, 0, 0⟩ := by
        rw [seq1_fr, if_neg (by omega), at1_fr h, if_neg (by omega), if_neg (by omega), h.fr _ (by omega) (by omega)]
      rw [e1, e2]
      obtain ⟨n1, n2, n3, n4⟩ := hX.fb hM
      refine (get1_some (R := fun w' => Mach w' mb fb (refS (seq1 (at1 s T m) T m k) (T + k))) (fun W hW => hW.below (Below.refl _ _).drew) hX n1 hM.lt.2 d (T + k) (by omega) ?_)
      intro W2 hW2
      refine new2_calls (hX.below hW2) (hM.below hW2) (T + k) (by rw [seq1_n]; show _ < s.n; omega) d ?_ ?_
      · rw [e3]
        have := h.d
        unfold getE
        simp only
        rw [if_neg (by omega), if_neg (by simp), if_neg (by simp)]
      · rw [e3]
        exact few0 _ _ _ _ (by omega)
    · have e1 : (if k < m then some (T + k) else none) = none := if_neg hkm
      have e2 : seq1 (at1 s T m) T m (k + 1) = seq1 (at1 s T m) T m k := by
        show (if k < m then _ else _) = _
        rw [if_neg hkm]
      rw [e1, e2]
      exact (get_none _ d 1 W').mono fun e w' ⟨q1, q2⟩ => ⟨q1, hM.below q2, Chg.below _ q2⟩
end
end Go.Proofs.Ytebhpmmibffbeaa.DdB
