/- Proved: what a new domain's tables hold when Build has written them (plain laws; a contract for the laws of the domains). -/
import Derived.Test.YtebhpmmibffbeaaDfD
namespace Go.Proofs.Ytebhpmmibffbeaa.DfE
open Go.RowKit Go.Maps Go.Proofs.Ytebhpmmibffbeaa.Base Go.Proofs.Ytebhpmmibffbeaa.GaA Go.Proofs.Ytebhpmmibffbeaa.GaB Go.Proofs.Ytebhpmmibffbeaa.GaC Go.Proofs.Ytebhpmmibffbeaa.GaD Go.Proofs.Ytebhpmmibffbeaa.DaB Go.Proofs.Ytebhpmmibffbeaa.DbA Go.Proofs.Ytebhpmmibffbeaa.DbB Go.Proofs.Ytebhpmmibffbeaa.DbC Go.Proofs.Ytebhpmmibffbeaa.DdA Go.Proofs.Ytebhpmmibffbeaa.DdB Go.Proofs.Ytebhpmmibffbeaa.DeA Go.Proofs.Ytebhpmmibffbeaa.DeC Go.Proofs.Ytebhpmmibffbeaa.DfA Go.Proofs.Ytebhpmmibffbeaa.DfB Go.Proofs.Ytebhpmmibffbeaa.DfD
set_option linter.unusedVariables false
set_option linter.unusedSimpArgs false

/-- The first level's table while its entries are written. -/
def nmS (S : MS) (l1 T : Nat) : Nat → MS
  | 0 => S
  | j + 1 => MS.wr (nmS S l1 T j) l1 (4 * j) (entZ (some (T + j)))
theorem nmS_n (S : MS) (l1 T j : Nat) : (nmS S l1 T j).n = S.n := by
  induction j with
  | zero => rfl
  | succ j ih => exact ih
theorem nmS_fr (S : MS) (l1 T j : Nat) : (nmS S l1 T j).fr = S.fr := by
  induction j with
  | zero => rfl
  | succ j ih => exact ih
theorem ent_len (x : Option Nat) : (entZ x).length = 4 := by cases x <;> rfl
theorem nmS_byt (S : MS) (l1 T j r b : Nat) : (nmS S l1 T j).byt r b = if r = l1 ∧ b < 4 * j then (entZ (some (T + b / 4))).getD (b % 4) 0 else S.byt r b := by
  induction j with
  | zero =>
    rw [if_neg (by omega)]
    rfl
  | succ j ih =>
    have e1 : (nmS S l1 T (j + 1)).byt r b = if r = l1 ∧ 4 * j ≤ b ∧ b < 4 * j + (entZ (some (T + j))).length then (entZ (some (T + j))).getD (b - 4 * j) 0 else (nmS S l1 T j).byt r b := rfl
    rw [e1, ent_len]
    by_cases h : r = l1 ∧ 4 * j ≤ b ∧ b < 4 * j + 4
    · rw [if_pos h, if_pos (by omega), show b / 4 = j by omega, show b - 4 * j = b % 4 by omega]
    · rw [if_neg h, ih]
      by_cases h2 : r = l1 ∧ b < 4 * j
      · rw [if_pos h2, if_pos (by omega)]
      · rw [if_neg h2, if_neg (by omega)]
theorem rd_ent {S : MS} {t q : Nat} {x : Option Nat} (h : ∀ c, c < 4 → S.byt t (4 * q + c) = (entZ x).getD c 0) : MS.rd S t (4 * q) 4 = entZ x := by
  apply List.ext_getElem
  · rw [rd_len, ent_len]
  · intro c h1 h2
    rw [rd_len] at h1
    have hc := h c h1
    rw [List.getD_eq_getElem?_getD, List.getElem?_eq_getElem (by rw [ent_len]; exact h1)] at hc
    simp only [MS.rd, List.getElem_map, List.getElem_range]
    exact hc
/-- Both tables are written. -/
def tabS (s : MS) (T m : Nat) (k : Int) : MS := nmS (MS.wr (gvN s T k (m + 2)) (T + m) (4 * 0) (entZ (some (T + m + 1)))) (T + m + 1) T m
theorem none_getD (c : Nat) : (entZ none).getD c 0 = 0 := by
  match c with
  | 0 => rfl
  | 1 => rfl
  | 2 => rfl
  | 3 => rfl
  | c + 4 => rfl
theorem raw_tab {s : MS} {T m k : Nat} (hn : T + m + 2 ≤ s.n) (hn2 : s.n ≤ 256) (m1 : 1 ≤ m) (m2 : m ≤ 48) (hk : k < 8) (hhi : ∀ q, T ≤ q → s.fr q = ⟨-1, 0, 0, 0⟩ ∧ ∀ b, s.byt q b = 0) : Raw (tabS s T m k) k T m := by
  have en : (tabS s T m k).n = s.n := (nmS_n _ _ _ _).trans (gvN_n _ _ _ _)
  have ef : (tabS s T m k).fr = (gvN s T k (m + 2)).fr := nmS_fr _ _ _ _
  refine ⟨by rw [en]; exact hn, by rw [en]; exact hn2, m1, m2, fun j h1 h2 => ?_, by omega, fun q hq => rd_ent fun c hc => ?_, fun q hq => rd_ent fun c hc => ?_⟩
  · rw [ef, gvN_fr, if_pos (by omega), (hhi j h1).1]
  · unfold tabS
    rw [nmS_byt]
    by_cases hqm : q < m
    · rw [if_pos (by omega), if_pos hqm, show (4 * q + c) / 4 = q by omega, show (4 * q + c) % 4 = c by omega]
    · rw [if_neg (by omega), if_neg hqm, none_getD]
      rw [wr_miss (by rintro ⟨h1, _⟩; omega), gvN_byt]
      exact (hhi _ (by omega)).2 _
  · unfold tabS
    rw [nmS_byt, if_neg (by omega)]
    by_cases hq0 : q = 0
    · subst hq0
      rw [if_pos rfl, wr_hit (by omega) (by rw [ent_len]; omega)]
      congr 1
      omega
    · rw [if_neg hq0, none_getD, wr_miss (by rw [ent_len]; omega), gvN_byt]
      exact (hhi _ (by omega)).2 _
section
variable {w w' W W' : World} {hb mb fb xb t1 t5 t3 gb mm hm eb k T : Nat} {s : MS} {rt : Nat → Int} {f : Int → Option (Int × Nat)} {st sz tb : Nat → Int} {pp : Nat → Value} {g2 g4 g5 g6 B pb fm pm i j : Nat}
/-- An entry is written. -/
theorem bb_name (h : Bb w W hb mb fb xb t1 t5 t3 gb mm hm eb k T s rt f st sz tb pp g2 g4 g5 g6 B pb fm pm i j) (t q x : Nat) (ht : t < s.n) (hown : (s.fr t).own ≠ -1) (hq : q < 64) (hx : x < 256) :
    Calls Try.prog 23 #[.pointer (some ⟨hb, 0, none⟩), .int .i64 t, .int .i64 q, .int .i64 x] W fun e w' => e = .returned (.tuple #[]) ∧ Bb w w' hb mb fb xb t1 t5 t3 gb mm hm eb k T (MS.wr s t (4 * q) (entZ (some x))) rt f st sz tb pp g2 g4 g5 g6 B pb fm pm i j :=
  (DbC.name_calls h.m h.blk rfl t q x ht hown hq hx).mono fun e w' ⟨q1, q2, q3⟩ => ⟨q1, h.mach q2 q3⟩
end
end Go.Proofs.Ytebhpmmibffbeaa.DfE
