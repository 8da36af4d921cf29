/- Proved: where a back end goes is the document's answer, and from a state to a state; no condition beside the row's own. -/
import Derived.Test.YtdphppbocoinjaaOBusNextsx2
namespace Go.Proofs.Ytdphppbocoinjaa.Pure
open Go.RowKit Go.Proofs.Ytdphppbocoinjaa.PBusNexts Go.Proofs.YtdphppbocoinjaaW.PrintWords Go.Proofs.YtdphppbocoinjaaW.PrintLast

def nextOf (a b : Int) : Int :=
  let gone := b = 0 ∨ b = 5 ∨ b = 6
  if a = 1 then 2 else if a = 2 then (if b = 3 ∨ b = 4 then 4 else a) else if a = 3 ∨ a = 4 then (if gone then 5 else a)
  else if a = 5 then (if gone then 6 else a) else if a = 6 ∨ a = 0 then (if b = 1 then 1 else a) else a

theorem has_97 (b : Int) : bus_set_has.f 97 b = some (decide (b = 0 ∨ b = 5 ∨ b = 6)) := by
  unfold bus_set_has.f
  by_cases h0 : b ≥ 0
  · rw [if_pos h0]
    by_cases h6 : b ≤ 6
    · rw [if_pos h6, if_pos (by omega)]
      have : b = 0 ∨ b = 1 ∨ b = 2 ∨ b = 3 ∨ b = 4 ∨ b = 5 ∨ b = 6 := by omega
      rcases this with rfl | rfl | rfl | rfl | rfl | rfl | rfl <;> decide
    · rw [if_neg h6]; congr 1; symm; rw [decide_eq_false_iff_not]; omega
  · rw [if_neg h0]; congr 1; symm; rw [decide_eq_false_iff_not]; omega
theorem of_97 : bus_of.f 9 [0, 5, 6] = some 97 := by decide +kernel

theorem bus_next (a b : Int) : bus_Next.f 9 a b = some (nextOf a b) := by
  unfold bus_Next.f
  rw [of_97]
  simp only [Option.bind_some, has_97, nextOf, bus_Next.j0, decide_eq_true_eq]
  repeat' split
  all_goals first | rfl | (exfalso; simp_all; done) | (simp_all; done) | (simp_all; omega)

theorem ref_next (a b : Int) : tenementref11_Next.f 9 a b = some (nextOf a b) := by
  unfold tenementref11_Next.f
  simp only [tenementref11_Next.j0, tenementref11_Next.j1, tenementref11_Next.j2, tenementref11_Next.j3, nextOf]
  by_cases h1 : a = 1
  · subst h1; simp
  by_cases h2 : a = 2
  · subst h2
    by_cases h3 : b = 3
    · subst h3; simp
    by_cases h4 : b = 4
    · subst h4; simp
    simp [h3, h4]
  by_cases h5 : b = 5
  · subst h5; by_cases a = 3 <;> by_cases a = 4 <;> by_cases a = 5 <;> by_cases a = 6 <;> by_cases a = 0 <;> simp_all <;> split <;> rfl
  by_cases h6 : b = 6
  · subst h6; by_cases a = 3 <;> by_cases a = 4 <;> by_cases a = 5 <;> by_cases a = 6 <;> by_cases a = 0 <;> simp_all <;> split <;> rfl
  by_cases h0 : b = 0
  · subst h0; by_cases a = 3 <;> by_cases a = 4 <;> by_cases a = 5 <;> by_cases a = 6 <;> by_cases a = 0 <;> simp_all <;> split <;> rfl
  by_cases a = 3 <;> by_cases a = 4 <;> by_cases a = 5 <;> by_cases a = 6 <;> by_cases a = 0 <;> simp_all <;> split <;> rfl

theorem awake_f : tenementlaw11_awake.f = some true := by decide

theorem BusNexts : tenementlaw11_BusNexts.Pure := by
  intro a b _ _
  refine ⟨9, ?_⟩
  unfold tenementlaw11_BusNexts.f
  rw [bus_next, ref_next]
  simp only [Option.bind_some, if_true, tenementlaw11_BusNexts.j0, awake_f]
  have hr : (0 ≤ a ∧ a ≤ 6) → 0 ≤ nextOf a b ∧ nextOf a b ≤ 6 := by
    intro h; unfold nextOf; simp only
    repeat' split
    all_goals omega
  by_cases h1 : a < 0
  · simp [h1]
  by_cases h2 : a > 6
  · simp [h1, h2]
  obtain ⟨r0, r6⟩ := hr ⟨by omega, by omega⟩
  by_cases h3 : b < 0
  · simp [h1, h2, h3]
  simp [h1, h2, h3, r0, r6]

end Go.Proofs.Ytdphppbocoinjaa.Pure
