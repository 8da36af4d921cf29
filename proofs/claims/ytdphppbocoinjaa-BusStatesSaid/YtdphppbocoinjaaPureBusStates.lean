/- Proved: the state that the bus tells of a value's bytes is the document's; the condition is the row's own: each argument takes at most 2^47 - 4096 bytes. -/
import Derived.Test.YtdphppbocoinjaaOBusStatesx1
namespace Go.Proofs.Ytdphppbocoinjaa.Pure
open Go.RowKit Go.Proofs.Ytdphppbocoinjaa.PBusStates Go.Proofs.YtdphppbocoinjaaW.PrintWords Go.Proofs.YtdphppbocoinjaaW.PrintLast

theorem BusStates : tenementlaw11_BusStates.Pure := by
  intro l0 h1 h2 h3
  unfold tenementlaw11_BusStates.f
  simp only [Option.bind_some, List.nil_append, List.length_nil, Nat.zero_add]
  rw [if_pos (by omega)]
  have e : ∃ r, bus_State.f l0 = some r ∧ tenementref11_State.f l0 = some r := by
    unfold bus_State.f tenementref11_State.f
    by_cases h : (l0.length : Int) = 1
    · have h0 : 0 < (l0.length : Int) := by omega
      by_cases a : rd l0 0 < 49
      · simp only [if_pos h, if_pos h0, if_pos a, if_neg (show ¬ rd l0 0 ≥ 49 by omega)]; exact ⟨_, rfl, rfl⟩
      · by_cases b : rd l0 0 > 54
        · simp only [if_pos h, if_pos h0, if_neg a, if_pos b, if_pos (show rd l0 0 ≥ 49 by omega), if_neg (show ¬ rd l0 0 ≤ 54 by omega)]; exact ⟨_, rfl, rfl⟩
        · simp only [if_pos h, if_pos h0, if_neg a, if_neg b, if_pos (show rd l0 0 ≥ 49 by omega), if_pos (show rd l0 0 ≤ 54 by omega)]; exact ⟨_, rfl, rfl⟩
    · simp only [if_neg h]; exact ⟨_, rfl, rfl⟩
  obtain ⟨r, e1, e2⟩ := e
  rw [e1, e2]
  simp only [Option.bind_some, if_true]
  rfl

end Go.Proofs.Ytdphppbocoinjaa.Pure
