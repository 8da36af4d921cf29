/- Proved: the frame that an entry names, whatever it names (a contract for the laws of the grants). -/
import Derived.Test.YtebhpmmibffbeaaGaC
import Derived.Deep.Light
namespace Go.Proofs.Ytebhpmmibffbeaa.GfA
open Go.RowKit Go.Maps Go.Proofs.Ytebhpmmibffbeaa.Base Go.Proofs.Ytebhpmmibffbeaa.GaA Go.Proofs.Ytebhpmmibffbeaa.GaB Go.Proofs.Ytebhpmmibffbeaa.GaC
set_option linter.unusedVariables false
set_option linter.unusedSimpArgs false

/-- Frame's answer. -/
def frV (s : MS) (k : Int) : Fr × Int := if 0 ≤ k ∧ k < s.n then (s.fr k.toNat, 0) else (⟨0, 0, 0, 0⟩, 1)
section
variable {w w' : World} {gb mm hm mb fb : Nat} {f : Int → Option (Int × Nat)} {c : Nat} {s : MS}
theorem frame_any (h : Mach w mb fb s) (k : Int) : Calls Try.prog 56 #[.pointer (some ⟨mb, 0, none⟩), .int .i64 k] w fun e w' =>
    e = .returned (.tuple #[.agg #[.int .i64 (frV s k).1.own, .int .i64 (frV s k).1.typ, .int .i64 (frV s k).1.cnt, .int .i64 (frV s k).1.tot], .int .i64 (frV s k).2]) ∧ Below w.heap.size w w' := by
  by_cases hk : 0 ≤ k ∧ k < s.n
  · have hv : frV s k = (s.fr k.toNat, 0) := if_pos hk
    rw [hv]
    obtain ⟨j, rfl⟩ : ∃ j : Nat, k = j := ⟨k.toNat, by omega⟩
    exact frame_calls h j (by omega)
  · have hv : frV s k = (⟨0, 0, 0, 0⟩, 1) := if_neg hk
    rw [hv]
    exact frame_out h k (by omega)
end
end Go.Proofs.Ytebhpmmibffbeaa.GfA
