/- Proved: what the rows of the laws of the grants read of their arguments (lemmas). -/
import Derived.Test.YtjeobbhaoahdcaaGkA
namespace Go.Proofs.Ytjeobbhaoahdcaa.GrC
open Go.RowKit Go.Proofs.Ytjeobbhaoahdcaa.Base Go.Proofs.Ytjeobbhaoahdcaa.GaA Go.Proofs.Ytjeobbhaoahdcaa.GaC Go.Proofs.Ytjeobbhaoahdcaa.GmB Go.Proofs.Ytjeobbhaoahdcaa.GkA
set_option linter.unusedVariables false

theorem wf_u8 {x : Int} (h : (Lit.int .u8 x).wf = true) : 0 ≤ x ∧ x < 256 := by
  have h1 : IntKind.u8.min = 0 := rfl
  have h2 : IntKind.u8.max = 255 := rfl
  simp [Lit.wf] at h
  omega
theorem wf_i64 {x : Int} (h : (Lit.int .i64 x).wf = true) : okI x := by
  have h1 : IntKind.i64.min = -9223372036854775808 := rfl
  have h2 : IntKind.i64.max = 9223372036854775807 := rfl
  simp [Lit.wf] at h
  unfold okI
  omega
theorem args_bytes {W : World} {a : Option Addr} {len cap : Nat} {zs : List Int} (h : (a = none ∧ len = 0 ∧ cap = 0 ∧ zs = []) ∨ ∃ x, a = some x ∧ len ≤ cap ∧ cap ≤ maxLen ∧ zs.length = cap ∧ (∀ i, i < zs.length → W.cell? (x.add i) = some (.int .u8 (zs.getD i 0))) ∧ ∀ n ∈ zs, (Lit.int .u8 n).wf = true) :
    ∃ bs : List UInt8, len = bs.length ∧ Bytes W a bs ∧ bs.length ≤ 9223372036854775807 := by
  rcases h with ⟨rfl, rfl, rfl, rfl⟩ | ⟨x, rfl, h1, h2, h3, h4, h5⟩
  · exact ⟨[], rfl, .inl rfl, by simp⟩
  · unfold maxLen at h2
    have hl : ((zs.take len).map ofI).length = len := by rw [List.length_map, List.length_take]; omega
    refine ⟨(zs.take len).map ofI, hl.symm, ?_, by rw [hl]; omega⟩
    by_cases h0 : len = 0
    · subst h0
      exact .inl (by simp)
    · have hc0 := h4 0 (by omega)
      refine .inr ⟨x, rfl, ⟨?_, fun j hj => ?_⟩⟩
      · have := World.block_lt_of_cell? W _ hc0
        rwa [add_block] at this
      · rw [hl] at hj
        rw [h4 j (by omega), List.getElem_map, List.getElem_take]
        have hm : zs[j]'(by omega) ∈ zs := List.getElem_mem _
        obtain ⟨g0, g1⟩ := wf_u8 (h5 _ hm)
        rw [ofI_toNat _ g0 g1, List.getD_eq_getElem?_getD, List.getElem?_eq_getElem (by omega)]
        rfl
end Go.Proofs.Ytjeobbhaoahdcaa.GrC
