/- Proved: a map whose keys are pairs of ints, as a function of the pair (lemmas for the walks of the grants). -/
import Derived.Test.YtjeobbhaoahdcaaGmA
import Derived.Maps.RangeWalk
import Derived.DeepKeys5
namespace Go.Proofs.Ytjeobbhaoahdcaa.GmB
open Go.RowKit Go.Maps Go.WideElems Go.Proofs.Ytjeobbhaoahdcaa.Base Go.Proofs.Ytjeobbhaoahdcaa.GaA Go.Proofs.Ytjeobbhaoahdcaa.GmA
set_option linter.unusedVariables false
set_option linter.unusedSimpArgs false

set_option maxRecDepth 1000000 in
theorem laidOutP : laidOutB Try.prog = true := by kernel_rfl
theorem rowK : (137 : TypeId) < Try.prog.types.size := of_decide_eq_true (by kernel_rfl)
theorem wideK : (match Try.prog.underlying 137 with | some (.array _ _) | some (.struct _) => true | _ => false) = true := by rw [Try.underlying137]
set_option maxRecDepth 1000000 in
theorem keyed : Keyed Try.prog 137 := Keyed.of_law (deep_law_laid laidOutP (m := 3) (by omega) rowK (by kernel_rfl) wideK)
def kv (p : Int × Int) : Value := .agg #[.int .i64 p.1, .int .i64 p.2]
theorem kv_inj {p q : Int × Int} (h : kv p = kv q) : p = q := by
  unfold kv at h
  injection h with h
  simp at h
  exact Prod.ext h.1 h.2
def okI (x : Int) : Prop := -9223372036854775808 ≤ x ∧ x ≤ 9223372036854775807
def ok (p : Int × Int) : Prop := okI p.1 ∧ okI p.2
theorem sizeT : ∃ n, Try.prog.types.size = n + 2 := ⟨Try.prog.types.size - 2, by have h : (137 : Nat) < Try.prog.types.size := rowK; omega⟩
theorem cellsK : Try.prog.cellsOf 137 = 2 := by kernel_rfl
theorem cellsI : Try.prog.cellsOf 3 = 1 := by kernel_rfl
theorem cutK : (Try.prog.cutTypes.any (·.2 == 137)) = false := by kernel_rfl
theorem stoodK : Try.prog.stoodInHeld 137 = false := by kernel_rfl
theorem typeK : Try.prog.keyType 137 = true := by
  obtain ⟨n, hn⟩ := sizeT
  unfold Program.keyType
  rw [hn]
  have hc := cutK
  simp at hc
  simp [Program.keyTypeAt, Try.underlying137, Try.underlying3, stoodK]
  exact hc
theorem lits (n : Nat) (a b : Int) (w1 : (Lit.int .i64 a).wf = true) (w2 : (Lit.int .i64 b).wf = true) : Try.prog.keyLits (n + 1 + 1) 137 [.int .i64 a, .int .i64 b] = some [.int .i64 a, .int .i64 b] := by
  simp [Program.keyLits, Try.underlying137, Try.underlying3, cellsK, cellsI, w1, w2]
theorem formedK (a b : Value) : (Value.agg #[a, b]).formed Try.prog 137 = true := by simp [Value.formed, Try.underlying137, cellsK]
theorem key_is (p : Int × Int) (h : ok p) : ∃ l, keyOf Try.prog 137 (kv p) = some l := by
  obtain ⟨n, hn⟩ := sizeT
  have hl := lits (n + 1) p.1 p.2 (wf64 h.1.1 h.1.2) (wf64 h.2.1 h.2.2)
  have hc : (kv p).cells.toList = [.int .i64 p.1, .int .i64 p.2] := rfl
  have hf : (kv p).formed Try.prog 137 = true := formedK _ _
  unfold keyOf
  rw [Try.underlying137]
  simp only [typeK, hf, Bool.and_self, if_true, hn, hc]
  rw [hl]
  exact ⟨_, rfl⟩
set_option maxRecDepth 100000 in
theorem lit1 (n : Nat) (a : Value) (L : List Lit) (h : Try.prog.keyLits (n + 1) 3 [a] = some L) : ∃ x, a = .int .i64 x ∧ okI x := by
  simp only [Program.keyLits, Try.underlying3] at h
  cases a <;> simp at h
  rename_i q x
  obtain ⟨⟨rfl, hw⟩, _⟩ := h
  refine ⟨x, rfl, ?_⟩
  have h1 : IntKind.i64.min = -9223372036854775808 := rfl
  have h2 : IntKind.i64.max = 9223372036854775807 := rfl
  simp [Lit.wf] at hw
  unfold okI
  omega
set_option maxRecDepth 100000 in
theorem lit2 (n : Nat) (a b : Value) (L : List Lit) (h : Try.prog.keyLits (n + 1 + 1) 137 [a, b] = some L) : (∃ x, a = .int .i64 x ∧ okI x) ∧ ∃ y, b = .int .i64 y ∧ okI y := by
  rw [Program.keyLits.eq_def] at h
  simp only [Try.underlying137] at h
  simp [cellsK, cellsI] at h
  cases h1 : Try.prog.keyLits (n + 1) 3 [a] with
  | none => simp [h1] at h
  | some L1 =>
    cases h2 : Try.prog.keyLits (n + 1) 3 [b] with
    | none => simp [h1, h2] at h
    | some L2 => exact ⟨lit1 n a L1 h1, lit1 n b L2 h2⟩
theorem two_cells {xs : Array Value} (h : xs.size = 2) : ∃ a b, xs = #[a, b] := by
  obtain ⟨l⟩ := xs
  match l, h with
  | [a, b], _ => exact ⟨a, b, rfl⟩
set_option maxRecDepth 100000 in
theorem formed_inv {v : Value} (h : v.formed Try.prog 137 = true) : ∃ a b, v = .agg #[a, b] := by
  cases v <;> simp [Value.formed, Try.underlying137, cellsK] at h
  obtain ⟨a, b, rfl⟩ := two_cells h
  exact ⟨a, b, rfl⟩
set_option maxRecDepth 100000 in
theorem key_inv {key : Value} {l : Lit} (h : keyOf Try.prog 137 key = some l) : ∃ p, ok p ∧ key = kv p := by
  obtain ⟨n, hn⟩ := sizeT
  simp only [keyOf, Try.underlying137, typeK, Bool.true_and] at h
  split at h
  · rename_i hf
    obtain ⟨a, b, rfl⟩ := formed_inv hf
    have hc : (Value.agg #[a, b]).cells.toList = [a, b] := rfl
    rw [hn, hc] at h
    cases hk : Try.prog.keyLits (n + 2 + 1) 137 [a, b] with
    | none => rw [hk] at h; simp at h
    | some L =>
      obtain ⟨⟨x, rfl, hx⟩, y, rfl, hy⟩ := lit2 (n + 1) a b L hk
      exact ⟨(x, y), ⟨hx, hy⟩, rfl⟩
  · cases h
end Go.Proofs.Ytjeobbhaoahdcaa.GmB
