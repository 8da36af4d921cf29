/- Proved: numbers and bytes as text, however they lie in memory (contracts for the law ScriptPrints). -/
import Derived.Test.YtafphlimklgijaaDoorTdC
import Derived.Lib.ItoaMem
import Derived.Lib.AppendIntMem
namespace Go.Proofs.YtafphlimklgijaaDoor.SpA
open Go.RowKit Go.Shelf Go.Proofs.YtafphlimklgijaaDoor.Base Go.Proofs.YtafphlimklgijaaDoor.TdA Go.Proofs.YtafphlimklgijaaDoor.TdB Go.Proofs.YtafphlimklgijaaDoor.TdC
set_option linter.unusedVariables false
set_option linter.unusedSimpArgs false

theorem tab_below {P : Program} {w w' : World} {name : String} {k : IntKind} {zs : List Int} (h : Lib.TabIs P w name k zs) (hb : Below w.heap.size w w') : Lib.TabIs P w' name k zs := by
  unfold Lib.TabIs World.var? at *
  cases hg : P.globalNamed name with
  | none => simp [hg] at h
  | some g =>
    simp only [hg, Option.bind_some] at h ⊢
    have hlt : g < w.heap.size := by
      rcases Nat.lt_or_ge g w.heap.size with h' | h'
      · exact h'
      · rw [Array.getElem?_eq_none h'] at h; simp at h
    rw [hb.block g hlt]
    exact h
def Pow (w : World) : Prop := Lib.TabIs Tryd.prog w "internal/strconv.uint64pow10" .u64 Lib.pow10Tab
theorem itoa_calls (n : Int) (h0 : -9223372036854775808 ≤ n) (h1 : n ≤ 9223372036854775807) (w : World) (ht : Pow w) :
    Calls Tryd.prog 10 #[.int .i64 n] w fun e w' => e = .returned (.string ⟨(Lib.itoa n).toArray⟩) ∧ Below w.heap.size w w' := by
  refine (Tryd.strconv_Itoa n h0 h1 w ht).mono ?_
  rintro e w' ⟨rfl, k, os, rfl⟩
  exact ⟨rfl, Lib.below_grow _ _ (Nat.le_refl _) _ _⟩
/-- An argument that holds bytes. -/
def Data (w : World) (A : Option Addr) (zs : List UInt8) : Prop := zs = [] ∨ ∃ x, A = some x ∧ Holds w x zs
theorem Data.below {w w' : World} {A : Option Addr} {zs : List UInt8} (h : Data w A zs) (hb : Below w.heap.size w w') : Data w' A zs := by
  rcases h with h | ⟨x, h1, h2⟩
  · exact .inl h
  · exact .inr ⟨x, h1, h2.below h2.lt hb⟩
theorem hex_any (w : World) (A : Option Addr) (l c : Nat) (zs : List UInt8) (hz : l = zs.length) (hl : l ≤ 1048576) (hd : Data w A zs) (hne : 0 < l) :
    Calls Tryd.prog 11 #[.slice A l c] w fun e w' => e = .returned (.string ⟨(hexs zs).toArray⟩) ∧ Below w.heap.size w w' := by
  subst hz
  rcases hd with rfl | ⟨x, rfl, h2⟩
  · exact absurd hne (Nat.lt_irrefl _)
  · exact hex_calls w x c zs hl h2
theorem digits_any (w : World) (A : Option Addr) (l c : Nat) (zs : List UInt8) (hz : l = zs.length) (hl : l ≤ 1048576) (hd : Data w A zs) (hne : 0 < l) :
    Calls Tryd.prog 17 #[.slice A l c] w fun e w' => e = .returned (.string ⟨(hexs zs).toArray⟩) ∧ Below w.heap.size w w' := by
  subst hz
  rcases hd with rfl | ⟨x, rfl, h2⟩
  · exact absurd hne (Nat.lt_irrefl _)
  · exact digits_calls w x c zs hl h2
theorem cat_arr (a b : Array UInt8) : (⟨a⟩ : ByteArray) ++ ⟨b⟩ = ⟨a ++ b⟩ := by
  apply ByteArray.ext
  simp [ByteArray.data_append]
end Go.Proofs.YtafphlimklgijaaDoor.SpA
