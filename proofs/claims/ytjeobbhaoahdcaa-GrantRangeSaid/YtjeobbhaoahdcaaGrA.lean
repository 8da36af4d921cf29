/- Proved: where the law GrantRange's ends lie (lemmas for the law). -/
import Derived.Test.YtjeobbhaoahdcaaGlA
import Derived.Laws.IdiomStrings
import Derived.Laws.BytesString
namespace Go.Proofs.Ytjeobbhaoahdcaa.GrA
open Go.RowKit Go.Maps Go.Proofs.Ytjeobbhaoahdcaa.Base Go.Proofs.Ytjeobbhaoahdcaa.GaA Go.Proofs.Ytjeobbhaoahdcaa.GaB Go.Proofs.Ytjeobbhaoahdcaa.GaC Go.Proofs.Ytjeobbhaoahdcaa.GmB Go.Proofs.Ytjeobbhaoahdcaa.GpA Go.Proofs.Ytjeobbhaoahdcaa.GeA Go.Proofs.Ytjeobbhaoahdcaa.GeB Go.Proofs.Ytjeobbhaoahdcaa.GfA Go.Proofs.Ytjeobbhaoahdcaa.GfB Go.Proofs.Ytjeobbhaoahdcaa.GfC Go.Proofs.Ytjeobbhaoahdcaa.GfD Go.Proofs.Ytjeobbhaoahdcaa.GfE Go.Proofs.Ytjeobbhaoahdcaa.GfF Go.Proofs.Ytjeobbhaoahdcaa.GfG Go.Proofs.Ytjeobbhaoahdcaa.GfH Go.Proofs.Ytjeobbhaoahdcaa.GbA Go.Proofs.Ytjeobbhaoahdcaa.GkA Go.Proofs.Ytjeobbhaoahdcaa.GkB Go.Proofs.Ytjeobbhaoahdcaa.GlA
set_option linter.unusedVariables false
set_option linter.unusedSimpArgs false

/-- The law's entry. -/
def gR (o L : Int) : Gr := ⟨1, false, true, 2, 3, o, L⟩
/-- The law's end. -/
def eR (at_ : Int) : En := ⟨true, 1, 0, 0, at_⟩
theorem gR_ok {o L : Int} (h0 : 0 ≤ o) (h1 : o ≤ 255) (h2 : 1 ≤ L) (h3 : L ≤ 256) (h4 : o + L ≤ 256) : ¬ packBad (gR o L) := by
  unfold packBad gR
  simp only
  omega
/-- The machine while the law reads and writes. -/
structure SR (S : MS) (o L : Int) : Prop where
  n : S.n = 13
  fr : S.fr = (msB 3 0).fr
  e : ∀ j, j < 8 → S.byt 4 (8 * 0 + j) = (packZ (gR o L)).getD j 0
theorem SR.own {S : MS} {o L : Int} (h : SR S o L) (k : Nat) (hk : k < 12) : (S.fr k).own = ((k / 4 : Nat) : Int) ∧ ((S.fr k).typ = 0 ∨ (S.fr k).typ = 1) := by
  rw [h.fr]
  unfold msB
  simp only
  rw [if_pos (by omega)]
  split
  · exact ⟨rfl, .inr rfl⟩
  · exact ⟨rfl, .inl rfl⟩
theorem find_range {S : MS} {o L : Int} (h : SR S o L) {a : BA} (hp : ∀ e, e < 3 → piB a (a.pb e) = piI a e) (h0 : 0 ≤ o) (h1 : o ≤ 255) (h2 : 1 ≤ L) (h3 : L ≤ 256) (h4 : o + L ≤ 256) (at_ n : Int) (wr : Bool) :
    findR S (memG a.pb 3) (piB a) 2 (eR at_) n wr = if n < 0 ∨ at_ < 0 then ((0, 0), 1) else if inn at_ n L = false then ((0, 0), 63) else ((7, o + at_), 0) := by
  unfold findR
  by_cases hb : n < 0 ∨ at_ < 0
  · rw [if_pos hb, if_pos]
    unfold endBad eR
    simp only
    omega
  · rw [if_neg hb, if_neg]
    · have hg := gR_ok h0 h1 h2 h3 h4
      have he := ent_is S 4 0 (packZ (gR o L)) rfl h.e
      obtain ⟨e1, e2⟩ := pack_ent (gR o L) hg
      have hw : whole (gR o L) = gR o L := by unfold whole gR; simp
      rw [hw] at e2
      have hpe : permE (ent S 4 0) 2 = 0 := by
        unfold permE
        rw [he, e1, e2, if_neg]
        unfold gR
        simp
      have hf : frameR S 8 (frD 1 4) 1 3 = (7, 0) := by
        have hgv : getV 8 (frD 1 4) 3 = (7, 0) := by
          unfold getV
          rw [if_pos (by omega)]
          have : frD 1 4 3 = some 7 := by unfold frD; rw [if_pos (by omega)]; rfl
          rw [this]
        have ho := (h.own 7 (by omega)).1
        have hfv : frV S 7 = (S.fr 7, 0) := by
          unfold frV
          rw [if_pos (by rw [h.n]; omega)]
          rfl
        unfold frameR
        rw [hgv]
        simp only
        rw [hfv]
        simp [ho]
      have h1m : memG a.pb 3 1 = some (4, a.pb 1) := by
        have := memG_at a.pb 1 (by omega)
        simpa using this
      unfold eR
      simp only [if_true]
      unfold lentR
      rw [h1m]
      simp only
      rw [hp 1 (by omega)]
      have hs : slotB 0 = true := rfl
      rw [hs]
      simp only [Bool.true_eq_false, if_false]
      unfold lentS piI
      simp only
      have e4 : (4 : Int).toNat = 4 := rfl
      have e0 : (0 : Int).toNat = 0 := rfl
      rw [e4, e0, hpe, he, e2]
      unfold gR
      simp only
      rw [hf]
      simp
    · unfold endBad eR
      simp only
      omega
theorem conv_zero (w : World) (p : Option Addr) (c : Nat) : (convert 42 9 (.slice p 0 c)).run Try.prog w = .ok (.string ByteArray.empty) w := by
  rw [run_convert_bytes_string w _ _ _ _ 0 c Try.underlying42 Try.underlying5 Try.underlying9]
  cases p <;> simp [Conv.bytesToString, loadCells]
  all_goals rfl
theorem typS (w : World) : Try.prog.underlying 9 = some .string := Try.underlying9
/-- string(b). -/
theorem conv_bytes {w : World} {A : Option Addr} {zs : List UInt8} (h : Bytes w A zs) (l c : Nat) (hl : l = zs.length) : (convert 42 9 (.slice A l c)).run Try.prog w = .ok (.string ⟨zs.toArray⟩) w := by
  subst hl
  rcases h with rfl | ⟨x, rfl, hx⟩
  · exact conv_zero w A c
  · exact run_convert_bytes_back w _ _ _ x c zs Try.underlying42 Try.underlying5 Try.underlying9 hx.cell
set_option maxHeartbeats 4000000 in
set_option maxRecDepth 100000 in
/-- The program refuses a part that reaches beyond the page, too. -/
theorem gpack_bad (o L : Int) (h0 : 0 ≤ o) (h1 : o ≤ 255) (h2 : 1 ≤ L) (h3 : L ≤ 256) (h4 : 256 < o + L) (w : World) : Calls Try.prog 17 #[.agg #[.int .i64 1, .bool false, .bool true, .int .i64 2, .int .i64 3, .int .i64 o, .int .i64 L]] w fun e w' => e = .returned (.tuple #[.slice none 0 0, .int .i64 1]) ∧ Below w.heap.size w w' := by
  have c6 : decide (o < 0) = false := decide_eq_false (by omega)
  have c7 : decide (256 ≤ o) = false := decide_eq_false (by omega)
  have c8 : decide (L < 1) = false := decide_eq_false (by omega)
  have c9 : decide (256 - o < L) = true := decide_eq_true (by omega)
  go_enter Try.func17, Try.ntmps17
  go_wp2
  go_ret2
  exact ⟨by first | rfl | (simp; done), below_alloc (Below.refl _ _) _⟩
end Go.Proofs.Ytjeobbhaoahdcaa.GrA
