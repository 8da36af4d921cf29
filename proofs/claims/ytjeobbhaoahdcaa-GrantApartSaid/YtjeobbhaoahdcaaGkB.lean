/- Proved: what is packed is read as itself (a plain law for the laws of the grants). -/
import Derived.Test.YtjeobbhaoahdcaaGkA
namespace Go.Proofs.Ytjeobbhaoahdcaa.GkB
open Go.RowKit Go.Maps Go.Proofs.Ytjeobbhaoahdcaa.Base Go.Proofs.Ytjeobbhaoahdcaa.GaA Go.Proofs.Ytjeobbhaoahdcaa.GaB Go.Proofs.Ytjeobbhaoahdcaa.GaC Go.Proofs.Ytjeobbhaoahdcaa.GeB Go.Proofs.Ytjeobbhaoahdcaa.GfC Go.Proofs.Ytjeobbhaoahdcaa.GkA
set_option linter.unusedVariables false
set_option linter.unusedSimpArgs false

def ints (zs : List UInt8) : List Int := zs.map fun b => (b.toNat : Int)
/-- What an entry's parts outside a part of a page come to. -/
def whole (g : Gr) : Gr := { g with of := if g.sb then g.of else 0, le := if g.sb then g.le else 256 }
theorem pack_rd (g : Gr) (hb : ¬ packBad g) : GuA.rd (ints (packZ g)) 0 = packN g ∧ GuA.rd (ints (packZ g)) 1 = 0 ∧ GuA.rd (ints (packZ g)) 2 = g.dom % 256 ∧ GuA.rd (ints (packZ g)) 3 = g.dom / 256 ∧ GuA.rd (ints (packZ g)) 4 = g.gp % 256 ∧ GuA.rd (ints (packZ g)) 5 = g.gp / 256 ∧ GuA.rd (ints (packZ g)) 6 = (if g.sb then g.of else 0) ∧ GuA.rd (ints (packZ g)) 7 = (if g.sb then g.le else 256) - 1 := by
  unfold packBad at hb
  have hn : 0 ≤ packN g ∧ packN g < 256 := by unfold packN; split <;> split <;> omega
  have h1 : 0 ≤ (if g.sb then g.of else 0) ∧ (if g.sb then g.of else 0) < 256 := by split <;> omega
  have h2 : 0 ≤ ((if g.sb then g.le else 256) - 1) ∧ ((if g.sb then g.le else 256) - 1) < 256 := by split <;> omega
  exact ⟨ofI_toNat _ hn.1 hn.2, rfl, ofI_toNat _ (by omega) (by omega), ofI_toNat _ (by omega) (by omega), ofI_toNat _ (by omega) (by omega), ofI_toNat _ (by omega) (by omega), ofI_toNat _ h1.1 h1.2, ofI_toNat _ h2.1 h2.2⟩
theorem flags (kd : Int) (ro sb : Bool) (h0 : 0 ≤ kd) (h2 : kd ≤ 2) : bits .and .i64 (kd + (if ro then 4 else 0) + (if sb then 8 else 0)) 3 = kd ∧ (bits .and .i64 (kd + (if ro then 4 else 0) + (if sb then 8 else 0)) 4 != 0) = ro ∧ (bits .and .i64 (kd + (if ro then 4 else 0) + (if sb then 8 else 0)) 8 != 0) = sb ∧ kd + (if ro then 4 else 0) + (if sb then 8 else 0) < 16 := by
  have h : kd = 0 ∨ kd = 1 ∨ kd = 2 := by omega
  rcases h with rfl | rfl | rfl <;> cases ro <;> cases sb <;> decide
theorem pack_ent (g : Gr) (hb : ¬ packBad g) : entE (ints (packZ g)) = 0 ∧ entG (ints (packZ g)) = whole g := by
  obtain ⟨r0, r1, r2, r3, r4, r5, r6, r7⟩ := pack_rd g hb
  unfold packBad at hb
  obtain ⟨f1, f2, f3, f4⟩ := flags g.kd g.ro g.sb (by omega) (by omega)
  have hfl : GuA.fl (ints (packZ g)) = g.kd + (if g.ro then 4 else 0) + (if g.sb then 8 else 0) := by
    unfold GuA.fl
    rw [r0, r1]
    unfold packN
    omega
  have hkd : GuA.kd (ints (packZ g)) = g.kd := by unfold GuA.kd; rw [hfl, f1]
  have hro : GuA.ro (ints (packZ g)) = g.ro := by unfold GuA.ro; rw [hfl, f2]
  have hsb : GuA.sb (ints (packZ g)) = g.sb := by unfold GuA.sb; rw [hfl, f3]
  have hof : GuA.of (ints (packZ g)) = if g.sb then g.of else 0 := by unfold GuA.of; rw [hsb, r6]; split <;> rfl
  have hle : GuA.le (ints (packZ g)) = if g.sb then g.le else 256 := by
    unfold GuA.le
    rw [hsb, r7]
    split <;> omega
  have hnb : ¬ GuA.bad (ints (packZ g)) := by
    unfold GuA.bad
    rw [hfl, hkd, hof, hle]
    rintro (h | h | h)
    · omega
    · omega
    · revert h
      cases g.sb <;> simp <;> omega
  unfold entE entG
  rw [if_neg hnb, if_neg hnb]
  refine ⟨rfl, ?_⟩
  rw [hkd, hro, hsb, hof, hle, r2, r3, r4, r5]
  unfold whole
  congr 1 <;> omega
theorem ent_is (S : MS) (k ref : Nat) (zs : List UInt8) (hl : zs.length = 8) (h : ∀ j, j < 8 → S.byt k (8 * ref + j) = zs.getD j 0) : ent S k ref = ints zs := by
  unfold ent ints MS.rd
  congr 1
  apply List.ext_getElem
  · simp [hl]
  · intro j h1 h2
    have hj : j < 8 := by simpa using h1
    rw [List.getElem_map, List.getElem_range, h j hj, List.getD_eq_getElem?_getD, List.getElem?_eq_getElem h2]
    rfl
end Go.Proofs.Ytjeobbhaoahdcaa.GkB
