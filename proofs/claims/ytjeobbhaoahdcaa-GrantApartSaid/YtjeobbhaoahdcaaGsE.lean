/- Proved: a copy changes another's bytes only where an entry permits it (the plain law of GrantApart). -/
import Derived.Test.YtjeobbhaoahdcaaGfI
import Derived.Test.YtjeobbhaoahdcaaGlA
namespace Go.Proofs.Ytjeobbhaoahdcaa.GsE
open Go.RowKit Go.Maps Go.Proofs.Ytjeobbhaoahdcaa.Base Go.Proofs.Ytjeobbhaoahdcaa.GaA Go.Proofs.Ytjeobbhaoahdcaa.GaB Go.Proofs.Ytjeobbhaoahdcaa.GaC Go.Proofs.Ytjeobbhaoahdcaa.GmB Go.Proofs.Ytjeobbhaoahdcaa.GpA Go.Proofs.Ytjeobbhaoahdcaa.GeA Go.Proofs.Ytjeobbhaoahdcaa.GeB Go.Proofs.Ytjeobbhaoahdcaa.GfA Go.Proofs.Ytjeobbhaoahdcaa.GfB Go.Proofs.Ytjeobbhaoahdcaa.GfC Go.Proofs.Ytjeobbhaoahdcaa.GfD Go.Proofs.Ytjeobbhaoahdcaa.GfE Go.Proofs.Ytjeobbhaoahdcaa.GfF Go.Proofs.Ytjeobbhaoahdcaa.GfG Go.Proofs.Ytjeobbhaoahdcaa.GfH Go.Proofs.Ytjeobbhaoahdcaa.GfI Go.Proofs.Ytjeobbhaoahdcaa.GbA Go.Proofs.Ytjeobbhaoahdcaa.GlA
set_option linter.unusedVariables false
set_option linter.unusedSimpArgs false

theorem own_12 {S : MS} (hfr : S.fr = (msB 3 0).fr) (k : Nat) (hk : k < 12) : (S.fr k).own = ((k / 4 : Nat) : Int) := by
  rw [hfr]
  unfold msB
  simp only
  rw [if_pos (by omega)]
  split <;> rfl
theorem rd_pos (S : MS) (k ref : Nat) (i : Int) : 0 ≤ GuA.rd (ent S k ref) i := by
  unfold GuA.rd ent
  rw [List.getD_eq_getElem?_getD, List.getElem?_map]
  cases (MS.rd S k (8 * ref) 8)[i.toNat]? with
  | none => simp
  | some b => simp
/-- What an entry permits a caller to write. -/
def Perm (S : MS) (caller : Int) (u : En) (i k : Nat) : Prop := ∃ (e ref : Nat) (sb : Bool) (gp of le : Int), e < 3 ∧ ref < 32 ∧ u.gr = true ∧ u.dom = e ∧ u.ref = ref ∧ (S.fr i).own = e ∧ ¬ GuA.bad (ent S (4 * e) ref) ∧
  entG (ent S (4 * e) ref) = ⟨1, false, sb, caller, gp, of, le⟩ ∧ 4 * (e : Int) + gp = i ∧ 0 ≤ gp ∧ gp ≤ 12 ∧ 0 ≤ of ∧ of ≤ 256 ∧ le ≤ 256 ∧ 0 ≤ le ∧ of ≤ (k : Int) ∧ (k : Int) < of + le
theorem getV_frD {e : Nat} {g : Int} (h : (getV 8 (frD e 4) g).2 = 0) : 0 ≤ g ∧ g < 4 ∧ (getV 8 (frD e 4) g).1 = 4 * e + g := by
  unfold getV at h ⊢
  by_cases h8 : 0 ≤ g ∧ g < (8 : Nat)
  · rw [if_pos h8] at h ⊢
    unfold frD at h ⊢
    by_cases h4 : 0 ≤ g ∧ g < (4 : Nat)
    · rw [if_pos h4]
      exact ⟨by omega, by omega, rfl⟩
    · rw [if_neg h4] at h
      exact absurd h (by decide)
  · rw [if_neg h8] at h
    exact absurd h (by decide)
section
variable {S : MS} {a : BA}
/-- Where what is pushed may lie. -/
theorem find_apart (hn : S.n = 13) (hfr : S.fr = (msB 3 0).fr) (hp : ∀ e, e < 3 → piB a (a.pb e) = piI a e) (caller n : Int) (u : En) (i k : Nat) (h0 : (findR S (memG a.pb 3) (piB a) caller u n true).2 = 0) (hi : (findR S (memG a.pb 3) (piB a) caller u n true).1.1 = i)
    (h1 : (findR S (memG a.pb 3) (piB a) caller u n true).1.2 ≤ k) (h2 : (k : Int) < (findR S (memG a.pb 3) (piB a) caller u n true).1.2 + n) (hc : (S.fr i).own ≠ caller) : Perm S caller u i k := by
  unfold findR at h0 hi h1 h2
  by_cases hb : endBad caller n u
  · rw [if_pos hb] at h0
    exact absurd h0 (by decide)
  · rw [if_neg hb] at h0 hi h1 h2
    cases hg : u.gr with
    | false =>
      rw [if_neg (by rw [hg]; decide)] at h0 hi h1 h2
      unfold ownR at h0 hi
      cases hf : memG a.pb 3 caller with
      | none =>
        rw [hf] at h0
        simp at h0
      | some x =>
        obtain ⟨e, he, rfl, rfl⟩ := memG_some hf
        rw [hf] at h0 hi
        simp only [hp e he] at h0 hi
        have hs : (piI a e).size = 8 := rfl
        have hfp : (piI a e).fr = frD e 4 := rfl
        rw [hs, hfp] at h0 hi
        by_cases hx : (getV 8 (frD e 4) u.gpfn).2 = 0 ∧ inn u.off n 256 = false
        · rw [if_pos hx] at h0
          simp at h0
        · rw [if_neg hx] at h0 hi
          obtain ⟨g0, g4, gv⟩ := getV_frD h0
          simp only at hi
          rw [gv] at hi
          have ho := own_12 hfr i (by omega)
          exact absurd (by rw [ho]; omega) hc
    | true =>
      rw [if_pos hg] at h0 hi h1 h2
      unfold lentR at h0 hi h1 h2
      cases hf : memG a.pb 3 u.dom with
      | none =>
        rw [hf] at h0
        simp at h0
      | some x =>
        obtain ⟨e, he, hd, rfl⟩ := memG_some hf
        rw [hf] at h0 hi h1 h2
        simp only [hp e he] at h0 hi h1 h2
        by_cases hsl : slotB u.ref = false
        · rw [if_pos hsl] at h0
          exact absurd h0 (by decide)
        · rw [if_neg hsl] at h0 hi h1 h2
          have hsl2 : slotB u.ref = true := by simpa using hsl
          unfold slotB at hsl2
          simp at hsl2
          obtain ⟨ref, hr⟩ : ∃ ref : Nat, u.ref = ref := ⟨u.ref.toNat, by omega⟩
          have e4 : (4 * (e : Int)).toNat = 4 * e := by omega
          rw [hr, e4, Int.toNat_natCast] at h0 hi h1 h2
          have hs : (piI a e).size = 8 := rfl
          have hfp : (piI a e).fr = frD e 4 := rfl
          unfold lentS at h0 hi h1 h2
          rw [hs, hfp] at h0 hi h1 h2
          by_cases x1 : permE (ent S (4 * e) ref) caller ≠ 0
          · rw [if_pos x1] at h0
            exact absurd h0 x1
          rw [if_neg x1] at h0 hi h1 h2
          by_cases x2 : (frameR S 8 (frD e 4) u.dom (entG (ent S (4 * e) ref)).gp).2 ≠ 0
          · rw [if_pos x2] at h0
            exact absurd h0 x2
          rw [if_neg x2] at h0 hi h1 h2
          by_cases x3 : (true && (entG (ent S (4 * e) ref)).ro) = true
          · rw [if_pos x3] at h0
            exact absurd h0 (by decide)
          rw [if_neg x3] at h0 hi h1 h2
          by_cases x4 : inn u.off n (entG (ent S (4 * e) ref)).le = false
          · rw [if_pos x4] at h0
            exact absurd h0 (by decide)
          rw [if_neg x4] at h0 hi h1 h2
          simp only at hi h1 h2
          have y1 : permE (ent S (4 * e) ref) caller = 0 := by simpa using x1
          have y2 : (frameR S 8 (frD e 4) u.dom (entG (ent S (4 * e) ref)).gp).2 = 0 := by simpa using x2
          have y3 : (entG (ent S (4 * e) ref)).ro = false := by simpa using x3
          have y4 : inn u.off n (entG (ent S (4 * e) ref)).le = true := by simpa using x4
          have hnb : ¬ GuA.bad (ent S (4 * e) ref) := by
            intro hbd
            unfold permE entE at y1
            rw [if_pos hbd] at y1
            simp at y1
          have hE : entE (ent S (4 * e) ref) = 0 := by unfold entE; rw [if_neg hnb]
          have hkd : (entG (ent S (4 * e) ref)).kd = 1 ∧ (entG (ent S (4 * e) ref)).dom = caller := by
            unfold permE at y1
            by_cases z : entE (ent S (4 * e) ref) = 0 ∧ ((entG (ent S (4 * e) ref)).kd ≠ 1 ∨ (entG (ent S (4 * e) ref)).dom ≠ caller)
            · rw [if_pos z] at y1
              exact absurd y1 (by decide)
            · constructor
              · by_cases q : (entG (ent S (4 * e) ref)).kd = 1
                · exact q
                · exact absurd ⟨hE, .inl q⟩ z
              · by_cases q : (entG (ent S (4 * e) ref)).dom = caller
                · exact q
                · exact absurd ⟨hE, .inr q⟩ z
          have hof : 0 ≤ (entG (ent S (4 * e) ref)).of ∧ (entG (ent S (4 * e) ref)).of + (entG (ent S (4 * e) ref)).le ≤ 256 ∧ 0 ≤ (entG (ent S (4 * e) ref)).le := by
            have hb3 : ¬ 256 < GuA.of (ent S (4 * e) ref) + GuA.le (ent S (4 * e) ref) := fun h => hnb (.inr (.inr h))
            have p6 := rd_pos S (4 * e) ref 6
            have p7 := rd_pos S (4 * e) ref 7
            have q1 : 0 ≤ GuA.of (ent S (4 * e) ref) := by unfold GuA.of; split <;> omega
            have q2 : 0 ≤ GuA.le (ent S (4 * e) ref) := by unfold GuA.le; split <;> omega
            unfold entG
            rw [if_neg hnb]
            simp only
            omega
          obtain ⟨G, hG⟩ : ∃ G, G = entG (ent S (4 * e) ref) := ⟨_, rfl⟩
          rw [← hG] at hi h1 h2 y2 y3 y4 hkd hof
          have hfrm : (getV 8 (frD e 4) G.gp).2 = 0 ∧ (frameR S 8 (frD e 4) u.dom G.gp).1 = (getV 8 (frD e 4) G.gp).1 := by
            unfold frameR at y2 ⊢
            by_cases z : (getV 8 (frD e 4) G.gp).2 ≠ 0
            · rw [if_pos z] at y2
              exact absurd y2 (by decide)
            · rw [if_neg z] at y2 ⊢
              refine ⟨by simpa using z, ?_⟩
              split at y2
              · exact absurd y2 (by decide)
              · rename_i z2
                rw [if_neg z2]
          obtain ⟨g0, g4, gv⟩ := getV_frD hfrm.1
          rw [hfrm.2, gv] at hi
          have ho := own_12 hfr i (by omega)
          unfold inn at y4
          simp at y4
          obtain ⟨kd, ro, sb, dm, gp, of, le⟩ := G
          simp only at hkd y3 hof g0 g4 hi h1 h2 y4
          obtain ⟨rfl, rfl⟩ := hkd
          subst y3
          refine ⟨e, ref, sb, gp, of, le, he, by omega, hg, hd, hr, by rw [ho]; omega, hnb, hG.symm, by omega, by omega, by omega, by omega, by omega, by omega, by omega, by omega, by omega⟩
theorem copy_apart (hn : S.n = 13) (hfr : S.fr = (msB 3 0).fr) (hp : ∀ e, e < 3 → piB a (a.pb e) = piI a e) (caller n : Int) (t u : En) (r : Nat) :
    (copyR S (memG a.pb 3) (piB a) caller t u n r).2.1.n = 13 ∧ ∀ i k : Nat, (copyR S (memG a.pb 3) (piB a) caller t u n r).2.1.byt i k ≠ S.byt i k → (S.fr i).own ≠ caller → Perm S caller u i k := by
  unfold copyR
  by_cases h1 : (findR S (memG a.pb 3) (piB a) caller t n false).2 ≠ 0
  · rw [if_pos h1]
    exact ⟨hn, fun i k h => absurd rfl h⟩
  rw [if_neg h1]
  by_cases h2 : ¬ inR S (findR S (memG a.pb 3) (piB a) caller t n false).1.1 (findR S (memG a.pb 3) (piB a) caller t n false).1.2 n
  · rw [if_pos h2]
    exact ⟨hn, fun i k h => absurd rfl h⟩
  rw [if_neg h2]
  have hin : inR S (findR S (memG a.pb 3) (piB a) caller t n false).1.1 (findR S (memG a.pb 3) (piB a) caller t n false).1.2 n := Decidable.not_not.1 h2
  have hn0 : 0 ≤ n := by unfold inR at hin; omega
  simp only
  generalize hzs : MS.rd S (findR S (memG a.pb 3) (piB a) caller t n false).1.1.toNat (findR S (memG a.pb 3) (piB a) caller t n false).1.2.toNat n.toNat = zs
  have hzl : (zs.length : Int) = n := by rw [← hzs, rd_len]; omega
  have hfa := fun i k => find_apart hn hfr hp caller n u i k
  generalize findR S (memG a.pb 3) (piB a) caller u n true = q at hfa
  unfold pushS
  by_cases h3 : q.2 ≠ 0
  · rw [if_pos h3]
    exact ⟨hn, fun i k h => absurd rfl h⟩
  rw [if_neg h3]
  by_cases h4 : isTab (frV S q.1.1).1
  · rw [if_pos h4]
    exact ⟨hn, fun i k h => absurd rfl h⟩
  rw [if_neg h4]
  unfold wrS
  by_cases h5 : wrE S q.1.1 q.1.2 zs.length = 0
  · rw [if_pos h5]
    have hin2 : inR S q.1.1 q.1.2 zs.length := by
      unfold wrE at h5
      by_cases h6 : inR S q.1.1 q.1.2 zs.length
      · exact h6
      · rw [if_neg h6] at h5
        exact absurd h5 (by decide)
    unfold inR at hin2
    refine ⟨hn, fun i k h hc => ?_⟩
    by_cases hk : i = q.1.1.toNat ∧ q.1.2.toNat ≤ k ∧ k < q.1.2.toNat + zs.length
    · exact hfa i k (by simpa using h3) (by omega) (by omega) (by omega) hc
    · exact absurd (wr_miss hk) h
  · rw [if_neg h5]
    exact ⟨hn, fun i k h => absurd rfl h⟩
end
end Go.Proofs.Ytjeobbhaoahdcaa.GsE
