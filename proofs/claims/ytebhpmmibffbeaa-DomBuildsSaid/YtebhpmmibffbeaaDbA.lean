/- Proved: what a domain's places tell as a list (contracts for the laws of the domains). -/
import Derived.Test.YtebhpmmibffbeaaGpA
import Derived.Test.YtebhpmmibffbeaaDaB
import Derived.WalkSmall
namespace Go.Proofs.Ytebhpmmibffbeaa.DbA
open Go.RowKit Go.Maps Go.Proofs.Ytebhpmmibffbeaa.Base Go.Proofs.Ytebhpmmibffbeaa.GaA Go.Proofs.Ytebhpmmibffbeaa.GaB Go.Proofs.Ytebhpmmibffbeaa.GmA Go.Proofs.Ytebhpmmibffbeaa.GpA Go.Proofs.Ytebhpmmibffbeaa.DaB
set_option linter.unusedVariables false
set_option linter.unusedSimpArgs false

theorem infoP : (Try.prog.info? 62).map (fun i => (i.zero, i.size, i.bytes)) = some (some (.agg #[.int .i64 0, .int .i64 0]), 2, 16) := by kernel_rfl
/-- The first k places of a domain whose frames begin at b. -/
def prs (b k : Nat) : List Value := (List.range k).flatMap fun (i : Nat) => [.int .i64 i, .int .i64 ((b + i : Nat) : Int)]
theorem prs_snoc (b k : Nat) : prs b (k + 1) = prs b k ++ [.int .i64 k, .int .i64 ((b + k : Nat) : Int)] := by
  unfold prs
  rw [List.range_succ, List.flatMap_append]
  simp
def frB (b m : Nat) : Int → Option Int := fun x => if 0 ≤ x ∧ x < m then some (b + x) else none
section
variable {w w' W : World} {pb fm pm : Nat} {fr pl : Int → Option Int} {c : Nat}
set_option maxHeartbeats 2000000 in
set_option maxRecDepth 100000 in
theorem psize_calls (h : P2 w pb fm pm 48 fr pl c) : Calls Try.prog 48 #[.pointer (some ⟨pb, 0, none⟩)] w fun e w' => e = .returned (.int .i64 48) ∧ w' = w := by
  have C0 := fun i => blk_cell h.blk i
  have L0 := blk_lt h.blk
  have hn := GpA.none_calls h
  clear h
  go_enter Try.func48, Try.ntmps48
  go_wp2_with (first
    | (go_at_call 61; refine hn.mono ?_; rintro z w1 ⟨rfl, hw1⟩; obtain rfl := hw1.symm)
    | go_in)
  go_ret
  exact ⟨by first | rfl | (simp; done), rfl⟩
/-- What List holds between two rounds. -/
structure LsAt (w W : World) (pb fm pm b m k : Nat) (pl : Int → Option Int) (c : Nat) (V : Value) : Prop where
  p : P2 W pb fm pm 48 (frB b m) pl c
  row : W.ownsRow w.heap.size 62 2 V (min k m) (prs b (min k m))
  bel : Below w.heap.size w W
set_option maxHeartbeats 8000000 in
set_option maxRecDepth 100000 in
theorem list_calls (b m : Nat) (hm : m ≤ 48) (hb : b + m ≤ 1000) (h : P2 w pb fm pm 48 (frB b m) pl c) : Calls Try.prog 24 #[.pointer (some ⟨pb, 0, none⟩)] w fun e w' => ∃ V, e = .returned V ∧ w'.ownsRow w.heap.size 62 2 V m (prs b m) ∧ Below w.heap.size w w' := by
  obtain ⟨i0, hi, hz0, hz1, hz2⟩ := info_parts infoP
  have hs := psize_calls h
  have HP := Base.Aside.mk h
  clear h
  go_enter Try.func24, Try.ntmps24
  go_wp2_with (first
    | (go_at_call 48; refine hs.mono ?_; rintro z w1 ⟨rfl, hw1⟩; obtain rfl := hw1.symm)
    | go_in)
  go_loopw [3, 9] (fun v u wr => ∃ (k : Nat) (V : Value) (W2 : World), k ≤ 48 ∧ u = .int .i64 k ∧ v = V ∧ wr = W2 ∧ Base.Aside (LsAt w W2 pb fm pm b m k pl c V)) (fun _ u _ => 48 - (intOf u).toNat)
  case atStart => exact ⟨0, .slice none 0 0, w, by omega, rfl, rfl, rfl, ⟨⟨HP.out, by rw [Nat.zero_min, show prs b 0 = [] from rfl]; exact World.ownsRow_nil _ _ _ _, Below.refl _ _⟩⟩⟩
  case round =>
    obtain ⟨k, V, W2, hk, rfl, hv, hwr, hA⟩ := hrel
    obtain rfl := hv.symm
    obtain rfl := hwr.symm
    have C0 := fun i => blk_cell hA.out.p.blk i
    have L0 := blk_lt hA.out.p.blk
    by_cases hlt : k < 48
    · have hlk := hA.out.p.mf.look_ok Try.underlying114 (zeroI W2) k (by omega) (by omega)
      by_cases hkm : k < m
      · have e1 : ivs (frB b m) k = some (.int .i64 ((b + k : Nat) : Int)) := by
          unfold ivs frB
          rw [if_pos (by omega)]
          simp
        rw [e1] at hlk
        simp only [Option.getD_some, Option.isSome_some] at hlk
        have e2 : min k m = k := by omega
        have hrow := hA.out.row
        rw [e2] at hrow
        have HR := Base.Aside.mk hrow
        have hsz := hA.out.bel.size
        clear e1 e2 hrow
        go_wp2_with (first
          | (at_builtin; refine wpList_append_own_at _ rfl _ _ 59 rfl w.heap.size 62 i0 (.agg #[.int .i64 0, .int .i64 0]) 2 16 Try.underlying59 hi hz0 hz1 hz2 rfl (by decide) _ k _ rfl (HR.out.alloc _) ⟨W2.heap.size, 0, none⟩ 1 1 [.int .i64 k, .int .i64 ((b + k : Nat) : Int)] rfl rfl (cell_two_new _ _ _ _) (by intro u hu; simp at hu; rcases hu with rfl | rfl <;> rfl) (by unfold maxLen; omega) (by omega) (by simp; omega) ?_)
          | go_in)
        intro v' w1 hown hg hnil hloc
        have h3 : LsAt w w1 pb fm pm b m (k + 1) pl c v' := by
          have e3 : min (k + 1) m = k + 1 := by omega
          have hb1 := below_alloc (Below.refl W2.heap.size W2) (.cells #[.int .i64 k, .int .i64 ((b + k : Nat) : Int)] 62)
          have hc : Chg (fun x => V.ownBlock = some x) W2 w1 := (Chg.below _ hb1).trans (grown_chg hg)
          have hne : ∀ {g : Nat} {cs : Array Value} {t : TypeId}, W2.heap[g]? = some (.cells cs t (0, 0)) → t ≠ 62 → ¬ V.ownBlock = some g := by
            intro g cs t hg' ht e
            rcases HR.out.2 with ⟨hv, _⟩ | ⟨g', cap', cur', hv, _, hb', _⟩
            · rw [hv] at e
              cases e
            · rw [hv] at e
              have e2 : g' = g := by simpa [Value.ownBlock] using e
              subst e2
              rw [hb'] at hg'
              have e4 := Option.some.inj hg'
              injection e4 with e5 e6 e7
              exact ht e6.symm
          have hnm : ∀ {g : Nat} {f : Int → Option Value}, IMap W2 g f c → ¬ V.ownBlock = some g := by
            intro g f hI e
            obtain ⟨es, clock, h1⟩ := hI.is
            rcases HR.out.2 with ⟨hv, _⟩ | ⟨g', cap', cur', hv, _, hb', _⟩
            · rw [hv] at e
              cases e
            · rw [hv] at e
              have e2 : g' = g := by simpa [Value.ownBlock] using e
              subst e2
              rw [hb'] at h1
              cases h1
          refine ⟨hA.out.p.chg hc (hne hA.out.p.blk (by decide)) (hnm hA.out.p.mf) (hnm hA.out.p.mp), by rw [e3, prs_snoc]; exact hown, hc.out hA.out.bel hsz (fun x e => (HR.out.lt x e).1)⟩
        have H3 := Base.Aside.mk h3
        clear hown hg hnil hloc h3
        go_wp2
        exact ⟨⟨k + 1, v', w1, by omega, by simp, rfl, rfl, H3⟩, by simp [intOf]; omega⟩
      · have e1 : ivs (frB b m) k = none := by
          unfold ivs frB
          rw [if_neg (by omega)]
          rfl
        rw [e1] at hlk
        simp only [Option.getD_none, Option.isSome_none] at hlk
        have h3 : LsAt w W2 pb fm pm b m (k + 1) pl c V := ⟨hA.out.p, by
          have := hA.out.row
          rwa [show min k m = min (k + 1) m by omega] at this, hA.out.bel⟩
        have H3 := Base.Aside.mk h3
        clear e1 h3
        go_wp2
        exact ⟨⟨k + 1, V, W2, by omega, by simp, rfl, rfl, H3⟩, by simp [intOf]; omega⟩
    · obtain rfl : k = 48 := by omega
      have hrow := hA.out.row
      rw [show min 48 m = m by omega] at hrow
      have HR := Base.Aside.mk hrow
      clear hrow
      go_wp2
      go_ret
      exact ⟨_, by first | rfl | (simp; done), HR.out, hA.out.bel⟩
end
end Go.Proofs.Ytebhpmmibffbeaa.DbA
