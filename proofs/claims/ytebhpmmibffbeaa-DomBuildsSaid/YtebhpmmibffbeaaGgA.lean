/- Proved: grants as they lie in memory; what Join does (contracts for the laws of the grants). -/
import Derived.Test.YtebhpmmibffbeaaGpA
import Derived.Test.YtebhpmmibffbeaaGaD
namespace Go.Proofs.Ytebhpmmibffbeaa.GgA
open Go.RowKit Go.Maps Go.Proofs.Ytebhpmmibffbeaa.Base Go.Proofs.Ytebhpmmibffbeaa.GaA Go.Proofs.Ytebhpmmibffbeaa.GaB Go.Proofs.Ytebhpmmibffbeaa.GmA Go.Proofs.Ytebhpmmibffbeaa.GpA
set_option linter.unusedVariables false
set_option linter.unusedSimpArgs false

/-- A member: its grant frame, and the block of its places. -/
def mval (x : Int × Nat) : Value := .agg #[.int .i64 x.1, .pointer (some ⟨x.2, 0, none⟩)]
def mvs (f : Int → Option (Int × Nat)) : Int → Option Value := fun x => (f x).map mval
def mput (f : Int → Option (Int × Nat)) (k : Int) (v : Int × Nat) : Int → Option (Int × Nat) := fun x => if x = k then some v else f x
theorem mvs_put (f : Int → Option (Int × Nat)) (k : Int) (v : Int × Nat) : mvs (mput f k v) = put (mvs f) k (mval v) := by
  funext x
  unfold mvs mput put
  split <;> rfl
theorem zeroM (w : World) : (zeroValue 125).run Try.prog w = .ok (.agg #[.int .i64 0, .pointer none]) w := Try.zeroValue125 w
structure G2 (w : World) (gb mm hm mb : Nat) (f : Int → Option (Int × Nat)) (c : Nat) : Prop where
  blk : w.heap[gb]? = some (.cells #[.pointer (some ⟨mb, 0, none⟩), .map (some mm), .map (some hm)] 99 (0, 0))
  mem : IMap w mm (mvs f) c
section
variable {w w' : World} {gb mm hm mb : Nat} {f : Int → Option (Int × Nat)} {c : Nat}
theorem G2.chg {F : Nat → Prop} (h : G2 w gb mm hm mb f c) (hc : Chg F w w') (h1 : ¬ F gb) (h2 : ¬ F mm) : G2 w' gb mm hm mb f c := ⟨hc.blk h.blk h1, h.mem.chg hc h2⟩
theorem G2.below (h : G2 w gb mm hm mb f c) (hb : Below w.heap.size w w') : G2 w' gb mm hm mb f c := h.chg (Chg.below (fun _ => False) hb) (fun h => h) (fun h => h)
set_option maxHeartbeats 2000000 in
set_option maxRecDepth 100000 in
theorem none_calls (h : G2 w gb mm hm mb f c) : Calls Try.prog 51 #[.pointer (some ⟨gb, 0, none⟩)] w fun e w' => e = .returned (.bool false) ∧ w' = w := by
  have C0 := fun i => blk_cell h.blk i
  have L0 := blk_lt h.blk
  clear h
  go_enter Try.func51, Try.ntmps51
  go_wp2
  go_ret
  exact ⟨by first | rfl | (simp; done), rfl⟩
set_option maxHeartbeats 2000000 in
set_option maxRecDepth 100000 in
theorem domain_calls (n : Int) (w : World) : Calls Try.prog 53 #[.int .i64 n] w fun e w' => e = .returned (.bool (decide (0 ≤ n) && decide (n < 8))) ∧ w' = w := by
  by_cases h : 0 ≤ n
  · have h1 : decide (0 ≤ n) = true := decide_eq_true h
    go_enter Try.func53, Try.ntmps53
    go_wp2
    go_ret
    exact ⟨by first | rfl | (rw [h1]; first | rfl | (simp; done)) | (simp [h1]; done), rfl⟩
  · have h1 : decide (0 ≤ n) = false := decide_eq_false h
    go_enter Try.func53, Try.ntmps53
    go_wp2
    go_ret
    exact ⟨by first | rfl | (rw [h1]; first | rfl | (simp; done)) | (simp [h1]; done), rfl⟩
theorem domain_in (d : Int) (d0 : 0 ≤ d) (d8 : d < 8) (w : World) : Calls Try.prog 53 #[.int .i64 d] w fun e w' => e = .returned (.bool true) ∧ w' = w := by
  have h := domain_calls d w
  rw [decide_eq_true d0, decide_eq_true d8] at h
  exact h
set_option maxHeartbeats 4000000 in
set_option maxRecDepth 100000 in
/-- A domain joins. -/
theorem join_calls (h : G2 w gb mm hm mb f c) {fb : Nat} {s : MS} (hM : Mach w mb fb s) {pb fm pm size c2 : Nat} {fr pl : Int → Option Int} (hP : P2 w pb fm pm size fr pl c2) (d : Int) (d0 : 0 ≤ d) (d8 : d < 8) (k : Nat) (hk : k < s.n) (hn1 : pl (-1) = none) (hd : f d = none) (hc : c < 1000)
    (hg : getE (s.fr k) d 1 = 0) (hf : Fr.few (s.fr k)) (hgf : gb ≠ fb) (hmf : mm ≠ fb) :
    Calls Try.prog 26 #[.pointer (some ⟨gb, 0, none⟩), .int .i64 d, .int .i64 k, .pointer (some ⟨pb, 0, none⟩)] w fun e w' =>
      e = .returned (.int .i64 0) ∧ G2 w' gb mm hm mb (mput f d (k, pb)) (c + 1) ∧ Mach w' mb fb (MS.put1 s k (getF (s.fr k) 1)) ∧ Chg (fun x => x = fb ∨ x = mm) w w' := by
  have C0 := fun i => blk_cell h.blk i
  have L0 := blk_lt h.blk
  have hno := none_calls h
  have hfi := find_none hP (-1) (by omega) (by omega) hn1
  have hdo := fun W => domain_in d d0 d8 W
  have e1 : mvs f d = none := by unfold mvs; rw [hd]; rfl
  have hlk := h.mem.look_ok Try.underlying96 (zeroM w) d (by omega) (by omega)
  rw [e1] at hlk
  simp only [Option.getD_none, Option.isSome_none] at hlk
  have hb1 := below_alloc (Below.refl w.heap.size w) (.cells #[.int .i64 0, .pointer none] 125)
  have hge := get_calls (hM.below hb1) k hk d 1 (by omega) (by omega) hf
  have HH := Base.Aside.mk (And.intro h (And.intro hM (And.intro hb1 e1)))
  clear h hM hb1 e1 hd hn1 hP hf
  go_enter Try.func26, Try.ntmps26
  go_wp2_with (first
    | (go_at_call 51; refine hno.mono ?_; rintro z w1 ⟨rfl, hw1⟩; obtain rfl := hw1.symm)
    | (go_at_call 52; refine hfi.mono ?_; rintro z w1 ⟨rfl, hw1⟩; obtain rfl := hw1.symm)
    | (go_at_call 53; refine (hdo _).mono ?_; rintro z w1 ⟨rfl, hw1⟩; obtain rfl := hw1.symm)
    | (go_at_call 36; refine hge.mono ?_; rintro z w2 ⟨rfl, hM2, hC2⟩; have hG2 := (HH.out.1.below HH.out.2.2.1).chg hC2 hgf hmf; have C2 := (fun i => blk_cell hG2.blk i); have L2 := blk_lt hG2.blk; obtain ⟨W3, hr3, hI3, hC3⟩ := hG2.mem.store Try.underlying96 d (Int.le_trans (by decide) d0) (Int.le_trans (Int.le_of_lt d8) (by decide)) (.agg #[.int .i64 k, .pointer (some ⟨pb, 0, none⟩)]) (Nat.lt_of_lt_of_le hc (by decide)) HH.out.2.2.2; have E3 := Base.Aside.mk (And.intro hG2 (And.intro hM2 (And.intro hC2 (And.intro hI3 hC3)))); clear hG2 hM2 hC2 hI3 hC3)
    | go_in)
  go_ret
  have E := E3.out
  have nm : ∀ {g : Nat} {cs : Array Value} {t : TypeId} {z : Nat × Nat}, w2.heap[g]? = some (.cells cs t z) → g ≠ mm := by
    intro g cs t z hg' e
    subst e
    obtain ⟨es, clock, h1⟩ := E.1.mem.is
    rw [h1] at hg'
    cases hg'
  have hM3 : Mach w2 mb fb (MS.put1 s k (getF (s.fr k) 1)) := by
    have := E.2.1
    unfold getS at this
    rwa [if_pos hg] at this
  obtain ⟨cs, hl1, hl2⟩ := hM3.lst
  refine ⟨by first | rfl | (simp; done), ⟨E.2.2.2.2.blk E.1.blk (nm E.1.blk), ?_⟩, hM3.chg E.2.2.2.2 (nm hM3.blk) (nm hl1), ((Chg.below _ HH.out.2.2.1).trans (E.2.2.1.mono fun x hx => .inl hx)).trans (E.2.2.2.2.mono fun x hx => .inr hx)⟩
  rw [mvs_put]
  exact E.2.2.2.1
end
end Go.Proofs.Ytebhpmmibffbeaa.GgA
