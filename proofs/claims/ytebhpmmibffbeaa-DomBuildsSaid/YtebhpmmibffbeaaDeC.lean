/- Proved: what dom.New makes (a contract for the laws of the domains). -/
import Derived.Test.YtebhpmmibffbeaaDeB
import Derived.Test.YtebhpmmibffbeaaDaA
import Derived.Test.YtebhpmmibffbeaaGnA
namespace Go.Proofs.Ytebhpmmibffbeaa.DeC
open Go.RowKit Go.Maps Go.Proofs.Ytebhpmmibffbeaa.Base Go.Proofs.Ytebhpmmibffbeaa.GaA Go.Proofs.Ytebhpmmibffbeaa.GaB Go.Proofs.Ytebhpmmibffbeaa.GaC Go.Proofs.Ytebhpmmibffbeaa.GaD Go.Proofs.Ytebhpmmibffbeaa.DaA Go.Proofs.Ytebhpmmibffbeaa.DaB Go.Proofs.Ytebhpmmibffbeaa.GpA Go.Proofs.Ytebhpmmibffbeaa.GgA Go.Proofs.Ytebhpmmibffbeaa.GnA Go.Proofs.Ytebhpmmibffbeaa.DbC Go.Proofs.Ytebhpmmibffbeaa.DcA Go.Proofs.Ytebhpmmibffbeaa.DdC Go.Proofs.Ytebhpmmibffbeaa.DeA Go.Proofs.Ytebhpmmibffbeaa.DeB
set_option linter.unusedVariables false
set_option linter.unusedSimpArgs false

/-- A hypervisor of k domains whose frames lie below top. -/
structure Hy (w W : World) (hb mb fb xb t1 t5 t3 gb mm hm eb N k top : Nat) (s : MS) (rt : Nat → Int) (f : Int → Option (Int × Nat)) (st sz tb : Nat → Int) (pp : Nat → Value) : Prop where
  blk : W.heap[hb]? = some (.cells (hcL mb xb gb eb st sz tb pp) 51 (0, 0))
  m : Mach W mb fb s
  x : Mmu W xb mb t1 t5 t3 rt
  g : G2 W gb mm hm mb f k
  ds : Ds k st sz tb pp
  n : s.n = N ∧ N ≤ 256 ∧ top ≤ N ∧ k ≤ 8 ∧ 1 ≤ N
  lo : ∀ j, j < top → (s.fr j).own ≠ -1 ∧ (s.fr j).own < k
  hi : ∀ j, top ≤ j → s.fr j = ⟨-1, 0, 0, 0⟩ ∧ ∀ i, s.byt j i = 0
  rt : ∀ d, k ≤ d → rt d = -1
  f : ∀ d : Int, k ≤ d → f d = none
  ne : xb ≠ t1 ∧ xb ≠ t5 ∧ xb ≠ t3 ∧ xb ≠ mb ∧ xb ≠ fb
  ge : w.heap.size ≤ hb ∧ w.heap.size ≤ fb ∧ w.heap.size ≤ xb ∧ w.heap.size ≤ mm
  bel : Below w.heap.size w W
theorem Hy.below {w W W' : World} {hb mb fb xb t1 t5 t3 gb mm hm eb N k top : Nat} {s : MS} {rt : Nat → Int} {f : Int → Option (Int × Nat)} {st sz tb : Nat → Int} {pp : Nat → Value} (h : Hy w W hb mb fb xb t1 t5 t3 gb mm hm eb N k top s rt f st sz tb pp) (hB : Below W.heap.size W W') : Hy w W' hb mb fb xb t1 t5 t3 gb mm hm eb N k top s rt f st sz tb pp :=
  ⟨blk_below h.blk (blk_lt h.blk) hB, h.m.below hB, h.x.below hB, h.g.below hB, h.ds, h.n, h.lo, h.hi, h.rt, h.f, h.ne, h.ge, h.bel.trans (hB.mono h.bel.size)⟩
def own2 (N k : Nat) : MS := ⟨N, fun j => if j < k then ⟨-2, 0, 0, 0⟩ else ⟨-1, 0, 0, 0⟩, fun _ _ => 0⟩
theorem own2_zero (N : Nat) : ms0 N = own2 N 0 := by
  unfold ms0 own2
  congr 1
theorem own2_step (N k : Nat) : give (own2 N k) k (-2) = own2 N (k + 1) := by
  unfold give MS.put1 own2
  congr 1
  funext j
  simp only
  by_cases h : j = k
  · subst h
    simp
  · rw [if_neg h]
    by_cases h2 : j < k
    · rw [if_pos h2, if_pos (by omega)]
    · rw [if_neg h2, if_neg (by omega)]
theorem ds_zero : Ds 0 (fun _ => 0) (fun _ => 0) (fun _ => 0) (fun _ => .pointer none) := ⟨fun i => by rw [if_neg (by omega)], fun i hi => absurd hi (Nat.not_lt_zero _), fun i _ => ⟨rfl, rfl, rfl⟩⟩
set_option maxHeartbeats 4000000 in
set_option maxRecDepth 100000 in
theorem event_new (w : World) :
    Calls Try.prog 14 #[] w fun e w' => ∃ g, e = .returned (.pointer (some ⟨g, 0, none⟩)) ∧ Below w.heap.size w w' := by
  go_enter Try.func14, Try.ntmps14
  go_wp2
  go_ret
  exact ⟨_, by first | rfl | (simp; done), below_alloc (Below.refl _ _) _⟩
def DnOut (w : World) (N : Nat) (e : Ending) (w' : World) : Prop := ∃ hb mb fb xb t1 t5 t3 gb mm hm eb, e = .returned (.tuple #[.pointer (some ⟨hb, 0, none⟩), .int .i64 0]) ∧ Hy w w' hb mb fb xb t1 t5 t3 gb mm hm eb N 0 2 (own2 N 2) (fun _ => -1) (fun _ => none) (fun _ => 0) (fun _ => 0) (fun _ => 0) (fun _ => .pointer none)
set_option maxHeartbeats 8000000 in
set_option maxRecDepth 100000 in
theorem dom_new (w : World) (n : Nat) (h1 : 3 ≤ n) (h2 : n ≤ 256) : Calls Try.prog 4 #[.int .i64 n] w (DnOut w n) := by
  have d1 : decide ((n : Int) ≤ 2) = false := decide_eq_false (by omega)
  have hpn := fun W => mnew_calls n W (by omega) h2
  go_enter Try.func4, Try.ntmps4
  go_wp2_with (first
    | (go_at_call 10; (with_reducible refine (hpn _).mono ?_); rintro z w1 ⟨mb, fb, rfl, hm1, hf1, hM, hB1⟩; rw [own2_zero] at hM; have H1 := Base.Aside.mk (And.intro hM (And.intro hB1 (And.intro hm1 hf1))); clear hM hB1 hm1 hf1)
    | go_in)
  go_loopw [16] (fun v wr => ∃ (k : Nat) (W2 : World), k ≤ 2 ∧ v = .int .i64 k ∧ wr = W2 ∧ Base.Aside (Mach W2 mb fb (own2 n k) ∧ Below w.heap.size w W2)) (fun v _ => 2 - (intOf v).toNat)
  case atStart => exact ⟨0, _, Nat.zero_le _, rfl, rfl, ⟨H1.out.1, H1.out.2.1⟩⟩
  case round =>
    obtain ⟨k, W2, hk, rfl, hwr, hE⟩ := hrel
    obtain rfl := hwr.symm
    by_cases hlt : k < 2
    · have hal := halloc_calls W2 mb fb (own2 n k) hE.out.1 k (by show k < n; omega) (by simp [own2]) (fun j hj => by simp [own2, hj])
      rw [own2_step] at hal
      go_wp2_with (first
        | (go_at_call 11; (with_reducible refine hal.mono ?_); rintro z w3 ⟨rfl, hM3, hw3, hblk⟩; have H3 := Base.Aside.mk (And.intro hM3 (And.intro hw3 hblk)); clear hM3 hw3 hblk)
        | go_in)
      refine ⟨⟨k + 1, w3, by omega, by simp, rfl, ?_⟩, by simp [intOf]; omega⟩
      obtain ⟨hM3, ⟨e1, e2, e3, e4⟩, hblk⟩ := H3.out
      have hz := hE.out.2.size
      have hf := H1.out.2.2.2
      exact ⟨hM3, hE.out.2.trans ⟨e1, e2, e3, e4, fun j hj => hblk j (Nat.lt_of_lt_of_le hj hz) (by omega)⟩⟩
    · obtain rfl : k = 2 := by omega
      have hmm := mmu_new W2 mb fb (own2 n 2) hE.out.1 (by show 0 < n; omega)
      have hnpos : 0 < (own2 n 2).n := by show 0 < n; omega
      go_wp2_with (first
        | (go_at_call 12; (with_reducible refine hmm.mono ?_); rintro z w4 ⟨xb, t1, t5, t3, rfl, hX, hx, hB4⟩; have hM4 := hE.out.1.below hB4; have hgn := gnew_calls hM4 hnpos; have H4 := Base.Aside.mk (And.intro hX (And.intro hB4 (And.intro hM4 hx))); clear hX hB4 hM4 hx)
        | (go_at_call 13; (with_reducible refine hgn.mono ?_); rintro z w5 ⟨gb, mm, hm, rfl, hg1, hg2, hg3, hg4, hG, hG2, hB5⟩; have H5 := Base.Aside.mk (And.intro hG (And.intro hB5 hg2)); clear hG hB5 hg1 hg2 hg3 hg4 hG2)
        | (go_at_call 14; (with_reducible refine (event_new w5).mono ?_); rintro z w6 ⟨ev, rfl, hB6⟩; have H6 := Base.Aside.mk hB6; clear hB6)
        | go_in)
      go_ret2
      have b4 := H4.out.2.1
      have b5 := H5.out.2.1
      have b6 := H6.out
      have b7 := below_alloc (Below.refl w6.heap.size w6) (.cells (hcL mb xb gb ev (fun _ => 0) (fun _ => 0) (fun _ => 0) (fun _ => .pointer none)) 51)
      have b47 := below_step (below_step b5 b6) b7
      have z2 := hE.out.2.size
      have z4 := b4.size
      have z6 := (below_step b5 b6).size
      have hfb := H1.out.2.2.2
      have hmb := H1.out.2.2.1
      have hgx := H4.out.2.2.2
      have hlt2 := hE.out.1.lt
      have hg2 := H5.out.2.2
      refine ⟨w6.heap.size, mb, fb, xb, t1, t5, t3, gb, mm, hm, ev, by first | rfl | (simp; done), ?_⟩
      have hX4 := H4.out.1
      exact ⟨blk_new _ _, H4.out.2.2.1.below b47, hX4.below b47, (H5.out.1.below b6).below b7, ds_zero, ⟨rfl, h2, by omega, by omega, by omega⟩, fun j hj => by
        have : (own2 n 2).fr j = ⟨-2, 0, 0, 0⟩ := if_pos hj
        rw [this]
        exact ⟨by decide, by show (-2 : Int) < 0; decide⟩, fun j hj => ⟨if_neg (by omega), fun _ => rfl⟩, fun _ _ => rfl, fun _ _ => rfl,
        ⟨DdA.ty_ne hX4.blk hX4.c1 (by decide), DdA.ty_ne hX4.blk hX4.c5 (by decide), DdA.ty_ne hX4.blk hX4.c3 (by decide), by omega, by omega⟩, ⟨by omega, by omega, by omega, by omega⟩, below_step (below_step hE.out.2 b4) b47⟩
end Go.Proofs.Ytebhpmmibffbeaa.DeC
