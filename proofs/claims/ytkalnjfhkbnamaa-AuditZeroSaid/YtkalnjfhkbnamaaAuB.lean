/- Proved: what dom.New makes (a contract for the law AuditZero). -/
import Derived.Test.YtkalnjfhkbnamaaAuA
namespace Go.Proofs.Ytkalnjfhkbnamaa.AuB
open Go.RowKit Go.Shelf Go.Proofs.Ytkalnjfhkbnamaa.Base Go.Proofs.Ytkalnjfhkbnamaa.Phys Go.Proofs.Ytkalnjfhkbnamaa.MaA Go.Proofs.Ytkalnjfhkbnamaa.MaB Go.Proofs.Ytkalnjfhkbnamaa.AuA
set_option linter.unusedVariables false

def hcells (mb x g e : Nat) : Array Value := #[.pointer (some ⟨mb, 0, none⟩), .pointer (some ⟨x, 0, none⟩), .pointer (some ⟨g, 0, none⟩), .pointer (some ⟨e, 0, none⟩),
  .int .i64 0, .int .i64 0, .int .i64 0, .pointer none, .int .i64 0, .int .i64 0, .int .i64 0, .pointer none, .int .i64 0, .int .i64 0, .int .i64 0, .pointer none, .int .i64 0, .int .i64 0, .int .i64 0, .pointer none,
  .int .i64 0, .int .i64 0, .int .i64 0, .pointer none, .int .i64 0, .int .i64 0, .int .i64 0, .pointer none, .int .i64 0, .int .i64 0, .int .i64 0, .pointer none, .int .i64 0, .int .i64 0, .int .i64 0, .pointer none]
/-- A hypervisor without a domain. -/
structure Hyp (w : World) (h n : Nat) (mb fb x g e m1 m2 : Nat) (o : Nat → Int) : Prop where
  blk : w.heap[h]? = some (.cells (hcells mb x g e) 39 (0, 0))
  mach : Mach w mb fb n o
  mmu : MmuAt w x mb 8
  gr : w.heap[g]? = some (.cells #[.pointer (some ⟨mb, 0, none⟩), .map (some m1), .map (some m2)] 134 (0, 0))
  mp : w.heap[m2]? = some (.map #[] 0)
theorem Hyp.below {w w' : World} {h n mb fb x g e m1 m2 : Nat} {o : Nat → Int} (H : Hyp w h n mb fb x g e m1 m2 o) (hb : Below w.heap.size w w') : Hyp w' h n mb fb x g e m1 m2 o := by
  refine ⟨blk_below H.blk (blk_lt H.blk) hb, H.mach.below H.mach.lt.1 H.mach.lt.2 hb, ?_, blk_below H.gr (blk_lt H.gr) hb, blk_below H.mp (blk_lt H.mp) hb⟩
  obtain ⟨cs, h1, h2⟩ := H.mmu
  exact ⟨cs, blk_below h1 (blk_lt h1) hb, h2⟩
theorem Hyp.drewN {w : World} {h n mb fb x g e m1 m2 : Nat} {o : Nat → Int} (H : Hyp w h n mb fb x g e m1 m2 o) (k : Nat) : Hyp (w.drewN k) h n mb fb x g e m1 m2 o :=
  H.below ⟨rfl, rfl, rfl, Nat.le_refl _, fun _ _ => rfl⟩
def own (k : Nat) : Nat → Int := fun j => if j < k then -2 else -1
theorem own_step (k : Nat) : give (own k) k (-2) = own (k + 1) := by
  funext j
  unfold give own
  by_cases h : j = k
  · rw [if_pos h, if_pos (by omega)]
  · rw [if_neg h]
    by_cases h2 : j < k
    · rw [if_pos h2, if_pos (by omega)]
    · rw [if_neg h2, if_neg (by omega)]
theorem mach_of {w w1 : World} {n : Nat} {e : Ending} (h : NewOut w n e w1) : ∃ mb fb, e = .returned (.tuple #[.pointer (some ⟨mb, 0, none⟩), .int .i64 0]) ∧ w.heap.size ≤ mb ∧ w.heap.size ≤ fb ∧ mb ≠ fb ∧ Mach w1 mb fb n (own 0) ∧ Below w.heap.size w w1 := by
  obtain ⟨mb, fb, cs, rfl, h1, h2, h3, h4, h5, h6, h7⟩ := h
  refine ⟨mb, fb, rfl, h1, h2, h3, ⟨h4, cs, h5, h6.1, fun i j hi hj => ?_⟩, h7⟩
  rw [h6.2 i j hi hj]
  unfold newCell own
  by_cases c : j = 0
  · rw [if_pos ⟨c, hi⟩]
    simp [c]
  · rw [if_neg (fun h => c h.1)]
    simp [c]
set_option maxHeartbeats 8000000 in
set_option maxRecDepth 100000 in
theorem dom_new (w : World) (n : Nat) (h1 : 3 ≤ n) (h2 : n ≤ 256) :
    Calls Try.prog 6 #[.int .i64 n] w fun e w' => ∃ h mb fb x g ev m1 m2 o, e = .returned (.tuple #[.pointer (some ⟨h, 0, none⟩), .int .i64 0]) ∧ Hyp w' h n mb fb x g ev m1 m2 o ∧ Below w.heap.size w w' := by
  have d1 : decide ((n : Int) ≤ 2) = false := decide_eq_false (by omega)
  go_enter Try.func6, Try.ntmps6
  go_wp2_with (first
    | (go_at_call 15; refine (new_calls n _ (Nat.le_trans (of_decide_eq_true rfl) h1) h2).mono ?_; intro z w1 hz; obtain ⟨mb, fb, rfl, hm1, hf1, hne, hM, hB1⟩ := mach_of hz; have H1 := Aside.mk (And.intro hM hB1); clear hz hM hB1)
    | go_in)
  go_loopw [16] (fun v wr => ∃ (k : Nat) (W2 : World), k ≤ 2 ∧ v = .int .i64 k ∧ wr = W2 ∧ Aside (Mach W2 mb fb n (own k) ∧ Below w.heap.size w W2)) (fun v _ => 2 - (intOf v).toNat)
  case atStart => exact ⟨0, _, Nat.zero_le _, rfl, rfl, H1.out⟩
  case round =>
    obtain ⟨k, W2, hk, rfl, hwr, hE⟩ := hrel
    obtain rfl := hwr.symm
    by_cases hlt : k < 2
    · have hal := alloc_calls W2 mb fb n (own k) hE.out.1 hne (by omega) k (by omega) (by simp [own]) (fun j hj => by simp [own, hj])
      go_wp2_with (first
        | (go_at_call 16; refine hal.mono ?_; rintro z w3 ⟨rfl, hM3, hw3, hblk⟩; have H3 := Aside.mk (And.intro hM3 (And.intro hw3 hblk)); clear hM3 hw3 hblk)
        | go_in)
      refine ⟨⟨k + 1, w3, by omega, by simp, rfl, ?_⟩, by simp [intOf]; omega⟩
      obtain ⟨hM3, ⟨e1, e2, e3, e4⟩, hblk⟩ := H3.out
      rw [own_step] at hM3
      exact ⟨hM3, hE.out.2.trans ⟨e1, e2, e3, e4, fun j hj => hblk j (Nat.lt_of_lt_of_le hj hE.out.2.size) (by omega)⟩⟩
    · obtain rfl : k = 2 := by omega
      have hmm := mmu_new W2 mb fb n (own 2) hE.out.1 (by omega) (by omega)
      go_wp2_with (first
        | (go_at_call 17; refine hmm.mono ?_; rintro z w4 ⟨x, rfl, hx, hX, hB4⟩; have hM4 := hE.out.1.below hE.out.1.lt.1 hE.out.1.lt.2 hB4; have hgn := grant_new w4 mb fb n (own 2) hM4 (Nat.lt_of_lt_of_le (of_decide_eq_true rfl) h1) (Nat.le_trans h2 (of_decide_eq_true rfl)); have H4 := Aside.mk (And.intro hX (And.intro hB4 hM4)); clear hX hB4 hM4)
        | (go_at_call 18; refine hgn.mono ?_; rintro z w5 ⟨g, m1, m2, rfl, hg, hG, hm2, hB5⟩; have H5 := Aside.mk (And.intro (And.intro hG hm2) hB5); clear hG hm2 hB5)
        | (go_at_call 19; refine (event_new w5).mono ?_; rintro z w6 ⟨ev, rfl, hB6⟩; have H6 := Aside.mk hB6; clear hB6)
        | go_in)
      go_ret2
      have b4 := H4.out.2.1
      have b5 := H5.out.2
      have b6 := H6.out
      have m4 := H4.out.2.2
      have b46 : Below w4.heap.size w4 w6 := below_step b5 b6
      have hyp : Hyp w6 0 n mb fb x g ev m1 m2 (own 2) ∨ True := .inr trivial
      refine ⟨w6.heap.size, mb, fb, x, g, ev, m1, m2, own 2, by first | rfl | (simp; done), ⟨blk_new _ _, ?_, ?_, ?_, ?_⟩, ?_⟩
      · exact (m4.below m4.lt.1 m4.lt.2 b46).below (B := w6.heap.size) (Nat.lt_of_lt_of_le m4.lt.1 b46.size) (Nat.lt_of_lt_of_le m4.lt.2 b46.size) (Below.alloc (Below.refl _ _) (Nat.le_refl _) _)
      · obtain ⟨cs, q1, q2⟩ := H4.out.1
        exact ⟨cs, blk_alloc (blk_below q1 (blk_lt q1) b46) _, q2⟩
      · exact blk_alloc (blk_below H5.out.1.1 (blk_lt H5.out.1.1) b6) _
      · exact blk_alloc (blk_below H5.out.1.2 (blk_lt H5.out.1.2) b6) _
      · exact below_step hE.out.2 (below_alloc (below_step b4 b46) _)
end Go.Proofs.Ytkalnjfhkbnamaa.AuB
