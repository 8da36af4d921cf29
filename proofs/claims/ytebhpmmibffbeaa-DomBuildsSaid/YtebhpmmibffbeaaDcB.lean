/- Proved: the first level's reference of an entry that is present and writable (contracts for the laws of the domains). -/
import Derived.Test.YtebhpmmibffbeaaDcA
import Derived.Deep.RegionHeld3
import Derived.BigQuiet
namespace Go.Proofs.Ytebhpmmibffbeaa.DcB
open Go.RowKit Go.Maps Go.Proofs.Ytebhpmmibffbeaa.Base Go.Proofs.Ytebhpmmibffbeaa.GaA Go.Proofs.Ytebhpmmibffbeaa.GaB Go.Proofs.Ytebhpmmibffbeaa.GaC Go.Proofs.Ytebhpmmibffbeaa.DbB Go.Proofs.Ytebhpmmibffbeaa.DbC
set_option linter.unusedVariables false
set_option linter.unusedSimpArgs false

section
variable {w w' W : World} {xb mb fb t1 t5 t3 : Nat} {rt : Nat → Int} {s : MS}
set_option maxHeartbeats 2000000 in
set_option maxRecDepth 100000 in
theorem page_calls (m : Nat) (w : World) : Calls Try.prog 33 #[.agg #[.bool true, .bool true, .int .i64 m]] w fun e w' => e = .returned (.int .i64 1) ∧ Below w.heap.size w w' := by
  go_enter Try.func33, Try.ntmps33
  go_wp2
  go_ret
  exact ⟨by first | rfl | (simp; done), below_alloc (Below.refl _ _) _⟩
/-- A frame's reference as a writable page. -/
def refS (s : MS) (m : Nat) : MS := MS.put1 s m (getF (s.fr m) 1)
theorem mget_ok (hM : Mach W mb fb s) (m : Nat) (hm : m < s.n) (d : Int) (hg : getE (s.fr m) d 1 = 0) (hf : Fr.few (s.fr m)) : Calls Try.prog 36 #[.pointer (some ⟨mb, 0, none⟩), .int .i64 m, .int .i64 d, .int .i64 1] W fun e w' => e = .returned (.int .i64 0) ∧ Mach w' mb fb (refS s m) ∧ Chg (fun x => x = fb) W w' :=
  (GaB.get_calls hM m hm d 1 (by omega) (by omega) hf).mono fun e w' ⟨q1, q2, q3⟩ => ⟨by rw [q1, hg], by unfold getS at q2; rw [if_pos hg] at q2; exact q2, q3⟩
set_option maxHeartbeats 8000000 in
set_option maxRecDepth 100000 in
theorem new2_calls (hX : Mmu w xb mb t1 t5 t3 rt) (hM : Mach w mb fb s) (m : Nat) (hm : m < s.n) (d : Int) (hg : getE (s.fr m) d 1 = 0) (hf : Fr.few (s.fr m)) :
    Calls Try.prog 34 #[.int .i64 d, .agg #[.bool true, .bool true, .int .i64 m], .pointer (some ⟨t1, 0, none⟩), .pointer (some ⟨t5, 0, none⟩)] w fun e w' => e = .returned (.int .i64 0) ∧ Mach w' mb fb (refS s m) ∧ Chg (fun x => x = fb) w w' := by
  have hb1 := below_alloc (Below.refl w.heap.size w) (.cells #[.bool true, .bool true, .int .i64 m] 91)
  obtain ⟨n1, n2, n3, n4⟩ := hX.fb hM
  have hlf := hM.lt.2
  have hx1 := blk_new w (.cells #[.bool true, .bool true, .int .i64 m] 91)
  obtain ⟨W1, hW1⟩ : ∃ W1, W1 = w.alloc (.cells #[.bool true, .bool true, .int .i64 m] 91) := ⟨_, rfl⟩
  rw [← hW1] at hb1 hx1
  have hX1 := hX.below hb1
  have hpg := fun W' (hW : Below W1.heap.size W1 W') => (page_calls m W').mono (R' := fun e w' => e = .returned (.int .i64 1) ∧ Below W1.heap.size W1 w') (fun e w' ⟨q1, q2⟩ => ⟨q1, below_step hW q2⟩)
  have hge := fun W' (hW : Below W1.heap.size W1 W') => (mget_ok ((hM.below hb1).below hW) m hm d hg hf).mono (R' := fun e w' => e = .returned (.int .i64 0) ∧ Mach w' mb fb (refS s m) ∧ Chg (fun x => x = fb) W1 w') (fun e w' ⟨q1, q2, q3⟩ => ⟨q1, q2, (Chg.below _ hW).trans q3⟩)
  have hto := fun W => told_ok W
  have SC : ∀ w3, Chg (fun x => x = fb) W1 w3 → w3.cell? ⟨t1, 0, none⟩ = some (.pointer (some ⟨mb, 0, none⟩)) ∧ w3.cell? ⟨t5, 0, none⟩ = some (.func (.func 33) #[] #[]) ∧ w3.cell? ⟨w.heap.size, 0, none⟩ = some (.bool true) ∧ w3.cell? ⟨w.heap.size, 1, none⟩ = some (.bool true) ∧ w3.cell? ⟨w.heap.size, 2, none⟩ = some (.int .i64 m) := by
    intro w3 hc
    have hX2 := hX1.chg hc n1 n2 n3 n4
    have hxx := hc.blk hx1 (fun e => by omega)
    exact ⟨blk_cell hX2.c1 0, blk_cell hX2.c5 0, blk_cell hxx 0, blk_cell hxx 1, blk_cell hxx 2⟩
  have SB : ∀ w3, Below W1.heap.size W1 w3 → w3.cell? ⟨t1, 0, none⟩ = some (.pointer (some ⟨mb, 0, none⟩)) ∧ w3.cell? ⟨t5, 0, none⟩ = some (.func (.func 33) #[] #[]) ∧ w3.cell? ⟨w.heap.size, 0, none⟩ = some (.bool true) ∧ w3.cell? ⟨w.heap.size, 1, none⟩ = some (.bool true) ∧ w3.cell? ⟨w.heap.size, 2, none⟩ = some (.int .i64 m) := fun w3 hb => SC w3 (Chg.below _ hb)
  have lt1 := blk_lt hX1.c1
  have lt5 := blk_lt hX1.c5
  have lw := blk_lt hx1
  have HB := Base.Aside.mk hb1
  clear hX hM hg hf hx1 hb1 hX1
  go_enter Try.func34, Try.ntmps34
  go_upto_region 1 with fail
  refine wp_world (fun W => W = W1) hW1.symm ?_
  intro W2 hW2
  obtain rfl := hW2.symm
  clear hW2 hW1
  obtain ⟨k1, k2, k3, k4, k5⟩ := SB _ (Below.refl _ _)
  go_region_held3 (fun Wx => Wx.cell? ⟨t1, 0, none⟩ = some (.pointer (some ⟨mb, 0, none⟩)) ∧ Wx.cell? ⟨t5, 0, none⟩ = some (.func (.func 33) #[] #[]) ∧ Wx.cell? ⟨w.heap.size, 0, none⟩ = some (.bool true) ∧ Wx.cell? ⟨w.heap.size, 1, none⟩ = some (.bool true) ∧ Wx.cell? ⟨w.heap.size, 2, none⟩ = some (.int .i64 m))
    (first
      | go_keep
      | exact ⟨k1, k2, k3, k4, k5⟩
      | exact SB _ E3.out
      | exact SC _ E4.out.2)
    ((first
      | (go_at_call 33; (with_reducible refine (hpg _ ?_).mono ?_); (focus (repeat (with_reducible first | exact Below.refl _ _ | refine below_drew ?_ | refine below_alloc ?_ _))); rintro z w3 ⟨rfl, hB3⟩; have E3 := Base.Aside.mk hB3; clear hB3)
      | (go_at_call 36; (with_reducible refine (hge _ ?_).mono ?_); (focus (repeat (with_reducible first | exact E3.out | refine below_drew ?_ | refine below_alloc ?_ _))); rintro z w4 ⟨rfl, hM4, hC4⟩; have E4 := Base.Aside.mk (And.intro hM4 hC4); clear hM4 hC4)
      | (go_at_call 35; (with_reducible refine (hto _).mono ?_); rintro z w5 ⟨rfl, hw5⟩; obtain rfl := hw5.symm)))
  all_goals
    go_wp2_with fail
    go_ret
    exact ⟨by first | rfl | (simp; done), E4.out.1.below (by first | exact Below.refl _ _ | exact (Below.refl _ _).drew), (Chg.below _ HB.out).trans (by first | exact E4.out.2 | exact Chg.drew E4.out.2)⟩
end
end Go.Proofs.Ytebhpmmibffbeaa.DcB
