/- Proved: the reference of an entry's bits, at either level (contracts for the laws of the domains). -/
import Derived.Test.YtebhpmmibffbeaaDcB
namespace Go.Proofs.Ytebhpmmibffbeaa.DcC
open Go.RowKit Go.Maps Go.Proofs.Ytebhpmmibffbeaa.Base Go.Proofs.Ytebhpmmibffbeaa.GaA Go.Proofs.Ytebhpmmibffbeaa.GaB Go.Proofs.Ytebhpmmibffbeaa.GaC Go.Proofs.Ytebhpmmibffbeaa.DbB Go.Proofs.Ytebhpmmibffbeaa.DbC Go.Proofs.Ytebhpmmibffbeaa.DcB
set_option linter.unusedVariables false
set_option linter.unusedSimpArgs false

section
variable {w w' W : World} {xb mb fb t1 t5 t3 : Nat} {rt : Nat → Int}
set_option maxHeartbeats 4000000 in
set_option maxRecDepth 100000 in
theorem get_none (p : Option Addr) (d n : Int) (w : World) : Calls Try.prog 60 #[.pointer p, .int .i64 d, .int .i64 n, .int .u32 (entW none)] w fun e w' => e = .returned (.int .i64 0) ∧ Below w.heap.size w w' := by
  have hun := unpack_calls none (fun m e => by cases e) w
  go_enter Try.func60, Try.ntmps60
  go_wp2_with (first
    | (go_at_call 65; (with_reducible refine hun.mono ?_); rintro z w1 ⟨rfl, hB1⟩; have E1 := Base.Aside.mk hB1; clear hB1)
    | go_in)
  go_ret
  exact ⟨by first | rfl | (simp; done), below_alloc E1.out _⟩
set_option maxHeartbeats 8000000 in
set_option maxRecDepth 100000 in
theorem get1_some {R : World → Prop} (hR : ∀ W, R W → R W.drew) (hX : Mmu w xb mb t1 t5 t3 rt) (hxf : xb ≠ fb) (hlf : fb < w.heap.size) (d : Int) (m : Nat) (hm : m < 256)
    (hcl : ∀ W', Below w.heap.size w W' → Calls Try.prog 34 #[.int .i64 d, .agg #[.bool true, .bool true, .int .i64 m], .pointer (some ⟨t1, 0, none⟩), .pointer (some ⟨t5, 0, none⟩)] W' fun e w' => e = .returned (.int .i64 0) ∧ R w' ∧ Chg (fun x => x = fb) W' w') :
    Calls Try.prog 60 #[.pointer (some ⟨xb, 0, none⟩), .int .i64 d, .int .i64 1, .int .u32 (entW (some m))] w fun e w' => e = .returned (.int .i64 0) ∧ R w' ∧ Chg (fun x => x = fb) w w' := by
  have hun := unpack_calls (some m) (fun m' e => by cases e; exact hm) w
  have hun2 : Calls Try.prog 65 #[.int .u32 (entW (some m))] w fun e w' => e = .returned (.tuple #[.agg #[.bool true, .bool true, .int .i64 m], .int .i64 0]) ∧ Below w.heap.size w w' := hun
  have HX := Base.Aside.mk hX
  clear hX hun
  go_enter Try.func60, Try.ntmps60
  go_upto_region 4 with (first
    | (go_at_call 65; (with_reducible refine hun2.mono ?_); rintro z w1 ⟨rfl, hB1⟩; have E1 := Base.Aside.mk hB1; clear hB1)
    | go_in)
  obtain ⟨g, hg⟩ : ∃ g, g = w1.heap.size := ⟨_, rfl⟩
  have hgf : g ≠ fb := by have := E1.out.size; omega
  refine wp_world (fun W => Below w.heap.size w W ∧ W.heap[w1.heap.size]? = some (.cells #[.bool true, .bool true, .int .i64 m] 91 (0, 0))) ⟨below_alloc E1.out _, blk_new _ _⟩ ?_
  intro W2 ⟨hB2, hx2⟩
  rw [← hg] at hx2 ⊢
  have hX2 := HX.out.below hB2
  have hcl2 := fun W' (hW : Below W2.heap.size W2 W') => (hcl W' (below_step hB2 hW)).mono (R' := fun e w' => e = .returned (.int .i64 0) ∧ R w' ∧ Chg (fun x => x = fb) W2 w') (fun e w' ⟨q1, q2, q3⟩ => ⟨q1, q2, (Chg.below _ hW).trans q3⟩)
  have SC : ∀ w3, Chg (fun x => x = fb) W2 w3 → w3.cell? ⟨xb, 5, none⟩ = some (.func (.func 34) #[] #[.pointer (some ⟨t1, 0, none⟩), .pointer (some ⟨t5, 0, none⟩)]) ∧ w3.cell? ⟨g, 0, none⟩ = some (.bool true) ∧ w3.cell? ⟨g, 1, none⟩ = some (.bool true) ∧ w3.cell? ⟨g, 2, none⟩ = some (.int .i64 m) := by
    intro w3 hc
    have hxx := hc.blk hx2 hgf
    exact ⟨blk_cell (hc.blk hX2.blk hxf) 5, blk_cell hxx 0, blk_cell hxx 1, blk_cell hxx 2⟩
  obtain ⟨k1, k2, k3, k4⟩ := SC _ (Chg.refl _ _)
  have lx := blk_lt hX2.blk
  have lg := blk_lt hx2
  have HB := Base.Aside.mk hB2
  clear hx2 hB2 hX2 hcl E1 hg
  go_region_held3 (fun Wx => Wx.cell? ⟨xb, 5, none⟩ = some (.func (.func 34) #[] #[.pointer (some ⟨t1, 0, none⟩), .pointer (some ⟨t5, 0, none⟩)]) ∧ Wx.cell? ⟨g, 0, none⟩ = some (.bool true) ∧ Wx.cell? ⟨g, 1, none⟩ = some (.bool true) ∧ Wx.cell? ⟨g, 2, none⟩ = some (.int .i64 m))
    (first
      | go_keep
      | exact ⟨k1, k2, k3, k4⟩
      | exact SC _ E4.out.2)
    ((first
      | (go_at_call 34; (with_reducible refine (hcl2 _ ?_).mono ?_); (focus (repeat (with_reducible first | exact Below.refl _ _ | refine below_drew ?_ | refine below_alloc ?_ _))); rintro z w4 ⟨rfl, hR4, hC4⟩; have E4 := Base.Aside.mk (And.intro hR4 hC4); clear hR4 hC4)))
  all_goals
    go_wp2_with fail
    go_ret
    exact ⟨by first | rfl | (simp; done), by first | exact E4.out.1 | exact hR _ E4.out.1, (Chg.below _ HB.out).trans (by first | exact E4.out.2 | exact Chg.drew E4.out.2)⟩
set_option maxHeartbeats 8000000 in
set_option maxRecDepth 100000 in
theorem get2_some {R : World → Prop} (hR : ∀ W, R W → R W.drew) (hX : Mmu w xb mb t1 t5 t3 rt) (hxf : xb ≠ fb) (hlf : fb < w.heap.size) (d : Int) (m : Nat) (hm : m < 256)
    (hcl : ∀ W', Below w.heap.size w W' → Calls Try.prog 39 #[.int .i64 d, .agg #[.bool true, .bool true, .int .i64 m], .pointer (some ⟨t3, 0, none⟩)] W' fun e w' => e = .returned (.int .i64 0) ∧ R w' ∧ Chg (fun x => x = fb) W' w') :
    Calls Try.prog 60 #[.pointer (some ⟨xb, 0, none⟩), .int .i64 d, .int .i64 2, .int .u32 (entW (some m))] w fun e w' => e = .returned (.int .i64 0) ∧ R w' ∧ Chg (fun x => x = fb) w w' := by
  have hun := unpack_calls (some m) (fun m' e => by cases e; exact hm) w
  have hun2 : Calls Try.prog 65 #[.int .u32 (entW (some m))] w fun e w' => e = .returned (.tuple #[.agg #[.bool true, .bool true, .int .i64 m], .int .i64 0]) ∧ Below w.heap.size w w' := hun
  have HX := Base.Aside.mk hX
  clear hX hun
  go_enter Try.func60, Try.ntmps60
  go_upto_region 4 with (first
    | (go_at_call 65; (with_reducible refine hun2.mono ?_); rintro z w1 ⟨rfl, hB1⟩; have E1 := Base.Aside.mk hB1; clear hB1)
    | go_in)
  obtain ⟨g, hg⟩ : ∃ g, g = w1.heap.size := ⟨_, rfl⟩
  have hgf : g ≠ fb := by have := E1.out.size; omega
  refine wp_world (fun W => Below w.heap.size w W ∧ W.heap[w1.heap.size]? = some (.cells #[.bool true, .bool true, .int .i64 m] 91 (0, 0))) ⟨below_alloc E1.out _, blk_new _ _⟩ ?_
  intro W2 ⟨hB2, hx2⟩
  rw [← hg] at hx2 ⊢
  have hX2 := HX.out.below hB2
  have hcl2 := fun W' (hW : Below W2.heap.size W2 W') => (hcl W' (below_step hB2 hW)).mono (R' := fun e w' => e = .returned (.int .i64 0) ∧ R w' ∧ Chg (fun x => x = fb) W2 w') (fun e w' ⟨q1, q2, q3⟩ => ⟨q1, q2, (Chg.below _ hW).trans q3⟩)
  have SC : ∀ w3, Chg (fun x => x = fb) W2 w3 → w3.cell? ⟨xb, 8, none⟩ = some (.func (.func 39) #[] #[.pointer (some ⟨t3, 0, none⟩)]) ∧ w3.cell? ⟨g, 0, none⟩ = some (.bool true) ∧ w3.cell? ⟨g, 1, none⟩ = some (.bool true) ∧ w3.cell? ⟨g, 2, none⟩ = some (.int .i64 m) := by
    intro w3 hc
    have hxx := hc.blk hx2 hgf
    exact ⟨blk_cell (hc.blk hX2.blk hxf) 8, blk_cell hxx 0, blk_cell hxx 1, blk_cell hxx 2⟩
  obtain ⟨k1, k2, k3, k4⟩ := SC _ (Chg.refl _ _)
  have lx := blk_lt hX2.blk
  have lg := blk_lt hx2
  have HB := Base.Aside.mk hB2
  clear hx2 hB2 hX2 hcl E1 hg
  go_region_held3 (fun Wx => Wx.cell? ⟨xb, 8, none⟩ = some (.func (.func 39) #[] #[.pointer (some ⟨t3, 0, none⟩)]) ∧ Wx.cell? ⟨g, 0, none⟩ = some (.bool true) ∧ Wx.cell? ⟨g, 1, none⟩ = some (.bool true) ∧ Wx.cell? ⟨g, 2, none⟩ = some (.int .i64 m))
    (first
      | go_keep
      | exact ⟨k1, k2, k3, k4⟩
      | exact SC _ E4.out.2)
    ((first
      | (go_at_call 39; (with_reducible refine (hcl2 _ ?_).mono ?_); (focus (repeat (with_reducible first | exact Below.refl _ _ | refine below_drew ?_ | refine below_alloc ?_ _))); rintro z w4 ⟨rfl, hR4, hC4⟩; have E4 := Base.Aside.mk (And.intro hR4 hC4); clear hR4 hC4)))
  all_goals
    go_wp2_with fail
    go_ret
    exact ⟨by first | rfl | (simp; done), by first | exact E4.out.1 | exact hR _ E4.out.1, (Chg.below _ HB.out).trans (by first | exact E4.out.2 | exact Chg.drew E4.out.2)⟩
end
end Go.Proofs.Ytebhpmmibffbeaa.DcC
