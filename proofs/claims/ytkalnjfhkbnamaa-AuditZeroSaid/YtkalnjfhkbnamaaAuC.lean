/- Proved: what a hypervisor without a domain answers to those who ask it (contracts for the law AuditZero). -/
import Derived.Test.YtkalnjfhkbnamaaAuB
namespace Go.Proofs.Ytkalnjfhkbnamaa.AuC
open Go.RowKit Go.Shelf Go.Proofs.Ytkalnjfhkbnamaa.Base Go.Proofs.Ytkalnjfhkbnamaa.Phys Go.Proofs.Ytkalnjfhkbnamaa.MaA Go.Proofs.Ytkalnjfhkbnamaa.MaB Go.Proofs.Ytkalnjfhkbnamaa.AuA Go.Proofs.Ytkalnjfhkbnamaa.AuB
set_option linter.unusedVariables false

section
variable {w : World} {h n mb fb x g ev m1 m2 : Nat} {o : Nat → Int}
set_option maxHeartbeats 2000000 in
set_option maxRecDepth 100000 in
theorem hnone_calls (H : Hyp w h n mb fb x g ev m1 m2 o) : Calls Try.prog 20 #[.pointer (some ⟨h, 0, none⟩)] w fun e w' => e = .returned (.bool false) ∧ w' = w := by
  have C0 := (blk_cell H.blk 0).trans (show (hcells mb x g ev)[0]? = some (.pointer (some ⟨mb, 0, none⟩)) from rfl)
  have L0 := blk_lt H.blk
  go_enter Try.func20, Try.ntmps20
  go_wp2
  go_ret
  exact ⟨by first | rfl | (simp; done), rfl⟩
set_option maxHeartbeats 2000000 in
set_option maxRecDepth 100000 in
theorem machine_calls (H : Hyp w h n mb fb x g ev m1 m2 o) : Calls Try.prog 7 #[.pointer (some ⟨h, 0, none⟩)] w fun e w' => e = .returned (.pointer (some ⟨mb, 0, none⟩)) ∧ w' = w := by
  have C0 := (blk_cell H.blk 0).trans (show (hcells mb x g ev)[0]? = some (.pointer (some ⟨mb, 0, none⟩)) from rfl)
  have L0 := blk_lt H.blk
  go_enter Try.func7, Try.ntmps7
  go_wp2_with (first
    | (go_at_call 20; refine (hnone_calls H).mono ?_; rintro z w1 ⟨rfl, hw1⟩; obtain rfl := hw1.symm)
    | go_in)
  go_ret
  exact ⟨by first | rfl | (simp; done), rfl⟩
set_option maxHeartbeats 2000000 in
set_option maxRecDepth 100000 in
theorem mmu_calls (H : Hyp w h n mb fb x g ev m1 m2 o) : Calls Try.prog 23 #[.pointer (some ⟨h, 0, none⟩)] w fun e w' => e = .returned (.pointer (some ⟨x, 0, none⟩)) ∧ w' = w := by
  have C0 := (blk_cell H.blk 1).trans (show (hcells mb x g ev)[1]? = some (.pointer (some ⟨x, 0, none⟩)) from rfl)
  have L0 := blk_lt H.blk
  go_enter Try.func23, Try.ntmps23
  go_wp2_with (first
    | (go_at_call 20; refine (hnone_calls H).mono ?_; rintro z w1 ⟨rfl, hw1⟩; obtain rfl := hw1.symm)
    | go_in)
  go_ret
  exact ⟨by first | rfl | (simp; done), rfl⟩
set_option maxHeartbeats 2000000 in
set_option maxRecDepth 100000 in
theorem grants_calls (H : Hyp w h n mb fb x g ev m1 m2 o) : Calls Try.prog 26 #[.pointer (some ⟨h, 0, none⟩)] w fun e w' => e = .returned (.pointer (some ⟨g, 0, none⟩)) ∧ w' = w := by
  have C0 := (blk_cell H.blk 2).trans (show (hcells mb x g ev)[2]? = some (.pointer (some ⟨g, 0, none⟩)) from rfl)
  have L0 := blk_lt H.blk
  go_enter Try.func26, Try.ntmps26
  go_wp2_with (first
    | (go_at_call 20; refine (hnone_calls H).mono ?_; rintro z w1 ⟨rfl, hw1⟩; obtain rfl := hw1.symm)
    | go_in)
  go_ret
  exact ⟨by first | rfl | (simp; done), rfl⟩
theorem eq_nil' (d : Nat) (w : World) : (Op.equalIn (d + 1) 34 (.pointer none) (.pointer none)).run Try.prog w = .ok true w := by
  rw [Op.equalIn]
  simp [go_sem]
theorem eq_nil (w : World) : (Op.equalIn 9999 34 (.pointer none) (.pointer none)).run Try.prog w = .ok true w := eq_nil' 9998 w
theorem hdom (mb x g ev d : Nat) (hd : d < 8) : (hcells mb x g ev)[4 + d * 4]? = some (.int .i64 0) ∧ (hcells mb x g ev)[4 + d * 4 + 1]? = some (.int .i64 0) ∧ (hcells mb x g ev)[4 + d * 4 + 2]? = some (.int .i64 0) ∧ (hcells mb x g ev)[4 + d * 4 + 3]? = some (.pointer none) := by
  match d, hd with
  | 0, _ => exact ⟨rfl, rfl, rfl, rfl⟩
  | 1, _ => exact ⟨rfl, rfl, rfl, rfl⟩
  | 2, _ => exact ⟨rfl, rfl, rfl, rfl⟩
  | 3, _ => exact ⟨rfl, rfl, rfl, rfl⟩
  | 4, _ => exact ⟨rfl, rfl, rfl, rfl⟩
  | 5, _ => exact ⟨rfl, rfl, rfl, rfl⟩
  | 6, _ => exact ⟨rfl, rfl, rfl, rfl⟩
  | 7, _ => exact ⟨rfl, rfl, rfl, rfl⟩
set_option maxHeartbeats 2000000 in
set_option maxRecDepth 100000 in
theorem hat_calls (H : Hyp w h n mb fb x g ev m1 m2 o) (d : Nat) (hd : d < 8) : Calls Try.prog 33 #[.pointer (some ⟨h, 0, none⟩), .int .i64 d] w fun e w' => e = .returned (.tuple #[.pointer none, .int .i64 6]) ∧ w' = w := by
  obtain ⟨q0, q1, q2, q3⟩ := hdom mb x g ev d hd
  have dd : decide ((8 : Int) ≤ (d : Int)) = false := decide_eq_false (by omega)
  have hen := eq_nil
  have D0 := (blk_cell H.blk _).trans q0
  have D1 := (blk_cell H.blk _).trans q1
  have D2 := (blk_cell H.blk _).trans q2
  have D3 := (blk_cell H.blk _).trans q3
  have L0 := blk_lt H.blk
  go_enter Try.func33, Try.ntmps33
  go_wp2_with (first
    | (go_at_call 20; refine (hnone_calls H).mono ?_; rintro z w1 ⟨rfl, hw1⟩; obtain rfl := hw1.symm)
    | go_in)
  go_ret2
  exact ⟨by first | rfl | (simp; done), rfl⟩
set_option maxHeartbeats 2000000 in
set_option maxRecDepth 100000 in
theorem dom_calls (H : Hyp w h n mb fb x g ev m1 m2 o) (d : Nat) (hd : d < 8) : Calls Try.prog 21 #[.pointer (some ⟨h, 0, none⟩), .int .i64 d] w fun e w' => e = .returned (.tuple #[.agg #[.int .i64 0, .int .i64 0, .int .i64 0, .int .i64 0, .int .i64 0], .int .i64 6]) ∧ Below w.heap.size w w' := by
  have hb0 := below_alloc (Below.refl w.heap.size w) (.cells #[.int .i64 0, .int .i64 0, .int .i64 0, .int .i64 0, .int .i64 0] 70)
  have H1 := H.below hb0
  have hN := blk_new w (.cells #[.int .i64 0, .int .i64 0, .int .i64 0, .int .i64 0, .int .i64 0] 70)
  have CN := fun i => blk_cell hN i
  have FN := fun i => blk_frozen hN i
  go_enter Try.func21, Try.ntmps21
  go_wp2_with (first
    | (go_at_call 33; refine (hat_calls H1 d hd).mono ?_; rintro z w1 ⟨rfl, hw1⟩; obtain rfl := hw1.symm)
    | go_in)
  refine bodyPost_ret (v := .tuple #[.agg #[.int .i64 0, .int .i64 0, .int .i64 0, .int .i64 0, .int .i64 0], .int .i64 6]) ?_ rfl ⟨rfl, ?_⟩
  · simp only [results, Try.results21]
    go_simp
    try rfl
  · exact hb0
set_option maxHeartbeats 2000000 in
set_option maxRecDepth 100000 in
theorem mnone_calls (H : Hyp w h n mb fb x g ev m1 m2 o) : Calls Try.prog 49 #[.pointer (some ⟨x, 0, none⟩)] w fun e w' => e = .returned (.bool false) ∧ w' = w := by
  obtain ⟨cs, q1, q2, q3, q4, q5⟩ := H.mmu
  have C0 := (blk_cell q1 0).trans q3
  have L0 := blk_lt q1
  go_enter Try.func49, Try.ntmps49
  go_wp2
  go_ret
  exact ⟨by first | rfl | (simp; done), rfl⟩
set_option maxHeartbeats 2000000 in
set_option maxRecDepth 100000 in
theorem pins_calls (H : Hyp w h n mb fb x g ev m1 m2 o) (d : Nat) (hd : d < 8) : Calls Try.prog 24 #[.pointer (some ⟨x, 0, none⟩), .int .i64 d] w fun e w' => e = .returned (.slice none 0 0) ∧ w' = w := by
  obtain ⟨cs, q1, q2, q3, q4, q5⟩ := H.mmu
  have dd : decide ((d : Int) < 8) = true := decide_eq_true (by omega)
  have C0 := (blk_cell q1 0).trans q3
  have CP := (blk_cell q1 _).trans (q4 d hd)
  have L0 := blk_lt q1
  go_enter Try.func24, Try.ntmps24
  go_wp2_with (first
    | (go_at_call 49; refine (mnone_calls H).mono ?_; rintro z w1 ⟨rfl, hw1⟩; obtain rfl := hw1.symm)
    | go_in)
  go_ret
  exact ⟨by first | rfl | (simp; done), rfl⟩
set_option maxHeartbeats 2000000 in
set_option maxRecDepth 100000 in
theorem root_calls (H : Hyp w h n mb fb x g ev m1 m2 o) (d : Nat) (hd : d < 8) : Calls Try.prog 25 #[.pointer (some ⟨x, 0, none⟩), .int .i64 d] w fun e w' => e = .returned (.int .i64 (-1)) ∧ w' = w := by
  obtain ⟨cs, q1, q2, q3, q4, q5⟩ := H.mmu
  have dd : decide ((d : Int) < 8) = true := decide_eq_true (by omega)
  have C0 := (blk_cell q1 0).trans q3
  have CP := (blk_cell q1 _).trans (q5 d hd)
  have L0 := blk_lt q1
  go_enter Try.func25, Try.ntmps25
  go_wp2_with (first
    | (go_at_call 49; refine (mnone_calls H).mono ?_; rintro z w1 ⟨rfl, hw1⟩; obtain rfl := hw1.symm)
    | go_in)
  go_ret
  exact ⟨by first | rfl | (simp; done), rfl⟩
end
end Go.Proofs.Ytkalnjfhkbnamaa.AuC
