/- Proved: the law AuditZero's walk. -/
import Derived.Test.YtkalnjfhkbnamaaAuG
namespace Go.Proofs.Ytkalnjfhkbnamaa.AuH
open Go.RowKit Go.Shelf Go.Proofs.Ytkalnjfhkbnamaa.Base Go.Proofs.Ytkalnjfhkbnamaa.Phys Go.Proofs.Ytkalnjfhkbnamaa.MaA Go.Proofs.Ytkalnjfhkbnamaa.MaB Go.Proofs.Ytkalnjfhkbnamaa.AuA Go.Proofs.Ytkalnjfhkbnamaa.AuB Go.Proofs.Ytkalnjfhkbnamaa.AuC Go.Proofs.Ytkalnjfhkbnamaa.AuD Go.Proofs.Ytkalnjfhkbnamaa.AuE Go.Proofs.Ytkalnjfhkbnamaa.AuF Go.Proofs.Ytkalnjfhkbnamaa.AuG
set_option linter.unusedVariables false

def zcells : Array Value := #[.pointer none, .pointer none, .pointer none, .pointer none,
  .int .i64 0, .int .i64 0, .int .i64 0, .pointer none, .int .i64 0, .int .i64 0, .int .i64 0, .pointer none, .int .i64 0, .int .i64 0, .int .i64 0, .pointer none, .int .i64 0, .int .i64 0, .int .i64 0, .pointer none,
  .int .i64 0, .int .i64 0, .int .i64 0, .pointer none, .int .i64 0, .int .i64 0, .int .i64 0, .pointer none, .int .i64 0, .int .i64 0, .int .i64 0, .pointer none, .int .i64 0, .int .i64 0, .int .i64 0, .pointer none]
set_option maxHeartbeats 8000000 in
set_option maxRecDepth 100000 in
theorem law (z : Int) (w : World) (h1 : 0 ≤ z) (h2 : z ≤ 255) :
    Calls Try.prog 3 #[.int .u8 z] w fun e w' => e = .returned (.bool true) ∧ Below w.heap.size w w' := by
  obtain ⟨n, hn⟩ : ∃ n : Nat, (n : Int) = 3 + z % 100 := ⟨(3 + z % 100).toNat, by omega⟩
  have n1 : 3 ≤ n := by omega
  have n2 : n ≤ 256 := by omega
  have n3 : n ≤ 1000 := by omega
  have hdn : ∀ W : World, Calls Try.prog 6 #[.int .i64 (3 + z % 100)] W fun e w' => ∃ h mb fb x g ev m1 m2 o, e = .returned (.tuple #[.pointer (some ⟨h, 0, none⟩), .int .i64 0]) ∧ Hyp w' h n mb fb x g ev m1 m2 o ∧ Below W.heap.size W w' := by
    intro W
    rw [← hn]
    exact dom_new W n n1 n2
  have hq : ((n : Int) == 3 + z % 100) = true := by rw [hn]; simp
  clear hn
  have hz0 := below_alloc (Below.refl w.heap.size w) (.cells zcells 39)
  have hau := audit_no (w.alloc (.cells zcells 39)) (.pointer (some ⟨w.heap.size, 0, none⟩)) (.inr ⟨_, _, rfl, blk_new w _, rfl⟩)
  unfold zcells at hau hz0
  go_enter Try.func3, Try.ntmps3
  go_wp2_with (first
    | (go_at_call 5; refine hau.mono ?_; rintro z1 w2 ⟨rfl, hB2⟩; have E2 := Aside.mk (below_step hz0 hB2); clear hB2)
    | (go_at_call 6; refine (hdn _).mono ?_; rintro z1 w3 ⟨h, mb, fb, x, g, ev, m1, m2, o, rfl, hH, hB3⟩; have hfr := frames_calls w3 hH n3; have E3 := Aside.mk (below_step E2.out hB3); clear hH hB3)
    | (go_at_call 4; with_reducible refine hfr.mono ?_; rintro z1 w4 ⟨a, c, rfl, hB4⟩; have E4 := Aside.mk (below_step E3.out hB4); clear hB4)
    | (go_at_call 4; with_reducible refine (frames_no w (.pointer none) (.inl rfl)).mono ?_; rintro z1 w1 ⟨rfl, hw1⟩; obtain rfl := hw1.symm)
    | go_in)
  go_ret
  exact ⟨by first | rfl | (simp; done), E4.out⟩
end Go.Proofs.Ytkalnjfhkbnamaa.AuH
