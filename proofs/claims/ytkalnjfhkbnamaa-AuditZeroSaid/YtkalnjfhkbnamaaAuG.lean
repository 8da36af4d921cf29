/- Proved: of a hypervisor that nobody made nothing is told, and of a new one as many frames as it has (the walk of the law AuditZero). -/
import Derived.Test.YtkalnjfhkbnamaaAuF
import Derived.Maps.AppendAt
namespace Go.Proofs.Ytkalnjfhkbnamaa.AuG
open Go.RowKit Go.Shelf Go.Proofs.Ytkalnjfhkbnamaa.Base Go.Proofs.Ytkalnjfhkbnamaa.Phys Go.Proofs.Ytkalnjfhkbnamaa.MaA Go.Proofs.Ytkalnjfhkbnamaa.MaB Go.Proofs.Ytkalnjfhkbnamaa.AuA Go.Proofs.Ytkalnjfhkbnamaa.AuB Go.Proofs.Ytkalnjfhkbnamaa.AuC Go.Proofs.Ytkalnjfhkbnamaa.AuD Go.Proofs.Ytkalnjfhkbnamaa.AuE Go.Proofs.Ytkalnjfhkbnamaa.AuF
set_option linter.unusedVariables false

/-- A hypervisor that nobody made: none at all, or a block of zeros. -/
def NoHyper (w : World) (p : Value) : Prop := p = .pointer none ∨ ∃ g cs, p = .pointer (some ⟨g, 0, none⟩) ∧ w.heap[g]? = some (.cells cs 39 (0, 0)) ∧ cs[0]? = some (.pointer none)
set_option maxHeartbeats 2000000 in
set_option maxRecDepth 100000 in
theorem hnone_no (w : World) (p : Value) (h : NoHyper w p) : Calls Try.prog 20 #[p] w fun e w' => e = .returned (.bool true) ∧ w' = w := by
  rcases h with rfl | ⟨g, cs, rfl, hb, h0⟩
  · go_enter Try.func20, Try.ntmps20
    go_wp2
    go_ret
    exact ⟨by first | rfl | (simp; done), rfl⟩
  · have C0 := (blk_cell hb 0).trans h0
    have L0 := blk_lt hb
    go_enter Try.func20, Try.ntmps20
    go_wp2
    go_ret
    exact ⟨by first | rfl | (simp; done), rfl⟩
set_option maxHeartbeats 2000000 in
set_option maxRecDepth 100000 in
theorem machine_no (w : World) (p : Value) (h : NoHyper w p) : Calls Try.prog 7 #[p] w fun e w' => e = .returned (.pointer none) ∧ w' = w := by
  go_enter Try.func7, Try.ntmps7
  go_wp2_with (first
    | (go_at_call 20; refine (hnone_no w p h).mono ?_; rintro z w1 ⟨rfl, hw1⟩; obtain rfl := hw1.symm)
    | go_in)
  go_ret
  exact ⟨by first | rfl | (simp; done), rfl⟩
set_option maxHeartbeats 2000000 in
set_option maxRecDepth 100000 in
theorem frames_no (w : World) (p : Value) (h : NoHyper w p) : Calls Try.prog 4 #[p] w fun e w' => e = .returned (.tuple #[.slice none 0 0, .int .i64 7]) ∧ w' = w := by
  go_enter Try.func4, Try.ntmps4
  go_wp2_with (first
    | (go_at_call 7; refine (machine_no w p h).mono ?_; rintro z w1 ⟨rfl, hw1⟩; obtain rfl := hw1.symm)
    | go_in)
  go_ret2
  exact ⟨by first | rfl | (simp; done), rfl⟩
set_option maxHeartbeats 2000000 in
set_option maxRecDepth 100000 in
theorem audit_no (w : World) (p : Value) (h : NoHyper w p) : Calls Try.prog 5 #[p] w fun e w' => e = .returned (.tuple #[.slice none 0 0, .int .i64 7]) ∧ Below w.heap.size w w' := by
  go_enter Try.func5, Try.ntmps5
  go_wp2_with (first
    | (go_at_call 7; refine (machine_no w p h).mono ?_; rintro z w1 ⟨rfl, hw1⟩; obtain rfl := hw1.symm)
    | go_in)
  go_ret2
  exact ⟨by first | rfl | (simp; done), Below.refl _ _⟩

/-- What Frames holds in memory in its loop. -/
structure FmAt (w1 W : World) (h n mb fb x g ev m1 m2 : Nat) (o : Nat → Int) (c k : Nat) (v : Value) (xs : List Value) : Prop where
  row : W.ownsRow w1.heap.size 49 4 v k xs
  bel : Below w1.heap.size w1 W
theorem ownsRow_form {W : World} {b e s k : Nat} {v : Value} {xs : List Value} (h : W.ownsRow b e s v k xs) : ∃ a c, v = .slice a k c := by
  obtain ⟨_, ⟨rfl, rfl⟩ | ⟨g, cap, cur, rfl, _⟩⟩ := h
  · exact ⟨_, _, rfl⟩
  · exact ⟨_, _, rfl⟩
theorem cell_four_new (w : World) (a b c d : Value) (t : TypeId) : ∀ j u, [a, b, c, d][j]? = some u → (w.alloc (.cells #[a, b, c, d] t)).cell? ((⟨w.heap.size, 0, none⟩ : Addr).add j) = some u := by
  intro j u hj
  have e : #[a, b, c, d][j]? = some u := by simpa using hj
  have e2 : (⟨w.heap.size, 0, none⟩ : Addr).add j = ⟨w.heap.size, j, none⟩ := by
    simp [Addr.add]
    omega
  rw [e2]
  exact (blk_cell (blk_new w (.cells #[a, b, c, d] t)) j).trans e
theorem row_keep {W W' : World} {b e s k : Nat} {v : Value} {xs : List Value} (h : W.ownsRow b e s v k xs) (hb : Below W.heap.size W W') : W'.ownsRow b e s v k xs :=
  h.kept (row := none) ⟨hb.os, hb.tape, hb.output, hb.size, fun k hk _ => hb.block k hk⟩ (by cases hq : v.ownBlock; exact .inl rfl; exact .inr (by simp))
section
variable {w : World} {h n mb fb x g ev m1 m2 : Nat} {o : Nat → Int}
set_option maxHeartbeats 8000000 in
set_option maxRecDepth 100000 in
theorem frames_calls (w : World) (H : Hyp w h n mb fb x g ev m1 m2 o) (hn : n ≤ 1000) : Calls Try.prog 4 #[.pointer (some ⟨h, 0, none⟩)] w fun e w' => ∃ a c, e = .returned (.tuple #[.slice a n c, .int .i64 0]) ∧ Below w.heap.size w w' := by
  obtain ⟨i0, hi, hz0, hz1, hz2⟩ := info_parts infoF
  have hcnt := count_calls w hn H
  go_enter Try.func4, Try.ntmps4
  go_wp2_with (first
    | (go_at_call 7; first | (refine (machine_calls H).mono ?_; rintro z w1 ⟨rfl, hw1⟩; obtain rfl := hw1.symm) | (refine (machine_calls E1.out.1).mono ?_; rintro z w2 ⟨rfl, hw1⟩; obtain rfl := hw1.symm))
    | (go_at_call 8; refine hcnt.mono ?_; rintro z w1 ⟨c, rfl, hc, hB1⟩; have E1 := Aside.mk (And.intro (H.below hB1) (And.intro hc hB1)); clear hc hB1)
    | (go_at_call 9; refine (size_calls E1.out.1.mach).mono ?_; rintro z w2 ⟨rfl, hw1⟩; obtain rfl := hw1.symm)
    | go_in)
  clear hcnt
  go_loopw [5, 15] (fun v i wr => ∃ (k : Nat) (W2 : World) (xs : List Value), k ≤ n ∧ i = .int .i64 k ∧ wr = W2 ∧ Aside (W2.ownsRow w1.heap.size 49 4 v k xs ∧ Below w1.heap.size w1 W2)) (fun _ v _ => n - (intOf v).toNat)
  case atStart => exact ⟨0, w1, [], Nat.zero_le _, rfl, rfl, World.ownsRow_nil _ _ _ _, Below.refl _ _⟩
  case round =>
    obtain ⟨k, W2, xs, hk, rfl, hwr, hE⟩ := hrel
    obtain rfl := hwr.symm
    by_cases hlt : k < n
    · have hcf := cframe_calls (E1.out.1.below hE.out.2) c (blk_below E1.out.2.1 (blk_lt E1.out.2.1) hE.out.2) k hlt hn
      have hrow := hE.out.1
      go_wp2_with (first
        | (go_at_call 10; refine hcf.mono ?_; rintro z w4 ⟨rfl, hB4⟩; have hr4 := row_keep hrow hB4; have E4 := Aside.mk (hE.out.2.trans (hB4.mono hE.out.2.size)); clear hB4)
        | (at_builtin; refine wpList_append_own_at _ rfl _ _ 22 rfl w1.heap.size 49 i0 (.agg #[.int .i64 0, .int .i64 0, .int .i64 0, .int .i64 0]) 4 32 Try.underlying22 hi hz0 hz1 hz2 rfl (by decide) _ k _ rfl (hr4.alloc _) ⟨w4.heap.size, 0, none⟩ 1 1 [.int .i64 (o k), .int .i64 0, .int .i64 0, .int .i64 0] rfl rfl (cell_four_new _ _ _ _ _ _) (ints_oneCell .i64 [o k, 0, 0, 0]) (by unfold maxLen; omega) (by omega) (by have := E4.out.size; simp; omega) ?_; intro v' w5 hown' hg5 hnil5 hloc5; have E5 := Aside.mk (And.intro hown' ((E4.out.alloc E4.out.size _).grown hg5 (by have := E4.out.size; simp; omega) (fun j hj => (hr4.lt j hj).1))); clear hown' hg5 hnil5 hloc5)
        | go_in)
      exact ⟨⟨k + 1, w5, _, by omega, by simp, rfl, E5.out⟩, by simp [intOf]; omega⟩
    · obtain rfl : k = n := by omega
      obtain ⟨a, cc, rfl⟩ := ownsRow_form hE.out.1
      go_wp2
      go_ret2
      have hz := E1.out.2.2.trans (hE.out.2.mono E1.out.2.2.size)
      first
        | exact hz
        | exact ⟨_, _, rfl, hz⟩
        | exact ⟨⟨_, _, rfl⟩, hz⟩
end
end Go.Proofs.Ytkalnjfhkbnamaa.AuG
