/- Proved: what pick of the document's answer for the scheduler does (contracts for the laws of the scheduler). -/
import Derived.Test.YtpdelhipfleniaaRfD
namespace Go.Proofs.Ytpdelhipfleniaa.RfE
open Go.RowKit Go.Maps Go.Proofs.Ytpdelhipfleniaa.Base Go.Proofs.Ytpdelhipfleniaa.SchA Go.Proofs.Ytpdelhipfleniaa.PlB Go.Proofs.Ytpdelhipfleniaa.PlC Go.Proofs.Ytpdelhipfleniaa.PlD Go.Proofs.Ytpdelhipfleniaa.PlE Go.Proofs.Ytpdelhipfleniaa.PlF Go.Proofs.Ytpdelhipfleniaa.PlG Go.Proofs.Ytpdelhipfleniaa.PlH Go.Proofs.Ytpdelhipfleniaa.PlI Go.Proofs.Ytpdelhipfleniaa.PlJ Go.Proofs.Ytpdelhipfleniaa.PlK Go.Proofs.Ytpdelhipfleniaa.PlL Go.Proofs.Ytpdelhipfleniaa.RfA Go.Proofs.Ytpdelhipfleniaa.RfB Go.Proofs.Ytpdelhipfleniaa.RfC Go.Proofs.Ytpdelhipfleniaa.RfD
set_option linter.unusedVariables false

/-- All in the queue are numbers of entries. -/
def Qin (q : List Int) (p : Nat → Bool) : Prop := ∀ x ∈ q, ∃ k : Nat, x = (k : Int) ∧ k < 16 ∧ p k = true
section
variable {X : Nat → Prop} {w w' W' : World} {R L : Nat} {cs : Array Value} {p : Nat → Bool} {e : Nat → V} {qv qv' : Value} {q q' : List Int} {t : Int}
theorem tickR_pos (j : Nat) (hj : j < q.length) (h : pos e q[j] = true) (hne : ∀ i, i < j → pos e (q.getD i 0) = false) : tickR e q = q[j] := by
  rw [tickR, nextOf, find_at q (pos e) j hj h hne]
theorem tickR_any (hne : ∀ i, i < q.length → pos e (q.getD i 0) = false) (h0 : 0 < q.length) : tickR e q = q[0] := by
  rw [tickR, nextOf, find_no q (pos e) hne, find_at q any 0 h0 rfl (fun i hi => absurd hi (Nat.not_lt_zero _))]
set_option maxHeartbeats 2000000 in
set_option maxRecDepth 100000 in
theorem pick_calls (h : Ref X w R L cs p e qv q t) (hq : Qin q p) (hl : q.length ≤ 1000) :
    Calls Try.prog 38 #[.pointer (some ⟨R, 0, none⟩)] w fun z w' => z = .returned (.int .i64 (tickR e q)) ∧ ∃ n, w' = w.drewN n := by
  have C0 := fun i => blk_cell h.blk i
  have L0 := blk_lt h.blk
  have L1 := blk_lt h.lst
  rcases Row.form h.row with ⟨rfl, rfl⟩ | ⟨g, cap, cur, rfl, _, hbk, hcap, hmax, _, _⟩
  · go_enter Try.func38, Try.ntmps38
    go_wp2
    go_loop [3] (fun i => i = .int .i64 0) (fun _ => 0)
    case atStart => rfl
    case round =>
      subst hrel
      go_wp2
      go_ret
      exact ⟨by first | rfl | (simp; done), 0, rfl⟩
  · have lt := blk_lt hbk
    have hcs := fun j hj => Row.cell h.row j hj
    have hat := fun k hk hp => h.at k hk hp 3 (by omega)
    simp only [vcells] at hat
    clear h hbk
    go_enter Try.func38, Try.ntmps38
    go_wp2
    go_loopw [3] (fun i wr => ∃ k : Nat, k ≤ q.length ∧ i = .int .i64 k ∧ (∃ n, wr = w.drewN n) ∧ Aside (∀ j, j < k → pos e (q.getD j 0) = false)) (fun i _ => q.length - (intOf i).toNat)
    case atStart => exact ⟨0, Nat.zero_le _, rfl, ⟨0, rfl⟩, fun j hj => absurd hj (Nat.not_lt_zero _)⟩
    case round =>
      obtain ⟨k, hk, rfl, ⟨n, hwr⟩, hne⟩ := hrel
      obtain rfl := hwr
      by_cases hlt : k < q.length
      · have hcell := hcs k hlt
        have hget : q.getD k 0 = q[k] := by rw [List.getD_eq_getElem?_getD, List.getElem?_eq_getElem hlt]; rfl
        rw [hget] at hcell
        obtain ⟨m, em, hm, hpm⟩ := hq _ (List.getElem_mem hlt)
        have hcell0 := hcell
        rw [em] at hcell
        have D := hat m hm hpm
        by_cases hp : 0 < (e m).credit
        · have b1 : (decide (0 < (e m).credit)) = true := decide_eq_true hp
          have hpos : pos e q[k] = true := by rw [em]; simpa [pos] using hp
          have ht := Aside.mk (tickR_pos k hlt hpos hne.out)
          clear hcell0 hpos
          go_wp2
          go_quiet (fail)
          go_wp2
          go_ret
          exact ⟨by rw [ht.out, em]; first | rfl | (simp; done), n + _, rfl⟩
        · have b1 : (decide (0 < (e m).credit)) = false := decide_eq_false hp
          have hpos : pos e (q.getD k 0) = false := by rw [hget, em]; simpa [pos] using hp
          clear hcell0
          go_wp2
          go_quiet (fail)
          go_wp2
          refine ⟨⟨k + 1, by omega, by simp, ⟨n + _, rfl⟩, fun j hj => ?_⟩, by simp [intOf]; omega⟩
          by_cases e1 : j = k
          · subst e1
            exact hpos
          · exact hne.out j (by omega)
      · obtain rfl : k = q.length := by omega
        by_cases h0 : 0 < q.length
        · have hcell := hcs 0 h0
          have hget : q.getD 0 0 = q[0] := by rw [List.getD_eq_getElem?_getD, List.getElem?_eq_getElem h0]; rfl
          rw [hget] at hcell
          have ht := Aside.mk (tickR_any hne.out h0)
          have b0 : (((q.length : Nat) : Int) == 0) = false := beq_eq_false_iff_ne.2 (by omega)
          go_wp2
          go_ret
          exact ⟨by rw [ht.out]; first | rfl | (simp; done), n, rfl⟩
        · have b0 : (((q.length : Nat) : Int) == 0) = true := by simp; exact List.length_eq_zero_iff.1 (by omega)
          have hq0 : q = [] := List.length_eq_zero_iff.1 (by omega)
          go_wp2
          go_ret
          exact ⟨by rw [hq0]; rfl, n, rfl⟩
end
end Go.Proofs.Ytpdelhipfleniaa.RfE
