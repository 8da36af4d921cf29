/- Proved: who is ready and who has credit, as the queue and the entries tell it (lemmas and a contract for the law SchedFair). -/
import Derived.Test.YtpdelhipfleniaaAbH
namespace Go.Proofs.Ytpdelhipfleniaa.AbI
open Go.RowKit Go.Maps Go.Proofs.Ytpdelhipfleniaa.Base Go.Proofs.Ytpdelhipfleniaa.SchA Go.Proofs.Ytpdelhipfleniaa.PlB Go.Proofs.Ytpdelhipfleniaa.PlC Go.Proofs.Ytpdelhipfleniaa.PlD Go.Proofs.Ytpdelhipfleniaa.PlE Go.Proofs.Ytpdelhipfleniaa.PlF Go.Proofs.Ytpdelhipfleniaa.PlG Go.Proofs.Ytpdelhipfleniaa.PlH Go.Proofs.Ytpdelhipfleniaa.PlI Go.Proofs.Ytpdelhipfleniaa.PlJ Go.Proofs.Ytpdelhipfleniaa.PlK Go.Proofs.Ytpdelhipfleniaa.PlL Go.Proofs.Ytpdelhipfleniaa.RfA Go.Proofs.Ytpdelhipfleniaa.RfB Go.Proofs.Ytpdelhipfleniaa.RfC Go.Proofs.Ytpdelhipfleniaa.RfD Go.Proofs.Ytpdelhipfleniaa.RfE Go.Proofs.Ytpdelhipfleniaa.RfF Go.Proofs.Ytpdelhipfleniaa.RfG Go.Proofs.Ytpdelhipfleniaa.RfH Go.Proofs.Ytpdelhipfleniaa.AbA Go.Proofs.Ytpdelhipfleniaa.AbB Go.Proofs.Ytpdelhipfleniaa.AbC Go.Proofs.Ytpdelhipfleniaa.AbD Go.Proofs.Ytpdelhipfleniaa.AbE Go.Proofs.Ytpdelhipfleniaa.AbF Go.Proofs.Ytpdelhipfleniaa.AbG Go.Proofs.Ytpdelhipfleniaa.AbH
set_option linter.unusedVariables false

set_option maxHeartbeats 2000000 in
set_option maxRecDepth 100000 in
theorem has_calls {b1 : Nat} {w : World} {qa : Value} {q : List Int} (ha : Row b1 w qa q) (hl : q.length ≤ 1000) (n : Int) (hn : n ∈ q) :
    Calls Try.prog 23 #[qa, .int .i64 n] w fun z w' => z = .returned (.bool true) ∧ w' = w := by
  obtain ⟨a, cap, rfl, hca⟩ := ref_row (row_low ha)
  clear ha
  go_enter Try.func23, Try.ntmps23
  go_wp2
  go_loopw [5] (fun i wr => ∃ k : Nat, k ≤ q.length ∧ i = .int .i64 k ∧ wr = w ∧ Aside (n ∉ q.take k)) (fun i _ => q.length - (intOf i).toNat)
  case atStart => exact ⟨0, Nat.zero_le _, rfl, rfl, show n ∉ q.take 0 by simp⟩
  case round =>
    obtain ⟨k, hk, rfl, hwr, hne⟩ := hrel
    obtain rfl := hwr.symm
    by_cases hlt : k < q.length
    · obtain ⟨g, rfl, lt, hcell⟩ := hca k hlt
      have hget : q.getD k 0 = q[k] := by rw [List.getD_eq_getElem?_getD, List.getElem?_eq_getElem hlt]; rfl
      rw [hget] at hcell
      by_cases hx : q[k] = n
      · have hb : (q[k] == n) = true := by simpa using hx
        go_wp2
        go_ret
        exact ⟨by first | rfl | (simp; done), rfl⟩
      · have hb : (q[k] == n) = false := beq_eq_false_iff_ne.2 hx
        go_wp2
        refine ⟨⟨k + 1, by omega, by simp, trivial, ?_⟩, by simp [intOf]; omega⟩
        show n ∉ q.take (k + 1)
        rw [take_snoc q k hlt, List.mem_append, List.mem_singleton]
        exact fun h => h.elim hne.out (fun e => hx e.symm)
    · exfalso
      have := hne.out
      rw [List.take_of_length_le (by omega)] at this
      exact this hn

/-- What Vcpu tells of a number. -/
def vof (σ : St) (k : Nat) : V := if isn σ.p k then σ.e k else zeroV
/-- Is one of the first so many ready and has credit? -/
def uf (σ : St) (k : Nat) : Bool := (List.range k).any (fun j => (vof σ j).ready && decide (0 < (vof σ j).credit))
section
variable {σ : St}
theorem uf_succ (k : Nat) : uf σ (k + 1) = (uf σ k || ((vof σ k).ready && decide (0 < (vof σ k).credit))) := by
  unfold uf
  rw [List.range_succ, List.any_append]
  simp
theorem vof_ready (hi : Inv σ) (k : Nat) : (vof σ k).ready = true ↔ (k : Int) ∈ σ.q := by
  rw [hi.mem k]
  unfold vof
  constructor
  · intro h
    cases ho : isn σ.p k with
    | false => rw [ho, if_neg (by simp)] at h; cases h
    | true =>
      rw [ho, if_pos rfl] at h
      obtain ⟨j, e1, h16, hp⟩ := isn_some ho
      have : j = k := by omega
      subst this
      exact ⟨j, rfl, h16, hp, h⟩
  · rintro ⟨j, e1, h16, hp, h⟩
    have : j = k := by omega
    subst this
    rw [isn_nat _ _ h16, hp, if_pos rfl]
    exact h
theorem count_is (hi : Inv σ) (k : Nat) : σ.q.count (k : Int) = if (vof σ k).ready = true then 1 else 0 := by
  have h1 := List.nodup_iff_count.1 hi.nd (k : Int)
  by_cases h : (vof σ k).ready = true
  · rw [if_pos h]
    have h2 := List.count_pos_iff.2 ((vof_ready hi k).1 h)
    omega
  · rw [if_neg h]
    exact List.count_eq_zero.2 (fun h3 => h ((vof_ready hi k).2 h3))
theorem vof_absent {k : Nat} (h : isn σ.p k = false) : (vof σ k).ready = false := by
  unfold vof
  rw [h, if_neg (by simp)]
  rfl
/-- Where one under waits, one under runs. -/
theorem under_runs (hi : Inv σ) (hu : uf σ 16 = true) (n : Nat) (hn : nextOf σ.q σ.e = some (n : Int)) : 0 < (vof σ n).credit := by
  unfold uf at hu
  obtain ⟨j, hj, h⟩ := List.any_eq_true.1 hu
  simp only [Bool.and_eq_true, decide_eq_true_eq] at h
  have hq := (vof_ready hi j).1 h.1
  have hp : pos σ.e (j : Int) = true := by
    obtain ⟨i, e1, h16, hp, hr⟩ := (hi.mem j).1 hq
    have : i = j := by omega
    subst this
    have h2 := h.2
    unfold vof at h2
    rw [isn_nat _ _ h16, hp, if_pos rfl] at h2
    simpa [pos] using h2
  have hf : ∃ x, σ.q.find? (pos σ.e) = some x := by
    cases hc : σ.q.find? (pos σ.e) with
    | some x => exact ⟨x, rfl⟩
    | none => exact absurd hp (List.find?_eq_none.1 hc _ hq)
  obtain ⟨x, hx⟩ := hf
  unfold nextOf at hn
  rw [hx] at hn
  have e1 : x = (n : Int) := Option.some.inj hn
  subst e1
  have hpx := List.find?_some hx
  have hmx := List.mem_of_find?_eq_some hx
  obtain ⟨i, e2, h16, hpi, _⟩ := (hi.mem n).1 hmx
  have : i = n := by omega
  subst this
  unfold vof
  rw [isn_nat _ _ h16, hpi, if_pos rfl]
  simpa [pos] using hpx
end
end Go.Proofs.Ytpdelhipfleniaa.AbI
