/- Proved: what Drop of the document's answer for the scheduler does (contracts for the laws of the scheduler). -/
import Derived.Test.YtpdelhipfleniaaRfG
namespace Go.Proofs.Ytpdelhipfleniaa.RfH
open Go.RowKit Go.Maps Go.Proofs.Ytpdelhipfleniaa.Base Go.Proofs.Ytpdelhipfleniaa.SchA Go.Proofs.Ytpdelhipfleniaa.PlB Go.Proofs.Ytpdelhipfleniaa.PlC Go.Proofs.Ytpdelhipfleniaa.PlD Go.Proofs.Ytpdelhipfleniaa.PlE Go.Proofs.Ytpdelhipfleniaa.PlF Go.Proofs.Ytpdelhipfleniaa.PlG Go.Proofs.Ytpdelhipfleniaa.PlH Go.Proofs.Ytpdelhipfleniaa.PlI Go.Proofs.Ytpdelhipfleniaa.PlJ Go.Proofs.Ytpdelhipfleniaa.PlK Go.Proofs.Ytpdelhipfleniaa.PlL Go.Proofs.Ytpdelhipfleniaa.RfA Go.Proofs.Ytpdelhipfleniaa.RfB Go.Proofs.Ytpdelhipfleniaa.RfC Go.Proofs.Ytpdelhipfleniaa.RfD Go.Proofs.Ytpdelhipfleniaa.RfE Go.Proofs.Ytpdelhipfleniaa.RfF Go.Proofs.Ytpdelhipfleniaa.RfG
set_option linter.unusedVariables false

/-- Is slot k there, and a domain's? -/
def hit (p : Nat → Bool) (e : Nat → V) (dom : Int) (k : Nat) : Bool := p k && ((e k).dom == dom)
def dropP (p : Nat → Bool) (e : Nat → V) (dom : Int) (n : Nat) : Nat → Bool := fun j => p j && !(decide (j < n) && ((e j).dom == dom))
def dropQ (p : Nat → Bool) (e : Nat → V) (dom : Int) (n : Nat) (q : List Int) : List Int := q.filter (fun y => !(decide (y.toNat < n) && hit p e dom y.toNat))
def dropC (p : Nat → Bool) (e : Nat → V) (dom : Int) (n : Nat) : Nat := ((List.range n).filter (hit p e dom)).length
section
variable {X : Nat → Prop} {w w' W' : World} {R L : Nat} {cs : Array Value} {p : Nat → Bool} {e : Nat → V} {qv qv' : Value} {q q' : List Int} {t : Int} {dom : Int}
theorem dropP_zero : dropP p e dom 0 = p := by
  funext j
  simp [dropP]
theorem dropQ_zero : dropQ p e dom 0 q = q := by
  unfold dropQ
  rw [List.filter_eq_self]
  intro y _
  simp
theorem dropP_at (n : Nat) : dropP p e dom n n = p n := by simp [dropP]
theorem dropP_miss (n : Nat) (h : hit p e dom n = false) : dropP p e dom (n + 1) = dropP p e dom n := by
  funext j
  unfold dropP
  by_cases hj : j = n
  · subst hj
    unfold hit at h
    cases hp : p j
    · simp
    · rw [hp] at h
      simp at h
      simp [h]
  · rw [show decide (j < n + 1) = decide (j < n) from decide_eq_decide.2 (by omega)]
theorem dropP_hit (n : Nat) (h : hit p e dom n = true) : dropP p e dom (n + 1) = delP (dropP p e dom n) n := by
  funext j
  unfold dropP delP
  by_cases hj : j = n
  · subst hj
    unfold hit at h
    simp at h
    simp [h]
  · rw [if_neg hj, show decide (j < n + 1) = decide (j < n) from decide_eq_decide.2 (by omega)]
theorem dropQ_miss (n : Nat) (h : hit p e dom n = false) : dropQ p e dom (n + 1) q = dropQ p e dom n q := by
  unfold dropQ
  refine List.filter_congr fun y _ => ?_
  by_cases hj : y.toNat = n
  · rw [hj, h]
    simp
  · rw [show decide (y.toNat < n + 1) = decide (y.toNat < n) from decide_eq_decide.2 (by omega)]
theorem dropQ_hit (n : Nat) (h : hit p e dom n = true) (hq : Qin q p) : dropQ p e dom (n + 1) q = outr (dropQ p e dom n q) n := by
  unfold dropQ outr
  rw [List.filter_filter]
  refine List.filter_congr fun y hy => ?_
  obtain ⟨k, rfl, _, _⟩ := hq y hy
  rw [Int.toNat_natCast]
  by_cases hj : k = n
  · subst hj
    rw [h]
    simp
  · have : ((k : Int) != (n : Int)) = true := by simp; omega
    rw [this, Bool.true_and, show decide (k < n + 1) = decide (k < n) from decide_eq_decide.2 (by omega)]
theorem dropC_miss (n : Nat) (h : hit p e dom n = false) : dropC p e dom (n + 1) = dropC p e dom n := by
  unfold dropC
  rw [List.range_succ, List.filter_append]
  simp [h]
theorem dropC_hit (n : Nat) (h : hit p e dom n = true) : dropC p e dom (n + 1) = dropC p e dom n + 1 := by
  unfold dropC
  rw [List.range_succ, List.filter_append]
  simp [h]
theorem dropC_le (n : Nat) : dropC p e dom n ≤ n := by
  unfold dropC
  have := List.length_filter_le (hit p e dom) (List.range n)
  rwa [List.length_range] at this
theorem dropQ_len (n : Nat) : (dropQ p e dom n q).length ≤ q.length := List.length_filter_le _ _

set_option maxHeartbeats 4000000 in
set_option maxRecDepth 100000 in
theorem rdrop_calls (h : Ref X w R L cs p e qv q t) (hb : Old X w) (hq : Qin q p) (hl : q.length ≤ 16) (dom : Int) :
    Calls Try.prog 35 #[.pointer (some ⟨R, 0, none⟩), .int .i64 dom] w fun z w' => z = .returned (.int .i64 (dropC p e dom 16)) ∧ ∃ cs' qv', Ref X w' R L cs' (dropP p e dom 16) e qv' (dropQ p e dom 16 q) t ∧ Kept X w w' := by
  have H : Base.Aside (∃ cs' qv', Ref X w R L cs' (dropP p e dom 0) e qv' (dropQ p e dom 0 q) t ∧ Kept X w w) := Aside.mk ⟨cs, qv, by rw [dropP_zero, dropQ_zero]; exact h, Kept.refl _ _⟩
  clear h
  go_enter Try.func35, Try.ntmps35
  go_wp2
  go_loopw [5, 6] (fun m i wr => ∃ (k : Nat) (W2 : World), k ≤ 16 ∧ m = .int .i64 (dropC p e dom k) ∧ i = .int .i64 k ∧ wr = W2 ∧ Aside (∃ cs' qv', Ref X W2 R L cs' (dropP p e dom k) e qv' (dropQ p e dom k q) t ∧ Kept X w W2)) (fun _ i _ => 16 - (intOf i).toNat)
  case atStart => exact ⟨0, w, Nat.zero_le _, rfl, rfl, rfl, H.out⟩
  case round =>
    obtain ⟨k, W2, hk, rfl, rfl, hwr, hE⟩ := hrel
    obtain rfl := hwr.symm
    obtain ⟨cs1, qv1, hR, hK⟩ := hE.out
    have C0 := fun i => blk_cell hR.blk i
    have L0 := blk_lt hR.blk
    have L1 := blk_lt hR.lst
    have hcle := dropC_le (p := p) (e := e) (dom := dom) k
    clear H
    by_cases hlt : k < 16
    · have D := hR.is k hlt
      rw [dropP_at] at D
      cases hp : p k with
      | true =>
        rw [hp] at D
        have hp2 : dropP p e dom k k = true := (dropP_at k).trans hp
        have D0 := hR.at k hlt hp2 0 (by omega)
        simp only [vcells, Nat.add_zero] at D0
        by_cases hd : (e k).dom = dom
        · have b1 : ((e k).dom == dom) = true := by simpa using hd
          have hh : hit p e dom k = true := by rw [hit, hp, b1]; rfl
          have hb1 : Old X W2 := Old.up hb hK.size
          have hl1 : (dropQ p e dom k q).length ≤ 1000 := Nat.le_trans (dropQ_len k) (by omega)
          have hrm := rremove_calls hR hb1 k hlt hp2 hl1
          have HK := Aside.mk hK
          clear hR hK hE
          go_wp2_with (first
            | (go_at_call 34; refine hrm.mono ?_; rintro z w3 ⟨rfl, cs3, qv3, h3, hK3⟩; have H3 := Aside.mk (And.intro h3 (HK.out.trans hK3)); clear h3 hK3)
            | go_in)
          refine ⟨⟨k + 1, w3, by omega, by rw [dropC_hit k hh]; simp, by simp, rfl, ?_⟩, by simp [intOf]; omega⟩
          refine ⟨cs3, qv3, ?_, H3.out.2⟩
          rw [dropP_hit k hh, dropQ_hit k hh hq]
          exact H3.out.1
        · have b1 : ((e k).dom == dom) = false := beq_eq_false_iff_ne.2 hd
          have hh : hit p e dom k = false := by rw [hit, b1, Bool.and_false]
          have HE := Aside.mk hE.out
          clear hR hK hE
          go_wp2
          refine ⟨⟨k + 1, W2, by omega, by rw [dropC_miss k hh], by simp, rfl, ?_⟩, by simp [intOf]; omega⟩
          rw [dropP_miss k hh, dropQ_miss k hh]
          exact HE.out
      | false =>
        rw [hp] at D
        have hh : hit p e dom k = false := by rw [hit, hp]; rfl
        have HE := Aside.mk hE.out
        clear hR hK hE
        go_wp2
        refine ⟨⟨k + 1, W2, by omega, by rw [dropC_miss k hh], by simp, rfl, ?_⟩, by simp [intOf]; omega⟩
        rw [dropP_miss k hh, dropQ_miss k hh]
        exact HE.out
    · obtain rfl : k = 16 := by omega
      have HE := Aside.mk hE.out
      clear hR hK hE
      go_wp2
      go_ret
      obtain ⟨c9, q9, h9, k9⟩ := HE.out
      refine ⟨by first | rfl | (simp; done), ?_⟩
      first
        | exact ⟨c9, q9, h9, k9⟩
        | exact ⟨⟨c9, q9, h9⟩, k9⟩
end
end Go.Proofs.Ytpdelhipfleniaa.RfH
