/- Proved: what period of the document's answer for the scheduler does (contracts for the laws of the scheduler). -/
import Derived.Test.YtpdelhipfleniaaRfE
namespace Go.Proofs.Ytpdelhipfleniaa.RfF
open Go.RowKit Go.Maps Go.Proofs.Ytpdelhipfleniaa.Base Go.Proofs.Ytpdelhipfleniaa.SchA Go.Proofs.Ytpdelhipfleniaa.PlB Go.Proofs.Ytpdelhipfleniaa.PlC Go.Proofs.Ytpdelhipfleniaa.PlD Go.Proofs.Ytpdelhipfleniaa.PlE Go.Proofs.Ytpdelhipfleniaa.PlF Go.Proofs.Ytpdelhipfleniaa.PlG Go.Proofs.Ytpdelhipfleniaa.PlH Go.Proofs.Ytpdelhipfleniaa.PlI Go.Proofs.Ytpdelhipfleniaa.PlJ Go.Proofs.Ytpdelhipfleniaa.PlK Go.Proofs.Ytpdelhipfleniaa.PlL Go.Proofs.Ytpdelhipfleniaa.RfA Go.Proofs.Ytpdelhipfleniaa.RfB Go.Proofs.Ytpdelhipfleniaa.RfC Go.Proofs.Ytpdelhipfleniaa.RfD Go.Proofs.Ytpdelhipfleniaa.RfE
set_option linter.unusedVariables false

/-- Weights and caps are such as Add lets in. -/
def Vin (p : Nat → Bool) (e : Nat → V) : Prop := ∀ k, p k = true → 1 ≤ (e k).weight ∧ (e k).weight ≤ 1024 ∧ 0 ≤ (e k).cap ∧ (e k).cap ≤ 100
theorem ref_row {w : World} {qv : Value} {q : List Int} (h : w.ownsRow 0 3 1 qv q.length (q.map (Value.int .i64))) : ∃ a cap, qv = .slice a q.length cap ∧ ∀ j, j < q.length → ∃ g, a = some ⟨g, 0, none⟩ ∧ g < w.heap.size ∧ w.cell? ⟨g, j, none⟩ = some (.int .i64 (q.getD j 0)) := by
  rcases Row.form h with ⟨rfl, rfl⟩ | ⟨g, cap, cur, rfl, _, hbk, hcap, hmax, _, _⟩
  · exact ⟨none, 0, rfl, fun j hj => absurd hj (Nat.not_lt_zero _)⟩
  · exact ⟨_, cap, rfl, fun j hj => ⟨g, rfl, blk_lt hbk, Row.cell h j hj⟩⟩
/-- Credits to the ready ones among the first slots. -/
def giveP (W : Int) (p : Nat → Bool) (e : Nat → V) (n : Nat) : Nat → V := fun j => if j < n ∧ p j = true ∧ (e j).ready = true then give (e j) W else e j
section
variable {X : Nat → Prop} {w w' W' : World} {R L : Nat} {cs : Array Value} {p : Nat → Bool} {e : Nat → V} {qv qv' : Value} {q q' : List Int} {t : Int}
theorem giveP_zero (W : Int) : giveP W p e 0 = e := by
  funext j
  exact if_neg (fun h => absurd h.1 (Nat.not_lt_zero _))
theorem giveP_at (W : Int) (n : Nat) : giveP W p e n n = e n := if_neg (fun h => absurd h.1 (Nat.lt_irrefl _))
theorem giveP_skip (W : Int) (n : Nat) (h : ¬ (p n = true ∧ (e n).ready = true)) : giveP W p e (n + 1) = giveP W p e n := by
  funext j
  unfold giveP
  by_cases hj : j = n
  · subst hj
    rw [if_neg (fun h2 => h h2.2), if_neg (fun h2 => h h2.2)]
  · by_cases h2 : j < n ∧ p j = true ∧ (e j).ready = true
    · rw [if_pos h2, if_pos ⟨by omega, h2.2⟩]
    · rw [if_neg h2, if_neg (fun h3 => h2 ⟨by omega, h3.2⟩)]
theorem giveP_step (W : Int) (n : Nat) (h : p n = true ∧ (e n).ready = true) : giveP W p e (n + 1) = fun j => if j = n then give (e n) W else giveP W p e n j := by
  funext j
  by_cases hj : j = n
  · subst hj
    rw [if_pos rfl]
    exact if_pos ⟨by omega, h⟩
  · rw [if_neg hj]
    unfold giveP
    by_cases h2 : j < n ∧ p j = true ∧ (e j).ready = true
    · rw [if_pos h2, if_pos ⟨by omega, h2.2⟩]
    · rw [if_neg h2, if_neg (fun h3 => h2 ⟨by omega, h3.2⟩)]
theorem sumW_in (hv : Vin p e) : ∀ q : List Int, Qin q p → (q.length : Int) ≤ sumW e q ∧ sumW e q ≤ 1024 * q.length := by
  intro q
  induction q with
  | nil => intro _; exact ⟨Int.le_refl _, Int.le_refl _⟩
  | cons x q ih =>
    intro hq
    obtain ⟨k, rfl, hk, hg⟩ := hq x (List.mem_cons_self ..)
    have h := hv k hg
    have := ih (fun y hy => hq y (List.mem_cons_of_mem _ hy))
    simp only [sumW, List.length_cons, Int.toNat_natCast]
    omega
theorem Qin.take (h : Qin q p) (k : Nat) : Qin (q.take k) p := fun x hx => h x (List.mem_of_mem_take hx)
theorem _root_.Go.Proofs.Ytpdelhipfleniaa.RfA.Ref.drewN (h : Ref X w R L cs p e qv q t) (n : Nat) : Ref X (w.drewN n) R L cs p e qv q t := by
  have hh : (w.drewN n).heap = w.heap := by simp
  refine ⟨by rw [hh]; exact h.blk, by rw [hh]; exact h.lst, h.size, h.slot, h.row.kept (row := none) ⟨rfl, rfl, rfl, Nat.le_refl _, fun k hk _ => by rw [hh]⟩ (by cases hq : qv.ownBlock; exact .inl rfl; exact .inr (by simp)), h.bR, h.bL, h.bQ⟩
theorem _root_.Go.Proofs.Ytpdelhipfleniaa.RfA.Ref.at0 (h : Ref X w R L cs p e qv q t) (k : Nat) (hk : k < 16) (hp : p k = false) (j : Nat) (hj : j < 6) : w.cell? ⟨L, k * 7 + 1 + j, none⟩ = (vcells zeroV)[j]? := by
  have := h.cell k hk (1 + j) (by omega)
  rw [← Nat.add_assoc] at this
  rw [this, scells, hp, if_neg (by simp), Nat.add_comm 1 j, List.getElem?_cons_succ, Array.getElem?_toList]
theorem Kept.drewN (h : Kept X w w') (n : Nat) : Kept X w (w'.drewN n) := h.trans ⟨rfl, rfl, rfl, Nat.le_refl _, fun k hk => rfl⟩

set_option maxHeartbeats 4000000 in
set_option maxRecDepth 100000 in
theorem period_calls (h : Ref X w R L cs p e qv q t) (hb : Old X w) (hq : Qin q p) (hv : Vin p e) (hl : q.length ≤ 16) (hr : ∀ k, k < 16 → p k = true → (e k).ready = true → q ≠ []) :
    Calls Try.prog 40 #[.pointer (some ⟨R, 0, none⟩)] w fun z w' => z = .returned (.tuple #[]) ∧ ∃ cs', Ref X w' R L cs' p (giveP (sumW e q) p e 16) qv q t ∧ Kept X w w' := by
  have C0 := fun i => blk_cell h.blk i
  have L0 := blk_lt h.blk
  have L1 := blk_lt h.lst
  obtain ⟨hsum1, hsum2⟩ := sumW_in hv q hq
  obtain ⟨a, cap, rfl, hcs⟩ := ref_row h.row
  have hat := fun k hk hp => h.at k hk hp 1 (by omega)
  simp only [vcells] at hat
  have H := Aside.mk h
  clear h
  go_enter Try.func40, Try.ntmps40
  go_wp2
  go_loopw [2, 3] (fun s i wr => ∃ k : Nat, k ≤ q.length ∧ i = .int .i64 k ∧ s = .int .i64 (sumW e (q.take k)) ∧ (∃ n, wr = w.drewN n)) (fun _ i _ => q.length - (intOf i).toNat)
  case atStart => exact ⟨0, Nat.zero_le _, rfl, rfl, ⟨0, rfl⟩⟩
  case round =>
    obtain ⟨k, hk, rfl, rfl, n, hwr⟩ := hrel
    obtain rfl := hwr
    by_cases hlt : k < q.length
    · obtain ⟨g, rfl, lt, hcell⟩ := hcs k hlt
      have hget : q.getD k 0 = q[k] := by rw [List.getD_eq_getElem?_getD, List.getElem?_eq_getElem hlt]; rfl
      rw [hget] at hcell
      obtain ⟨m, em, hm, hpm⟩ := hq _ (List.getElem_mem hlt)
      rw [em] at hcell
      have D := hat m hm hpm
      have hs := sumW_in hv (q.take k) (Qin.take hq k)
      rw [List.length_take] at hs
      have hvm := hv m hpm
      have e1 : sumW e (q.take (k + 1)) = sumW e (q.take k) + (e m).weight := by rw [take_snoc q k hlt, sumW_snoc, em, Int.toNat_natCast]
      go_wp2
      go_quiet (fail)
      go_wp2
      exact ⟨⟨k + 1, by omega, by simp, by rw [e1], ⟨n + _, rfl⟩⟩, by simp [intOf]; omega⟩
    · obtain rfl : k = q.length := by omega
      rw [List.take_length]
      have H2 : Base.Aside (∃ cs', Ref X (w.drewN n) R L cs' p (giveP (sumW e q) p e 0) (.slice a q.length cap) q t ∧ Kept X w (w.drewN n)) := Aside.mk ⟨_, by rw [giveP_zero]; exact H.out.drewN n, Kept.drewN (Kept.refl X w) n⟩
      go_wp2
      clear hcs hat C0 L0 L1
      go_loopw [4] (fun i wr => ∃ k : Nat, k ≤ 16 ∧ i = .int .i64 k ∧ Aside (∃ cs', Ref X wr R L cs' p (giveP (sumW e q) p e k) (.slice a q.length cap) q t ∧ Kept X w wr)) (fun i _ => 16 - (intOf i).toNat)
      case atStart => exact ⟨0, Nat.zero_le _, rfl, H2.out⟩
      case round =>
        rename_i wr
        obtain ⟨k, hk, rfl, hE⟩ := hrel
        obtain ⟨cs1, hR, hK⟩ := hE.out
        have C0 := fun i => blk_cell hR.blk i
        have L0 := blk_lt hR.blk
        have L1 := blk_lt hR.lst
        have F1 := fun i => blk_frozen hR.lst i
        by_cases hlt : k < 16
        · have D := hR.is k hlt
          cases hp : p k with
          | true =>
            rw [hp] at D
            have C1 := hR.at k hlt hp 0 (by omega)
            have C2 := hR.at k hlt hp 1 (by omega)
            have C3 := hR.at k hlt hp 2 (by omega)
            have C4 := hR.at k hlt hp 3 (by omega)
            have C5 := hR.at k hlt hp 4 (by omega)
            have C6 := hR.at k hlt hp 5 (by omega)
            rw [giveP_at] at C1 C2 C3 C4 C5 C6
            simp only [vcells, Nat.add_zero] at C1 C2 C3 C4 C5 C6
            have hN := blk_new wr (.cells (vcells (e k)) 36)
            have CN := fun i => blk_cell hN i
            have FN := fun i => blk_frozen hN i
            cases hrd : (e k).ready with
            | true =>
              have hvk := hv k hp
              have hne := hr k hlt hp hrd
              have hpos : 0 < q.length := List.length_pos_iff.2 hne
              have hx0 : (sumW e q == 0) = false := beq_eq_false_iff_ne.2 (by omega)
              rw [hrd] at C5
              have hb1 : Old X wr := Old.up hb hK.size
              have h2 := hR.entry k hlt hp 3 (by omega) (.int .i64 (give (e k) (sumW e q)).credit) (give (e k) (sumW e q)) (by rw [giveP_at]; rfl)
              have H3 : Base.Aside (∀ o : Obj, (∃ cs', Ref X (((wr.setCell ⟨L, k * 7 + 1 + 3, none⟩ (.int .i64 (give (e k) (sumW e q)).credit)).alloc o).drewN 1) R L cs' p (fun j => if j = k then give (e k) (sumW e q) else giveP (sumW e q) p e k j) (.slice a q.length cap) q t) ∧ Kept X w (((wr.setCell ⟨L, k * 7 + 1 + 3, none⟩ (.int .i64 (give (e k) (sumW e q)).credit)).alloc o).drewN 1)) := Aside.mk fun o => by
                obtain ⟨⟨cs3, h3⟩, hK3⟩ := h2
                exact ⟨⟨cs3, (h3.below (Below.alloc (Below.refl _ _) (Nat.le_refl _) o)).drewN 1⟩, Kept.drewN (hK.trans (hK3.alloc (Old.up hb1 hK3.size) o)) 1⟩
              clear hR hE h2 H2
              by_cases hc : 0 < (e k).cap
              · have hd : (decide (0 < (e k).cap)) = true := decide_eq_true hc
                have em : give (e k) (sumW e q) = { (e k) with credit := min 1000 (wrap64 ((e k).credit + min (1000 * (e k).weight / sumW e q) (10 * (e k).cap))) } := by simp only [give, more, if_pos hc]
                rw [em] at H3
                go_wp2
                go_region
                go_wp2
                refine ⟨⟨k + 1, by omega, by simp, ?_⟩, by simp [intOf]; omega⟩
                obtain ⟨⟨cs3, h3⟩, hK3⟩ := H3.out _
                refine ⟨cs3, ?_, hK3⟩
                rw [giveP_step _ _ ⟨hp, hrd⟩, em]
                exact h3
              · have hd : (decide (0 < (e k).cap)) = false := decide_eq_false hc
                have em : give (e k) (sumW e q) = { (e k) with credit := min 1000 (wrap64 ((e k).credit + 1000 * (e k).weight / sumW e q)) } := by simp only [give, more, if_neg hc]
                rw [em] at H3
                go_wp2
                go_region
                go_wp2
                refine ⟨⟨k + 1, by omega, by simp, ?_⟩, by simp [intOf]; omega⟩
                obtain ⟨⟨cs3, h3⟩, hK3⟩ := H3.out _
                refine ⟨cs3, ?_, hK3⟩
                rw [giveP_step _ _ ⟨hp, hrd⟩, em]
                exact h3
            | false =>
              rw [hrd] at C5
              have hb1 : Old X wr := Old.up hb hK.size
              have hA := fun o => hR.below (Below.alloc (Below.refl wr.heap.size wr) (Nat.le_refl _) o)
              have hKA := fun o => hK.trans ((Kept.refl X wr).alloc hb1 o)
              have H3 := Aside.mk (And.intro hA hKA)
              clear hR hE hA hKA H2
              go_wp2
              refine ⟨⟨k + 1, by omega, by simp, ?_⟩, by simp [intOf]; omega⟩
              rw [giveP_skip _ _ (fun h => by rw [hrd] at h; exact absurd h.2 (by simp))]
              exact ⟨_, H3.out.1 _, H3.out.2 _⟩
          | false =>
            rw [hp] at D
            have C1 := hR.at0 k hlt hp 0 (by omega)
            have C2 := hR.at0 k hlt hp 1 (by omega)
            have C3 := hR.at0 k hlt hp 2 (by omega)
            have C4 := hR.at0 k hlt hp 3 (by omega)
            have C5 := hR.at0 k hlt hp 4 (by omega)
            have C6 := hR.at0 k hlt hp 5 (by omega)
            simp only [vcells, zeroV, Nat.add_zero] at C1 C2 C3 C4 C5 C6
            have hN := blk_new wr (.cells (vcells zeroV) 36)
            have CN := fun i => blk_cell hN i
            have FN := fun i => blk_frozen hN i
            have hb1 : Old X wr := Old.up hb hK.size
            have hA := fun o => hR.below (Below.alloc (Below.refl wr.heap.size wr) (Nat.le_refl _) o)
            have hKA := fun o => hK.trans ((Kept.refl X wr).alloc hb1 o)
            have H3 := Aside.mk (And.intro hA hKA)
            clear hR hE hA hKA H2
            go_wp2
            refine ⟨⟨k + 1, by omega, by simp, ?_⟩, by simp [intOf]; omega⟩
            rw [giveP_skip _ _ (fun h => by rw [hp] at h; exact absurd h.1 (by simp))]
            exact ⟨_, H3.out.1 _, H3.out.2 _⟩
        · obtain rfl : k = 16 := by omega
          go_wp2
          refine bodyPost_end (results_none rfl _ _ _) rfl ?_
          exact ⟨by first | rfl | (simp; done), hE.out⟩
end
end Go.Proofs.Ytpdelhipfleniaa.RfF
