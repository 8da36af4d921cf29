/- Proved: what the scheduler's Tick does in memory (contracts for the laws of the scheduler). -/
import Derived.Test.YtpdelhipfleniaaPlH
namespace Go.Proofs.Ytpdelhipfleniaa.PlI
open Go.RowKit Go.Maps Go.Proofs.Ytpdelhipfleniaa.Base Go.Proofs.Ytpdelhipfleniaa.SchA Go.Proofs.Ytpdelhipfleniaa.PlB Go.Proofs.Ytpdelhipfleniaa.PlC Go.Proofs.Ytpdelhipfleniaa.PlD Go.Proofs.Ytpdelhipfleniaa.PlE Go.Proofs.Ytpdelhipfleniaa.PlF Go.Proofs.Ytpdelhipfleniaa.PlG Go.Proofs.Ytpdelhipfleniaa.PlH
set_option linter.unusedVariables false

def runV (v : V) : V := { v with credit := wrap64 (v.credit - 100), ran := wrap64 (v.ran + 1) }
def tickE (e : Nat → V) (q : List Int) : Nat → V := match nextOf q e with
  | some x => fun j => if j = x.toNat then runV (e j) else e j
  | none => e
def tickQ (e : Nat → V) (q : List Int) : List Int := match nextOf q e with
  | some x => outq q x ++ [x]
  | none => q
def tickR (e : Nat → V) (q : List Int) : Int := match nextOf q e with
  | some x => x
  | none => -1
theorem nextOf_mem {q : List Int} {e : Nat → V} {x : Int} (h : nextOf q e = some x) : x ∈ q := by
  unfold nextOf at h
  split at h
  · rename_i y hy
    rw [← Option.some.inj h]
    exact List.mem_of_find?_eq_some hy
  · exact List.mem_of_find?_eq_some h
theorem nextOf_none {q : List Int} {e : Nat → V} (h : nextOf q e = none) : q = [] := by
  unfold nextOf at h
  split at h
  · cases h
  · cases q with
    | nil => rfl
    | cons x q => simp [List.find?, any] at h
theorem if2 {α : Type} (k : Nat) (a b : α) (f : Nat → α) : (fun j => if j = k then a else if j = k then b else f j) = fun j => if j = k then a else f j := by
  funext j
  by_cases h : j = k
  · simp [h]
  · simp [h]
/-- Credits are given behind each tenth tick. -/
def shareE (t : Int) (e : Nat → V) (q : List Int) : Nat → V := if t % 10 = 0 then giveAll (sumW e q) e q else e

set_option maxHeartbeats 4000000 in
set_option maxRecDepth 100000 in
theorem tick_calls {X : Nat → Prop} {w : World} {S M : Nat} {s : Nat → Option Nat} {e : Nat → V} {c : Nat} {qv : Value} {q : List Int} {t : Int} (h : Sch X w S M s e c qv q t) (hb : Old X w) (hq : Qok q s) (hv : Vok s e) (hl16 : q.length ≤ 16) (ht0 : 0 ≤ t) (ht1 : t < 9223372036854775807) :
    Calls Try.prog 11 #[.pointer (some ⟨S, 0, none⟩)] w fun z w' => z = .returned (.int .i64 (tickR e q)) ∧ ∃ qv', Sch X w' S M s (shareE (t + 1) (tickE e q) (tickQ e q)) c qv' (tickQ e q) (t + 1) ∧ Kept X w w' := by
  cases hn : nextOf q e with
  | some x =>
    obtain ⟨k, g, rfl, hk, hg⟩ := hq x (nextOf_mem hn)
    have e1 : tickE e q = fun j => if j = k then runV (e k) else e j := by
      rw [tickE, hn]
      funext j
      by_cases hj : j = k
      · simp [hj]
      · simp [hj]
    have e2 : tickQ e q = outq q k ++ [(k : Int)] := by rw [tickQ, hn]
    have e3 : tickR e q = k := by rw [tickR, hn]
    have hle : (outq q k ++ [(k : Int)]).length ≤ 16 := by
      have := List.length_erase_of_mem (nextOf_mem hn)
      have hp : 0 < q.length := List.length_pos_of_mem (nextOf_mem hn)
      simp only [outq, List.length_append, List.length_singleton]
      omega
    have hq2 : Qok (outq q k ++ [(k : Int)]) s := by
      intro y hy
      rcases List.mem_append.1 hy with hy | hy
      · exact hq y (List.mem_of_mem_erase hy)
      · rw [List.mem_singleton] at hy
        exact ⟨k, g, hy, hk, hg⟩
    have hv2 : Vok s (fun j => if j = k then runV (e k) else e j) := by
      intro j g' hj
      by_cases hjk : j = k
      · simp only [if_pos hjk]
        exact hv k g hg
      · simp only [if_neg hjk]
        exact hv j g' hj
    by_cases hm : (t + 1) % 10 = 0
    · have hm2 : ((t + 1) % 10 == 0) = true := by rw [hm]; rfl
      rw [e1, e2, e3, shareE, if_pos hm]
      go_enter Try.func11, Try.ntmps11
      go_wp2_with (first
        | (go_at_call 24; refine (none_calls h).mono ?_; rintro z w1 ⟨rfl, hw1⟩; obtain rfl := hw1.symm)
        | (go_at_call 27; refine (next_calls h hb hq).mono ?_; rw [hn]; simp only [tup]; rintro z w1 ⟨rfl, h1, hB1⟩
           have C1 := fun i => blk_cell h1.blk i
           have L1 := blk_lt h1.blk
           have CE := fun i => blk_cell (h1.ent k g hg) i
           have FE := fun i => blk_frozen (h1.ent k g hg) i
           have LE := blk_lt (h1.ent k g hg)
           simp only [vcells] at CE
           have hl := h1.map.look k (by omega)
           rw [hg] at hl
           simp only [pv] at hl
           have hSg : S ≠ g := h1.S_ne hg
           have h2 := h1.entry hg 3 (.int .i64 (wrap64 ((e k).credit - 100))) { (e k) with credit := wrap64 ((e k).credit - 100) } rfl
           have h3 := h2.1.entry hg 5 (.int .i64 (wrap64 ((e k).ran + 1))) (runV (e k)) (by simp; rfl)
           rw [if2] at h3
           have H := Aside.mk (And.intro h3.1 (hB1.trans (h2.2.trans h3.2)))
           clear h1 hB1 h2 h3)
        | (go_at_call 26; refine (last_calls H.out.1 (Old.up hb H.out.2.size) k (by omega)).mono ?_; rintro z w2 ⟨rfl, qv', h4, hB4⟩
           have C4 := fun i => blk_cell h4.blk i
           have F4 := fun i => blk_frozen h4.blk i
           have L4 := blk_lt h4.blk
           have H4 := Aside.mk (And.intro h4 hB4)
           clear h4 hB4)
        | (go_at_call 28; refine (share_calls (H4.out.1.ticked (t + 1)).1 (Old.up hb (Nat.le_trans H.out.2.size (Nat.le_trans H4.out.2.size (H4.out.1.ticked (t + 1)).2.size))) hq2 hv2 hle).mono ?_; rintro z w3 ⟨rfl, h5, hB5⟩; have H5 := Aside.mk (And.intro h5 hB5); clear h5 hB5)
        | go_in)
      go_ret
      exact ⟨by first | rfl | (simp; done), _, H5.out.1, H.out.2.trans (H4.out.2.trans ((H4.out.1.ticked (t + 1)).2.trans H5.out.2))⟩
    · have hm2 : ((t + 1) % 10 == 0) = false := beq_eq_false_iff_ne.2 hm
      rw [e1, e2, e3, shareE, if_neg hm]
      go_enter Try.func11, Try.ntmps11
      go_wp2_with (first
        | (go_at_call 24; refine (none_calls h).mono ?_; rintro z w1 ⟨rfl, hw1⟩; obtain rfl := hw1.symm)
        | (go_at_call 27; refine (next_calls h hb hq).mono ?_; rw [hn]; simp only [tup]; rintro z w1 ⟨rfl, h1, hB1⟩
           have C1 := fun i => blk_cell h1.blk i
           have L1 := blk_lt h1.blk
           have CE := fun i => blk_cell (h1.ent k g hg) i
           have FE := fun i => blk_frozen (h1.ent k g hg) i
           have LE := blk_lt (h1.ent k g hg)
           simp only [vcells] at CE
           have hl := h1.map.look k (by omega)
           rw [hg] at hl
           simp only [pv] at hl
           have hSg : S ≠ g := h1.S_ne hg
           have h2 := h1.entry hg 3 (.int .i64 (wrap64 ((e k).credit - 100))) { (e k) with credit := wrap64 ((e k).credit - 100) } rfl
           have h3 := h2.1.entry hg 5 (.int .i64 (wrap64 ((e k).ran + 1))) (runV (e k)) (by simp; rfl)
           rw [if2] at h3
           have H := Aside.mk (And.intro h3.1 (hB1.trans (h2.2.trans h3.2)))
           clear h1 hB1 h2 h3)
        | (go_at_call 26; refine (last_calls H.out.1 (Old.up hb H.out.2.size) k (by omega)).mono ?_; rintro z w2 ⟨rfl, qv', h4, hB4⟩
           have C4 := fun i => blk_cell h4.blk i
           have F4 := fun i => blk_frozen h4.blk i
           have L4 := blk_lt h4.blk
           have H4 := Aside.mk (And.intro h4 hB4)
           clear h4 hB4)
        | go_in)
      go_ret
      exact ⟨by first | rfl | (simp; done), _, (H4.out.1.ticked (t + 1)).1, H.out.2.trans (H4.out.2.trans (H4.out.1.ticked (t + 1)).2)⟩
  | none =>
    obtain rfl := nextOf_none hn
    have e1 : tickE e [] = e := rfl
    have e2 : tickQ e [] = [] := rfl
    have e3 : tickR e [] = -1 := rfl
    have arm0 : True := trivial
    by_cases hm : (t + 1) % 10 = 0
    · have hm2 : ((t + 1) % 10 == 0) = true := by rw [hm]; rfl
      rw [e1, e2, e3, shareE, if_pos hm]
      go_enter Try.func11, Try.ntmps11
      go_wp2_with (first
        | (go_at_call 24; refine (none_calls h).mono ?_; rintro z w1 ⟨rfl, hw1⟩; obtain rfl := hw1.symm)
        | (go_at_call 27; refine (next_calls h hb hq).mono ?_; rw [hn]; simp only [tup]; rintro z w1 ⟨rfl, h1, hB1⟩
           have C1 := fun i => blk_cell h1.blk i
           have F1 := fun i => blk_frozen h1.blk i
           have L1 := blk_lt h1.blk
           have H4 := Aside.mk (And.intro h1 hB1)
           clear h1 hB1)
        | (go_at_call 28; refine (share_calls (H4.out.1.ticked (t + 1)).1 (Old.up hb (Nat.le_trans H4.out.2.size (H4.out.1.ticked (t + 1)).2.size)) hq hv hl16).mono ?_; rintro z w3 ⟨rfl, h5, hB5⟩; have H5 := Aside.mk (And.intro h5 hB5); clear h5 hB5)
        | go_in)
      go_ret
      exact ⟨by first | rfl | (simp; done), _, H5.out.1, H4.out.2.trans ((H4.out.1.ticked (t + 1)).2.trans H5.out.2)⟩
    · have hm2 : ((t + 1) % 10 == 0) = false := beq_eq_false_iff_ne.2 hm
      rw [e1, e2, e3, shareE, if_neg hm]
      go_enter Try.func11, Try.ntmps11
      go_wp2_with (first
        | (go_at_call 24; refine (none_calls h).mono ?_; rintro z w1 ⟨rfl, hw1⟩; obtain rfl := hw1.symm)
        | (go_at_call 27; refine (next_calls h hb hq).mono ?_; rw [hn]; simp only [tup]; rintro z w1 ⟨rfl, h1, hB1⟩
           have C1 := fun i => blk_cell h1.blk i
           have F1 := fun i => blk_frozen h1.blk i
           have L1 := blk_lt h1.blk
           have H4 := Aside.mk (And.intro h1 hB1)
           clear h1 hB1)
        | go_in)
      go_ret
      exact ⟨by first | rfl | (simp; done), _, (H4.out.1.ticked (t + 1)).1, H4.out.2.trans (H4.out.1.ticked (t + 1)).2⟩
end Go.Proofs.Ytpdelhipfleniaa.PlI
