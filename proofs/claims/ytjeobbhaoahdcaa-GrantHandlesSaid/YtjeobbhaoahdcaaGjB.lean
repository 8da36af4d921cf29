/- Proved: what a machine's Put does; Unmap (contracts for the laws of the grants). -/
import Derived.Test.YtjeobbhaoahdcaaGjA
import Derived.Deep.RegionHeld3
namespace Go.Proofs.Ytjeobbhaoahdcaa.GjB
open Go.RowKit Go.Maps Go.Proofs.Ytjeobbhaoahdcaa.Base Go.Proofs.Ytjeobbhaoahdcaa.GaA Go.Proofs.Ytjeobbhaoahdcaa.GaB Go.Proofs.Ytjeobbhaoahdcaa.GaC Go.Proofs.Ytjeobbhaoahdcaa.GmA Go.Proofs.Ytjeobbhaoahdcaa.GmB Go.Proofs.Ytjeobbhaoahdcaa.GmC Go.Proofs.Ytjeobbhaoahdcaa.GpA Go.Proofs.Ytjeobbhaoahdcaa.GgA Go.Proofs.Ytjeobbhaoahdcaa.GvA Go.Proofs.Ytjeobbhaoahdcaa.GeA Go.Proofs.Ytjeobbhaoahdcaa.GfA Go.Proofs.Ytjeobbhaoahdcaa.GfB Go.Proofs.Ytjeobbhaoahdcaa.GfC Go.Proofs.Ytjeobbhaoahdcaa.GfD Go.Proofs.Ytjeobbhaoahdcaa.GfH Go.Proofs.Ytjeobbhaoahdcaa.GjA
set_option linter.unusedVariables false
set_option linter.unusedSimpArgs false

theorem put1_put1 (s : MS) (k : Nat) (f g : Fr) : MS.put1 (MS.put1 s k f) k g = MS.put1 s k g := by
  unfold MS.put1
  congr 1
  funext i
  by_cases h : i = k
  · simp [h]
  · simp [h]
theorem put1_at (s : MS) (k : Nat) (f : Fr) : (MS.put1 s k f).fr k = f := if_pos rfl
theorem put1_ne (s : MS) (k i : Nat) (f : Fr) (h : i ≠ k) : (MS.put1 s k f).fr i = s.fr i := if_neg h
def fld (f : Fr) (j : Nat) (v : Int) : Fr := if j = 1 then { f with typ := v } else if j = 2 then { f with cnt := v } else { f with tot := v }
section
variable {w w' : World} {mb fb : Nat} {s : MS}
/-- One word of a frame turns. -/
theorem mach_one (h : Mach w mb fb s) (k : Nat) (hk : k < s.n) (j : Nat) (hj : j = 1 ∨ j = 2 ∨ j = 3) (v : Int) : Mach (w.setCell ⟨fb, k * 260 + j, none⟩ (.int .i64 v)) mb fb (MS.put1 s k (fld (s.fr k) j v)) := by
  obtain ⟨cs, h1, h2⟩ := h.lst
  refine ⟨blk_far h.blk h.ne _, ⟨_, blk_put h1 _ _ rfl, ?_⟩, h.few⟩
  refine (h2.set k j hk (by omega) _).of fun i l hi hl => ?_
  unfold cellM MS.put1 fld
  by_cases hik : i = k
  · subst hik
    rcases hj with rfl | rfl | rfl
    · by_cases l1 : l = 1
      · subst l1; simp
      · simp [l1]
    · by_cases l2 : l = 2
      · subst l2; simp
      · simp [l2]
    · by_cases l3 : l = 3
      · subst l3; simp
      · simp [l3]
  · simp [hik]
theorem kind_calls (b : Bool) (w : World) : Calls Try.prog 61 #[.bool b] w fun e w' => e = .returned (.int .i64 (if b then 1 else 0)) ∧ w' = w := by
  cases b
  all_goals
    go_enter Try.func61, Try.ntmps61
    go_wp2
    go_ret
    exact ⟨by first | rfl | (simp; done), rfl⟩
def putE (f : Fr) (kind : Int) : Int := if (kind ≠ 0 ∧ f.typ ≠ kind) ∨ (kind = 0 ∧ f.tot = f.cnt) then 14 else 0
def putF (f : Fr) (kind : Int) : Fr := ⟨f.own, if (if kind = 0 then f.cnt else f.cnt - 1) = 0 then 0 else f.typ, if kind = 0 then f.cnt else f.cnt - 1, f.tot - 1⟩
def putS (s : MS) (k : Nat) (kind : Int) : MS := if putE (s.fr k) kind = 0 then MS.put1 s k (putF (s.fr k) kind) else s
theorem putS_n (s : MS) (k : Nat) (kind : Int) : (putS s k kind).n = s.n := by unfold putS; split <;> rfl
set_option maxHeartbeats 8000000 in
set_option maxRecDepth 100000 in
theorem put_calls (h : Mach w mb fb s) (k : Nat) (hk : k < s.n) (kind : Int) (h0 : 0 ≤ kind) (h3 : kind ≤ 3) (hf : Fr.few (s.fr k)) : Calls Try.prog 63 #[.pointer (some ⟨mb, 0, none⟩), .int .i64 k, .int .i64 kind] w fun e w' =>
    e = .returned (.int .i64 (putE (s.fr k) kind)) ∧ Mach w' mb fb (putS s k kind) ∧ Chg (fun x => x = fb) w w' := by
  have ha := kinds_calls h k hk kind h0 h3
  have c1 := h.typ k hk
  have c2 := h.cnt k hk
  have c3 := h.tot k hk
  have F0 := h.frozen
  have L1 := h.lt.2
  obtain ⟨b0, b1, b2, b3⟩ := hf
  have m3 := fun n => mach_one (h.below (below_drewN (Below.refl _ _) n)) k hk 3 (.inr (.inr rfl)) ((s.fr k).tot - 1)
  have m32 := fun n => mach_one (m3 n) k hk 2 (.inr (.inl rfl)) ((s.fr k).cnt - 1)
  have m31 := fun n => mach_one (m3 n) k hk 1 (.inl rfl) 0
  have m321 := fun n => mach_one (m32 n) k hk 1 (.inl rfl) 0
  simp only [put1_at, put1_put1, fld] at m3 m32 m31 m321
  have HM := Base.Aside.mk (And.intro h (And.intro m3 (And.intro m32 (And.intro m31 m321))))
  clear h m3 m32 m31 m321
  by_cases e0 : kind = 0
  · subst e0
    by_cases e1 : (s.fr k).tot = (s.fr k).cnt
    · have d1 : ((s.fr k).tot == (s.fr k).cnt) = true := by simp [e1]
      have hE : putE (s.fr k) 0 = 14 := if_pos (.inr ⟨rfl, e1⟩)
      have HE := Base.Aside.mk (And.intro hE e1)
      clear hE e1
      go_enter Try.func63, Try.ntmps63
      go_wp2_with (first
        | (go_at_call 81; refine ha.mono ?_; rintro z w1 ⟨rfl, hw1⟩; obtain rfl := hw1.symm)
        | go_in)
      go_quiet (fail)
      go_wp2
      go_ret
      exact ⟨by rw [HE.out.1]; first | rfl | (simp; done), by unfold putS; rw [HE.out.1]; exact HM.out.1.below (below_drewN (Below.refl _ _) _), (Chg.refl _ _).drewN _⟩
    · have d1 : ((s.fr k).tot == (s.fr k).cnt) = false := by simp [e1]
      have hE : putE (s.fr k) 0 = 0 := if_neg (by simp [e1])
      have HE := Base.Aside.mk (And.intro hE e1)
      clear hE e1
      by_cases e2 : (s.fr k).cnt = 0
      · have d2 : ((s.fr k).cnt == 0) = true := by simp [e2]
        have HE2 := Base.Aside.mk e2
        clear e2
        go_enter Try.func63, Try.ntmps63
        go_wp2_with (first
          | (go_at_call 81; refine ha.mono ?_; rintro z w1 ⟨rfl, hw1⟩; obtain rfl := hw1.symm)
          | go_in)
        go_quiet (fail)
        go_wp2
        go_ret
        refine ⟨by rw [HE.out.1]; first | rfl | (simp; done), ?_, by repeat (first | exact Chg.refl _ _ | refine Chg.drewN ?_ _ | refine chg_fb ?_ _ _)⟩
        unfold putS
        rw [HE.out.1, if_pos rfl]
        have hF : putF (s.fr k) 0 = ⟨(s.fr k).own, 0, (s.fr k).cnt, (s.fr k).tot - 1⟩ := by unfold putF; simp [HE2.out]
        rw [hF]
        have := HM.out.2.2.2.1 nq
        simpa using this
      · have d2 : ((s.fr k).cnt == 0) = false := by simp [e2]
        have HE2 := Base.Aside.mk e2
        clear e2
        go_enter Try.func63, Try.ntmps63
        go_wp2_with (first
          | (go_at_call 81; refine ha.mono ?_; rintro z w1 ⟨rfl, hw1⟩; obtain rfl := hw1.symm)
          | go_in)
        go_quiet (fail)
        go_wp2
        go_ret
        refine ⟨by rw [HE.out.1]; first | rfl | (simp; done), ?_, by repeat (first | exact Chg.refl _ _ | refine Chg.drewN ?_ _ | refine chg_fb ?_ _ _)⟩
        unfold putS
        rw [HE.out.1, if_pos rfl]
        have hF : putF (s.fr k) 0 = ⟨(s.fr k).own, (s.fr k).typ, (s.fr k).cnt, (s.fr k).tot - 1⟩ := by unfold putF; simp [HE2.out]
        rw [hF]
        have := HM.out.2.1 nq
        simpa using this
  · have d0 : (kind == 0) = false := by simp [e0]
    have d0' : (kind != 0) = true := by simp [e0]
    by_cases e1 : (s.fr k).typ = kind
    · have d1 : ((s.fr k).typ != kind) = false := by simp [e1]
      have hE : putE (s.fr k) kind = 0 := if_neg (by simp [e0, e1])
      have HE := Base.Aside.mk (And.intro hE (And.intro e1 e0))
      clear hE e1 e0
      by_cases e2 : (s.fr k).cnt - 1 = 0
      · have d2 : ((s.fr k).cnt - 1 == 0) = true := by simp [e2]
        have HE2 := Base.Aside.mk e2
        clear e2
        go_enter Try.func63, Try.ntmps63
        go_wp2_with (first
          | (go_at_call 81; refine ha.mono ?_; rintro z w1 ⟨rfl, hw1⟩; obtain rfl := hw1.symm)
          | go_in)
        go_quiet (fail)
        go_wp2
        go_ret
        refine ⟨by rw [HE.out.1]; first | rfl | (simp; done), ?_, by repeat (first | exact Chg.refl _ _ | refine Chg.drewN ?_ _ | refine chg_fb ?_ _ _)⟩
        unfold putS
        rw [HE.out.1, if_pos rfl]
        have hF : putF (s.fr k) kind = ⟨(s.fr k).own, 0, (s.fr k).cnt - 1, (s.fr k).tot - 1⟩ := by unfold putF; simp [HE.out.2.2, HE2.out]
        rw [hF]
        have := HM.out.2.2.2.2 nq
        simpa using this
      · have d2 : ((s.fr k).cnt - 1 == 0) = false := by simp [e2]
        have HE2 := Base.Aside.mk e2
        clear e2
        go_enter Try.func63, Try.ntmps63
        go_wp2_with (first
          | (go_at_call 81; refine ha.mono ?_; rintro z w1 ⟨rfl, hw1⟩; obtain rfl := hw1.symm)
          | go_in)
        go_quiet (fail)
        go_wp2
        go_ret
        refine ⟨by rw [HE.out.1]; first | rfl | (simp; done), ?_, by repeat (first | exact Chg.refl _ _ | refine Chg.drewN ?_ _ | refine chg_fb ?_ _ _)⟩
        unfold putS
        rw [HE.out.1, if_pos rfl]
        have hF : putF (s.fr k) kind = ⟨(s.fr k).own, (s.fr k).typ, (s.fr k).cnt - 1, (s.fr k).tot - 1⟩ := by unfold putF; simp [HE.out.2.2, HE2.out]
        rw [hF]
        have := HM.out.2.2.1 nq
        simpa using this
    · have d1 : ((s.fr k).typ != kind) = true := by simp [e1]
      have hE : putE (s.fr k) kind = 14 := if_pos (.inl ⟨e0, e1⟩)
      have HE := Base.Aside.mk (And.intro hE e0)
      clear hE e1 e0
      go_enter Try.func63, Try.ntmps63
      go_wp2_with (first
        | (go_at_call 81; refine ha.mono ?_; rintro z w1 ⟨rfl, hw1⟩; obtain rfl := hw1.symm)
        | go_in)
      go_ret
      exact ⟨by rw [HE.out.1]; first | rfl | (simp; done), by unfold putS; rw [HE.out.1]; exact HM.out.1, Chg.refl _ _⟩
end
end Go.Proofs.Ytjeobbhaoahdcaa.GjB
