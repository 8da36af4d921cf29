/- Proved: Base of a new domain's root (contracts for the laws of the domains). -/
import Derived.Test.YtebhpmmibffbeaaDdB
namespace Go.Proofs.Ytebhpmmibffbeaa.DdC
open Go.RowKit Go.Maps Go.Proofs.Ytebhpmmibffbeaa.Base Go.Proofs.Ytebhpmmibffbeaa.GaA Go.Proofs.Ytebhpmmibffbeaa.GaB Go.Proofs.Ytebhpmmibffbeaa.GaC Go.Proofs.Ytebhpmmibffbeaa.GfB Go.Proofs.Ytebhpmmibffbeaa.DbB Go.Proofs.Ytebhpmmibffbeaa.DbC Go.Proofs.Ytebhpmmibffbeaa.DcB Go.Proofs.Ytebhpmmibffbeaa.DcC Go.Proofs.Ytebhpmmibffbeaa.DdA Go.Proofs.Ytebhpmmibffbeaa.DdB
set_option linter.unusedVariables false
set_option linter.unusedSimpArgs false

section
variable {w w' W : World} {xb mb fb t1 t5 t3 : Nat} {rt : Nat → Int} {s : MS} {d : Int} {T m : Nat}
theorem get_new (kd : Int) (h0 : 0 ≤ d ∧ d < 8) : getE ⟨d, 0, 0, 0⟩ d kd = 0 := by
  unfold getE
  simp only
  rw [if_neg (by omega), if_neg (by simp), if_neg (by simp)]
theorem take_l1 (hX : Mmu w xb mb t1 t5 t3 rt) (h : Raw s d T m) (hM : Mach w mb fb (at2 s T m)) : Calls Try.prog 40 #[.pointer (some ⟨xb, 0, none⟩), .int .i64 d, .int .i64 ((T + m + 1 : Nat) : Int), .int .i64 1] w fun e w' => e = .returned (.int .i64 0) ∧ Mach w' mb fb (done1 s T m) ∧ Chg (fun x => x = fb) w w' := by
  have m1 := h.m1
  have hn := h.n
  have e : (at2 s T m).fr (T + m + 1) = ⟨d, 0, 0, 0⟩ := by
    have e2 : (at2 s T m).fr (T + m + 1) = s.fr (T + m + 1) := if_neg (by omega)
    rw [e2, h.fr _ (by omega) (by omega)]
  exact take1_calls hX hM d (T + m + 1) (by show _ < s.n; omega) (by rw [e]; exact get_new 2 h.d) (by rw [e]; exact few0 _ _ _ _ (by omega)) (by rw [e]) _ _ rfl (tkseq1 h)
set_option maxHeartbeats 8000000 in
set_option maxRecDepth 100000 in
theorem new4_calls (hX : Mmu w xb mb t1 t5 t3 rt) (h : Raw s d T m) (hM : Mach w mb fb (at2 s T m)) :
    Calls Try.prog 39 #[.int .i64 d, .agg #[.bool true, .bool true, .int .i64 ((T + m + 1 : Nat) : Int)], .pointer (some ⟨t3, 0, none⟩)] w fun e w' => e = .returned (.int .i64 0) ∧ Mach w' mb fb (done1 s T m) ∧ Chg (fun x => x = fb) w w' := by
  have hb1 := below_alloc (Below.refl w.heap.size w) (.cells #[.bool true, .bool true, .int .i64 ((T + m + 1 : Nat) : Int)] 91)
  have htk := take_l1 (hX.below hb1) h (hM.below hb1)
  have c3 : w.cell? ⟨t3, 0, none⟩ = some (.pointer (some ⟨xb, 0, none⟩)) := blk_cell hX.c3 0
  have l3 := blk_lt hX.c3
  have HB := Base.Aside.mk hb1
  generalize T + m + 1 = t at htk hb1 HB ⊢
  clear hX hM h hb1
  go_enter Try.func39, Try.ntmps39
  go_wp2_with (first
    | (go_at_call 40; (with_reducible refine htk.mono ?_); rintro z w2 ⟨rfl, hM2, hC2⟩; have E2 := Base.Aside.mk (And.intro hM2 hC2); clear hM2 hC2)
    | go_in)
  go_ret
  exact ⟨by first | rfl | (simp; done), E2.out.1, (Chg.below _ HB.out).trans E2.out.2⟩
/-- The second level's entries are taken in their turn. -/
theorem tkseq2 (h : Raw s d T m) : TkSeq xb mb fb t1 t5 t3 rt d 2 (T + m) (seq2 s T m) (fun k => if k = 0 then some (T + m + 1) else none) := by
  have m1 := h.m1
  have m2 := h.m2
  have hn := h.n
  have hn2 := h.n2
  have en : ∀ k, (seq2 s T m k).n = s.n := fun k => by
    cases k with
    | zero => rfl
    | succ k => exact done1_n _ _ _
  have eb : ∀ k, (seq2 s T m k).byt = s.byt := fun k => by
    cases k with
    | zero => rfl
    | succ k => exact done1_byt _ _ _
  refine ⟨fun k _ => ?_, fun k _ x hx => ?_, fun k hk => ?_, fun k hk W' hX hM => ?_⟩
  · rw [en]
    omega
  · split at hx
    · have := Option.some.inj hx
      omega
    · cases hx
  · unfold MS.rd
    rw [eb]
    exact h.z2 k hk
  · cases k with
    | zero =>
      rw [if_pos rfl]
      obtain ⟨n1, n2, n3, n4⟩ := hX.fb hM
      refine (get2_some (R := fun w' => Mach w' mb fb (done1 s T m)) (fun W hW => hW.below (Below.refl _ _).drew) hX n1 hM.lt.2 d (T + m + 1) (by omega) ?_)
      intro W2 hW2
      exact new4_calls (hX.below hW2) h (hM.below hW2)
    | succ k =>
      rw [if_neg (by omega)]
      exact (get_none _ d 2 W').mono fun e w' ⟨q1, q2⟩ => ⟨q1, hM.below q2, Chg.below _ q2⟩
theorem take_l2 (hX : Mmu w xb mb t1 t5 t3 rt) (h : Raw s d T m) (hM : Mach w mb fb s) : Calls Try.prog 40 #[.pointer (some ⟨xb, 0, none⟩), .int .i64 d, .int .i64 ((T + m : Nat) : Int), .int .i64 2] w fun e w' => e = .returned (.int .i64 0) ∧ Mach w' mb fb (done1 s T m) ∧ Chg (fun x => x = fb) w w' := by
  have m1 := h.m1
  have hn := h.n
  have e : s.fr (T + m) = ⟨d, 0, 0, 0⟩ := h.fr _ (by omega) (by omega)
  exact take2_calls hX hM d (T + m) (by omega) (by rw [e]; exact get_new 3 h.d) (by rw [e]; exact few0 _ _ _ _ (by omega)) (by rw [e]) (seq2 s T m) _ rfl (tkseq2 h)
/-- The roots, with one laid. -/
def rtU (rt : Nat → Int) (d : Nat) (v : Int) : Nat → Int := fun k => if k = d then v else rt k
theorem mcells_root (d : Nat) (hd : d < 8) (v : Int) : (mcells mb t1 t5 t3 rt).setIfInBounds (18 + d) (.int .i64 v) = mcells mb t1 t5 t3 (rtU rt d v) := by
  have : d = 0 ∨ d = 1 ∨ d = 2 ∨ d = 3 ∨ d = 4 ∨ d = 5 ∨ d = 6 ∨ d = 7 := by omega
  rcases this with rfl | rfl | rfl | rfl | rfl | rfl | rfl | rfl <;> rfl
theorem mcells_at (d : Nat) (hd : d < 8) : (mcells mb t1 t5 t3 rt)[18 + d]? = some (.int .i64 (rt d)) := by
  have : d = 0 ∨ d = 1 ∨ d = 2 ∨ d = 3 ∨ d = 4 ∨ d = 5 ∨ d = 6 ∨ d = 7 := by omega
  rcases this with rfl | rfl | rfl | rfl | rfl | rfl | rfl | rfl <;> rfl
set_option maxHeartbeats 2000000 in
set_option maxRecDepth 100000 in
theorem mnone_calls (hX : Mmu w xb mb t1 t5 t3 rt) : Calls Try.prog 49 #[.pointer (some ⟨xb, 0, none⟩)] w fun e w' => e = .returned (.bool false) ∧ w' = w := by
  have c0 : w.cell? ⟨xb, 0, none⟩ = some (.pointer (some ⟨mb, 0, none⟩)) := blk_cell hX.blk 0
  have l0 := blk_lt hX.blk
  clear hX
  go_enter Try.func49, Try.ntmps49
  go_wp2
  go_ret
  exact ⟨by first | rfl | (simp; done), rfl⟩
set_option maxHeartbeats 2000000 in
set_option maxRecDepth 100000 in
theorem mdomain_calls (d : Nat) (hd : d < 8) (w : World) : Calls Try.prog 50 #[.int .i64 d] w fun e w' => e = .returned (.bool true) ∧ w' = w := by
  have h1 : decide (0 ≤ (d : Int)) = true := decide_eq_true (by omega)
  have h2 : decide ((d : Int) < 8) = true := decide_eq_true (by omega)
  go_enter Try.func50, Try.ntmps50
  go_wp2
  go_ret
  exact ⟨by first | rfl | (simp; done), rfl⟩
set_option maxHeartbeats 2000000 in
set_option maxRecDepth 100000 in
theorem root_calls (hX : Mmu w xb mb t1 t5 t3 rt) (d : Nat) (hd : d < 8) : Calls Try.prog 28 #[.pointer (some ⟨xb, 0, none⟩), .int .i64 d] w fun e w' => e = .returned (.int .i64 (rt d)) ∧ w' = w := by
  have hno := mnone_calls hX
  have hdo := fun W => mdomain_calls d hd W
  have c1 : w.cell? ⟨xb, 18 + d, none⟩ = some (.int .i64 (rt d)) := (blk_cell hX.blk (18 + d)).trans (mcells_at d hd)
  have l0 := blk_lt hX.blk
  clear hX
  go_enter Try.func28, Try.ntmps28
  go_wp2_with (first
    | (go_at_call 49; refine hno.mono ?_; rintro z w1 ⟨rfl, hw1⟩; obtain rfl := hw1.symm)
    | (go_at_call 50; refine (hdo _).mono ?_; rintro z w1 ⟨rfl, hw1⟩; obtain rfl := hw1.symm)
    | go_in)
  go_ret
  exact ⟨by first | rfl | (simp; done), rfl⟩
set_option maxHeartbeats 8000000 in
set_option maxRecDepth 100000 in
theorem base_calls {d : Nat} (hX : Mmu w xb mb t1 t5 t3 rt) (h : Raw s d T m) (hM : Mach w mb fb s) (hr : rt d = -1) (hxt : xb ≠ t1 ∧ xb ≠ t5 ∧ xb ≠ t3 ∧ xb ≠ mb ∧ xb ≠ fb) : Calls Try.prog 25 #[.pointer (some ⟨xb, 0, none⟩), .int .i64 d, .int .i64 ((T + m : Nat) : Int)] w fun e w' => e = .returned (.int .i64 0) ∧ Mach w' mb fb (done1 s T m) ∧ Mmu w' xb mb t1 t5 t3 (rtU rt d ((T + m : Nat) : Int)) ∧ Chg (fun x => x = fb ∨ x = xb) w w' := by
  have hd : d < 8 := by have := h.d; omega
  have m1 := h.m1
  have hn := h.n
  have hno := mnone_calls hX
  have hdo := fun W => mdomain_calls d hd W
  have hsz := size_calls hM
  have htk := (take_l2 hX h hM).mono (R' := fun e w' => e = .returned (.int .i64 0) ∧ w'.cell? ⟨xb, 18 + d, none⟩ = some (.int .i64 (-1)) ∧ xb < w'.heap.size ∧ w'.frozen? ⟨xb, 18 + d, none⟩ = false ∧ Mach w' mb fb (done1 s T m) ∧ Mmu w' xb mb t1 t5 t3 rt ∧ Chg (fun x => x = fb) w w') (fun e w' ⟨q1, q2, q3⟩ => by
    have hX2 := hX.mach hM q3
    have c2 := (blk_cell hX2.blk (18 + d)).trans (mcells_at d hd)
    rw [hr] at c2
    exact ⟨q1, c2, blk_lt hX2.blk, blk_frozen hX2.blk _, q2, hX2, q3⟩)
  have c0 : w.cell? ⟨xb, 0, none⟩ = some (.pointer (some ⟨mb, 0, none⟩)) := blk_cell hX.blk 0
  have l0 := blk_lt hX.blk
  have d1 : decide (((T + m : Nat) : Int) < -1) = false := decide_eq_false (by omega)
  have d2 : decide ((s.n : Int) ≤ ((T + m : Nat) : Int)) = false := decide_eq_false (by omega)
  have d3 : decide (0 ≤ ((T + m : Nat) : Int)) = true := decide_eq_true (by omega)
  have d4 : decide (s.n ≤ T + m) = false := decide_eq_false (by omega)
  generalize hs' : done1 s T m = s' at htk ⊢
  generalize T + m = t at *
  clear hX hM h hn hr m1
  go_enter Try.func25, Try.ntmps25
  go_wp2_with (first
    | (go_at_call 49; refine hno.mono ?_; rintro z w1 ⟨rfl, hw1⟩; obtain rfl := hw1.symm)
    | (go_at_call 50; refine (hdo _).mono ?_; rintro z w1 ⟨rfl, hw1⟩; obtain rfl := hw1.symm)
    | (go_at_call 32; refine hsz.mono ?_; rintro z w1 ⟨rfl, hw1⟩; obtain rfl := hw1.symm)
    | (go_at_call 40; (with_reducible refine htk.mono ?_); rintro z w2 ⟨rfl, c2, l2, f2, hM2, hX2, hC2⟩; have E2 := Base.Aside.mk (And.intro hM2 (And.intro hX2 hC2)); clear hM2 hC2 hX2)
    | go_in)
  go_ret
  have hc : Chg (fun x => x = xb) w2 (w2.setCell ⟨xb, 18 + d, none⟩ (.int .i64 t)) := Chg.set (F := fun x => x = xb) (p := ⟨xb, 18 + d, none⟩) (Chg.refl _ w2) (.inl rfl) _
  obtain ⟨hM2, hX2, hC2⟩ := E2.out
  obtain ⟨x1, x5, x3, xm, xf⟩ := hxt
  exact ⟨by first | rfl | (simp; done), hM2.chg hc (fun e => xm e.symm) (fun e => xf e.symm), ⟨blk_put hX2.blk _ _ (mcells_root d hd _), hc.blk hX2.c1 (fun e => x1 e.symm), hc.blk hX2.c5 (fun e => x5 e.symm), hc.blk hX2.c3 (fun e => x3 e.symm)⟩, (hC2.mono fun _ h => .inl h).trans (hc.mono fun _ h => .inr h)⟩
end
end Go.Proofs.Ytebhpmmibffbeaa.DdC
