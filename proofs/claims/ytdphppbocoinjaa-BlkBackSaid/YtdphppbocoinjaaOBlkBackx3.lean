/- Proved: small functions of the block backend, walked (printed texts). -/
import Derived.Test.YtdphppbocoinjaaOBlkBackx0
namespace Go.Proofs.Ytdphppbocoinjaa.PBlkBack
open Go.RowKit Go.Proofs.YtdphppbocoinjaaW.PrintWords Go.Proofs.YtdphppbocoinjaaW.PrintLast Go.Proofs.YtdphppbocoinjaaW.PrintMore
attribute [local go_sem] max2_int min2_int max_two min_two max_three min_three max_four min_four   -- for this text's walks alone
set_option linter.unusedVariables false
set_option linter.unusedSimpArgs false

/-- The block of a view that is read is a block of its footprint. -/
theorem V_apart {W : World} {base g : Nat} {ok : Nat → Prop} {ad : Addr} {n c : Nat} {xs : List Int} (h : Kd.V (Kd.int .u8) 5 W base ok (.slice (some ad) n c) xs) (hp : 0 < xs.length) (hok : ∀ k, ok k → k ≠ g) : ad.block ≠ g := by
  intro he
  have hF := (Kd.V_at h).2.2
  have hC := hF { W with heap := W.heap.setIfInBounds g (.cells #[] 5) } (fun k hk hlt => by
    have := hok k hk
    simp only [Array.getElem?_setIfInBounds]
    rw [if_neg (fun e => this e.symm)])
  obtain ⟨ad2, e2, hx⟩ := Kd.at_int hC 0 (by omega) (by omega)
  obtain rfl : ad = ad2 := by injection e2
  have hN := (Kd.V_at h).2.2
  have hn := Kd.F_now hN
  obtain ⟨ad3, e3, hx3⟩ := Kd.at_int hn 0 (by omega) (by omega)
  obtain rfl : ad = ad3 := by injection e3
  have hlt := World.block_lt_of_cell? _ _ hx3
  have hb : (ad.add (0 : Int).toNat).block = g := by rw [add_block]; exact he
  rw [hb] at hlt
  have hb' : (ad.add 0).block = g := hb
  have hq : (W.heap.setIfInBounds g (.cells #[] 5))[g]? = some (.cells #[] 5) := by simp [hlt]
  simp only [World.cell?, Int.toNat_zero, hb', hq] at hx
  simp at hx

/-! ### blk_Segments: function 32 -/
def blk_Segments.l0 : Nat → List Int → List (S81) → Option ((List (S81)) × Int)
  | 0, _, _ => none
  | k + 1, x0, x4 => if (x0.length : Int) > 0 then (if 0 < (x0.length : Int) then (if 1 < (x0.length : Int) then (if (wrap64 ((rd x0 1) / 4)) > 3 then (some (([] : List (S81)), 4)) else (if (wrap64 (Go.bits .and .u8 (rd x0 1) 3)) > (wrap64 ((rd x0 1) / 4)) then (some (([] : List (S81)), 4)) else (if x4.length < 5864062014805 then (if 2 ≤ (x0.length : Int) then (blk_Segments.l0 k (x0.drop 2) (x4 ++ [(⟨wrap64 (rd x0 0), wrap64 (Go.bits .and .u8 (rd x0 1) 3), wrap64 ((rd x0 1) / 4)⟩ : S81)])) else (none)) else (none)))) else (none)) else (none)) else (some (x4, 0))
def blk_Segments.f (k : Nat) (l0 : List Int) : Option ((List (S81)) × Int) := if ((l0.length : Int) % 2) = 0 then (blk_Segments.l0 k l0 ([] : List (S81))) else (some (([] : List (S81)), 1))
theorem blk_Segments.mono_l : ∀ k, (∀ y0 y1, LeO (blk_Segments.l0 k y0 y1) (blk_Segments.l0 (k + 1) y0 y1))
  | 0 => fun _ _ r h => by simp [blk_Segments.l0] at h
  | k + 1 => by
    have ih0 := blk_Segments.mono_l k
    · intro y0 y1
      unfold blk_Segments.l0
      repeat' first
      | (with_reducible exact ih0 _ _)
      | (with_reducible exact LeO.refl _)
      | (with_reducible exact LeO.none _)
      | (with_reducible refine LeO.ite ?_ ?_)
      | (with_reducible refine LeO.bind ?_ (fun _ => ?_))
      | exact ih0 _ _
      | exact LeO.none _
      | refine LeO.ite ?_ ?_
      | refine LeO.bind ?_ (fun _ => ?_)
theorem blk_Segments.mono : ∀ a0 k, LeO (blk_Segments.f k a0) (blk_Segments.f (k + 1) a0) := by
  intro a0 k
  have ih0 := blk_Segments.mono_l k
  unfold blk_Segments.f
  repeat' first
      | (with_reducible exact ih0 _ _)
      | (with_reducible exact LeO.refl _)
      | (with_reducible exact LeO.none _)
      | (with_reducible refine LeO.ite ?_ ?_)
      | (with_reducible refine LeO.bind ?_ (fun _ => ?_))
      | exact ih0 _ _
      | exact LeO.none _
      | refine LeO.ite ?_ ?_
      | refine LeO.bind ?_ (fun _ => ?_)
def blk_Segments.T6 : Bool × List (List Nat × List Nat) := (true, [([], []), ([0], [0]), ([1], [1]), ([2], [2]), ([], []), ([4], [4]), ([5], [5]), ([6], [6]), ([7], [7]), ([], []), ([9], [9]), ([10], [10]), ([11], [11]), ([12], [12]), ([3, 8, 13], [3, 8, 13]), ([], []), ([15, 14, 0, 1, 2, 3, 4, 5, 6, 7, 8, 9, 10, 11, 12, 13, 14, 15], [14, 15])])
def blk_Segments.B6 : List Nat := [0, 1, 3, 7, 0, 16, 48, 112, 240, 0, 512, 1536, 3584, 7680, 16383, 0, 65535]
theorem blk_Segments.tab6 : rtab .any (opsOf Try.f32 6) = blk_Segments.T6 := by kernel_rfl
theorem blk_Segments.bits6 : waitsOk blk_Segments.T6.2 blk_Segments.B6 = true := by kernel_rfl
set_option maxHeartbeats 8000000 in
set_option maxRecDepth 100000 in
theorem blk_Segments.calls (k : Nat) (P0_ : Nat → Prop) (A0 : Option Addr) (c0 : Nat) (l0 : List Int) (r1 : List (S81)) (r2 : Int) (w : World) (hs0 : Kd.V (Kd.int .u8) 5 w w.heap.size (fun k_ => P0_ k_) (.slice A0 l0.length c0) l0) (h : blk_Segments.f k l0 = some (r1, r2)) :
    Calls Try.prog 32 #[.slice A0 l0.length c0] w fun e w' => ∃ v0_ : Value, e = .returned (.tuple #[v0_, .int .i64 r2]) ∧ Kd.R k81 81 w' w.heap.size (fun k_ => (w.heap.size ≤ k_)) v0_ r1 ∧ Below w.heap.size w w' := by
  have hu81 := Try.underlying81
  have HO0 := Aside0.mk (show Kd.V (Kd.int .u8) 5 w w.heap.size (fun k_ => (P0_ k_ ∨ w.heap.size ≤ k_)) (.slice A0 l0.length c0) l0 from Kd.V_mono hs0 (fun k_ hk => .inl hk))
  have HB := Aside0.mk (Below.refl w.heap.size w)
  have H : (if ((l0.length : Int) % 2) = 0 then (blk_Segments.l0 k l0 ([] : List (S81))) else (some (([] : List (S81)), 1))) = some (r1, r2) := h
  clear h
  by_cases c2 : ((l0.length : Int) % 2) = 0
  · rw [if_pos c2] at H
    have c2b0 : (((l0.length : Int) % 2) == 0) = true := beq_iff_eq.mpr c2
    have c2b1 : (((l0.length : Int) % 2) != 0) = false := bne_eq_false_iff_eq.mpr c2
    clear c2
    have H' := Aside0.mk H
    clear H
    go_enter Try.func32, Try.ntmps32
    go_wp2
    go_loopg [0, 4] k (fun kq v0 v4 w' => ∃ (x0_1 : List Int) (x4_1 : List (S81)), Aside0 (blk_Segments.l0 kq x0_1 x4_1 = some (r1, r2)) ∧ Aside0 (kq ≤ k) ∧ Aside0 (Kd.V (Kd.int .u8) 5 w' w.heap.size (fun k_ => (P0_ k_ ∨ w.heap.size ≤ k_) ∧ some k_ ≠ (v4 : Value).ownBlock) v0 x0_1) ∧ Aside0 (Kd.R k81 81 w' w.heap.size (fun k_ => (w.heap.size ≤ k_)) v4 x4_1) ∧ Aside0 (Below w.heap.size w w'))
    case atStart => exact ⟨(l0), (([] : List (S81))), H', ⟨Nat.le_refl _⟩, ⟨by (with_reducible repeat (first | apply Kd.V_alloc | apply Kd.V_drewN | apply Kd.V_drew)); exact Kd.V_mono HO0.out (fun _ hk => ⟨hk, (by simp [Value.ownBlock])⟩)⟩, ⟨by first | exact Kd.R_nil _ _ _ _ _ | exact Kd.N_nil _ _ _ _ _ | exact Kd.V_nil _ _ _ _ _ | exact Kd.Q_nil _ _ _ _ _ | exact Kd.S_nil _ _ _ _ _⟩, ⟨by repeat (first | (with_reducible first | exact HB.out | apply below_alloc | apply pw_below_drewN | apply below_drew1) | exact HB.out)⟩⟩
    case round =>
      clear H'
      try clear c2
      try clear c2b0
      try clear c2b1
      try clear p2
      obtain ⟨x0_1, x4_1, HA, HK1, HO_0, HO_4, HB⟩ := hrel
      cases gk with
      | zero => exact absurd HA.out (by simp [blk_Segments.l0])
      | succ k1 =>
        have H := HA.out
        clear HA
        simp only [blk_Segments.l0] at H
        by_cases c3 : (x0_1.length : Int) > 0
        · rw [if_pos c3] at H
          have c3b0 : decide (0 < (x0_1.length : Int)) = true := decide_eq_true c3
          have c3b1 : decide (0 < x0_1.length) = true := decide_eq_true (by omega)
          clear c3
          by_cases c4 : 0 < (x0_1.length : Int)
          · rw [if_pos c4] at H
            have c4b0 : decide (0 < (x0_1.length : Int)) = true := decide_eq_true c4
            have c4b1 : decide (0 < x0_1.length) = true := decide_eq_true (by omega)
            clear c4
            by_cases c5 : 1 < (x0_1.length : Int)
            · rw [if_pos c5] at H
              have c5b0 : decide (1 < (x0_1.length : Int)) = true := decide_eq_true c5
              have c5b1 : decide (1 < x0_1.length) = true := decide_eq_true (by omega)
              clear c5
              by_cases c6 : (wrap64 ((rd x0_1 1) / 4)) > 3
              · rw [if_pos c6] at H
                have c6b0 : decide (3 < (wrap64 ((rd x0_1 1) / 4))) = true := decide_eq_true c6
                clear c6
                simp only [Option.some.injEq, Prod.mk.injEq] at H
                obtain ⟨rfl, rfl⟩ := H
                obtain ⟨Ao7, co7, eo7⟩ := Kd.V_slice HO_0.out
                subst eo7
                try go_wp2
                have n0_ := Aside0.mk (Kd.V_drew HO_0.out)
                have n1_ := Aside0.mk (Kd.R_drew HO_4.out)
                have n2_ := Aside0.mk (below_drew1 HB.out)
                clear HO_0
                clear HO_4
                clear HB
                have HO_0 := n0_
                have HO_4 := n1_
                have HB := n2_
                clear n0_ n1_ n2_
                have p113 : 0 ≤ (0 : Int) := (by omega)
                have q113 : 0 < (x0_1.length : Int) := of_decide_eq_true (by first | (with_reducible assumption) | assumption)
                obtain ⟨ad113, e113, hx113_0⟩ := Kd.at_int (Kd.V_reads' HO_0.out).2.2 0 p113 q113
                cases e113
                have qi113 : (0 < x0_1.length) = True := eq_true (by omega)
                (try rw [show ((0 : Int)).toNat = 0 from rfl] at hx113_0)
                (try rw [Addr.add_zero'] at hx113_0)
                replace p113 := eq_true p113
                replace q113 := eq_true q113
                have p114 : 0 ≤ (1 : Int) := (by omega)
                have q114 : 1 < (x0_1.length : Int) := of_decide_eq_true (by first | (with_reducible assumption) | assumption)
                obtain ⟨ad114, e114, hx114_0⟩ := Kd.at_int (Kd.V_reads' HO_0.out).2.2 1 p114 q114
                obtain rfl : ad113 = ad114 := (by injection e114)
                (try simp only [show (1 : Int).toNat = 1 from rfl, Nat.reduceMul, Nat.reduceEqDiff, Go.Addr.add, ↓reduceIte] at hx114_0)
                have qi114 : (1 < x0_1.length) = True := eq_true (by omega)
                (try rw [show ((1 : Int)).toNat = 1 from rfl] at hx114_0)
                replace p114 := eq_true p114
                replace q114 := eq_true q114
                have p115 : 0 ≤ (1 : Int) := (by omega)
                have q115 : 1 < (x0_1.length : Int) := of_decide_eq_true (by first | (with_reducible assumption) | assumption)
                obtain ⟨ad115, e115, hx115_0⟩ := Kd.at_int (Kd.V_reads' HO_0.out).2.2 1 p115 q115
                obtain rfl : ad113 = ad115 := (by injection e115)
                (try simp only [show (1 : Int).toNat = 1 from rfl, Nat.reduceMul, Nat.reduceEqDiff, Go.Addr.add, ↓reduceIte] at hx115_0)
                have qi115 : (1 < x0_1.length) = True := eq_true (by omega)
                (try rw [show ((1 : Int)).toNat = 1 from rfl] at hx115_0)
                replace p115 := eq_true p115
                replace q115 := eq_true q115
                refine start_ (n := 17) (S := fun w' => w'.cell? ad113 = some (.int .u8 (rd x0_1 0)) ∧ w'.cell? ⟨ad113.block, ad113.off + 1, none⟩ = some (.int .u8 (rd x0_1 1)) ∧ w'.cell? ⟨ad113.block, ad113.off + 1, none⟩ = some (.int .u8 (rd x0_1 1))) (ds := []) #[false, false, false, false, false, false, false, false, false, false, false, false, false, false, false, false, false] (by kernel_rfl) rfl rfl ⟨hx113_0, hx114_0, hx115_0⟩ (fun hHeld => ?_); refine with_tabW blk_Segments.tab6 blk_Segments.bits6 (fun HT_ HW_ => ?_)
                generalize wr.drew = w8 at HO_0 HO_4 HB hx113_0 hx114_0 hx115_0 hHeld ⊢
                refine pure_ (i := 0) (N := some 15) (v := ?_) (a' := ?_) #[true, false, false, false, false, false, false, false, false, false, false, false, false, false, false, false, false] rfl rfl (any_of HT_.out (by kernel_rfl)) (fun _ _ _ h => h) (Or.inl ⟨by rfl, ?_⟩) ?_ ?_
                rotate_left
                · intro w'
                  go_simp
                  with_reducible rfl
                rotate_left
                · simp only [Act.put, List.setIfInBounds_toArray, List.set_cons_zero, List.set_cons_succ, i64_w, i32_w]
                  rfl
                refine pure_ (i := 1) (N := some 16) (v := ?_) (a' := ?_) #[true, true, false, false, false, false, false, false, false, false, false, false, false, false, false, false, false] rfl rfl (any_of HT_.out (by kernel_rfl)) (fun _ _ _ h => h) (Or.inl ⟨by rfl, ?_⟩) ?_ ?_
                rotate_left
                · intro w'
                  go_simp
                  with_reducible rfl
                rotate_left
                · simp only [Act.put, List.setIfInBounds_toArray, List.set_cons_zero, List.set_cons_succ, i64_w, i32_w]
                  rfl
                refine pure_ (i := 4) (N := some 19) (v := ?_) (a' := ?_) #[true, true, false, false, true, false, false, false, false, false, false, false, false, false, false, false, false] rfl rfl (any_of HT_.out (by kernel_rfl)) (fun _ _ _ h => h) (Or.inl ⟨by rfl, ?_⟩) ?_ ?_
                rotate_left
                · intro w'
                  go_simp
                  with_reducible rfl
                rotate_left
                · simp only [Act.put, List.setIfInBounds_toArray, List.set_cons_zero, List.set_cons_succ, i64_w, i32_w]
                  rfl
                refine pure_ (i := 5) (N := some 20) (v := ?_) (a' := ?_) #[true, true, false, false, true, true, false, false, false, false, false, false, false, false, false, false, false] rfl rfl (any_of HT_.out (by kernel_rfl)) (fun _ _ _ h => h) (Or.inl ⟨by rfl, ?_⟩) ?_ ?_
                rotate_left
                · intro w'
                  go_simp
                  with_reducible rfl
                rotate_left
                · simp only [Act.put, List.setIfInBounds_toArray, List.set_cons_zero, List.set_cons_succ, i64_w, i32_w]
                  rfl
                refine pure_ (i := 9) (N := some 24) (v := ?_) (a' := ?_) #[true, true, false, false, true, true, false, false, false, true, false, false, false, false, false, false, false] rfl rfl (any_of HT_.out (by kernel_rfl)) (fun _ _ _ h => h) (Or.inl ⟨by rfl, ?_⟩) ?_ ?_
                rotate_left
                · intro w'
                  go_simp
                  with_reducible rfl
                rotate_left
                · simp only [Act.put, List.setIfInBounds_toArray, List.set_cons_zero, List.set_cons_succ, i64_w, i32_w]
                  rfl
                refine pure_ (i := 10) (N := some 25) (v := ?_) (a' := ?_) #[true, true, false, false, true, true, false, false, false, true, true, false, false, false, false, false, false] rfl rfl (any_of HT_.out (by kernel_rfl)) (fun _ _ _ h => h) (Or.inl ⟨by rfl, ?_⟩) ?_ ?_
                rotate_left
                · intro w'
                  go_simp
                  with_reducible rfl
                rotate_left
                · simp only [Act.put, List.setIfInBounds_toArray, List.set_cons_zero, List.set_cons_succ, i64_w, i32_w]
                  rfl
                refine take_ (i := 2) (N := some 17) (v := ?_) (a' := ?_) #[true, true, true, false, true, true, false, false, false, true, true, false, false, false, false, false, false] rfl rfl (take_ofW HT_.out HW_.out (by kernel_rfl)) (fun _ _ _ h => h) (Or.inl ⟨by rfl, ?_⟩) hHeld ?_ ?_
                rotate_left
                · rintro w' ⟨s0, s1, s2⟩
                  go_simp
                  with_reducible rfl
                rotate_left
                · simp only [Act.put, List.setIfInBounds_toArray, List.set_cons_zero, List.set_cons_succ, i64_w, i32_w]
                  rfl
                refine pure_ (i := 3) (N := some 18) (v := ?_) (a' := ?_) #[true, true, true, true, true, true, false, false, false, true, true, false, false, false, false, false, false] rfl rfl (any_of HT_.out (by kernel_rfl)) (fun _ _ _ h => h) (Or.inl ⟨by rfl, ?_⟩) ?_ ?_
                rotate_left
                · intro w'
                  go_simp
                  with_reducible rfl
                rotate_left
                · simp only [Act.put, List.setIfInBounds_toArray, List.set_cons_zero, List.set_cons_succ, i64_w, i32_w]
                  rfl
                refine take_ (i := 6) (N := some 21) (v := ?_) (a' := ?_) #[true, true, true, true, true, true, true, false, false, true, true, false, false, false, false, false, false] rfl rfl (take_ofW HT_.out HW_.out (by kernel_rfl)) (fun _ _ _ h => h) (Or.inl ⟨by rfl, ?_⟩) hHeld ?_ ?_
                rotate_left
                · rintro w' ⟨s0, s1, s2⟩
                  go_simp
                  with_reducible rfl
                rotate_left
                · simp only [Act.put, List.setIfInBounds_toArray, List.set_cons_zero, List.set_cons_succ, i64_w, i32_w]
                  rfl
                refine pure_ (i := 7) (N := some 22) (v := ?_) (a' := ?_) #[true, true, true, true, true, true, true, true, false, true, true, false, false, false, false, false, false] rfl rfl (any_of HT_.out (by kernel_rfl)) (fun _ _ _ h => h) (Or.inl ⟨by rfl, ?_⟩) ?_ ?_
                rotate_left
                · intro w'
                  go_simp
                  with_reducible rfl
                rotate_left
                · simp only [Act.put, List.setIfInBounds_toArray, List.set_cons_zero, List.set_cons_succ, i64_w, i32_w]
                  rfl
                refine pure_ (i := 8) (N := some 23) (v := ?_) (a' := ?_) #[true, true, true, true, true, true, true, true, true, true, true, false, false, false, false, false, false] rfl rfl (any_of HT_.out (by kernel_rfl)) (fun _ _ _ h => h) (Or.inl ⟨by rfl, ?_⟩) ?_ ?_
                rotate_left
                · intro w'
                  go_simp
                  with_reducible rfl
                rotate_left
                · simp only [Act.put, List.setIfInBounds_toArray, List.set_cons_zero, List.set_cons_succ, i64_w, i32_w]
                  rfl
                refine take_ (i := 11) (N := some 26) (v := ?_) (a' := ?_) #[true, true, true, true, true, true, true, true, true, true, true, true, false, false, false, false, false] rfl rfl (take_ofW HT_.out HW_.out (by kernel_rfl)) (fun _ _ _ h => h) (Or.inl ⟨by rfl, ?_⟩) hHeld ?_ ?_
                rotate_left
                · rintro w' ⟨s0, s1, s2⟩
                  go_simp
                  with_reducible rfl
                rotate_left
                · simp only [Act.put, List.setIfInBounds_toArray, List.set_cons_zero, List.set_cons_succ, i64_w, i32_w]
                  rfl
                refine pure_ (i := 12) (N := some 27) (v := ?_) (a' := ?_) #[true, true, true, true, true, true, true, true, true, true, true, true, true, false, false, false, false] rfl rfl (any_of HT_.out (by kernel_rfl)) (fun _ _ _ h => h) (Or.inl ⟨by rfl, ?_⟩) ?_ ?_
                rotate_left
                · intro w'
                  go_simp
                  with_reducible rfl
                rotate_left
                · simp only [Act.put, List.setIfInBounds_toArray, List.set_cons_zero, List.set_cons_succ, i64_w, i32_w]
                  rfl
                refine pure_ (i := 13) (N := some 28) (v := ?_) (a' := ?_) #[true, true, true, true, true, true, true, true, true, true, true, true, true, true, false, false, false] rfl rfl (any_of HT_.out (by kernel_rfl)) (fun _ _ _ h => h) (Or.inl ⟨by rfl, ?_⟩) ?_ ?_
                rotate_left
                · intro w'
                  go_simp
                  with_reducible rfl
                rotate_left
                · simp only [Act.put, List.setIfInBounds_toArray, List.set_cons_zero, List.set_cons_succ, i64_w, i32_w]
                  rfl
                refine pure_ (i := 14) (N := some 29) (v := ?_) (a' := ?_) #[true, true, true, true, true, true, true, true, true, true, true, true, true, true, true, false, false] rfl rfl (any_of HT_.out (by kernel_rfl)) (fun _ _ _ h => h) (Or.inl ⟨by rfl, ?_⟩) ?_ ?_
                rotate_left
                · intro w'
                  go_simp
                  with_reducible rfl
                rotate_left
                · simp only [Act.put, List.setIfInBounds_toArray, List.set_cons_zero, List.set_cons_succ, i64_w, i32_w]
                  rfl
                refine one_ (i := 15) (N := some 5) #[true, true, true, true, true, true, true, true, true, true, true, true, true, true, true, true, false] rfl rfl (one_of HT_.out (by kernel_rfl)) (by decide) (fun K hK => ?_)
                refine box_step ?hg (N := 5) ?hd (cs := #[.int .i64 0, .int .i64 0, .int .i64 0]) (t := 81) ?hr ?_; (case hd => rfl); (case hg => rfl); (case hr => first | (go_simp; done) | (go_simp; rfl))
                intro gb116 hg w9 hbox hb
                have HS0_ := (hb.cell (World.block_lt_of_cell? _ _ (hHeld.1))).trans (hHeld.1)
                have HS1_ := (hb.cell (World.block_lt_of_cell? _ _ (hHeld.2.1))).trans (hHeld.2.1)
                have HS2_ := (hb.cell (World.block_lt_of_cell? _ _ (hHeld.2.2))).trans (hHeld.2.2)
                have n0_ := Aside0.mk (Kd.V_below (Kd.V_elderB (by (with_reducible repeat (first | apply Kd.V_alloc | apply Kd.V_drewN | apply Kd.V_drew)); exact HO_0.out) gb116 (Nat.le_of_eq hg.symm)) hb)
                have n1_ := Aside0.mk (Kd.R_below (Kd.R_elderB (by (with_reducible repeat (first | apply Kd.R_alloc | apply Kd.R_drewN | apply Kd.R_drew)); exact HO_4.out) gb116 (Nat.le_of_eq hg.symm)) hb)
                have n2_ := Aside0.mk (below_step (by repeat (first | (with_reducible first | exact HB.out | apply below_alloc | apply pw_below_drewN | apply below_drew1) | exact HB.out)) hb)
                have n3_ := Aside0.mk (hbox)
                have n4_ := Aside0.mk ((by rw [hg]; exact (below_size (by repeat (first | (with_reducible first | exact HB.out | apply below_alloc | apply pw_below_drewN | apply below_drew1) | exact HB.out))) : w.heap.size ≤ gb116))
                have n5_ := Aside0.mk ((by rw [hg]; exact (below_size (by repeat (first | (with_reducible first | exact HB.out | apply below_alloc | apply pw_below_drewN | apply below_drew1) | exact HB.out))) : w.heap.size ≤ gb116))
                clear HO_0
                clear HO_4
                clear HB
                have HO_0 := n0_
                have HO_4 := n1_
                have HB := n2_
                have BK116 := n3_
                have GW116 := n4_
                have GE116 := n5_
                clear n0_ n1_ n2_ n3_ n4_ n5_
                clear hb hbox hg
                refine hK.out _ _ ⟨HS0_, HS1_, HS2_⟩ (fun hHeld => ?_)
                clear hK K
                refine norm_ (a' := ?_) ?_ ?_
                rotate_left
                · show Act.put _ (some 5) _ = _
                  simp only [Act.put, List.setIfInBounds_toArray, List.set_cons_zero, List.set_cons_succ, i64_w, i32_w]
                  rfl
                refine one_ (i := 16) (N := none) #[true, true, true, true, true, true, true, true, true, true, true, true, true, true, true, true, true] rfl rfl (one_of HT_.out (by kernel_rfl)) (by decide) (fun K hK => ?_)
                have hs10 : w9.cell? ⟨gb116, 0, none⟩ = some (.int .i64 0) := (blk_cell BK116.out 0).trans rfl
                have hfs10 := blk_frozen BK116.out 0
                have hs11 : w9.cell? ⟨gb116, 1, none⟩ = some (.int .i64 0) := (blk_cell BK116.out 1).trans rfl
                have hfs11 := blk_frozen BK116.out 1
                have hs12 : w9.cell? ⟨gb116, 2, none⟩ = some (.int .i64 0) := (blk_cell BK116.out 2).trans rfl
                have hfs12 := blk_frozen BK116.out 2
                refine skip_ (w1 := ?_) (by rfl) rfl ?_ ?_
                rotate_left
                · go_simp
                  rfl
                refine hK.out _ _ ⟨((cell_far (p := ⟨gb116, _, none⟩) (by first | exact V_apart HO_0.out (of_decide_eq_true (by assumption)) (fun _ hk => hk.2) | (rw [add_block]; exact V_apart HO_0.out (of_decide_eq_true (by assumption)) (fun _ hk => hk.2)) | (show (Addr.add _ _).block ≠ _; rw [add_block]; exact V_apart HO_0.out (of_decide_eq_true (by assumption)) (fun _ hk => hk.2)) | (dsimp only; exact V_apart HO_0.out (of_decide_eq_true (by assumption)) (fun _ hk => hk.2))) _).trans (((cell_far (p := ⟨gb116, _, none⟩) (by first | exact V_apart HO_0.out (of_decide_eq_true (by assumption)) (fun _ hk => hk.2) | (rw [add_block]; exact V_apart HO_0.out (of_decide_eq_true (by assumption)) (fun _ hk => hk.2)) | (show (Addr.add _ _).block ≠ _; rw [add_block]; exact V_apart HO_0.out (of_decide_eq_true (by assumption)) (fun _ hk => hk.2)) | (dsimp only; exact V_apart HO_0.out (of_decide_eq_true (by assumption)) (fun _ hk => hk.2))) _).trans (((cell_far (p := ⟨gb116, _, none⟩) (by first | exact V_apart HO_0.out (of_decide_eq_true (by assumption)) (fun _ hk => hk.2) | (rw [add_block]; exact V_apart HO_0.out (of_decide_eq_true (by assumption)) (fun _ hk => hk.2)) | (show (Addr.add _ _).block ≠ _; rw [add_block]; exact V_apart HO_0.out (of_decide_eq_true (by assumption)) (fun _ hk => hk.2)) | (dsimp only; exact V_apart HO_0.out (of_decide_eq_true (by assumption)) (fun _ hk => hk.2))) _).trans (hHeld.1)))))), ((cell_far (p := ⟨gb116, _, none⟩) (by first | exact V_apart HO_0.out (of_decide_eq_true (by assumption)) (fun _ hk => hk.2) | (rw [add_block]; exact V_apart HO_0.out (of_decide_eq_true (by assumption)) (fun _ hk => hk.2)) | (show (Addr.add _ _).block ≠ _; rw [add_block]; exact V_apart HO_0.out (of_decide_eq_true (by assumption)) (fun _ hk => hk.2)) | (dsimp only; exact V_apart HO_0.out (of_decide_eq_true (by assumption)) (fun _ hk => hk.2))) _).trans (((cell_far (p := ⟨gb116, _, none⟩) (by first | exact V_apart HO_0.out (of_decide_eq_true (by assumption)) (fun _ hk => hk.2) | (rw [add_block]; exact V_apart HO_0.out (of_decide_eq_true (by assumption)) (fun _ hk => hk.2)) | (show (Addr.add _ _).block ≠ _; rw [add_block]; exact V_apart HO_0.out (of_decide_eq_true (by assumption)) (fun _ hk => hk.2)) | (dsimp only; exact V_apart HO_0.out (of_decide_eq_true (by assumption)) (fun _ hk => hk.2))) _).trans (((cell_far (p := ⟨gb116, _, none⟩) (by first | exact V_apart HO_0.out (of_decide_eq_true (by assumption)) (fun _ hk => hk.2) | (rw [add_block]; exact V_apart HO_0.out (of_decide_eq_true (by assumption)) (fun _ hk => hk.2)) | (show (Addr.add _ _).block ≠ _; rw [add_block]; exact V_apart HO_0.out (of_decide_eq_true (by assumption)) (fun _ hk => hk.2)) | (dsimp only; exact V_apart HO_0.out (of_decide_eq_true (by assumption)) (fun _ hk => hk.2))) _).trans (hHeld.2.1)))))), ((cell_far (p := ⟨gb116, _, none⟩) (by first | exact V_apart HO_0.out (of_decide_eq_true (by assumption)) (fun _ hk => hk.2) | (rw [add_block]; exact V_apart HO_0.out (of_decide_eq_true (by assumption)) (fun _ hk => hk.2)) | (show (Addr.add _ _).block ≠ _; rw [add_block]; exact V_apart HO_0.out (of_decide_eq_true (by assumption)) (fun _ hk => hk.2)) | (dsimp only; exact V_apart HO_0.out (of_decide_eq_true (by assumption)) (fun _ hk => hk.2))) _).trans (((cell_far (p := ⟨gb116, _, none⟩) (by first | exact V_apart HO_0.out (of_decide_eq_true (by assumption)) (fun _ hk => hk.2) | (rw [add_block]; exact V_apart HO_0.out (of_decide_eq_true (by assumption)) (fun _ hk => hk.2)) | (show (Addr.add _ _).block ≠ _; rw [add_block]; exact V_apart HO_0.out (of_decide_eq_true (by assumption)) (fun _ hk => hk.2)) | (dsimp only; exact V_apart HO_0.out (of_decide_eq_true (by assumption)) (fun _ hk => hk.2))) _).trans (((cell_far (p := ⟨gb116, _, none⟩) (by first | exact V_apart HO_0.out (of_decide_eq_true (by assumption)) (fun _ hk => hk.2) | (rw [add_block]; exact V_apart HO_0.out (of_decide_eq_true (by assumption)) (fun _ hk => hk.2)) | (show (Addr.add _ _).block ≠ _; rw [add_block]; exact V_apart HO_0.out (of_decide_eq_true (by assumption)) (fun _ hk => hk.2)) | (dsimp only; exact V_apart HO_0.out (of_decide_eq_true (by assumption)) (fun _ hk => hk.2))) _).trans (hHeld.2.2))))))⟩ (fun hHeld => ?_)
                clear hK K
                refine done_ (done_of HT_.out (by kernel_rfl)) ?_
                have hcz13_0 : w9.cell? ⟨gb116, 0, none⟩ = some (.int .i64 0) := (blk_cell BK116.out 0).trans rfl
                have hcz13_1 : w9.cell? ⟨gb116, 1, none⟩ = some (.int .i64 0) := (blk_cell BK116.out 1).trans rfl
                have hcz13_2 : w9.cell? ⟨gb116, 2, none⟩ = some (.int .i64 0) := (blk_cell BK116.out 2).trans rfl
                have hfz13_0 := blk_frozen BK116.out 0
                have hfz13_1 := blk_frozen BK116.out 1
                have hfz13_2 := blk_frozen BK116.out 2
                try go_wp2
                go_ret2
                exact ⟨_, by first | rfl | (simp [errW_none, errW_some] <;> rfl) | (simp [*, errW_none, errW_some] <;> rfl), by first | exact Kd.R_nil _ _ _ _ _ | exact Kd.N_nil _ _ _ _ _ | exact Kd.V_nil _ _ _ _ _ | exact Kd.Q_nil _ _ _ _ _ | exact Kd.S_nil _ _ _ _ _, by repeat (first | (with_reducible first | exact HB.out | apply below_alloc | apply pw_below_drewN | apply below_drew1 | refine below_set ?_ GE116.out) | exact HB.out)⟩
              · rw [if_neg c6] at H
                have c6b0 : decide (3 < (wrap64 ((rd x0_1 1) / 4))) = false := decide_eq_false c6
                clear c6
                by_cases c14 : (wrap64 (Go.bits .and .u8 (rd x0_1 1) 3)) > (wrap64 ((rd x0_1 1) / 4))
                · rw [if_pos c14] at H
                  have c14b0 : decide ((wrap64 ((rd x0_1 1) / 4)) < (wrap64 (Go.bits .and .u8 (rd x0_1 1) 3))) = true := decide_eq_true c14
                  clear c14
                  simp only [Option.some.injEq, Prod.mk.injEq] at H
                  obtain ⟨rfl, rfl⟩ := H
                  obtain ⟨Ao15, co15, eo15⟩ := Kd.V_slice HO_0.out
                  subst eo15
                  try go_wp2
                  have n0_ := Aside0.mk (Kd.V_drew HO_0.out)
                  have n1_ := Aside0.mk (Kd.R_drew HO_4.out)
                  have n2_ := Aside0.mk (below_drew1 HB.out)
                  clear HO_0
                  clear HO_4
                  clear HB
                  have HO_0 := n0_
                  have HO_4 := n1_
                  have HB := n2_
                  clear n0_ n1_ n2_
                  have p113 : 0 ≤ (0 : Int) := (by omega)
                  have q113 : 0 < (x0_1.length : Int) := of_decide_eq_true (by first | (with_reducible assumption) | assumption)
                  obtain ⟨ad113, e113, hx113_0⟩ := Kd.at_int (Kd.V_reads' HO_0.out).2.2 0 p113 q113
                  cases e113
                  have qi113 : (0 < x0_1.length) = True := eq_true (by omega)
                  (try rw [show ((0 : Int)).toNat = 0 from rfl] at hx113_0)
                  (try rw [Addr.add_zero'] at hx113_0)
                  replace p113 := eq_true p113
                  replace q113 := eq_true q113
                  have p114 : 0 ≤ (1 : Int) := (by omega)
                  have q114 : 1 < (x0_1.length : Int) := of_decide_eq_true (by first | (with_reducible assumption) | assumption)
                  obtain ⟨ad114, e114, hx114_0⟩ := Kd.at_int (Kd.V_reads' HO_0.out).2.2 1 p114 q114
                  obtain rfl : ad113 = ad114 := (by injection e114)
                  (try simp only [show (1 : Int).toNat = 1 from rfl, Nat.reduceMul, Nat.reduceEqDiff, Go.Addr.add, ↓reduceIte] at hx114_0)
                  have qi114 : (1 < x0_1.length) = True := eq_true (by omega)
                  (try rw [show ((1 : Int)).toNat = 1 from rfl] at hx114_0)
                  replace p114 := eq_true p114
                  replace q114 := eq_true q114
                  have p115 : 0 ≤ (1 : Int) := (by omega)
                  have q115 : 1 < (x0_1.length : Int) := of_decide_eq_true (by first | (with_reducible assumption) | assumption)
                  obtain ⟨ad115, e115, hx115_0⟩ := Kd.at_int (Kd.V_reads' HO_0.out).2.2 1 p115 q115
                  obtain rfl : ad113 = ad115 := (by injection e115)
                  (try simp only [show (1 : Int).toNat = 1 from rfl, Nat.reduceMul, Nat.reduceEqDiff, Go.Addr.add, ↓reduceIte] at hx115_0)
                  have qi115 : (1 < x0_1.length) = True := eq_true (by omega)
                  (try rw [show ((1 : Int)).toNat = 1 from rfl] at hx115_0)
                  replace p115 := eq_true p115
                  replace q115 := eq_true q115
                  refine start_ (n := 17) (S := fun w' => w'.cell? ad113 = some (.int .u8 (rd x0_1 0)) ∧ w'.cell? ⟨ad113.block, ad113.off + 1, none⟩ = some (.int .u8 (rd x0_1 1)) ∧ w'.cell? ⟨ad113.block, ad113.off + 1, none⟩ = some (.int .u8 (rd x0_1 1))) (ds := []) #[false, false, false, false, false, false, false, false, false, false, false, false, false, false, false, false, false] (by kernel_rfl) rfl rfl ⟨hx113_0, hx114_0, hx115_0⟩ (fun hHeld => ?_); refine with_tabW blk_Segments.tab6 blk_Segments.bits6 (fun HT_ HW_ => ?_)
                  generalize wr.drew = w16 at HO_0 HO_4 HB hx113_0 hx114_0 hx115_0 hHeld ⊢
                  refine pure_ (i := 0) (N := some 15) (v := ?_) (a' := ?_) #[true, false, false, false, false, false, false, false, false, false, false, false, false, false, false, false, false] rfl rfl (any_of HT_.out (by kernel_rfl)) (fun _ _ _ h => h) (Or.inl ⟨by rfl, ?_⟩) ?_ ?_
                  rotate_left
                  · intro w'
                    go_simp
                    with_reducible rfl
                  rotate_left
                  · simp only [Act.put, List.setIfInBounds_toArray, List.set_cons_zero, List.set_cons_succ, i64_w, i32_w]
                    rfl
                  refine pure_ (i := 1) (N := some 16) (v := ?_) (a' := ?_) #[true, true, false, false, false, false, false, false, false, false, false, false, false, false, false, false, false] rfl rfl (any_of HT_.out (by kernel_rfl)) (fun _ _ _ h => h) (Or.inl ⟨by rfl, ?_⟩) ?_ ?_
                  rotate_left
                  · intro w'
                    go_simp
                    with_reducible rfl
                  rotate_left
                  · simp only [Act.put, List.setIfInBounds_toArray, List.set_cons_zero, List.set_cons_succ, i64_w, i32_w]
                    rfl
                  refine pure_ (i := 4) (N := some 19) (v := ?_) (a' := ?_) #[true, true, false, false, true, false, false, false, false, false, false, false, false, false, false, false, false] rfl rfl (any_of HT_.out (by kernel_rfl)) (fun _ _ _ h => h) (Or.inl ⟨by rfl, ?_⟩) ?_ ?_
                  rotate_left
                  · intro w'
                    go_simp
                    with_reducible rfl
                  rotate_left
                  · simp only [Act.put, List.setIfInBounds_toArray, List.set_cons_zero, List.set_cons_succ, i64_w, i32_w]
                    rfl
                  refine pure_ (i := 5) (N := some 20) (v := ?_) (a' := ?_) #[true, true, false, false, true, true, false, false, false, false, false, false, false, false, false, false, false] rfl rfl (any_of HT_.out (by kernel_rfl)) (fun _ _ _ h => h) (Or.inl ⟨by rfl, ?_⟩) ?_ ?_
                  rotate_left
                  · intro w'
                    go_simp
                    with_reducible rfl
                  rotate_left
                  · simp only [Act.put, List.setIfInBounds_toArray, List.set_cons_zero, List.set_cons_succ, i64_w, i32_w]
                    rfl
                  refine pure_ (i := 9) (N := some 24) (v := ?_) (a' := ?_) #[true, true, false, false, true, true, false, false, false, true, false, false, false, false, false, false, false] rfl rfl (any_of HT_.out (by kernel_rfl)) (fun _ _ _ h => h) (Or.inl ⟨by rfl, ?_⟩) ?_ ?_
                  rotate_left
                  · intro w'
                    go_simp
                    with_reducible rfl
                  rotate_left
                  · simp only [Act.put, List.setIfInBounds_toArray, List.set_cons_zero, List.set_cons_succ, i64_w, i32_w]
                    rfl
                  refine pure_ (i := 10) (N := some 25) (v := ?_) (a' := ?_) #[true, true, false, false, true, true, false, false, false, true, true, false, false, false, false, false, false] rfl rfl (any_of HT_.out (by kernel_rfl)) (fun _ _ _ h => h) (Or.inl ⟨by rfl, ?_⟩) ?_ ?_
                  rotate_left
                  · intro w'
                    go_simp
                    with_reducible rfl
                  rotate_left
                  · simp only [Act.put, List.setIfInBounds_toArray, List.set_cons_zero, List.set_cons_succ, i64_w, i32_w]
                    rfl
                  refine take_ (i := 2) (N := some 17) (v := ?_) (a' := ?_) #[true, true, true, false, true, true, false, false, false, true, true, false, false, false, false, false, false] rfl rfl (take_ofW HT_.out HW_.out (by kernel_rfl)) (fun _ _ _ h => h) (Or.inl ⟨by rfl, ?_⟩) hHeld ?_ ?_
                  rotate_left
                  · rintro w' ⟨s0, s1, s2⟩
                    go_simp
                    with_reducible rfl
                  rotate_left
                  · simp only [Act.put, List.setIfInBounds_toArray, List.set_cons_zero, List.set_cons_succ, i64_w, i32_w]
                    rfl
                  refine pure_ (i := 3) (N := some 18) (v := ?_) (a' := ?_) #[true, true, true, true, true, true, false, false, false, true, true, false, false, false, false, false, false] rfl rfl (any_of HT_.out (by kernel_rfl)) (fun _ _ _ h => h) (Or.inl ⟨by rfl, ?_⟩) ?_ ?_
                  rotate_left
                  · intro w'
                    go_simp
                    with_reducible rfl
                  rotate_left
                  · simp only [Act.put, List.setIfInBounds_toArray, List.set_cons_zero, List.set_cons_succ, i64_w, i32_w]
                    rfl
                  refine take_ (i := 6) (N := some 21) (v := ?_) (a' := ?_) #[true, true, true, true, true, true, true, false, false, true, true, false, false, false, false, false, false] rfl rfl (take_ofW HT_.out HW_.out (by kernel_rfl)) (fun _ _ _ h => h) (Or.inl ⟨by rfl, ?_⟩) hHeld ?_ ?_
                  rotate_left
                  · rintro w' ⟨s0, s1, s2⟩
                    go_simp
                    with_reducible rfl
                  rotate_left
                  · simp only [Act.put, List.setIfInBounds_toArray, List.set_cons_zero, List.set_cons_succ, i64_w, i32_w]
                    rfl
                  refine pure_ (i := 7) (N := some 22) (v := ?_) (a' := ?_) #[true, true, true, true, true, true, true, true, false, true, true, false, false, false, false, false, false] rfl rfl (any_of HT_.out (by kernel_rfl)) (fun _ _ _ h => h) (Or.inl ⟨by rfl, ?_⟩) ?_ ?_
                  rotate_left
                  · intro w'
                    go_simp
                    with_reducible rfl
                  rotate_left
                  · simp only [Act.put, List.setIfInBounds_toArray, List.set_cons_zero, List.set_cons_succ, i64_w, i32_w]
                    rfl
                  refine pure_ (i := 8) (N := some 23) (v := ?_) (a' := ?_) #[true, true, true, true, true, true, true, true, true, true, true, false, false, false, false, false, false] rfl rfl (any_of HT_.out (by kernel_rfl)) (fun _ _ _ h => h) (Or.inl ⟨by rfl, ?_⟩) ?_ ?_
                  rotate_left
                  · intro w'
                    go_simp
                    with_reducible rfl
                  rotate_left
                  · simp only [Act.put, List.setIfInBounds_toArray, List.set_cons_zero, List.set_cons_succ, i64_w, i32_w]
                    rfl
                  refine take_ (i := 11) (N := some 26) (v := ?_) (a' := ?_) #[true, true, true, true, true, true, true, true, true, true, true, true, false, false, false, false, false] rfl rfl (take_ofW HT_.out HW_.out (by kernel_rfl)) (fun _ _ _ h => h) (Or.inl ⟨by rfl, ?_⟩) hHeld ?_ ?_
                  rotate_left
                  · rintro w' ⟨s0, s1, s2⟩
                    go_simp
                    with_reducible rfl
                  rotate_left
                  · simp only [Act.put, List.setIfInBounds_toArray, List.set_cons_zero, List.set_cons_succ, i64_w, i32_w]
                    rfl
                  refine pure_ (i := 12) (N := some 27) (v := ?_) (a' := ?_) #[true, true, true, true, true, true, true, true, true, true, true, true, true, false, false, false, false] rfl rfl (any_of HT_.out (by kernel_rfl)) (fun _ _ _ h => h) (Or.inl ⟨by rfl, ?_⟩) ?_ ?_
                  rotate_left
                  · intro w'
                    go_simp
                    with_reducible rfl
                  rotate_left
                  · simp only [Act.put, List.setIfInBounds_toArray, List.set_cons_zero, List.set_cons_succ, i64_w, i32_w]
                    rfl
                  refine pure_ (i := 13) (N := some 28) (v := ?_) (a' := ?_) #[true, true, true, true, true, true, true, true, true, true, true, true, true, true, false, false, false] rfl rfl (any_of HT_.out (by kernel_rfl)) (fun _ _ _ h => h) (Or.inl ⟨by rfl, ?_⟩) ?_ ?_
                  rotate_left
                  · intro w'
                    go_simp
                    with_reducible rfl
                  rotate_left
                  · simp only [Act.put, List.setIfInBounds_toArray, List.set_cons_zero, List.set_cons_succ, i64_w, i32_w]
                    rfl
                  refine pure_ (i := 14) (N := some 29) (v := ?_) (a' := ?_) #[true, true, true, true, true, true, true, true, true, true, true, true, true, true, true, false, false] rfl rfl (any_of HT_.out (by kernel_rfl)) (fun _ _ _ h => h) (Or.inl ⟨by rfl, ?_⟩) ?_ ?_
                  rotate_left
                  · intro w'
                    go_simp
                    with_reducible rfl
                  rotate_left
                  · simp only [Act.put, List.setIfInBounds_toArray, List.set_cons_zero, List.set_cons_succ, i64_w, i32_w]
                    rfl
                  refine one_ (i := 15) (N := some 5) #[true, true, true, true, true, true, true, true, true, true, true, true, true, true, true, true, false] rfl rfl (one_of HT_.out (by kernel_rfl)) (by decide) (fun K hK => ?_)
                  refine box_step ?hg (N := 5) ?hd (cs := #[.int .i64 0, .int .i64 0, .int .i64 0]) (t := 81) ?hr ?_; (case hd => rfl); (case hg => rfl); (case hr => first | (go_simp; done) | (go_simp; rfl))
                  intro gb116 hg w17 hbox hb
                  have HS0_ := (hb.cell (World.block_lt_of_cell? _ _ (hHeld.1))).trans (hHeld.1)
                  have HS1_ := (hb.cell (World.block_lt_of_cell? _ _ (hHeld.2.1))).trans (hHeld.2.1)
                  have HS2_ := (hb.cell (World.block_lt_of_cell? _ _ (hHeld.2.2))).trans (hHeld.2.2)
                  have n0_ := Aside0.mk (Kd.V_below (Kd.V_elderB (by (with_reducible repeat (first | apply Kd.V_alloc | apply Kd.V_drewN | apply Kd.V_drew)); exact HO_0.out) gb116 (Nat.le_of_eq hg.symm)) hb)
                  have n1_ := Aside0.mk (Kd.R_below (Kd.R_elderB (by (with_reducible repeat (first | apply Kd.R_alloc | apply Kd.R_drewN | apply Kd.R_drew)); exact HO_4.out) gb116 (Nat.le_of_eq hg.symm)) hb)
                  have n2_ := Aside0.mk (below_step (by repeat (first | (with_reducible first | exact HB.out | apply below_alloc | apply pw_below_drewN | apply below_drew1) | exact HB.out)) hb)
                  have n3_ := Aside0.mk (hbox)
                  have n4_ := Aside0.mk ((by rw [hg]; exact (below_size (by repeat (first | (with_reducible first | exact HB.out | apply below_alloc | apply pw_below_drewN | apply below_drew1) | exact HB.out))) : w.heap.size ≤ gb116))
                  have n5_ := Aside0.mk ((by rw [hg]; exact (below_size (by repeat (first | (with_reducible first | exact HB.out | apply below_alloc | apply pw_below_drewN | apply below_drew1) | exact HB.out))) : w.heap.size ≤ gb116))
                  clear HO_0
                  clear HO_4
                  clear HB
                  have HO_0 := n0_
                  have HO_4 := n1_
                  have HB := n2_
                  have BK116 := n3_
                  have GW116 := n4_
                  have GE116 := n5_
                  clear n0_ n1_ n2_ n3_ n4_ n5_
                  clear hb hbox hg
                  refine hK.out _ _ ⟨HS0_, HS1_, HS2_⟩ (fun hHeld => ?_)
                  clear hK K
                  refine norm_ (a' := ?_) ?_ ?_
                  rotate_left
                  · show Act.put _ (some 5) _ = _
                    simp only [Act.put, List.setIfInBounds_toArray, List.set_cons_zero, List.set_cons_succ, i64_w, i32_w]
                    rfl
                  refine one_ (i := 16) (N := none) #[true, true, true, true, true, true, true, true, true, true, true, true, true, true, true, true, true] rfl rfl (one_of HT_.out (by kernel_rfl)) (by decide) (fun K hK => ?_)
                  have hs18 : w17.cell? ⟨gb116, 0, none⟩ = some (.int .i64 0) := (blk_cell BK116.out 0).trans rfl
                  have hfs18 := blk_frozen BK116.out 0
                  have hs19 : w17.cell? ⟨gb116, 1, none⟩ = some (.int .i64 0) := (blk_cell BK116.out 1).trans rfl
                  have hfs19 := blk_frozen BK116.out 1
                  have hs20 : w17.cell? ⟨gb116, 2, none⟩ = some (.int .i64 0) := (blk_cell BK116.out 2).trans rfl
                  have hfs20 := blk_frozen BK116.out 2
                  refine skip_ (w1 := ?_) (by rfl) rfl ?_ ?_
                  rotate_left
                  · go_simp
                    rfl
                  refine hK.out _ _ ⟨((cell_far (p := ⟨gb116, _, none⟩) (by first | exact V_apart HO_0.out (of_decide_eq_true (by assumption)) (fun _ hk => hk.2) | (rw [add_block]; exact V_apart HO_0.out (of_decide_eq_true (by assumption)) (fun _ hk => hk.2)) | (show (Addr.add _ _).block ≠ _; rw [add_block]; exact V_apart HO_0.out (of_decide_eq_true (by assumption)) (fun _ hk => hk.2)) | (dsimp only; exact V_apart HO_0.out (of_decide_eq_true (by assumption)) (fun _ hk => hk.2))) _).trans (((cell_far (p := ⟨gb116, _, none⟩) (by first | exact V_apart HO_0.out (of_decide_eq_true (by assumption)) (fun _ hk => hk.2) | (rw [add_block]; exact V_apart HO_0.out (of_decide_eq_true (by assumption)) (fun _ hk => hk.2)) | (show (Addr.add _ _).block ≠ _; rw [add_block]; exact V_apart HO_0.out (of_decide_eq_true (by assumption)) (fun _ hk => hk.2)) | (dsimp only; exact V_apart HO_0.out (of_decide_eq_true (by assumption)) (fun _ hk => hk.2))) _).trans (((cell_far (p := ⟨gb116, _, none⟩) (by first | exact V_apart HO_0.out (of_decide_eq_true (by assumption)) (fun _ hk => hk.2) | (rw [add_block]; exact V_apart HO_0.out (of_decide_eq_true (by assumption)) (fun _ hk => hk.2)) | (show (Addr.add _ _).block ≠ _; rw [add_block]; exact V_apart HO_0.out (of_decide_eq_true (by assumption)) (fun _ hk => hk.2)) | (dsimp only; exact V_apart HO_0.out (of_decide_eq_true (by assumption)) (fun _ hk => hk.2))) _).trans (hHeld.1)))))), ((cell_far (p := ⟨gb116, _, none⟩) (by first | exact V_apart HO_0.out (of_decide_eq_true (by assumption)) (fun _ hk => hk.2) | (rw [add_block]; exact V_apart HO_0.out (of_decide_eq_true (by assumption)) (fun _ hk => hk.2)) | (show (Addr.add _ _).block ≠ _; rw [add_block]; exact V_apart HO_0.out (of_decide_eq_true (by assumption)) (fun _ hk => hk.2)) | (dsimp only; exact V_apart HO_0.out (of_decide_eq_true (by assumption)) (fun _ hk => hk.2))) _).trans (((cell_far (p := ⟨gb116, _, none⟩) (by first | exact V_apart HO_0.out (of_decide_eq_true (by assumption)) (fun _ hk => hk.2) | (rw [add_block]; exact V_apart HO_0.out (of_decide_eq_true (by assumption)) (fun _ hk => hk.2)) | (show (Addr.add _ _).block ≠ _; rw [add_block]; exact V_apart HO_0.out (of_decide_eq_true (by assumption)) (fun _ hk => hk.2)) | (dsimp only; exact V_apart HO_0.out (of_decide_eq_true (by assumption)) (fun _ hk => hk.2))) _).trans (((cell_far (p := ⟨gb116, _, none⟩) (by first | exact V_apart HO_0.out (of_decide_eq_true (by assumption)) (fun _ hk => hk.2) | (rw [add_block]; exact V_apart HO_0.out (of_decide_eq_true (by assumption)) (fun _ hk => hk.2)) | (show (Addr.add _ _).block ≠ _; rw [add_block]; exact V_apart HO_0.out (of_decide_eq_true (by assumption)) (fun _ hk => hk.2)) | (dsimp only; exact V_apart HO_0.out (of_decide_eq_true (by assumption)) (fun _ hk => hk.2))) _).trans (hHeld.2.1)))))), ((cell_far (p := ⟨gb116, _, none⟩) (by first | exact V_apart HO_0.out (of_decide_eq_true (by assumption)) (fun _ hk => hk.2) | (rw [add_block]; exact V_apart HO_0.out (of_decide_eq_true (by assumption)) (fun _ hk => hk.2)) | (show (Addr.add _ _).block ≠ _; rw [add_block]; exact V_apart HO_0.out (of_decide_eq_true (by assumption)) (fun _ hk => hk.2)) | (dsimp only; exact V_apart HO_0.out (of_decide_eq_true (by assumption)) (fun _ hk => hk.2))) _).trans (((cell_far (p := ⟨gb116, _, none⟩) (by first | exact V_apart HO_0.out (of_decide_eq_true (by assumption)) (fun _ hk => hk.2) | (rw [add_block]; exact V_apart HO_0.out (of_decide_eq_true (by assumption)) (fun _ hk => hk.2)) | (show (Addr.add _ _).block ≠ _; rw [add_block]; exact V_apart HO_0.out (of_decide_eq_true (by assumption)) (fun _ hk => hk.2)) | (dsimp only; exact V_apart HO_0.out (of_decide_eq_true (by assumption)) (fun _ hk => hk.2))) _).trans (((cell_far (p := ⟨gb116, _, none⟩) (by first | exact V_apart HO_0.out (of_decide_eq_true (by assumption)) (fun _ hk => hk.2) | (rw [add_block]; exact V_apart HO_0.out (of_decide_eq_true (by assumption)) (fun _ hk => hk.2)) | (show (Addr.add _ _).block ≠ _; rw [add_block]; exact V_apart HO_0.out (of_decide_eq_true (by assumption)) (fun _ hk => hk.2)) | (dsimp only; exact V_apart HO_0.out (of_decide_eq_true (by assumption)) (fun _ hk => hk.2))) _).trans (hHeld.2.2))))))⟩ (fun hHeld => ?_)
                  clear hK K
                  refine done_ (done_of HT_.out (by kernel_rfl)) ?_
                  have hcz21_0 : w17.cell? ⟨gb116, 0, none⟩ = some (.int .i64 0) := (blk_cell BK116.out 0).trans rfl
                  have hcz21_1 : w17.cell? ⟨gb116, 1, none⟩ = some (.int .i64 0) := (blk_cell BK116.out 1).trans rfl
                  have hcz21_2 : w17.cell? ⟨gb116, 2, none⟩ = some (.int .i64 0) := (blk_cell BK116.out 2).trans rfl
                  have hfz21_0 := blk_frozen BK116.out 0
                  have hfz21_1 := blk_frozen BK116.out 1
                  have hfz21_2 := blk_frozen BK116.out 2
                  try go_wp2
                  go_ret2
                  exact ⟨_, by first | rfl | (simp [errW_none, errW_some] <;> rfl) | (simp [*, errW_none, errW_some] <;> rfl), by first | exact Kd.R_nil _ _ _ _ _ | exact Kd.N_nil _ _ _ _ _ | exact Kd.V_nil _ _ _ _ _ | exact Kd.Q_nil _ _ _ _ _ | exact Kd.S_nil _ _ _ _ _, by repeat (first | (with_reducible first | exact HB.out | apply below_alloc | apply pw_below_drewN | apply below_drew1 | refine below_set ?_ GE116.out) | exact HB.out)⟩
                · rw [if_neg c14] at H
                  have c14b0 : decide ((wrap64 ((rd x0_1 1) / 4)) < (wrap64 (Go.bits .and .u8 (rd x0_1 1) 3))) = false := decide_eq_false c14
                  clear c14
                  by_cases c22 : x4_1.length < 5864062014805
                  · rw [if_pos c22] at H
                    have LMc22 := Aside0.mk c22
                    clear c22
                    obtain ⟨y117, hy117⟩ : ∃ y_ : List (S81), y_ = (x4_1 ++ [(⟨wrap64 (rd x0_1 0), wrap64 (Go.bits .and .u8 (rd x0_1 1) 3), wrap64 ((rd x0_1 1) / 4)⟩ : S81)]) := ⟨_, rfl⟩
                    replace H : (if 2 ≤ (x0_1.length : Int) then (blk_Segments.l0 k1 (x0_1.drop 2) y117) else (none)) = some (r1, r2) := by first | (rw [hy117]; with_reducible exact H) | (have H2_ := (Option.bind_some _ _).symm.trans H; rw [hy117]; with_reducible exact H2_) | (have H2_ := (Option.bind_some _ _).symm.trans H; with_reducible exact H2_) | with_reducible exact H | (rw [hy117]; exact H) | exact H
                    have Ny117 := Aside0.mk hy117
                    clear hy117
                    by_cases c23 : 2 ≤ (x0_1.length : Int)
                    · rw [if_pos c23] at H
                      have c23b0 := eq_true c23
                      have c23b1 : decide (2 ≤ (x0_1.length : Int)) = true := decide_eq_true c23
                      clear c23
                      obtain ⟨y120, hy120⟩ : ∃ y_ : List Int, y_ = (x0_1.drop 2) := ⟨_, rfl⟩
                      replace H : (blk_Segments.l0 k1 y120 y117) = some (r1, r2) := by first | (rw [hy120]; with_reducible exact H) | (have H2_ := (Option.bind_some _ _).symm.trans H; rw [hy120]; with_reducible exact H2_) | (have H2_ := (Option.bind_some _ _).symm.trans H; with_reducible exact H2_) | with_reducible exact H | (rw [hy120]; exact H) | exact H
                      have Ny120 := Aside0.mk hy120
                      clear hy120
                      have H' := Aside0.mk H
                      clear H
                      obtain ⟨Ao24, co24, eo24⟩ := Kd.V_slice HO_0.out
                      subst eo24
                      try go_wp2
                      have n0_ := Aside0.mk (Kd.V_drew HO_0.out)
                      have n1_ := Aside0.mk (Kd.R_drew HO_4.out)
                      have n2_ := Aside0.mk (below_drew1 HB.out)
                      clear HO_0
                      clear HO_4
                      clear HB
                      have HO_0 := n0_
                      have HO_4 := n1_
                      have HB := n2_
                      clear n0_ n1_ n2_
                      have p113 : 0 ≤ (0 : Int) := (by omega)
                      have q113 : 0 < (x0_1.length : Int) := of_decide_eq_true (by first | (with_reducible assumption) | assumption)
                      obtain ⟨ad113, e113, hx113_0⟩ := Kd.at_int (Kd.V_reads' HO_0.out).2.2 0 p113 q113
                      cases e113
                      have qi113 : (0 < x0_1.length) = True := eq_true (by omega)
                      (try rw [show ((0 : Int)).toNat = 0 from rfl] at hx113_0)
                      (try rw [Addr.add_zero'] at hx113_0)
                      replace p113 := eq_true p113
                      replace q113 := eq_true q113
                      have p114 : 0 ≤ (1 : Int) := (by omega)
                      have q114 : 1 < (x0_1.length : Int) := of_decide_eq_true (by first | (with_reducible assumption) | assumption)
                      obtain ⟨ad114, e114, hx114_0⟩ := Kd.at_int (Kd.V_reads' HO_0.out).2.2 1 p114 q114
                      obtain rfl : ad113 = ad114 := (by injection e114)
                      (try simp only [show (1 : Int).toNat = 1 from rfl, Nat.reduceMul, Nat.reduceEqDiff, Go.Addr.add, ↓reduceIte] at hx114_0)
                      have qi114 : (1 < x0_1.length) = True := eq_true (by omega)
                      (try rw [show ((1 : Int)).toNat = 1 from rfl] at hx114_0)
                      replace p114 := eq_true p114
                      replace q114 := eq_true q114
                      have p115 : 0 ≤ (1 : Int) := (by omega)
                      have q115 : 1 < (x0_1.length : Int) := of_decide_eq_true (by first | (with_reducible assumption) | assumption)
                      obtain ⟨ad115, e115, hx115_0⟩ := Kd.at_int (Kd.V_reads' HO_0.out).2.2 1 p115 q115
                      obtain rfl : ad113 = ad115 := (by injection e115)
                      (try simp only [show (1 : Int).toNat = 1 from rfl, Nat.reduceMul, Nat.reduceEqDiff, Go.Addr.add, ↓reduceIte] at hx115_0)
                      have qi115 : (1 < x0_1.length) = True := eq_true (by omega)
                      (try rw [show ((1 : Int)).toNat = 1 from rfl] at hx115_0)
                      replace p115 := eq_true p115
                      replace q115 := eq_true q115
                      refine start_ (n := 17) (S := fun w' => w'.cell? ad113 = some (.int .u8 (rd x0_1 0)) ∧ w'.cell? ⟨ad113.block, ad113.off + 1, none⟩ = some (.int .u8 (rd x0_1 1)) ∧ w'.cell? ⟨ad113.block, ad113.off + 1, none⟩ = some (.int .u8 (rd x0_1 1))) (ds := []) #[false, false, false, false, false, false, false, false, false, false, false, false, false, false, false, false, false] (by kernel_rfl) rfl rfl ⟨hx113_0, hx114_0, hx115_0⟩ (fun hHeld => ?_); refine with_tabW blk_Segments.tab6 blk_Segments.bits6 (fun HT_ HW_ => ?_)
                      generalize wr.drew = w25 at HO_0 HO_4 HB hx113_0 hx114_0 hx115_0 hHeld ⊢
                      refine pure_ (i := 0) (N := some 15) (v := ?_) (a' := ?_) #[true, false, false, false, false, false, false, false, false, false, false, false, false, false, false, false, false] rfl rfl (any_of HT_.out (by kernel_rfl)) (fun _ _ _ h => h) (Or.inl ⟨by rfl, ?_⟩) ?_ ?_
                      rotate_left
                      · intro w'
                        go_simp
                        with_reducible rfl
                      rotate_left
                      · simp only [Act.put, List.setIfInBounds_toArray, List.set_cons_zero, List.set_cons_succ, i64_w, i32_w]
                        rfl
                      refine pure_ (i := 1) (N := some 16) (v := ?_) (a' := ?_) #[true, true, false, false, false, false, false, false, false, false, false, false, false, false, false, false, false] rfl rfl (any_of HT_.out (by kernel_rfl)) (fun _ _ _ h => h) (Or.inl ⟨by rfl, ?_⟩) ?_ ?_
                      rotate_left
                      · intro w'
                        go_simp
                        with_reducible rfl
                      rotate_left
                      · simp only [Act.put, List.setIfInBounds_toArray, List.set_cons_zero, List.set_cons_succ, i64_w, i32_w]
                        rfl
                      refine pure_ (i := 4) (N := some 19) (v := ?_) (a' := ?_) #[true, true, false, false, true, false, false, false, false, false, false, false, false, false, false, false, false] rfl rfl (any_of HT_.out (by kernel_rfl)) (fun _ _ _ h => h) (Or.inl ⟨by rfl, ?_⟩) ?_ ?_
                      rotate_left
                      · intro w'
                        go_simp
                        with_reducible rfl
                      rotate_left
                      · simp only [Act.put, List.setIfInBounds_toArray, List.set_cons_zero, List.set_cons_succ, i64_w, i32_w]
                        rfl
                      refine pure_ (i := 5) (N := some 20) (v := ?_) (a' := ?_) #[true, true, false, false, true, true, false, false, false, false, false, false, false, false, false, false, false] rfl rfl (any_of HT_.out (by kernel_rfl)) (fun _ _ _ h => h) (Or.inl ⟨by rfl, ?_⟩) ?_ ?_
                      rotate_left
                      · intro w'
                        go_simp
                        with_reducible rfl
                      rotate_left
                      · simp only [Act.put, List.setIfInBounds_toArray, List.set_cons_zero, List.set_cons_succ, i64_w, i32_w]
                        rfl
                      refine pure_ (i := 9) (N := some 24) (v := ?_) (a' := ?_) #[true, true, false, false, true, true, false, false, false, true, false, false, false, false, false, false, false] rfl rfl (any_of HT_.out (by kernel_rfl)) (fun _ _ _ h => h) (Or.inl ⟨by rfl, ?_⟩) ?_ ?_
                      rotate_left
                      · intro w'
                        go_simp
                        with_reducible rfl
                      rotate_left
                      · simp only [Act.put, List.setIfInBounds_toArray, List.set_cons_zero, List.set_cons_succ, i64_w, i32_w]
                        rfl
                      refine pure_ (i := 10) (N := some 25) (v := ?_) (a' := ?_) #[true, true, false, false, true, true, false, false, false, true, true, false, false, false, false, false, false] rfl rfl (any_of HT_.out (by kernel_rfl)) (fun _ _ _ h => h) (Or.inl ⟨by rfl, ?_⟩) ?_ ?_
                      rotate_left
                      · intro w'
                        go_simp
                        with_reducible rfl
                      rotate_left
                      · simp only [Act.put, List.setIfInBounds_toArray, List.set_cons_zero, List.set_cons_succ, i64_w, i32_w]
                        rfl
                      refine take_ (i := 2) (N := some 17) (v := ?_) (a' := ?_) #[true, true, true, false, true, true, false, false, false, true, true, false, false, false, false, false, false] rfl rfl (take_ofW HT_.out HW_.out (by kernel_rfl)) (fun _ _ _ h => h) (Or.inl ⟨by rfl, ?_⟩) hHeld ?_ ?_
                      rotate_left
                      · rintro w' ⟨s0, s1, s2⟩
                        go_simp
                        with_reducible rfl
                      rotate_left
                      · simp only [Act.put, List.setIfInBounds_toArray, List.set_cons_zero, List.set_cons_succ, i64_w, i32_w]
                        rfl
                      refine pure_ (i := 3) (N := some 18) (v := ?_) (a' := ?_) #[true, true, true, true, true, true, false, false, false, true, true, false, false, false, false, false, false] rfl rfl (any_of HT_.out (by kernel_rfl)) (fun _ _ _ h => h) (Or.inl ⟨by rfl, ?_⟩) ?_ ?_
                      rotate_left
                      · intro w'
                        go_simp
                        with_reducible rfl
                      rotate_left
                      · simp only [Act.put, List.setIfInBounds_toArray, List.set_cons_zero, List.set_cons_succ, i64_w, i32_w]
                        rfl
                      refine take_ (i := 6) (N := some 21) (v := ?_) (a' := ?_) #[true, true, true, true, true, true, true, false, false, true, true, false, false, false, false, false, false] rfl rfl (take_ofW HT_.out HW_.out (by kernel_rfl)) (fun _ _ _ h => h) (Or.inl ⟨by rfl, ?_⟩) hHeld ?_ ?_
                      rotate_left
                      · rintro w' ⟨s0, s1, s2⟩
                        go_simp
                        with_reducible rfl
                      rotate_left
                      · simp only [Act.put, List.setIfInBounds_toArray, List.set_cons_zero, List.set_cons_succ, i64_w, i32_w]
                        rfl
                      refine pure_ (i := 7) (N := some 22) (v := ?_) (a' := ?_) #[true, true, true, true, true, true, true, true, false, true, true, false, false, false, false, false, false] rfl rfl (any_of HT_.out (by kernel_rfl)) (fun _ _ _ h => h) (Or.inl ⟨by rfl, ?_⟩) ?_ ?_
                      rotate_left
                      · intro w'
                        go_simp
                        with_reducible rfl
                      rotate_left
                      · simp only [Act.put, List.setIfInBounds_toArray, List.set_cons_zero, List.set_cons_succ, i64_w, i32_w]
                        rfl
                      refine pure_ (i := 8) (N := some 23) (v := ?_) (a' := ?_) #[true, true, true, true, true, true, true, true, true, true, true, false, false, false, false, false, false] rfl rfl (any_of HT_.out (by kernel_rfl)) (fun _ _ _ h => h) (Or.inl ⟨by rfl, ?_⟩) ?_ ?_
                      rotate_left
                      · intro w'
                        go_simp
                        with_reducible rfl
                      rotate_left
                      · simp only [Act.put, List.setIfInBounds_toArray, List.set_cons_zero, List.set_cons_succ, i64_w, i32_w]
                        rfl
                      refine take_ (i := 11) (N := some 26) (v := ?_) (a' := ?_) #[true, true, true, true, true, true, true, true, true, true, true, true, false, false, false, false, false] rfl rfl (take_ofW HT_.out HW_.out (by kernel_rfl)) (fun _ _ _ h => h) (Or.inl ⟨by rfl, ?_⟩) hHeld ?_ ?_
                      rotate_left
                      · rintro w' ⟨s0, s1, s2⟩
                        go_simp
                        with_reducible rfl
                      rotate_left
                      · simp only [Act.put, List.setIfInBounds_toArray, List.set_cons_zero, List.set_cons_succ, i64_w, i32_w]
                        rfl
                      refine pure_ (i := 12) (N := some 27) (v := ?_) (a' := ?_) #[true, true, true, true, true, true, true, true, true, true, true, true, true, false, false, false, false] rfl rfl (any_of HT_.out (by kernel_rfl)) (fun _ _ _ h => h) (Or.inl ⟨by rfl, ?_⟩) ?_ ?_
                      rotate_left
                      · intro w'
                        go_simp
                        with_reducible rfl
                      rotate_left
                      · simp only [Act.put, List.setIfInBounds_toArray, List.set_cons_zero, List.set_cons_succ, i64_w, i32_w]
                        rfl
                      refine pure_ (i := 13) (N := some 28) (v := ?_) (a' := ?_) #[true, true, true, true, true, true, true, true, true, true, true, true, true, true, false, false, false] rfl rfl (any_of HT_.out (by kernel_rfl)) (fun _ _ _ h => h) (Or.inl ⟨by rfl, ?_⟩) ?_ ?_
                      rotate_left
                      · intro w'
                        go_simp
                        with_reducible rfl
                      rotate_left
                      · simp only [Act.put, List.setIfInBounds_toArray, List.set_cons_zero, List.set_cons_succ, i64_w, i32_w]
                        rfl
                      refine pure_ (i := 14) (N := some 29) (v := ?_) (a' := ?_) #[true, true, true, true, true, true, true, true, true, true, true, true, true, true, true, false, false] rfl rfl (any_of HT_.out (by kernel_rfl)) (fun _ _ _ h => h) (Or.inl ⟨by rfl, ?_⟩) ?_ ?_
                      rotate_left
                      · intro w'
                        go_simp
                        with_reducible rfl
                      rotate_left
                      · simp only [Act.put, List.setIfInBounds_toArray, List.set_cons_zero, List.set_cons_succ, i64_w, i32_w]
                        rfl
                      refine one_ (i := 15) (N := some 5) #[true, true, true, true, true, true, true, true, true, true, true, true, true, true, true, true, false] rfl rfl (one_of HT_.out (by kernel_rfl)) (by decide) (fun K hK => ?_)
                      refine box_step ?hg (N := 5) ?hd (cs := #[.int .i64 0, .int .i64 0, .int .i64 0]) (t := 81) ?hr ?_; (case hd => rfl); (case hg => rfl); (case hr => first | (go_simp; done) | (go_simp; rfl))
                      intro gb116 hg w26 hbox hb
                      have HS0_ := (hb.cell (World.block_lt_of_cell? _ _ (hHeld.1))).trans (hHeld.1)
                      have HS1_ := (hb.cell (World.block_lt_of_cell? _ _ (hHeld.2.1))).trans (hHeld.2.1)
                      have HS2_ := (hb.cell (World.block_lt_of_cell? _ _ (hHeld.2.2))).trans (hHeld.2.2)
                      have n0_ := Aside0.mk (Kd.V_below (Kd.V_elderB (by (with_reducible repeat (first | apply Kd.V_alloc | apply Kd.V_drewN | apply Kd.V_drew)); exact HO_0.out) gb116 (Nat.le_of_eq hg.symm)) hb)
                      have n1_ := Aside0.mk (Kd.R_below (Kd.R_elderB (by (with_reducible repeat (first | apply Kd.R_alloc | apply Kd.R_drewN | apply Kd.R_drew)); exact HO_4.out) gb116 (Nat.le_of_eq hg.symm)) hb)
                      have n2_ := Aside0.mk (below_step (by repeat (first | (with_reducible first | exact HB.out | apply below_alloc | apply pw_below_drewN | apply below_drew1) | exact HB.out)) hb)
                      have n3_ := Aside0.mk (hbox)
                      have n4_ := Aside0.mk ((by rw [hg]; exact (below_size (by repeat (first | (with_reducible first | exact HB.out | apply below_alloc | apply pw_below_drewN | apply below_drew1) | exact HB.out))) : w.heap.size ≤ gb116))
                      have n5_ := Aside0.mk ((by rw [hg]; exact (below_size (by repeat (first | (with_reducible first | exact HB.out | apply below_alloc | apply pw_below_drewN | apply below_drew1) | exact HB.out))) : w.heap.size ≤ gb116))
                      clear HO_0
                      clear HO_4
                      clear HB
                      have HO_0 := n0_
                      have HO_4 := n1_
                      have HB := n2_
                      have BK116 := n3_
                      have GW116 := n4_
                      have GE116 := n5_
                      clear n0_ n1_ n2_ n3_ n4_ n5_
                      clear hb hbox hg
                      refine hK.out _ _ ⟨HS0_, HS1_, HS2_⟩ (fun hHeld => ?_)
                      clear hK K
                      refine norm_ (a' := ?_) ?_ ?_
                      rotate_left
                      · show Act.put _ (some 5) _ = _
                        simp only [Act.put, List.setIfInBounds_toArray, List.set_cons_zero, List.set_cons_succ, i64_w, i32_w]
                        rfl
                      refine one_ (i := 16) (N := none) #[true, true, true, true, true, true, true, true, true, true, true, true, true, true, true, true, true] rfl rfl (one_of HT_.out (by kernel_rfl)) (by decide) (fun K hK => ?_)
                      have hs27 : w26.cell? ⟨gb116, 0, none⟩ = some (.int .i64 0) := (blk_cell BK116.out 0).trans rfl
                      have hfs27 := blk_frozen BK116.out 0
                      have hs28 : w26.cell? ⟨gb116, 1, none⟩ = some (.int .i64 0) := (blk_cell BK116.out 1).trans rfl
                      have hfs28 := blk_frozen BK116.out 1
                      have hs29 : w26.cell? ⟨gb116, 2, none⟩ = some (.int .i64 0) := (blk_cell BK116.out 2).trans rfl
                      have hfs29 := blk_frozen BK116.out 2
                      refine skip_ (w1 := ?_) (by rfl) rfl ?_ ?_
                      rotate_left
                      · go_simp
                        rfl
                      refine hK.out _ _ ⟨((cell_far (p := ⟨gb116, _, none⟩) (by first | exact V_apart HO_0.out (of_decide_eq_true (by assumption)) (fun _ hk => hk.2) | (rw [add_block]; exact V_apart HO_0.out (of_decide_eq_true (by assumption)) (fun _ hk => hk.2)) | (show (Addr.add _ _).block ≠ _; rw [add_block]; exact V_apart HO_0.out (of_decide_eq_true (by assumption)) (fun _ hk => hk.2)) | (dsimp only; exact V_apart HO_0.out (of_decide_eq_true (by assumption)) (fun _ hk => hk.2))) _).trans (((cell_far (p := ⟨gb116, _, none⟩) (by first | exact V_apart HO_0.out (of_decide_eq_true (by assumption)) (fun _ hk => hk.2) | (rw [add_block]; exact V_apart HO_0.out (of_decide_eq_true (by assumption)) (fun _ hk => hk.2)) | (show (Addr.add _ _).block ≠ _; rw [add_block]; exact V_apart HO_0.out (of_decide_eq_true (by assumption)) (fun _ hk => hk.2)) | (dsimp only; exact V_apart HO_0.out (of_decide_eq_true (by assumption)) (fun _ hk => hk.2))) _).trans (((cell_far (p := ⟨gb116, _, none⟩) (by first | exact V_apart HO_0.out (of_decide_eq_true (by assumption)) (fun _ hk => hk.2) | (rw [add_block]; exact V_apart HO_0.out (of_decide_eq_true (by assumption)) (fun _ hk => hk.2)) | (show (Addr.add _ _).block ≠ _; rw [add_block]; exact V_apart HO_0.out (of_decide_eq_true (by assumption)) (fun _ hk => hk.2)) | (dsimp only; exact V_apart HO_0.out (of_decide_eq_true (by assumption)) (fun _ hk => hk.2))) _).trans (hHeld.1)))))), ((cell_far (p := ⟨gb116, _, none⟩) (by first | exact V_apart HO_0.out (of_decide_eq_true (by assumption)) (fun _ hk => hk.2) | (rw [add_block]; exact V_apart HO_0.out (of_decide_eq_true (by assumption)) (fun _ hk => hk.2)) | (show (Addr.add _ _).block ≠ _; rw [add_block]; exact V_apart HO_0.out (of_decide_eq_true (by assumption)) (fun _ hk => hk.2)) | (dsimp only; exact V_apart HO_0.out (of_decide_eq_true (by assumption)) (fun _ hk => hk.2))) _).trans (((cell_far (p := ⟨gb116, _, none⟩) (by first | exact V_apart HO_0.out (of_decide_eq_true (by assumption)) (fun _ hk => hk.2) | (rw [add_block]; exact V_apart HO_0.out (of_decide_eq_true (by assumption)) (fun _ hk => hk.2)) | (show (Addr.add _ _).block ≠ _; rw [add_block]; exact V_apart HO_0.out (of_decide_eq_true (by assumption)) (fun _ hk => hk.2)) | (dsimp only; exact V_apart HO_0.out (of_decide_eq_true (by assumption)) (fun _ hk => hk.2))) _).trans (((cell_far (p := ⟨gb116, _, none⟩) (by first | exact V_apart HO_0.out (of_decide_eq_true (by assumption)) (fun _ hk => hk.2) | (rw [add_block]; exact V_apart HO_0.out (of_decide_eq_true (by assumption)) (fun _ hk => hk.2)) | (show (Addr.add _ _).block ≠ _; rw [add_block]; exact V_apart HO_0.out (of_decide_eq_true (by assumption)) (fun _ hk => hk.2)) | (dsimp only; exact V_apart HO_0.out (of_decide_eq_true (by assumption)) (fun _ hk => hk.2))) _).trans (hHeld.2.1)))))), ((cell_far (p := ⟨gb116, _, none⟩) (by first | exact V_apart HO_0.out (of_decide_eq_true (by assumption)) (fun _ hk => hk.2) | (rw [add_block]; exact V_apart HO_0.out (of_decide_eq_true (by assumption)) (fun _ hk => hk.2)) | (show (Addr.add _ _).block ≠ _; rw [add_block]; exact V_apart HO_0.out (of_decide_eq_true (by assumption)) (fun _ hk => hk.2)) | (dsimp only; exact V_apart HO_0.out (of_decide_eq_true (by assumption)) (fun _ hk => hk.2))) _).trans (((cell_far (p := ⟨gb116, _, none⟩) (by first | exact V_apart HO_0.out (of_decide_eq_true (by assumption)) (fun _ hk => hk.2) | (rw [add_block]; exact V_apart HO_0.out (of_decide_eq_true (by assumption)) (fun _ hk => hk.2)) | (show (Addr.add _ _).block ≠ _; rw [add_block]; exact V_apart HO_0.out (of_decide_eq_true (by assumption)) (fun _ hk => hk.2)) | (dsimp only; exact V_apart HO_0.out (of_decide_eq_true (by assumption)) (fun _ hk => hk.2))) _).trans (((cell_far (p := ⟨gb116, _, none⟩) (by first | exact V_apart HO_0.out (of_decide_eq_true (by assumption)) (fun _ hk => hk.2) | (rw [add_block]; exact V_apart HO_0.out (of_decide_eq_true (by assumption)) (fun _ hk => hk.2)) | (show (Addr.add _ _).block ≠ _; rw [add_block]; exact V_apart HO_0.out (of_decide_eq_true (by assumption)) (fun _ hk => hk.2)) | (dsimp only; exact V_apart HO_0.out (of_decide_eq_true (by assumption)) (fun _ hk => hk.2))) _).trans (hHeld.2.2))))))⟩ (fun hHeld => ?_)
                      clear hK K
                      refine done_ (done_of HT_.out (by kernel_rfl)) ?_
                      have hcz30_0 : w26.cell? ⟨gb116, 0, none⟩ = some (.int .i64 0) := (blk_cell BK116.out 0).trans rfl
                      have hcz30_1 : w26.cell? ⟨gb116, 1, none⟩ = some (.int .i64 0) := (blk_cell BK116.out 1).trans rfl
                      have hcz30_2 : w26.cell? ⟨gb116, 2, none⟩ = some (.int .i64 0) := (blk_cell BK116.out 2).trans rfl
                      have hfz30_0 := blk_frozen BK116.out 0
                      have hfz30_1 := blk_frozen BK116.out 1
                      have hfz30_2 := blk_frozen BK116.out 2
                      try go_wp2_with (first | ((with_reducible refine gate_builtin (b := .append) (xs := #[.tmp 40, .tmp 42]) rfl ?_); at_builtin; refine Kd.R_append k81 (w0 := w) w.heap.size rfl (.tmp 40) (.tmp 42) 53 81 (.agg #[(.int .i64 0), (.int .i64 0), (.int .i64 0)]) 24 rfl Try.underlying53 info81 rfl (by decide) (by omega) u4 x4_1 (⟨wrap64 (rd x0_1 0), wrap64 (Go.bits .and .u8 (rd x0_1 1) 3), wrap64 ((rd x0_1 1) / 4)⟩ : S81) [.int .i64 (wrap64 (rd x0_1 0)), .int .i64 (wrap64 (Go.bits .and .u8 (rd x0_1 1) 3)), .int .i64 (wrap64 ((rd x0_1 1) / 4))] (fun k_ => (w.heap.size ≤ k_) ∧ k_ ≠ gb116) (fun _ => False) rfl (by first | (go_simp; done) | (go_simp; rfl)) ?aP (fun _ hk => hk.elim) ?aF ?aO ?aB ?aS ?aL ?_; (case aP => exact k81_mkM _ _ _ (⟨wrap64 (rd x0_1 0), wrap64 (Go.bits .and .u8 (rd x0_1 1) 3), wrap64 ((rd x0_1 1) / 4)⟩ : S81)); (case aB => exact (by repeat (first | (with_reducible first | exact HB.out | apply below_alloc | apply pw_below_drewN | apply below_drew1 | refine below_set ?_ GE116.out) | exact HB.out))); (case aF => exact (fun k_ hk => ⟨(Nat.le_trans (below_size (by repeat (first | (with_reducible first | exact HB.out | apply below_alloc | apply pw_below_drewN | apply below_drew1 | refine below_set ?_ GE116.out) | exact HB.out))) hk), Kd.freshB (g := gb116) (o := .cells #[.int .i64 (wrap64 (rd x0_1 0)), .int .i64 (wrap64 (Go.bits .and .u8 (rd x0_1 1) 3)), .int .i64 (wrap64 ((rd x0_1 1) / 4))] 81 (0, 0)) (by (with_reducible repeat (first | refine blk_drewN ?_ _ | refine blk_drew ?_ | refine blk_alloc ?_ _)); refine blk_put (cs := #[.int .i64 (wrap64 (rd x0_1 0)), .int .i64 (wrap64 (Go.bits .and .u8 (rd x0_1 1) 3)), .int .i64 0]) ?_ 2 _ rfl; (with_reducible repeat (first | refine blk_drewN ?_ _ | refine blk_drew ?_ | refine blk_alloc ?_ _)); refine blk_put (cs := #[.int .i64 (wrap64 (rd x0_1 0)), .int .i64 0, .int .i64 0]) ?_ 1 _ rfl; (with_reducible repeat (first | refine blk_drewN ?_ _ | refine blk_drew ?_ | refine blk_alloc ?_ _)); refine blk_put (cs := #[.int .i64 0, .int .i64 0, .int .i64 0]) ?_ 0 _ rfl; (with_reducible repeat (first | refine blk_drewN ?_ _ | refine blk_drew ?_ | refine blk_alloc ?_ _)); exact BK116.out) k_ hk⟩)); (case aO => exact (by (with_reducible repeat (first | apply Kd.R_alloc | apply Kd.R_drewN | apply Kd.R_drew)); exact Kd.R_mono (Kd.R_far (p := ⟨gb116, 2, none⟩) (Kd.R_far (p := ⟨gb116, 1, none⟩) (Kd.R_far (p := ⟨gb116, 0, none⟩) (Kd.R_mono HO_4.out (fun k_ hk => (⟨hk, hk.2⟩ : _ ∧ k_ ≠ gb116))) (fun _ hk => hk.2) (.int .i64 (wrap64 (rd x0_1 0)))) (fun _ hk => hk.2) (.int .i64 (wrap64 (Go.bits .and .u8 (rd x0_1 1) 3)))) (fun _ hk => hk.2) (.int .i64 (wrap64 ((rd x0_1 1) / 4)))) (fun _ hk => ⟨hk.1.1, hk.1.2⟩))); (case aS => exact (below_size (by repeat (first | (with_reducible first | exact HB.out | apply below_alloc | apply pw_below_drewN | apply below_drew1 | refine below_set ?_ GE116.out) | exact HB.out)))); (case aL => have := LMc22.out; omega); intro v118 w31 ho hb hg hat; rw [← Ny117.out] at ho; have n0_ := Aside0.mk (Kd.V_afterv (ok := (fun k_ => (P0_ k_ ∨ w.heap.size ≤ k_) ∧ k_ ≠ gb116)) (by (with_reducible repeat (first | apply Kd.V_alloc | apply Kd.V_drewN | apply Kd.V_drew)); exact Kd.V_mono (Kd.V_far (p := ⟨gb116, 2, none⟩) (Kd.V_far (p := ⟨gb116, 1, none⟩) (Kd.V_far (p := ⟨gb116, 0, none⟩) (Kd.V_mono HO_0.out (fun k_ hk => (⟨hk, hk.2⟩ : _ ∧ k_ ≠ gb116))) (fun _ hk => hk.2) (.int .i64 (wrap64 (rd x0_1 0)))) (fun _ hk => hk.2) (.int .i64 (wrap64 (Go.bits .and .u8 (rd x0_1 1) 3)))) (fun _ hk => hk.2) (.int .i64 (wrap64 ((rd x0_1 1) / 4)))) (fun _ hk => ⟨⟨hk.1.1.1, hk.1.2⟩, hk.1.1.2⟩)) hg hat); have n1_ := Aside0.mk (blk_grown (g := gb116) (o := .cells #[.int .i64 (wrap64 (rd x0_1 0)), .int .i64 (wrap64 (Go.bits .and .u8 (rd x0_1 1) 3)), .int .i64 (wrap64 ((rd x0_1 1) / 4))] 81 (0, 0)) (by (with_reducible repeat (first | refine blk_drewN ?_ _ | refine blk_drew ?_ | refine blk_alloc ?_ _)); refine blk_put (cs := #[.int .i64 (wrap64 (rd x0_1 0)), .int .i64 (wrap64 (Go.bits .and .u8 (rd x0_1 1) 3)), .int .i64 0]) ?_ 2 _ rfl; (with_reducible repeat (first | refine blk_drewN ?_ _ | refine blk_drew ?_ | refine blk_alloc ?_ _)); refine blk_put (cs := #[.int .i64 (wrap64 (rd x0_1 0)), .int .i64 0, .int .i64 0]) ?_ 1 _ rfl; (with_reducible repeat (first | refine blk_drewN ?_ _ | refine blk_drew ?_ | refine blk_alloc ?_ _)); refine blk_put (cs := #[.int .i64 0, .int .i64 0, .int .i64 0]) ?_ 0 _ rfl; (with_reducible repeat (first | refine blk_drewN ?_ _ | refine blk_drew ?_ | refine blk_alloc ?_ _)); exact BK116.out) hg (Kd.R_away HO_4.out (fun _ hk => hk.2))); have n2_ := Aside0.mk (hb); have n3_ := Aside0.mk (ho); clear HO_0; clear BK116; clear HB; clear HO_4; have HO_0 := n0_; have BK116 := n1_; have HB := n2_; have HO119 := n3_; clear n0_ n1_ n2_ n3_; clear ho hb hg hat; have q32 : (2 : Int) ≤ ((x0_1.length : Int) : Int) := of_decide_eq_true (by first | (with_reducible assumption) | assumption); obtain ⟨i032, hi032, _, hsz32, _⟩ := info_parts info5; have hroom32 : x0_1.length ≤ co24 := (Kd.V_reads' HO_0.out).2.1; have hC32 : Kd.F (Kd.int .u8) _ _ (some ad113) x0_1.length x0_1 := (Kd.V_at (base := w.heap.size) HO_0.out).2.2; have hcut32 := cut_from (P := Try.prog) 22 5 .i64 Try.underlying22 hi032 1 hsz32 (some ad113) x0_1.length co24 2 (by omega) q32; have hr32 := Kd.F_cut (m := (2 : Int).toNat) (c := co24) hC32 (by omega) hroom32; obtain ⟨A32, hA32⟩ : ∃ A1, A1 = (if co24 = (2 : Int).toNat then (some ad113) else ((some ad113) : Option Addr).map (·.add ((2 : Int).toNat * 1))) := ⟨_, rfl⟩; obtain ⟨c32, hc32⟩ : ∃ c1, c1 = co24 - (2 : Int).toNat := ⟨_, rfl⟩; have hy32 : y120.length = x0_1.length - (2 : Int).toNat := (by rw [Ny120.out, List.length_drop] <;> omega); rw [show (x0_1).drop (2 : Int).toNat = y120 from Ny120.out.symm] at hr32; replace hr32 : Kd.F (Kd.int .u8) _ _ A32 y120.length y120 := (by rw [hA32]; exact hr32); rw [← hy32, ← hA32, ← hc32] at hcut32; have HO124 := Aside0.mk (show Kd.V (Kd.int .u8) 5 _ w.heap.size _ (.slice A32 y120.length c32) y120 from Kd.V_mk (by rw [hy32, hc32]; exact Nat.sub_le_sub_right hroom32 _) hr32); have HC124 := Aside0.mk (show y120.length ≤ c32 from by rw [hy32, hc32]; exact Nat.sub_le_sub_right hroom32 _); clear hr32 hC32 hroom32 hi032 hsz32 hc32; have KY32 := Aside0.mk hy32; have KA32 := Aside0.mk hA32; clear hy32 hA32; replace q32 := eq_true q32))
                      go_roundg k1
                      case measure => have := HK1.out; omega
                      case rel => exact ⟨(y120), (y117), H', ⟨by have := HK1.out; omega⟩, ⟨by (with_reducible repeat (first | apply Kd.V_alloc | apply Kd.V_drewN | apply Kd.V_drew)); exact Kd.V_mono HO124.out (fun _ hk => ⟨hk.1.1, hk.2⟩)⟩, ⟨by (with_reducible repeat (first | apply Kd.R_alloc | apply Kd.R_drewN | apply Kd.R_drew)); exact Kd.R_mono HO119.out (fun _ hk => hk.1)⟩, ⟨by repeat (first | (with_reducible first | exact HB.out | apply below_alloc | apply pw_below_drewN | apply below_drew1 | refine below_set ?_ GE116.out) | exact HB.out)⟩⟩
                    · rw [if_neg c23] at H
                      exact absurd H (by simp)
                  · rw [if_neg c22] at H
                    exact absurd H (by simp)
            · rw [if_neg c5] at H
              exact absurd H (by simp)
          · rw [if_neg c4] at H
            exact absurd H (by simp)
        · rw [if_neg c3] at H
          have c3b0 : decide (0 < (x0_1.length : Int)) = false := decide_eq_false c3
          have c3b1 : decide (0 < x0_1.length) = false := decide_eq_false (by omega)
          clear c3
          simp only [Option.some.injEq, Prod.mk.injEq] at H
          obtain ⟨rfl, rfl⟩ := H
          obtain ⟨Ao33, co33, eo33⟩ := Kd.V_slice HO_0.out
          subst eo33
          go_wp2
          go_ret2
          exact ⟨_, by first | rfl | (simp [errW_none, errW_some] <;> rfl) | (simp [*, errW_none, errW_some] <;> rfl), by (with_reducible repeat (first | apply Kd.R_alloc | apply Kd.R_drewN | apply Kd.R_drew)); exact HO_4.out, by repeat (first | (with_reducible first | exact HB.out | apply below_alloc | apply pw_below_drewN | apply below_drew1) | exact HB.out)⟩
  · rw [if_neg c2] at H
    have c2b0 : (((l0.length : Int) % 2) == 0) = false := beq_eq_false_iff_ne.mpr c2
    have c2b1 : (((l0.length : Int) % 2) != 0) = true := bne_iff_ne.mpr c2
    simp only [Option.some.injEq, Prod.mk.injEq] at H
    obtain ⟨rfl, rfl⟩ := H
    go_enter Try.func32, Try.ntmps32
    go_wp2
    go_ret2
    exact ⟨_, by first | rfl | (simp [errW_none, errW_some] <;> rfl) | (simp [*, errW_none, errW_some] <;> rfl), by first | exact Kd.R_nil _ _ _ _ _ | exact Kd.N_nil _ _ _ _ _ | exact Kd.V_nil _ _ _ _ _ | exact Kd.Q_nil _ _ _ _ _ | exact Kd.S_nil _ _ _ _ _, by repeat (first | (with_reducible first | exact HB.out | apply below_alloc | apply pw_below_drewN | apply below_drew1) | exact HB.out)⟩

/-! ### blk_count: function 55 -/
def blk_count.f (a0 : Int) (a1 : Int) (a2 : Int) : Option (Bool) := if a0 = 2 then (some (a1 == 0)) else (if a1 > 0 then (some (decide (a1 ≤ a2))) else (some false))
set_option maxHeartbeats 8000000 in
set_option maxRecDepth 100000 in
theorem blk_count.calls (a0 : Int) (a1 : Int) (a2 : Int) (r : Bool) (w : World) (h : blk_count.f a0 a1 a2 = some r) :
    Calls Try.prog 55 #[.int .i64 a0, .int .i64 a1, .int .i64 a2] w fun e w' => e = .returned (.bool r) ∧ Drawn0 w w' := by
  have H : (if a0 = 2 then (some (a1 == 0)) else (if a1 > 0 then (some (decide (a1 ≤ a2))) else (some false))) = some r := h
  clear h
  by_cases c4 : a0 = 2
  · rw [if_pos c4] at H
    have c4b0 : (a0 == 2) = true := beq_iff_eq.mpr c4
    have c4b1 : (a0 != 2) = false := bne_eq_false_iff_eq.mpr c4
    clear c4
    obtain rfl := Option.some.inj H
    go_enter Try.func55, Try.ntmps55
    go_wp2
    go_ret
    exact ⟨by first | rfl | (simp; done) | (simp [*]; done), by repeat (first | exact Drawn0.refl _ | apply Drawn0.step)⟩
  · rw [if_neg c4] at H
    have c4b0 : (a0 == 2) = false := beq_eq_false_iff_ne.mpr c4
    have c4b1 : (a0 != 2) = true := bne_iff_ne.mpr c4
    by_cases c5 : a1 > 0
    · rw [if_pos c5] at H
      have c5b0 : decide (0 < a1) = true := decide_eq_true c5
      clear c5
      obtain rfl := Option.some.inj H
      go_enter Try.func55, Try.ntmps55
      go_wp2
      go_ret
      exact ⟨by first | rfl | (simp; done) | (simp [*]; done), by repeat (first | exact Drawn0.refl _ | apply Drawn0.step)⟩
    · rw [if_neg c5] at H
      have c5b0 : decide (0 < a1) = false := decide_eq_false c5
      clear c5
      obtain rfl := Option.some.inj H
      go_enter Try.func55, Try.ntmps55
      go_wp2
      go_ret
      exact ⟨by first | rfl | (simp; done) | (simp [*]; done), by repeat (first | exact Drawn0.refl _ | apply Drawn0.step)⟩

end Go.Proofs.Ytdphppbocoinjaa.PBlkBack
