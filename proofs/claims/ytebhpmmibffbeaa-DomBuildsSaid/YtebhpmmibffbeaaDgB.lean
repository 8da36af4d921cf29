/- Proved: DomBuilds, its walk (a contract for its law). -/
import Derived.Test.YtebhpmmibffbeaaDgA
import Derived.Test.YtebhpmmibffbeaaDfC
import Derived.IntWalk
namespace Go.Proofs.Ytebhpmmibffbeaa.DgB
open Go.RowKit Go.Maps Go.Proofs.Ytebhpmmibffbeaa.Base Go.Proofs.Ytebhpmmibffbeaa.GaA Go.Proofs.Ytebhpmmibffbeaa.GaB Go.Proofs.Ytebhpmmibffbeaa.GaC Go.Proofs.Ytebhpmmibffbeaa.GaD Go.Proofs.Ytebhpmmibffbeaa.DaB Go.Proofs.Ytebhpmmibffbeaa.DeA Go.Proofs.Ytebhpmmibffbeaa.DeB Go.Proofs.Ytebhpmmibffbeaa.DeC Go.Proofs.Ytebhpmmibffbeaa.DfB Go.Proofs.Ytebhpmmibffbeaa.DfC Go.Proofs.Ytebhpmmibffbeaa.DfF Go.Proofs.Ytebhpmmibffbeaa.DgA
set_option linter.unusedVariables false
set_option linter.unusedSimpArgs false

section
variable {w w' W W' : World} {hb mb fb xb t1 t5 t3 gb mm hm eb N k top : Nat}
theorem hv_size (h : Hv w W hb mb fb xb t1 t5 t3 gb mm hm eb N k top) (m : Int) (hm1 : m < 1 ∨ 48 < m) : Calls Try.prog 7 #[.pointer (some ⟨hb, 0, none⟩), .int .i64 m] W fun e w' => e = .returned (.tuple #[.int .i64 0, .int .i64 170]) ∧ Hv w w' hb mb fb xb t1 t5 t3 gb mm hm eb N k top := by
  have h0 := h
  obtain ⟨s, rt, f, st, sz, tb, pp, h1⟩ := h
  exact (build_size h1 m hm1).mono fun e w' ⟨q1, q2⟩ => ⟨q1, h0.below q2⟩
theorem hv_left2 (h : Hv w W hb mb fb xb t1 t5 t3 gb mm hm eb N k top) : Calls Try.prog 6 #[.pointer (some ⟨mb, 0, none⟩)] W fun e w' => e = .returned (.int .i64 ((N - top : Nat) : Int)) ∧ Hv w w' hb mb fb xb t1 t5 t3 gb mm hm eb N k top ∧ Below W.heap.size W w' := by
  obtain ⟨s, rt, f, st, sz, tb, pp, h1⟩ := h
  refine (left_calls _ h1.m).mono ?_
  rintro e w' ⟨q1, q2⟩
  rw [hy_left h1] at q1
  exact ⟨q1, ⟨s, rt, f, st, sz, tb, pp, h1.below q2⟩, q2⟩
theorem hv_few (h : Hv w W hb mb fb xb t1 t5 t3 gb mm hm eb N k top) (m : Int) (h1 : 1 ≤ m) (h2 : m ≤ 48) (hl : ((N - top : Nat) : Int) < m + 2) : Calls Try.prog 7 #[.pointer (some ⟨hb, 0, none⟩), .int .i64 m] W fun e w' => e = .returned (.tuple #[.int .i64 0, .int .i64 10]) ∧ Hv w w' hb mb fb xb t1 t5 t3 gb mm hm eb N k top := by
  have h0 := h
  obtain ⟨s, rt, f, st, sz, tb, pp, h3⟩ := h
  exact (build_left h3 m h1 h2 hl).mono fun e w' ⟨q1, q2⟩ => ⟨q1, h0.below q2⟩
theorem hv_full (h : Hv w W hb mb fb xb t1 t5 t3 gb mm hm eb N 8 top) (m : Int) (h1 : 1 ≤ m) (h2 : m ≤ 48) (hl : m + 2 ≤ ((N - top : Nat) : Int)) : Calls Try.prog 7 #[.pointer (some ⟨hb, 0, none⟩), .int .i64 m] W fun e w' => e = .returned (.tuple #[.int .i64 0, .int .i64 71]) ∧ Hv w w' hb mb fb xb t1 t5 t3 gb mm hm eb N 8 top := by
  have h0 := h
  obtain ⟨s, rt, f, st, sz, tb, pp, h3⟩ := h
  exact (build_full h3 m h1 h2 hl).mono fun e w' ⟨q1, q2⟩ => ⟨q1, h0.below q2⟩
end
set_option maxHeartbeats 32000000 in
set_option maxRecDepth 100000 in
theorem law (f : Nat) (hf : f < 256) (w : World) (A : Option Addr) (len cap : Nat) (F : Nat → Int) (hlen : len ≤ 9223372036854775807) (hF : ∀ i, i < len → ∃ x, A = some x ∧ w.cell? (x.add i) = some (.int .i64 (F i))) (hr : ∀ i, i < len → -9223372036854775808 ≤ F i ∧ F i ≤ 9223372036854775807) :
    Calls Try.prog 3 #[.int .u8 f, .slice A len cap] w fun e w' => e = .returned (.bool true) ∧ Below w.heap.size w w' := by
  obtain ⟨N, hN⟩ : ∃ N : Nat, N = min (3 + f) 256 := ⟨_, rfl⟩
  have hn : Calls Try.prog 4 #[.int .i64 N] w fun e w' => ∃ hb mb fb xb t1 t5 t3 gb mm hm eb, e = .returned (.tuple #[.pointer (some ⟨hb, 0, none⟩), .int .i64 0]) ∧ Hv w w' hb mb fb xb t1 t5 t3 gb mm hm eb N 0 2 :=
    (dom_new w N (by omega) (by omega)).mono fun e w' ⟨hb, mb, fb, xb, t1, t5, t3, gb, mm, hm, eb, q1, q2⟩ => ⟨hb, mb, fb, xb, t1, t5, t3, gb, mm, hm, eb, q1, _, _, _, _, _, _, _, q2⟩
  have HN := Base.Aside.mk hN
  clear hN
  have HF := Base.Aside.mk (And.intro hF hr)
  clear hF hr
  go_enter Try.func3, Try.ntmps3
  have g0 : (0 : Int) ≤ f := by omega
  have g1 : (f : Int) ≤ 255 := by omega
  go_upto_if 20 with fail
  go_cut [5] from 19 to 21 (fun v wx => v = .int .i64 N ∧ wx = w)
  case first => as_aux_lemma =>
    by_cases hc : f ≤ 253
    · have d1 : decide (256 < 3 + (f : Int)) = false := decide_eq_false (by omega)
      go_wp2
      go_meet
      case rel => exact ⟨by rw [HN.out]; congr 1; omega, rfl⟩
    · have d1 : decide (256 < 3 + (f : Int)) = true := decide_eq_true (by omega)
      go_wp2
      go_meet
      case rel => exact ⟨by rw [HN.out]; congr 1; omega, rfl⟩
  case rest => as_aux_lemma =>
    obtain ⟨rfl, hwc⟩ := hcut
    obtain rfl := hwc.symm
    go_wp2_with (first
      | (go_at_call 4; (with_reducible refine hn.mono ?_); rintro z w1 ⟨hb, mb, fb, xb, t1, t5, t3, gb, mm, hm, eb, rfl, hH⟩; have E1 := Base.Aside.mk hH; clear hH)
      | go_in)
    go_loopw [8, 9] (fun v u wr => ∃ (i k top : Nat) (W2 : World), i ≤ len ∧ k ≤ 8 ∧ v = .int .i64 k ∧ u = .int .i64 i ∧ wr = W2 ∧ Base.Aside (Hv w W2 hb mb fb xb t1 t5 t3 gb mm hm eb N k top)) (fun _ u _ => len - (intOf u).toNat)
    case atStart => exact ⟨0, 0, 2, w1, by omega, by omega, rfl, rfl, rfl, E1⟩
    case round => as_aux_lemma =>
      obtain ⟨i, k, top, W2, hi, hk8, rfl, rfl, hwr, hA⟩ := hrel
      obtain rfl := hwr.symm
      by_cases hlt : i < len
      · obtain ⟨x, rfl, hcx⟩ := HF.out.1 i hlt
        obtain ⟨y0, y1⟩ := HF.out.2 i hlt
        generalize F i = y at hcx y0 y1
        have hlx := World.block_lt_of_cell? w _ hcx
        have CX : ∀ W', Hv w W' hb mb fb xb t1 t5 t3 gb mm hm eb N k top → W'.cell? (x.add i) = some (.int .i64 y) := fun W' h => (h.bel.cell (p := x.add i) hlx).trans hcx
        obtain ⟨n0, hn0⟩ : ∃ n, n = N - top := ⟨_, rfl⟩
        have HL : ∀ W', Hv w W' hb mb fb xb t1 t5 t3 gb mm hm eb N k top → Calls Try.prog 6 #[.pointer (some ⟨mb, 0, none⟩)] W' fun e w' => e = .returned (.int .i64 n0) ∧ Hv w w' hb mb fb xb t1 t5 t3 gb mm hm eb N k top := fun W' h => by
          have := hv_left h
          rw [← hn0] at this
          exact this
        have HN0 := Base.Aside.mk hn0
        clear hn0
        have hma := hv_machine hA.out
        have hle := HL _ hA.out
        by_cases c1 : y < 1 ∨ 48 < y
        · have HB := fun W' (h : Hv w W' hb mb fb xb t1 t5 t3 gb mm hm eb N k top) => hv_size h y c1
          by_cases c2 : y < 1
          · have d1 : decide (y < 1) = true := decide_eq_true c2
            clear c1 c2
            go_wp2_with (first
                | (go_at_call 5; (with_reducible refine hma.mono ?_); rintro z w3 ⟨rfl, hw3⟩; obtain rfl := hw3.symm)
                | (go_at_call 6; (with_reducible refine hle.mono ?_); rintro z w4 ⟨rfl, hH4⟩; have hma := hv_machine hH4; have hle := HL _ hH4; have hbu := HB _ hH4; have hcc := CX _ hH4; have E4 := Base.Aside.mk hH4; clear hH4)
                | (go_at_call 7; (with_reducible refine hbu.mono ?_); rintro z w5 ⟨rfl, hH5⟩; have hma := hv_machine hH5; have hle := HL _ hH5; have hcc := CX _ hH5; clear hH5)
                | go_in)
            exact ⟨⟨i + 1, k, top, _, by omega, hk8, rfl, by simp, rfl, E4⟩, by simp [intOf]; omega⟩
          · have d1 : decide (y < 1) = false := decide_eq_false c2
            have d2 : decide (48 < y) = true := decide_eq_true (by omega)
            clear c1 c2
            go_wp2_with (first
                | (go_at_call 5; (with_reducible refine hma.mono ?_); rintro z w3 ⟨rfl, hw3⟩; obtain rfl := hw3.symm)
                | (go_at_call 6; (with_reducible refine hle.mono ?_); rintro z w4 ⟨rfl, hH4⟩; have hma := hv_machine hH4; have hle := HL _ hH4; have hbu := HB _ hH4; have hcc := CX _ hH4; have E4 := Base.Aside.mk hH4; clear hH4)
                | (go_at_call 7; (with_reducible refine hbu.mono ?_); rintro z w5 ⟨rfl, hH5⟩; have hma := hv_machine hH5; have hle := HL _ hH5; have hcc := CX _ hH5; clear hH5)
                | go_in)
            exact ⟨⟨i + 1, k, top, _, by omega, hk8, rfl, by simp, rfl, E4⟩, by simp [intOf]; omega⟩
        · have d1 : decide (y < 1) = false := decide_eq_false (by omega)
          have d2 : decide (48 < y) = false := decide_eq_false (by omega)
          by_cases c3 : (n0 : Int) < y + 2
          · have HB := fun W' (h : Hv w W' hb mb fb xb t1 t5 t3 gb mm hm eb N k top) => hv_few h y (by omega) (by omega) (by rw [← HN0.out]; exact c3)
            have d3 : decide ((n0 : Int) < y + 2) = true := decide_eq_true c3
            have y2 : y + 2 ≤ 9223372036854775807 := by omega
            have y3 : -9223372036854775808 ≤ y + 2 := by omega
            clear c1 c3
            go_wp2_with (first
                | (go_at_call 5; (with_reducible refine hma.mono ?_); rintro z w3 ⟨rfl, hw3⟩; obtain rfl := hw3.symm)
                | (go_at_call 6; (with_reducible refine hle.mono ?_); rintro z w4 ⟨rfl, hH4⟩; have hma := hv_machine hH4; have hle := HL _ hH4; have hbu := HB _ hH4; have hcc := CX _ hH4; have E4 := Base.Aside.mk hH4; clear hH4)
                | (go_at_call 7; (with_reducible refine hbu.mono ?_); rintro z w5 ⟨rfl, hH5⟩; have hma := hv_machine hH5; have hle := HL _ hH5; have hcc := CX _ hH5; clear hH5)
                | go_in)
            exact ⟨⟨i + 1, k, top, _, by omega, hk8, rfl, by simp, rfl, E4⟩, by simp [intOf]; omega⟩
          · have d3 : decide ((n0 : Int) < y + 2) = false := decide_eq_false c3
            have y2 : y + 2 ≤ 9223372036854775807 := by omega
            have y3 : -9223372036854775808 ≤ y + 2 := by omega
            by_cases c4 : k = 8
            · subst c4
              have HB := fun W' (h : Hv w W' hb mb fb xb t1 t5 t3 gb mm hm eb N 8 top) => hv_full h y (by omega) (by omega) (by rw [← HN0.out]; omega)
              clear c1 c3
              go_wp2_with (first
                  | (go_at_call 5; (with_reducible refine hma.mono ?_); rintro z w3 ⟨rfl, hw3⟩; obtain rfl := hw3.symm)
                  | (go_at_call 6; (with_reducible refine hle.mono ?_); rintro z w4 ⟨rfl, hH4⟩; have hma := hv_machine hH4; have hle := HL _ hH4; have hbu := HB _ hH4; have hcc := CX _ hH4; have E4 := Base.Aside.mk hH4; clear hH4)
                  | (go_at_call 7; (with_reducible refine hbu.mono ?_); rintro z w5 ⟨rfl, hH5⟩; have hma := hv_machine hH5; have hle := HL _ hH5; have hcc := CX _ hH5; clear hH5)
                  | go_in)
              exact ⟨⟨i + 1, 8, top, _, by omega, by omega, rfl, by simp, rfl, E4⟩, by simp [intOf]; omega⟩
            · have dk : ((k : Int) == 8) = false := by rw [beq_eq_false_iff_ne]; omega
              obtain ⟨m, rfl⟩ : ∃ m : Nat, y = m := ⟨y.toNat, by omega⟩
              have hm1 : 1 ≤ m := by omega
              have hm2 : m ≤ 48 := by omega
              have HB : ∀ W', Hv w W' hb mb fb xb t1 t5 t3 gb mm hm eb N k top → Calls Try.prog 7 #[.pointer (some ⟨hb, 0, none⟩), .int .i64 m] W' fun e w' => e = .returned (.tuple #[.int .i64 k, .int .i64 0]) ∧ Hv w w' hb mb fb xb t1 t5 t3 gb mm hm eb N (k + 1) (top + (m + 2)) ∧ ∃ (a b : Int), Calls Try.prog 8 #[.pointer (some ⟨hb, 0, none⟩), .int .i64 k] w' fun e w'' => e = .returned (.tuple #[.agg #[.int .i64 1, .int .i64 m, .int .i64 ((m : Int) + 2), .int .i64 a, .int .i64 b], .int .i64 0]) ∧ Hv w w'' hb mb fb xb t1 t5 t3 gb mm hm eb N (k + 1) (top + (m + 2)) := fun W' h => by
                have := hv_build h (by omega) m hm1 hm2 (by rw [← HN0.out]; omega)
                rw [show ((m + 2 : Nat) : Int) = (m : Int) + 2 by omega] at this
                exact this
              have HL2 : ∀ W', Hv w W' hb mb fb xb t1 t5 t3 gb mm hm eb N (k + 1) (top + (m + 2)) → Calls Try.prog 6 #[.pointer (some ⟨mb, 0, none⟩)] W' fun e w' => e = .returned (.int .i64 ((n0 : Int) - ((m : Int) + 2))) ∧ Hv w w' hb mb fb xb t1 t5 t3 gb mm hm eb N (k + 1) (top + (m + 2)) := fun W' h => by
                have := hv_left h
                rw [show ((N - (top + (m + 2)) : Nat) : Int) = (n0 : Int) - ((m : Int) + 2) by have := HN0.out; omega] at this
                exact this
              have CX2 : ∀ W', Hv w W' hb mb fb xb t1 t5 t3 gb mm hm eb N (k + 1) (top + (m + 2)) → W'.cell? (x.add i) = some (.int .i64 m) := fun W' h => (h.bel.cell (p := x.add i) hlx).trans hcx
              have n1 : n0 ≤ 256 := by have := hA.out.k8; have := HN0.out; omega
              have hmn : m + 2 ≤ n0 := by omega
              have hk7 : k < 8 := by omega
              clear c1 c3 c4
              go_upto_region 24 with (first
                | (go_at_call 8; (with_reducible refine hdo.mono ?_); rintro z w6 ⟨rfl, hH6⟩; have hcc := CX2 _ hH6; have hma := hv_machine hH6; have hle := HL2 _ hH6; have E6 := Base.Aside.mk hH6; clear hH6)
                  | (go_at_call 5; (with_reducible refine hma.mono ?_); rintro z w3 ⟨rfl, hw3⟩; obtain rfl := hw3.symm)
                  | (go_at_call 6; (with_reducible refine hle.mono ?_); rintro z w4 ⟨rfl, hH4⟩; have hma := hv_machine hH4; have hle := HL _ hH4; have hbu := HB _ hH4; have hcc := CX _ hH4; have E4 := Base.Aside.mk hH4; clear hH4)
                  | (go_at_call 7; (with_reducible refine hbu.mono ?_); rintro z w5 ⟨rfl, hH5, a, b, hdo⟩; have hcc := CX2 _ hH5; clear hH5)
                  | go_in)
              obtain ⟨g, hg⟩ : ∃ g, w6.heap.size = g := ⟨_, rfl⟩
              rw [hg]
              obtain ⟨X, hX⟩ : ∃ X, w6.alloc (.cells #[.int .i64 1, .int .i64 m, .int .i64 ((m : Int) + 2), .int .i64 a, .int .i64 b] 33) = X := ⟨_, rfl⟩
              have hB : Below w6.heap.size w6 X := by rw [← hX]; exact below_alloc (Below.refl _ _) _
              have hv : Hv w X hb mb fb xb t1 t5 t3 gb mm hm eb N (k + 1) (top + (m + 2)) := E6.out.below hB
              have hbk : X.heap[g]? = some (.cells #[.int .i64 1, .int .i64 m, .int .i64 ((m : Int) + 2), .int .i64 a, .int .i64 b] 33 (0, 0)) := by rw [← hX, ← hg]; exact blk_new _ _
              rw [hX]
              have hma := fun W' (hW : Below X.heap.size X W') => (hv_machine (hv.below hW)).mono (R' := fun e w' => e = .returned (.pointer (some ⟨mb, 0, none⟩)) ∧ Hv w w' hb mb fb xb t1 t5 t3 gb mm hm eb N (k + 1) (top + (m + 2)) ∧ w'.heap[g]? = some (.cells #[.int .i64 1, .int .i64 m, .int .i64 ((m : Int) + 2), .int .i64 a, .int .i64 b] 33 (0, 0)) ∧ Below X.heap.size X w') fun e w' ⟨q1, q2⟩ => by
                subst q2
                exact ⟨q1, hv.below hW, blk_below hbk (blk_lt hbk) hW, hW⟩
              have hle : ∀ W', Below X.heap.size X W' → Calls Try.prog 6 #[.pointer (some ⟨mb, 0, none⟩)] W' fun e w' => e = .returned (.int .i64 ((n0 : Int) - ((m : Int) + 2))) ∧ Hv w w' hb mb fb xb t1 t5 t3 gb mm hm eb N (k + 1) (top + (m + 2)) ∧ w'.heap[g]? = some (.cells #[.int .i64 1, .int .i64 m, .int .i64 ((m : Int) + 2), .int .i64 a, .int .i64 b] 33 (0, 0)) := fun W' hW => (hv_left2 (hv.below hW)).mono fun e w' ⟨q1, q2, q3⟩ => by
                rw [show ((N - (top + (m + 2)) : Nat) : Int) = (n0 : Int) - ((m : Int) + 2) by have := HN0.out; omega] at q1
                exact ⟨q1, q2, blk_below (blk_below hbk (blk_lt hbk) hW) (blk_lt (blk_below hbk (blk_lt hbk) hW)) q3⟩
              have d0 := blk_cell hbk 0
              have d4 := blk_cell hbk 1
              have d5 := blk_cell hbk 2
              have d6 := CX2 _ hv
              have SG : ∀ W' : World, W'.heap[g]? = some (.cells #[.int .i64 1, .int .i64 m, .int .i64 ((m : Int) + 2), .int .i64 a, .int .i64 b] 33 (0, 0)) → Hv w W' hb mb fb xb t1 t5 t3 gb mm hm eb N (k + 1) (top + (m + 2)) → W'.cell? ⟨g, 0, none⟩ = some (.int .i64 1) ∧ W'.cell? ⟨g, 1, none⟩ = some (.int .i64 m) ∧ W'.cell? ⟨g, 2, none⟩ = some (.int .i64 ((m : Int) + 2)) ∧ W'.cell? (x.add i) = some (.int .i64 m) := fun W' q1 q2 => ⟨blk_cell q1 0, blk_cell q1 1, blk_cell q1 2, CX2 _ q2⟩
              clear hX hB hg
              have EX := Base.Aside.mk hv
              clear hv hbk
              have s1 : IntKind.i64.wrap ((m : Int) + 2) = (m : Int) + 2 := IntWalk.i64_in _ (by omega)
              have s2 : IntKind.i64.wrap ((n0 : Int) - ((m : Int) + 2)) = (n0 : Int) - ((m : Int) + 2) := IntWalk.i64_in _ (by omega)
              go_cut [121] from 81 to 121 (fun v wx => v = .bool false ∧ Base.Aside (Hv w wx hb mb fb xb t1 t5 t3 gb mm hm eb N (k + 1) (top + (m + 2))))
              case first => as_aux_lemma =>
                go_region_held3 (fun Wx => Wx.cell? ⟨g, 0, none⟩ = some (.int .i64 1) ∧ Wx.cell? ⟨g, 1, none⟩ = some (.int .i64 m) ∧ Wx.cell? ⟨g, 2, none⟩ = some (.int .i64 ((m : Int) + 2)) ∧ Wx.cell? (x.add i) = some (.int .i64 m))
                  (first
                    | go_keep
                    | (with_reducible exact ⟨d0, d4, d5, d6⟩)
                    | (with_reducible exact SG _ E7.out.2.1 E7.out.1)
                    | (with_reducible exact SG _ E8.out.2 E8.out.1))
                  ((first
                    | (go_at_call 5; (with_reducible refine (hma _ ?_).mono ?_); (focus (repeat (with_reducible first | exact Below.refl _ _ | refine below_drew ?_))); rintro z w7 ⟨rfl, hH7, hg7, hB7⟩; have E7 := Base.Aside.mk (And.intro hH7 (And.intro hg7 hB7)); clear hH7 hg7 hB7)
                    | (go_at_call 6; (with_reducible refine (hle _ ?_).mono ?_); (focus (repeat (with_reducible first | exact Below.refl _ _ | exact E7.out.2.2 | refine below_drew ?_))); rintro z w8 ⟨rfl, hH8, hg8⟩; have E8 := Base.Aside.mk (And.intro hH8 hg8); clear hH8 hg8)))
                all_goals
                  go_wp2_with fail
                  go_meet
                case rel => exact ⟨rfl, ⟨E8.out.1.below (by first | exact Below.refl _ _ | exact (Below.refl _ _).drew)⟩⟩
              case rest => as_aux_lemma =>
                obtain ⟨rfl, hZ⟩ := hcut
                clear hma hle SG s1 s2
                have k0 : (0 : Int) ≤ k := by omega
                have k1 : (k : Int) ≤ 8 := by omega
                go_wp2_with (go_in)
                exact ⟨⟨i + 1, k + 1, top + (m + 2), wc, by omega, by omega, by simp, by simp, rfl, hZ⟩, by simp [intOf]; omega⟩
      · obtain rfl : i = len := by omega
        clear hlt
        have hbel := hA.out.bel
        go_wp2_with (first
          | (go_at_call 9; (with_reducible refine (awake_calls _).mono ?_); rintro z w9 ⟨rfl, hB9⟩; have E9 := Base.Aside.mk (below_step hbel hB9); clear hB9)
          | go_in)
        go_ret
        exact ⟨by first | rfl | (simp; done), E9.out⟩
end Go.Proofs.Ytebhpmmibffbeaa.DgB
