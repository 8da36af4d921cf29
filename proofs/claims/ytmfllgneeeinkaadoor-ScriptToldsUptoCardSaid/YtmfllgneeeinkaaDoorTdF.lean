/- Proved: the program computes at all (the contract of awake for the law ScriptTolds). -/
import Derived.Test.YtmfllgneeeinkaaDoorTdE
namespace Go.Proofs.YtmfllgneeeinkaaDoor.TdF
open Go.RowKit Go.Shelf Go.Proofs.YtmfllgneeeinkaaDoor.Base Go.Proofs.YtmfllgneeeinkaaDoor.TdA Go.Proofs.YtmfllgneeeinkaaDoor.TdB Go.Proofs.YtmfllgneeeinkaaDoor.TdC Go.Proofs.YtmfllgneeeinkaaDoor.TdD Go.Proofs.YtmfllgneeeinkaaDoor.TdE
set_option linter.unusedVariables false
set_option linter.unusedSimpArgs false

theorem names_at (W : World) (ht : Asc W) : Calls Tryd.prog 16 #[] W fun e w' => e = .returned (.slice (some ⟨W.heap.size, 0, none⟩) 23 23) ∧ (W.heap.size < w'.heap.size ∧ w'.cell? ⟨W.heap.size, 0, none⟩ = some (.string namesB)) ∧ Below W.heap.size W w' := by
  refine (names_calls W ht).mono ?_
  rintro e w' ⟨rfl, cs, rfl, hc⟩
  exact ⟨rfl, ⟨by simp, (blk_cell (blk_new W _) 0).trans hc⟩, below_alloc (Below.refl _ _) _⟩
/-- What Print holds in memory. -/
structure PEnv (w W : World) : Prop where
  asc : Asc W
  bel : Below w.heap.size w W
  blk : W.heap[w.heap.size]? = some (.cells #[.int .i64 0, .int .i64 0, .int .i64 3, .int .i64 0, .int .i64 0, .string ⟨#[]⟩, .slice none 0 0, .slice none 0 0] 35 (0, 0))
theorem PEnv.step {w W W' : World} (E : PEnv w W) (h : Below W.heap.size W W') : PEnv w W' :=
  ⟨tab_below E.asc h, below_step E.bel h, blk_below E.blk (blk_lt E.blk) h⟩
theorem PEnv.drew {w W : World} (E : PEnv w W) : PEnv w W.drew := E.step ⟨rfl, rfl, rfl, Nat.le_refl _, fun _ _ => rfl⟩
theorem info9 : (Tryd.prog.info? 9).map (fun i => (i.zero, i.size, i.bytes)) = some (some (.string ⟨#[]⟩), 1, 16) := by kernel_rfl
theorem itoa3 (W : World) : Calls Tryd.prog 7 #[.int .i64 3] W fun e w' => e = .returned (.string ⟨#[51]⟩) ∧ w' = W := by
  have h := Tryd.strconv_Itoa_small 3 (by decide) W
  have e : Lib.decDigits 3 = [51] := by rw [Lib.decDigits]; rfl
  rw [e] at h
  exact h
theorem join_calls (W : World) (g cap : Nat) {b : Nat} (hrow : W.ownsRow b 9 1 (.slice (some ⟨g, 0, none⟩) 2 cap) 2 [.string namesB, .string ⟨#[51]⟩]) (hg : g < W.heap.size) (hc : 2 ≤ cap) :
    Calls Tryd.prog 19 #[.slice (some ⟨g, 0, none⟩) 2 cap, .string ⟨#[32]⟩] W fun e w' => e = .returned (.string ⟨#[98, 117, 105, 108, 100, 32, 51]⟩) ∧ Below W.heap.size W w' := by
  have h := Tryd.strings_Join g 0 cap [namesB, ⟨#[51]⟩] ⟨#[32]⟩ W (fun j x hj => by
    have hj2 : j < 2 := by
      have := (List.getElem?_eq_some_iff.1 hj).1
      simpa using this
    have hcell := World.ownsRow.cellAt hrow j (by omega)
    rw [Nat.zero_add, hcell]
    match j, hj2, hj with
    | 0, _, hj => simp at hj; rw [← hj]; rfl
    | 1, _, hj => simp at hj; rw [← hj]; rfl) hg (by decide) hc (by decide +kernel)
  have e : (⟨(Lib.join ([namesB, ⟨#[51]⟩].map (·.data.toList)) (⟨#[32]⟩ : ByteArray).data.toList).toArray⟩ : ByteArray) = ⟨#[98, 117, 105, 108, 100, 32, 51]⟩ := by decide +kernel
  rw [e] at h
  exact h
set_option maxHeartbeats 8000000 in
set_option maxRecDepth 100000 in
theorem print_calls (w : World) (ht : Asc w) : Calls Tryd.prog 11 #[.agg #[.int .i64 0, .int .i64 0, .int .i64 3, .int .i64 0, .int .i64 0, .string ⟨#[]⟩, .slice none 0 0, .slice none 0 0]] w fun e w' => e = .returned (.tuple #[.string ⟨#[98, 117, 105, 108, 100, 32, 51]⟩, .int .i64 0]) ∧ Below w.heap.size w w' := by
  obtain ⟨i0, hi, hz0, hz1, hz2⟩ := info_parts info9
  have hb0 := below_alloc (Below.refl w.heap.size w) (.cells #[.int .i64 0, .int .i64 0, .int .i64 3, .int .i64 0, .int .i64 0, .string ⟨#[]⟩, .slice none 0 0, .slice none 0 0] 35)
  have E0' : PEnv w (w.alloc (.cells #[.int .i64 0, .int .i64 0, .int .i64 3, .int .i64 0, .int .i64 0, .string ⟨#[]⟩, .slice none 0 0, .slice none 0 0] 35)) := ⟨tab_below ht hb0, hb0, blk_new _ _⟩
  have E0 := Base.Aside.mk E0'
  have hA := fun k : Nat => names_at _ (E0'.step (W' := (w.alloc (.cells #[.int .i64 0, .int .i64 0, .int .i64 3, .int .i64 0, .int .i64 0, .string ⟨#[]⟩, .slice none 0 0, .slice none 0 0] 35)).drew) ⟨rfl, rfl, rfl, Nat.le_refl _, fun _ _ => rfl⟩).asc
  clear hb0 E0'
  go_enter Tryd.func11, Tryd.ntmps11
  go_wp2_with (first
    | (go_at_call 16; fail)
    | go_in)
  go_region_with (go_at_call 16; refine (hA 0).mono ?_; rintro z w2 ⟨rfl, hN, hB2⟩; have E2 := Base.Aside.mk (E0.out.drew.step hB2); have C2 := fun i => blk_cell E2.out.blk i; have L2 := blk_lt E2.out.blk; clear hN hB2)
  all_goals
    go_wp2_with (first
      | (go_at_call 17; refine (small_calls _ w2.heap.size _ 0 3 0 0 (blk_new w2 _) _ rfl rfl rfl rfl).mono ?_; rintro z w3 ⟨rfl, hw3⟩; obtain rfl := hw3.symm)
      | (go_at_call 18; refine (plain_calls _).mono ?_; rintro z w4 ⟨rfl, hB4⟩; have E4 := Base.Aside.mk ((E2.out.step (below_alloc (Below.refl _ _) _)).step hB4); have C4 := fun i => blk_cell E4.out.blk i; have L4 := blk_lt E4.out.blk; have hA4 := names_at w4.drew E4.out.drew.asc; clear hB4)
      | (go_at_call 16; fail)
      | go_in)
    go_region_with (go_at_call 16; refine hA4.mono ?_; rintro z w5 ⟨rfl, hN, hB5⟩; have E5 := Base.Aside.mk (E4.out.drew.step hB5); have C5 := fun i => blk_cell E5.out.blk i; have L5 := blk_lt E5.out.blk; have N5 : w5.cell? ⟨w4.heap.size, 0, none⟩ = some (.string namesB) := hN.2; clear hN hB5)
    all_goals
      go_wp2
      have hE6 : PEnv w ((w5.alloc (.cells #[.string namesB] 9)).alloc (.cells #[.int .i64 0, .int .i64 3, .int .i64 0, .int .i64 0] 3)) := (E5.out.step (below_alloc (Below.refl _ _) _)).step (below_alloc (Below.refl _ _) _)
      have hB6 : ((w5.alloc (.cells #[.string namesB] 9)).alloc (.cells #[.int .i64 0, .int .i64 3, .int .i64 0, .int .i64 0] 3)).heap[w5.heap.size]? = some (.cells #[.string namesB] 9 (0, 0)) := blk_alloc (blk_new _ _) _
      have hB7 : ((w5.alloc (.cells #[.string namesB] 9)).alloc (.cells #[.int .i64 0, .int .i64 3, .int .i64 0, .int .i64 0] 3)).heap[w5.heap.size + 1]? = some (.cells #[.int .i64 0, .int .i64 3, .int .i64 0, .int .i64 0] 3 (0, 0)) := blk_newest (by simp) _
      have hlt5 : w.heap.size < w5.heap.size := blk_lt E5.out.blk
      generalize ((w5.alloc (.cells #[.string namesB] 9)).alloc (.cells #[.int .i64 0, .int .i64 3, .int .i64 0, .int .i64 0] 3)) = W6 at hE6 hB6 hB7 ⊢
      clear E5 C5 L5 N5 C4 L4 E4 C2 L2 E2 hA hA4 E0
      generalize w5.heap.size = b1 at hB6 hB7 hlt5 ⊢
      have E6 := Base.Aside.mk (And.intro hE6 (And.intro hB6 hB7))
      have C7 := fun i => blk_cell hB7 i
      have L7 := blk_lt hB7
      clear hE6 hB6 hB7
      go_loopw [5] (fun v wr => ∃ j : Nat, j ≤ 2 ∧ v = .slice (some ⟨b1 + 1, 1, none⟩) (3 - j) 3 ∧ wr = W6) (fun v _ => match v with | .slice _ n _ => n | _ => 0)
      case atStart => exact ⟨0, by omega, rfl, rfl⟩
      case round =>
        obtain ⟨j, hj, rfl, hwr⟩ := hrel
        obtain rfl := hwr.symm
        match j, hj with
        | 0, _ =>
          go_wp2
          exact ⟨⟨1, by omega, by first | rfl | (simp; done), by first | trivial | rfl⟩, by simp⟩
        | 1, _ =>
          go_wp2
          exact ⟨⟨2, by omega, by first | rfl | (simp; done), by first | trivial | rfl⟩, by simp⟩
        | 2, _ =>
          go_wp2
          have hrow0 : W6.ownsRow b1 9 1 (.slice (some ⟨b1, 0, none⟩) 1 1) 1 [.string namesB] := ⟨rfl, .inr ⟨b1, 1, #[.string namesB], rfl, Nat.le_refl _, E6.out.2.1, Nat.le_refl _, by decide, rfl, rfl⟩⟩
          have hit := itoa3 W6
          have hbs := blk_lt E6.out.2.1
          go_loopw [4, 87] (fun v i wr => ∃ (k : Nat) (W : World) (ov : Value), k ≤ 1 ∧ i = .int .i64 k ∧ wr = W ∧ v = ov ∧ Aside ((k = 0 → W = W6 ∧ ov = .slice (some ⟨b1, 0, none⟩) 1 1) ∧ (k = 1 → W.ownsRow b1 9 1 ov 2 [.string namesB, .string ⟨#[51]⟩]) ∧ Below b1 W6 W)) (fun _ v _ => 1 - (intOf v).toNat)
          case atStart => exact ⟨0, W6, _, by omega, rfl, rfl, rfl, fun _ => ⟨rfl, rfl⟩, fun h => absurd h (by decide), Below.refl _ _⟩
          case round =>
            obtain ⟨k, W, ov, hk, rfl, hwr, hov, hE⟩ := hrel
            obtain rfl := hwr.symm
            obtain rfl := hov.symm
            match k, hk with
            | 0, _ =>
              obtain ⟨hW, rfl⟩ := hE.out.1 rfl
              obtain rfl := hW.symm
              clear hE
              go_wp2_with (first
                | (go_at_call 7; refine hit.mono ?_; rintro z w7 ⟨rfl, hw7⟩; obtain rfl := hw7.symm)
                | (at_builtin; refine wpList_append_own_at _ rfl _ _ 44 rfl b1 9 i0 (.string ⟨#[]⟩) 1 16 Tryd.underlying44 hi hz0 hz1 hz2 rfl (by decide) _ 1 _ rfl (hrow0.alloc _) ⟨W6.heap.size, 0, none⟩ 1 1 [.string ⟨#[51]⟩] rfl rfl (cell_one_new _ _ _) (by intro u hu; simp at hu; subst hu; rfl) (by decide) (by decide) (by simp; omega) ?_; intro v' w8 hown8 hg8 hnil8 hloc8; have E8 := Base.Aside.mk (And.intro hown8 (((Below.refl b1 W6).alloc (Nat.le_of_lt hbs) _).grown hg8 (by simp; omega) (fun j hj => ((hrow0.lt j hj).1)))); clear hown8 hg8 hnil8 hloc8)
                | go_in)
              exact ⟨⟨1, w8, _, by omega, by simp, rfl, rfl, fun h => absurd h (by decide), fun _ => E8.out.1, E8.out.2⟩, by simp [intOf]⟩
            | 1, _ =>
              have hrow := hE.out.2.1 rfl
              have hB1 := hE.out.2.2
              clear hE hit hrow0
              have hblk := blk_below E6.out.1.blk hlt5 hB1
              have C9 := fun i => blk_cell hblk i
              have L9 := blk_lt hblk
              obtain ⟨cell0, cell1, hcp⟩ : W.ownsRow b1 9 1 ov 2 [.string namesB, .string ⟨#[51]⟩] ∧ True ∧ True := ⟨hrow, trivial, trivial⟩
              obtain ⟨_, ⟨_, h0⟩ | ⟨g, cap, cur, rfl, h1, h2, h3, h4, h5, h6⟩⟩ := hrow
              · exact absurd h0 (by decide)
              · have hj := join_calls W g cap cell0 (blk_lt h2) h3
                have HB := Base.Aside.mk (E6.out.1.bel.trans (hB1.mono (Nat.le_of_lt hlt5)))
                clear h2 h6 cell0 hB1 hcp
                go_wp2
                go_loopw [4, 121] (fun v i wr => v = .slice (some ⟨g, 0, none⟩) 2 cap ∧ i = .int .i64 0 ∧ wr = W) (fun _ _ _ => 0)
                case atStart => exact ⟨rfl, rfl, rfl⟩
                case round =>
                  obtain ⟨rfl, rfl, hwr⟩ := hrel
                  obtain rfl := hwr.symm
                  go_wp2_with (first
                    | (go_at_call 19; refine hj.mono ?_; rintro z w9 ⟨rfl, hB9⟩; have E9 := Base.Aside.mk (below_step HB.out hB9); clear hB9)
                    | go_in)
                  go_ret2
                  exact ⟨by first | rfl | (simp; done), E9.out⟩
set_option maxHeartbeats 4000000 in
set_option maxRecDepth 100000 in
theorem awake_calls (w : World) (ht : Asc w) : Calls Tryd.prog 6 #[] w fun e w' => e = .returned (.bool true) ∧ Below w.heap.size w w' := by
  have hp := print_calls w ht
  go_enter Tryd.func6, Tryd.ntmps6
  go_wp2_with (first
    | (go_at_call 11; refine hp.mono ?_; rintro z w9 ⟨rfl, hB9⟩; have E9 := Base.Aside.mk hB9; clear hB9)
    | go_in)
  go_ret
  exact ⟨by first | rfl | (simp; done), E9.out⟩
end Go.Proofs.YtmfllgneeeinkaaDoor.TdF
