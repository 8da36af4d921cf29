/- Proved: of a hypervisor that nobody made nothing is told, and of a new one as many frames as it has (the walk of the law AuditZero). -/
import Derived.Test.YtkalnjfhkbnamaaAuE
import Derived.OwnWalk
namespace Go.Proofs.Ytkalnjfhkbnamaa.AuF
open Go.RowKit Go.Shelf Go.Proofs.Ytkalnjfhkbnamaa.Base Go.Proofs.Ytkalnjfhkbnamaa.Phys Go.Proofs.Ytkalnjfhkbnamaa.MaA Go.Proofs.Ytkalnjfhkbnamaa.MaB Go.Proofs.Ytkalnjfhkbnamaa.AuA Go.Proofs.Ytkalnjfhkbnamaa.AuB Go.Proofs.Ytkalnjfhkbnamaa.AuC Go.Proofs.Ytkalnjfhkbnamaa.AuD Go.Proofs.Ytkalnjfhkbnamaa.AuE
set_option linter.unusedVariables false

section
variable {w : World} {h n mb fb x g ev m1 m2 : Nat} {o : Nat → Int}
set_option maxHeartbeats 2000000 in
set_option maxRecDepth 100000 in
theorem mat_calls (H : Mach w mb fb n o) (k : Nat) (hk : k < n) (hn : n ≤ 1000) : Calls Try.prog 35 #[.pointer (some ⟨mb, 0, none⟩), .int .i64 k] w fun e w' => e = .returned (.tuple #[.pointer (some ⟨fb, k * 260, none⟩), .int .i64 0]) ∧ w' = w := by
  have C0 := fun i => blk_cell H.blk i
  have L0 := blk_lt H.blk
  have d1 : decide ((n : Int) ≤ (k : Int)) = false := decide_eq_false (by omega)
  go_enter Try.func35, Try.ntmps35
  go_wp2_with (first
    | (go_at_call 31; refine (none_calls H).mono ?_; rintro z w1 ⟨rfl, hw1⟩; obtain rfl := hw1.symm)
    | go_in)
  go_ret2
  exact ⟨by first | rfl | (simp; done), rfl⟩
set_option maxHeartbeats 2000000 in
set_option maxRecDepth 100000 in
theorem frame_calls (H : Mach w mb fb n o) (k : Nat) (hk : k < n) (hn : n ≤ 1000) : Calls Try.prog 14 #[.pointer (some ⟨mb, 0, none⟩), .int .i64 k] w fun e w' => e = .returned (.tuple #[.agg #[.int .i64 (o k), .int .i64 0, .int .i64 0, .int .i64 0], .int .i64 0]) ∧ Below w.heap.size w w' := by
  have hb0 := below_alloc (Below.refl w.heap.size w) (.cells #[.int .i64 0, .int .i64 0, .int .i64 0, .int .i64 0] 49)
  have H1 := H.below H.lt.1 H.lt.2 hb0
  have hN := blk_new w (.cells #[.int .i64 0, .int .i64 0, .int .i64 0, .int .i64 0] 49)
  have CN := fun i => blk_cell hN i
  have FN := fun i => blk_frozen hN i
  have D0 := H1.owner k hk
  obtain ⟨cs, q1, q2⟩ := H1.lst
  have D1 := (blk_cell q1 _).trans (q2.2 k 1 hk (by omega))
  have D2 := (blk_cell q1 _).trans (q2.2 k 2 hk (by omega))
  have D3 := (blk_cell q1 _).trans (q2.2 k 3 hk (by omega))
  simp only [frame0] at D1 D2 D3
  go_enter Try.func14, Try.ntmps14
  go_wp2_with (first
    | (go_at_call 35; refine (mat_calls H1 k hk hn).mono ?_; rintro z w1 ⟨rfl, hw1⟩; obtain rfl := hw1.symm)
    | go_in)
  refine bodyPost_ret (v := .tuple #[.agg #[.int .i64 (o k), .int .i64 0, .int .i64 0, .int .i64 0], .int .i64 0]) ?_ rfl ⟨rfl, ?_⟩
  · simp only [results, Try.results14]
    go_simp
    try rfl
  · exact below_alloc (Below.refl _ _) _
/-- What frame holds in memory in its loop. -/
structure FrAt (w W : World) (c b9 : Nat) (v : Int) : Prop where
  b6 : W.heap[w.heap.size]? = some (.cells #[.int .i64 0, .int .i64 0, .int .i64 0, .int .i64 0] 49 (0, 0))
  b9 : W.heap[b9]? = some (.cells #[.int .i64 v, .int .i64 0, .int .i64 0, .int .i64 0] 49 (0, 0))
  mp : W.heap[c]? = some (.map #[] 0)
  bel : Below w.heap.size w W
theorem FrAt.put {w W : World} {c b9 : Nat} {v : Int} (E : FrAt w W c b9 v) (h6 : w.heap.size < b9) (hc : c < w.heap.size) : FrAt w (W.setCell ⟨b9, 3, none⟩ (.int .i64 0)) c b9 v :=
  ⟨blk_far E.b6 (by show w.heap.size ≠ b9; omega) _, blk_put E.b9 3 _ rfl, blk_far E.mp (by show c ≠ b9; omega) _, below_set E.bel (by show w.heap.size ≤ b9; omega) _⟩
theorem infoF : (Try.prog.info? 49).map (fun i => (i.zero, i.size, i.bytes)) = some (some (.agg #[.int .i64 0, .int .i64 0, .int .i64 0, .int .i64 0]), 4, 32) := by kernel_rfl
theorem infoFs : (Try.prog.info? 49).map (·.size) = some 4 := by kernel_rfl
theorem gate_store {P : Program} {ops : Array Oper} {rest : List Oper} {o : Oper} {a : Act} {w : World} {Q : Exit → Act → World → Prop} {t : TypeId} {p q : Nat} (h : o.op = .store t (.tmp p) (.tmp q)) (k : wpList P ops Q (o :: rest) a w) : wpList P ops Q (o :: rest) a w := k
set_option maxHeartbeats 4000000 in
set_option maxRecDepth 100000 in
theorem cframe_calls (H : Hyp w h n mb fb x g ev m1 m2 o) (c : Nat) (hc : w.heap[c]? = some (.map #[] 0)) (i : Nat) (hi : i < n) (hn : n ≤ 1000) : Calls Try.prog 10 #[.map (some c), .pointer (some ⟨h, 0, none⟩), .int .i64 i] w fun e w' => e = .returned (.agg #[.int .i64 (o i), .int .i64 0, .int .i64 0, .int .i64 0]) ∧ Below w.heap.size w w' := by
  have hb0 := below_alloc (Below.refl w.heap.size w) (.cells #[.int .i64 0, .int .i64 0, .int .i64 0, .int .i64 0] 49)
  have H1 := H.below hb0
  have hc1 := blk_below hc (blk_lt hc) hb0
  have hN := blk_new w (.cells #[.int .i64 0, .int .i64 0, .int .i64 0, .int .i64 0] 49)
  have hfr := frame_calls H1.mach i hi hn
  go_enter Try.func10, Try.ntmps10
  go_wp2_with (first
    | (go_at_call 7; refine (machine_calls H1).mono ?_; rintro z w1 ⟨rfl, hw1⟩; obtain rfl := hw1.symm)
    | (go_at_call 14; refine hfr.mono ?_; rintro z w3 ⟨rfl, hB3⟩; have E3 := Aside.mk hB3; clear hB3)
    | go_in)
  have hE0 : FrAt w ((w3.alloc (.cells #[.int .i64 (o i), .int .i64 0, .int .i64 0, .int .i64 0] 49)).alloc (.cells #[.int .i64 (o i), .int .i64 0, .int .i64 0, .int .i64 0] 49)) c (w3.heap.size + 1) (o i) :=
    ⟨blk_alloc (blk_alloc (blk_below hN (blk_lt hN) E3.out) _) _, blk_newest (by simp) _, blk_alloc (blk_alloc (blk_below hc1 (blk_lt hc1) E3.out) _) _, below_alloc (below_alloc (below_step hb0 E3.out) _) _⟩
  have HE := Aside.mk hE0
  have h69 : w.heap.size < w3.heap.size + 1 := by have := E3.out.size; simp at this; omega
  have hcl := blk_lt hc
  clear hE0 hb0 H1 hc1 hN hfr
  generalize w3.heap.size + 1 = b9 at HE h69 ⊢
  go_loopw [10] (fun v wr => ∃ (k : Nat) (W2 : World), k ≤ 4 ∧ v = .int .i64 k ∧ wr = W2 ∧ Aside (FrAt w W2 c b9 (o i))) (fun v _ => 4 - (intOf v).toNat)
  case atStart => exact ⟨0, _, Nat.zero_le _, rfl, rfl, HE.out⟩
  case round =>
    obtain ⟨k, W2, hk, rfl, hwr, hE⟩ := hrel
    obtain rfl := hwr.symm
    have E := hE.out
    have hl := fun a b => look_a W2 c a b E.mp
    have C9 := fun i => blk_cell E.b9 i
    have F9 := fun i => blk_frozen E.b9 i
    have L9 := blk_lt E.b9
    clear E HE
    by_cases hlt : k < 4
    · by_cases h0 : k = 0
      · subst h0
        go_wp2
        exact ⟨⟨1, _, by omega, by simp, rfl, hE.out.put h69 hcl⟩, by simp [intOf]⟩
      · have hb : ((k : Int) == 0) = false := beq_eq_false_iff_ne.2 (by omega)
        go_wp2
        exact ⟨⟨k + 1, _, by omega, by simp, rfl, hE.out.put h69 hcl⟩, by simp [intOf]; omega⟩
    · obtain rfl : k = 4 := by omega
      go_wp2_with (first
        | ((with_reducible refine gate_store (t := 49) (p := 6) (q := 46) rfl ?_); refine Base.wpList_store_row ?_ ?_ 49 (.tmp 6) (.tmp 46) ?_ w.heap.size ?_ #[.int .i64 (o i), .int .i64 0, .int .i64 0, .int .i64 0] ?_ 49 _ hE.out.b6 ?_ ?_ ?_ ?_; (focus rfl); (focus rfl); (focus rfl); (focus rfl); (focus rfl); (focus (exact infoFs)); (focus rfl); (focus kernel_rfl); intro W3 hW3 hz3 hk3 hB3; have G3 := Aside.mk (And.intro hW3 (hB3 w.heap.size (Nat.le_refl _))); have CR := fun i => blk_cell hW3 i; clear hW3 hk3 hB3)
        | go_in)
      clear hl C9 F9 L9
      have hB3 := G3.out.2
      refine bodyPost_ret (v := .agg #[.int .i64 (o i), .int .i64 0, .int .i64 0, .int .i64 0]) ?_ rfl ⟨rfl, ?_⟩
      · simp only [results, Try.results10]
        go_simp
        try rfl
      · exact hE.out.bel.trans hB3

end
end Go.Proofs.Ytkalnjfhkbnamaa.AuF
