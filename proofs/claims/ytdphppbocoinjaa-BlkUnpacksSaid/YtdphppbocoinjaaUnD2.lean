/- Proved: the document's Unpack of a block request of 2 segments, walked. -/
import Derived.Test.YtdphppbocoinjaaUnA
import Derived.Test.YtdphppbocoinjaaOBlkUnpacksx5
import Derived.Test.YtdphppbocoinjaaPBlkUnpacksx6
import Derived.RegionTactic
import Derived.ChangeAlike
namespace Go.Proofs.Ytdphppbocoinjaa.UN
open Go.RowKit Go.Proofs.YtdphppbocoinjaaW.PrintWords Go.Proofs.YtdphppbocoinjaaW.PrintLast Go.Proofs.YtdphppbocoinjaaW.PrintMore Go.Proofs.Ytdphppbocoinjaa.GU Go.Proofs.Ytdphppbocoinjaa.PBlkUnpacks
set_option linter.unusedVariables false
set_option maxHeartbeats 8000000 in
set_option maxRecDepth 100000 in
theorem ref_dir2 (b off c : Nat) (x0 x1 x2 x3 x4 x5 x6 x7 x8 x9 : Int) (sp : Option Nat) (w : World)
    (h0 : w.cell? ⟨b, off, sp⟩ = some (.int .u8 x0)) (h1 : w.cell? ⟨b, off + 1, none⟩ = some (.int .u8 x1)) (h2 : w.cell? ⟨b, off + 2, none⟩ = some (.int .u8 x2)) (h3 : w.cell? ⟨b, off + 3, none⟩ = some (.int .u8 x3))
    (h4 : w.cell? ⟨b, off + 4, none⟩ = some (.int .u8 x4)) (h5 : w.cell? ⟨b, off + 5, none⟩ = some (.int .u8 x5)) (h6 : w.cell? ⟨b, off + 6, none⟩ = some (.int .u8 x6)) (h7 : w.cell? ⟨b, off + 7, none⟩ = some (.int .u8 x7))
    (h8 : w.cell? ⟨b, off + 8, none⟩ = some (.int .u8 x8)) (h9 : w.cell? ⟨b, off + 9, none⟩ = some (.int .u8 x9)) (mm : b < w.heap.size)
    (a0 : 0 ≤ x0) (b0 : x0 < 256) (a1 : 0 ≤ x1) (b1 : x1 < 256) (a2 : 0 ≤ x2) (b2 : x2 < 256) (a3 : 0 ≤ x3) (b3 : x3 < 256) (a4 : 0 ≤ x4) (b4 : x4 < 256) (a5 : 0 ≤ x5) (b5 : x5 < 256) (a6 : 0 ≤ x6) (b6 : x6 < 256) (a7 : 0 ≤ x7) (b7 : x7 < 256) (a8 : 0 ≤ x8) (b8 : x8 < 256) (a9 : 0 ≤ x9) (b9 : x9 < 256) (hx : x0 < 3) (hn : x1 = 2) (hr : manyV x0 x1 4 = true) (hc : 16 ≤ c) (s : List S81) (er : Int) (HS : ∀ m : Nat, (m : Int) = 2 * x1 → ∀ w', Below w.heap.size w w' → Calls Try.prog 33 #[.slice (some ⟨b, off + 8, none⟩) m (c - 8)] w' (SegOut w' s er)) :
    Calls Try.prog 42 #[.slice (some ⟨b, off, sp⟩) 16 c] w (DirOut w x0 x1 x2 x3 x4 x5 x6 x7 s er) := by
  go_enter Try.func42, Try.ntmps42
  go_wp2
  refine wp_world (fun W => Below w.heap.size w W ∧ w.heap.size < W.heap.size ∧ W.heap[w.heap.size]? = some (.cells #[Value.int IntKind.i64 0, Value.int IntKind.i64 0, Value.int IntKind.i64 0, .slice none 0 0] 66 (0, 0))) ⟨by (repeat (first | exact Below.refl _ _ | apply below_alloc | apply pw_below_drewN | apply below_drew1)), by go_simp, by exact blk_newest (by simp) _⟩ ?_
  intro W ⟨hb, hlt, hr1⟩
  have g0 := pw_cell_below hb h0
  have g1 := pw_cell_below hb h1
  have g2 := pw_cell_below hb h2
  have g3 := pw_cell_below hb h3
  have g4 := pw_cell_below hb h4
  have g5 := pw_cell_below hb h5
  have g6 := pw_cell_below hb h6
  have g7 := pw_cell_below hb h7
  have g8 := pw_cell_below hb h8
  have g9 := pw_cell_below hb h9
  have C1 := fun i => blk_cell hr1 i
  have F1 := fun i => blk_frozen hr1 i
  have HR1 := Aside0.mk hr1
  have HB := Aside0.mk hb
  have mW : b < W.heap.size := by omega
  clear hb hr1 h0 h1 h2 h3 h4 h5 h6 h7 h8 h9
  have ne1 : ¬ (b = w.heap.size) := by omega
  go_region_held3 (fun w' => w'.cell? ⟨b, off + 2, none⟩ = some (.int .u8 x2) ∧ w'.cell? ⟨b, off + 3, none⟩ = some (.int .u8 x3) ∧ w'.cell? ⟨b, off + 4, none⟩ = some (.int .u8 x4) ∧ w'.cell? ⟨b, off + 5, none⟩ = some (.int .u8 x5) ∧ w'.cell? ⟨b, off + 6, none⟩ = some (.int .u8 x6) ∧ w'.cell? ⟨b, off + 7, none⟩ = some (.int .u8 x7)) (go_keep) (fail)
  have ne2 : ¬ (b = W.heap.size) := by omega
  have ne3 : ¬ (w.heap.size = W.heap.size) := by omega
  have HM := fun w => tenementref13_many.calls x0 x1 4 true w ((many_f x0 x1 4).trans (congrArg some hr))
  clear hr
  subst hn
  · have HSm := HS 4 (by omega)
    clear HS
    by_cases her : er = 0
    · subst her
      go_wp2_with (first | (go_at_call 56; (with_reducible refine (HM _).mono ?_); rintro e w9 ⟨rfl, hd9⟩; have hW9 := Aside0.mk (below_step (below_drew1 (below_alloc (Below.refl W.heap.size W) _)) hd9.below); have B1 := Aside0.mk (blk_below HR1.out hW9.out); have B2 := Aside0.mk (blk_below (blk_drew1 (blk_new W _)) hd9.below); have HB9 := Aside0.mk (below_step HB.out hW9.out); have q8 := pw_cell_below hW9.out g8; have mW9 := Nat.lt_of_lt_of_le mW hW9.out.size; clear g0 g1 g2 g3 g4 g5 g6 g7 g8 g9 C1 F1 hd9 HB; have HB := HB9; clear HB9; have C1 := fun i => blk_cell B1.out i; have F1 := fun i => blk_frozen B1.out i; have C2 := fun i => blk_cell B2.out i; have F2 := fun i => blk_frozen B2.out i; have L1 := blk_lt B1.out; have L2 := blk_lt B2.out) | (go_at_call 33; (with_reducible refine (HSm _ ?hb).mono ?_); (case hb => exact HB.out); rintro e w10 ⟨Av, cv, rfl, hv, hb10⟩; have M1 := blk_lt B1.out; have M2 := blk_lt B2.out; have K1 := Aside0.mk (blk_below B1.out hb10); have K2 := Aside0.mk (blk_below B2.out hb10); have HV := Aside0.mk (seg_own hv); have HZ := HB.out.size; have HB9 := Aside0.mk (below_step HB.out hb10); clear hv hb10 HB C1 F1 C2 F2 L1 L2 q8; have HB := HB9; clear HB9; have C1 := fun i => blk_cell K1.out i; have F1 := fun i => blk_frozen K1.out i; have C2 := fun i => blk_cell K2.out i; have F2 := fun i => blk_frozen K2.out i; have L1 := blk_lt K1.out; have L2 := blk_lt K2.out; have ne3 := ne3) | go_in)
      refine bodyPost_ret (v := .tuple #[.agg #[.int .i64 x0, .int .i64 (x2 + 256 * x3), .int .i64 (x4 + 256 * x5 + 65536 * x6 + 16777216 * x7), .slice Av s.length cv], .int .i64 (-1), .int .i64 2, .int .i64 0]) ?_ rfl ?_
      · simp only [results, Try.results42]; first | (go_simp; done) | (go_simp; rfl)
      · unfold DirOut
        rw [if_pos rfl]
        refine ⟨_, rfl, seg_done ?_ HZ, ?_⟩
        · repeat (first | exact HV.out | exact M1 | exact M2 | refine seg_far ?_ ?_ _)
        · repeat (with_reducible first | exact HB.out | apply below_alloc | apply pw_below_drewN | apply below_drew1 | refine below_set ?_ (by omega))
    · have hne : (er != 0) = true := by simpa using her
      go_wp2_with (first | (go_at_call 56; (with_reducible refine (HM _).mono ?_); rintro e w9 ⟨rfl, hd9⟩; have hW9 := Aside0.mk (below_step (below_drew1 (below_alloc (Below.refl W.heap.size W) _)) hd9.below); have B1 := Aside0.mk (blk_below HR1.out hW9.out); have B2 := Aside0.mk (blk_below (blk_drew1 (blk_new W _)) hd9.below); have HB9 := Aside0.mk (below_step HB.out hW9.out); have q8 := pw_cell_below hW9.out g8; have mW9 := Nat.lt_of_lt_of_le mW hW9.out.size; clear g0 g1 g2 g3 g4 g5 g6 g7 g8 g9 C1 F1 hd9 HB; have HB := HB9; clear HB9; have C1 := fun i => blk_cell B1.out i; have F1 := fun i => blk_frozen B1.out i; have C2 := fun i => blk_cell B2.out i; have F2 := fun i => blk_frozen B2.out i; have L1 := blk_lt B1.out; have L2 := blk_lt B2.out) | (go_at_call 33; (with_reducible refine (HSm _ ?hb).mono ?_); (case hb => exact HB.out); rintro e w10 ⟨Av, cv, rfl, hv, hb10⟩; have M1 := blk_lt B1.out; have M2 := blk_lt B2.out; have K1 := Aside0.mk (blk_below B1.out hb10); have K2 := Aside0.mk (blk_below B2.out hb10); have HV := Aside0.mk (seg_own hv); have HZ := HB.out.size; have HB9 := Aside0.mk (below_step HB.out hb10); clear hv hb10 HB C1 F1 C2 F2 L1 L2 q8; have HB := HB9; clear HB9; have C1 := fun i => blk_cell K1.out i; have F1 := fun i => blk_frozen K1.out i; have C2 := fun i => blk_cell K2.out i; have F2 := fun i => blk_frozen K2.out i; have L1 := blk_lt K1.out; have L2 := blk_lt K2.out; have ne3 := ne3) | go_in)
      refine bodyPost_ret (v := .tuple #[.agg #[.int .i64 0, .int .i64 0, .int .i64 0, .slice none 0 0], .int .i64 0, .int .i64 0, .int .i64 4]) ?_ rfl ?_
      · simp only [results, Try.results42]; first | (go_simp; done) | (go_simp; rfl)
      · unfold DirOut
        rw [if_neg her]
        refine UOut.nil ?_
        repeat (with_reducible first | exact HB.out | apply below_alloc | apply pw_below_drewN | apply below_drew1 | refine below_set ?_ (by omega))
end Go.Proofs.Ytdphppbocoinjaa.UN
