/- Proved: a network backend that nobody made answers nothing, and none is made of what nobody made: the walk through the law; no condition. -/
import Derived.Test.YtjdlcijbohicaaaRNew0
namespace Go.Proofs.YtjdlcijbohicaaaR.NZ
open Go.RowKit Go.Proofs.YtjdlcijbohicaaaR.Base Go.Proofs.YtjdlcijbohicaaaR.Phys Go.Proofs.YtjdlcijbohicaaaR.New0
set_option linter.unusedVariables false

theorem infoB : ∃ i z, Try.prog.info? 193 = some i ∧ i.zero = some z ∧ (i.bytes : Int) ≤ 1000 := by
  have h : ((Try.prog.info? 193).map (fun i => (i.zero.isSome, decide ((i.bytes : Int) ≤ 1000)))) = some (true, true) := by kernel_rfl
  cases hi : Try.prog.info? 193 with
  | none => rw [hi] at h; cases h
  | some i =>
    rw [hi] at h
    simp only [Option.map_some, Option.some.injEq, Prod.mk.injEq] at h
    cases hz : i.zero with
    | none => rw [hz] at h; cases h.1
    | some z => exact ⟨i, z, rfl, hz, of_decide_eq_true h.2⟩

set_option maxHeartbeats 2000000 in
set_option maxRecDepth 100000 in
theorem bridgeNew1 (w : World) : Calls Try.prog 7 #[.int .i64 1] w fun e w' => ∃ sb pb kb, e = .returned (.tuple #[.pointer (some ⟨sb, 0, none⟩), .int .i64 0]) ∧ w'.heap[sb]? = some (.cells #[.slice (some ⟨pb, 0, none⟩) 1 1, .map (some kb)] 80 (0, 0)) ∧ Below w.heap.size w w' := by
  obtain ⟨i, z, hi, hz, hb⟩ := infoB
  have hmm := @run_makeMap Try.prog
  have hmk := fun (w : World) => run_make (P := Try.prog) (w := w) 77 193 i z Try.underlying77 hi hz .i64 .i64 1 1 (by omega) (Int.le_refl _) (by omega) (by omega)
  generalize hM : madeCells z.cells ((1 : Int).toNat * i.size) = M at hmk
  simp only [Int.toNat_one] at hmk
  clear hM hi hz hb
  go_enter Try.func7, Try.ntmps7
  go_wp2
  go_ret2
  exact ⟨_, _, _, rfl, blk_newest (by simp) _, below_alloc (below_alloc (below_alloc (Below.refl _ _) _) _) _⟩

/-- What the law holds in memory. -/
structure Env (w W : World) (gy mb fb vb db sb pb kb : Nat) : Prop where
  bel : Below w.heap.size w W
  y : W.heap[gy]? = some (.cells #[.pointer none, .int .i64 0, .int .i64 0, .pointer none, .pointer none, .pointer none, .int .i64 0] 27 (0, 0))
  m : W.heap[mb]? = some (.cells #[.bool true, .slice (some ⟨fb, 0, none⟩) 1 1] 61 (0, 0))
  v : W.heap[vb]? = some (.cells #[.pointer (some ⟨mb, 0, none⟩), .map (some db), .int .i64 0] 71 (0, 0))
  s : W.heap[sb]? = some (.cells #[.slice (some ⟨pb, 0, none⟩) 1 1, .map (some kb)] 80 (0, 0))
section
variable {w W W' : World} {gy mb fb vb db sb pb kb : Nat}
theorem Env.alloc (h : Env w W gy mb fb vb db sb pb kb) (o : Obj) : Env w (W.alloc o) gy mb fb vb db sb pb kb := ⟨below_alloc h.bel o, blk_alloc h.y o, blk_alloc h.m o, blk_alloc h.v o, blk_alloc h.s o⟩
theorem Env.drewN (h : Env w W gy mb fb vb db sb pb kb) (n : Nat) : Env w (W.drewN n) gy mb fb vb db sb pb kb := ⟨below_drewN h.bel n, h.y, h.m, h.v, h.s⟩
theorem Env.drew (h : Env w W gy mb fb vb db sb pb kb) : Env w W.drew gy mb fb vb db sb pb kb := ⟨below_drew h.bel, h.y, h.m, h.v, h.s⟩
theorem Env.below (h : Env w W gy mb fb vb db sb pb kb) (hb : Below W.heap.size W W') : Env w W' gy mb fb vb db sb pb kb := ⟨below_step h.bel hb, blk_below h.y (blk_lt h.y) hb, blk_below h.m (blk_lt h.m) hb, blk_below h.v (blk_lt h.v) hb, blk_below h.s (blk_lt h.s) hb⟩
end

set_option maxHeartbeats 8000000 in
set_option maxRecDepth 100000 in
theorem law (a : Int) (w : World) : Calls Try.prog 3 #[.int .i64 a] w fun e w' => e = .returned (.bool true) ∧ Below w.heap.size w w' := by
  have q97 : ∀ (w : World) (r : Option Nat), (binOp .eql 78 (.map r) (.map none)).run Try.prog w = .ok (.bool r.isNone) w := fun w r => run_eql_map_nil w _ _ _ r Try.underlying78
  go_enter Try.func3, Try.ntmps3
  go_wp2_with (first
    | (go_at_call 5; refine (new_calls 1 _ (by omega) (by omega)).mono ?_; rintro e w1 ⟨mb, fb, cs, rfl, hmb, hfb, hne, hm, hf, hcs, hb1⟩; have B1 := Aside.mk hb1; have M1 := Aside.mk hm; clear hb1 hm hf hcs)
    | (go_at_call 6; (with_reducible refine (viewNew0 mb fb 1 1 _ M1.out ?_).mono ?_); (focus decide); rintro e w2 ⟨vb, db, rfl, hvb, hdb, hne2, hv, hd, hb2⟩; have B2 := Aside.mk hb2; have V2 := Aside.mk hv; have M2 := Aside.mk (blk_below M1.out (blk_lt M1.out) hb2); clear hb2 hv hd)
    | (go_at_call 7; refine (bridgeNew1 _).mono ?_; rintro e w3 ⟨sb, pb, kb, rfl, hs, hb3⟩; have E := Aside.mk (Env.mk (below_step (below_step (below_step (below_alloc (Below.refl _ _) _) B1.out) B2.out) hb3) (blk_below (blk_below (blk_below (blk_new w _) (by simp) B1.out) (Nat.lt_of_lt_of_le (by simp) B1.out.size) B2.out) (Nat.lt_of_lt_of_le (Nat.lt_of_lt_of_le (by simp) B1.out.size) B2.out.size) hb3) (blk_below M2.out (blk_lt M2.out) hb3) (blk_below V2.out (blk_lt V2.out) hb3) hs); clear hs hb3 B1 B2 M1 M2 V2; have Cy := fun i => blk_cell E.out.y i; have Cv := fun i => blk_cell E.out.v i; have Cs := fun i => blk_cell E.out.s i; have Cm := fun i => blk_cell E.out.m i; have Ly := blk_lt E.out.y; have Lv := blk_lt E.out.v; have Ls := blk_lt E.out.s; have Lm := blk_lt E.out.m; have My := fun k => Nat.lt_add_right k Ly; have Mv := fun k => Nat.lt_add_right k Lv; have Ms := fun k => Nat.lt_add_right k Ls; have Mm := fun k => Nat.lt_add_right k Lm)
    | (go_at_call 11; (with_reducible refine (grantNew mb fb 1 1 _ ?_ ?_).mono ?_); (repeat (with_reducible first | exact E.out.m | apply blk_alloc | apply blk_drewN | apply blk_drew)); (focus decide); rintro e w4 ⟨gb, d1, d2, rfl, hgb, hd1, hd2, hn1, hn2, hn3, hg, hm1, hm2, hb9⟩; have E' := Aside.mk (Env.below (by repeat (with_reducible first | exact E.out | apply Env.alloc | apply Env.drewN | apply Env.drew)) hb9); clear E hb9 Cy Cv Cs Cm Ly Lv Ls Lm My Mv Ms Mm; have E := E'; clear E'; have Cy := fun i => blk_cell E.out.y i; have Cv := fun i => blk_cell E.out.v i; have Cs := fun i => blk_cell E.out.s i; have Cm := fun i => blk_cell E.out.m i; have Ly := blk_lt E.out.y; have Lv := blk_lt E.out.v; have Ls := blk_lt E.out.s; have Lm := blk_lt E.out.m; have My := fun k => Nat.lt_add_right k Ly; have Mv := fun k => Nat.lt_add_right k Lv; have Ms := fun k => Nat.lt_add_right k Ls; have Mm := fun k => Nat.lt_add_right k Lm; have Cg := fun i => blk_cell hg i; have Lg := blk_lt hg; have Mg := fun k => Nat.lt_add_right k Lg; clear hg hm1 hm2 hn1 hn2 hn3 hgb hd1 hd2)
    | go_in)
  go_ret
  exact ⟨by first | rfl | (simp; done), by repeat (with_reducible first | exact E.out.bel | apply below_alloc | apply below_drewN | apply below_drew)⟩
end Go.Proofs.YtjdlcijbohicaaaR.NZ
