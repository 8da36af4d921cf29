/- Proved: a block backend that nobody made answers nothing, and none is made of what nobody made: the walk through the law; no condition. -/
import Derived.Test.YtdndglceaceblaaImg
namespace Go.Proofs.Ytdndglceaceblaa.BZ
open Go.RowKit Go.Proofs.Ytdndglceaceblaa.Base Go.Proofs.Ytdndglceaceblaa.Phys Go.Proofs.Ytdndglceaceblaa.New0 Go.Proofs.Ytdndglceaceblaa.Img
set_option linter.unusedVariables false

set_option maxHeartbeats 2000000 in
set_option maxRecDepth 100000 in
theorem each_none (p f : Value) (w : World) : Calls Try.prog 53 #[p, .int .i64 0, .int .i64 0, f] w fun e w' => e = .returned (.tuple #[]) ∧ Below w.heap.size w w' := by
  go_enter Try.func53, Try.ntmps53
  go_wp2
  go_loop [8] (fun v => v = .int .i64 0) (fun _ => 0)
  case atStart => rfl
  case round =>
    subst hrel
    go_wp2
    go_end0
    exact ⟨rfl, Below.refl _ _⟩

set_option maxHeartbeats 2000000 in
set_option maxRecDepth 100000 in
theorem need_made (xb mb : Nat) (w : World) (h : w.heap[xb]? = some (.cells #[.bool true, .slice none 0 0, .map (some mb), .int .i64 0] 69 (0, 0))) : Calls Try.prog 24 #[.pointer (some ⟨xb, 0, none⟩), .int .i64 0, .int .i64 0] w fun e w' => e = .returned (.tuple #[.int .i64 0, .int .i64 0]) ∧ Below w.heap.size w w' := by
  have C1 := fun i => blk_cell h i
  have L1 := blk_lt h
  clear h
  go_enter Try.func24, Try.ntmps24
  go_wp2_with (first
    | (go_at_call 53; refine (each_none _ _ _).mono ?_; rintro e w1 ⟨rfl, hb⟩; have C2 := fun i => blk_cell (blk_below (blk_new w _) (by simp) hb) i; have L2 := hb.size; simp only [World.size_alloc] at L2; have HB := Aside.mk (below_step (below_alloc (Below.refl _ _) _) hb); clear hb)
    | go_in)
  go_ret2
  exact ⟨rfl, HB.out⟩

set_option maxHeartbeats 2000000 in
set_option maxRecDepth 100000 in
theorem need_nil (w : World) : Calls Try.prog 24 #[.pointer none, .int .i64 0, .int .i64 0] w fun e w' => e = .returned (.tuple #[.int .i64 0, .int .i64 7]) ∧ Below w.heap.size w w' := by
  go_enter Try.func24, Try.ntmps24
  go_wp2
  go_ret2
  exact ⟨rfl, Below.refl _ _⟩

set_option maxHeartbeats 2000000 in
set_option maxRecDepth 100000 in
theorem new_nil (xb mb : Nat) (w : World) (h : w.heap[xb]? = some (.cells #[.bool true, .slice none 0 0, .map (some mb), .int .i64 0] 69 (0, 0))) : Calls Try.prog 8 #[.pointer none, .int .i64 0, .int .i64 1, .int .i64 0, .pointer (some ⟨xb, 0, none⟩)] w fun e w' => e = .returned (.tuple #[.pointer none, .int .i64 7]) ∧ Below w.heap.size w w' := by
  go_enter Try.func8, Try.ntmps8
  go_wp2_with (first
    | (go_at_call 24; refine (need_made xb mb _ h).mono ?_; rintro e w1 ⟨rfl, hb⟩; have HB := Aside.mk hb; clear hb)
    | go_in)
  go_ret2
  exact ⟨rfl, by repeat (with_reducible first | exact HB.out | apply below_alloc | apply below_drewN | apply below_drew)⟩

set_option maxHeartbeats 2000000 in
set_option maxRecDepth 100000 in
theorem new_noimage (p : Value) (w : World) : Calls Try.prog 8 #[p, .int .i64 0, .int .i64 1, .int .i64 0, .pointer none] w fun e w' => e = .returned (.tuple #[.pointer none, .int .i64 7]) ∧ Below w.heap.size w w' := by
  go_enter Try.func8, Try.ntmps8
  go_wp2_with (first
    | (go_at_call 24; refine (need_nil _).mono ?_; rintro e w1 ⟨rfl, hb⟩; have HB := Aside.mk hb; clear hb)
    | go_in)
  go_ret2
  exact ⟨rfl, by repeat (with_reducible first | exact HB.out | apply below_alloc | apply below_drewN | apply below_drew)⟩

set_option maxHeartbeats 4000000 in
set_option maxRecDepth 100000 in
theorem new_made (gb mb d1 d2 xb ib : Nat) (w : World) (hg : w.heap[gb]? = some (.cells #[.pointer (some ⟨mb, 0, none⟩), .map (some d1), .map (some d2)] 95 (0, 0))) (h : w.heap[xb]? = some (.cells #[.bool true, .slice none 0 0, .map (some ib), .int .i64 0] 69 (0, 0))) :
    Calls Try.prog 8 #[.pointer (some ⟨gb, 0, none⟩), .int .i64 0, .int .i64 1, .int .i64 0, .pointer (some ⟨xb, 0, none⟩)] w fun e w' => ∃ rb q, e = .returned (.tuple #[.pointer (some ⟨rb, 0, none⟩), .int .i64 0]) ∧ w'.heap[rb]? = some (.cells #[.pointer (some ⟨gb, 0, none⟩), .int .i64 0, .int .i64 1, q, .pointer (some ⟨xb, 0, none⟩), .slice none 0 0] 28 (0, 0)) ∧ Below w.heap.size w w' := by
  go_enter Try.func8, Try.ntmps8
  go_wp2_with (first
    | (go_at_call 24; refine (need_made xb ib _ h).mono ?_; rintro e w1 ⟨rfl, hb⟩; have HB := Aside.mk hb; have G1 := fun i => blk_cell (blk_below hg (blk_lt hg) hb) i; have L1 := Nat.lt_of_lt_of_le (blk_lt hg) hb.size; clear hb)
    | go_in)
  go_ret2
  exact ⟨_, _, rfl, blk_newest (by simp) _, by repeat (with_reducible first | exact HB.out | apply below_alloc | apply below_drewN | apply below_drew)⟩

/-- What the law holds in memory. -/
structure Env (w W : World) (gy mb fb xb ib : Nat) : Prop where
  bel : Below w.heap.size w W
  y : W.heap[gy]? = some (.cells #[.pointer none, .int .i64 0, .int .i64 0, .pointer none, .pointer none, .slice none 0 0] 28 (0, 0))
  m : W.heap[mb]? = some (.cells #[.bool true, .slice (some ⟨fb, 0, none⟩) 1 1] 49 (0, 0))
  d : W.heap[xb]? = some (.cells #[.bool true, .slice none 0 0, .map (some ib), .int .i64 0] 69 (0, 0))
section
variable {w W W' : World} {gy mb fb xb ib : Nat}
theorem Env.alloc (h : Env w W gy mb fb xb ib) (o : Obj) : Env w (W.alloc o) gy mb fb xb ib := ⟨below_alloc h.bel o, blk_alloc h.y o, blk_alloc h.m o, blk_alloc h.d o⟩
theorem Env.drewN (h : Env w W gy mb fb xb ib) (n : Nat) : Env w (W.drewN n) gy mb fb xb ib := ⟨below_drewN h.bel n, h.y, h.m, h.d⟩
theorem Env.drew (h : Env w W gy mb fb xb ib) : Env w W.drew gy mb fb xb ib := ⟨below_drew h.bel, h.y, h.m, h.d⟩
theorem Env.below (h : Env w W gy mb fb xb ib) (hb : Below W.heap.size W W') : Env w W' gy mb fb xb ib := ⟨below_step h.bel hb, blk_below h.y (blk_lt h.y) hb, blk_below h.m (blk_lt h.m) hb, blk_below h.d (blk_lt h.d) hb⟩
end

set_option maxHeartbeats 8000000 in
set_option maxRecDepth 100000 in
theorem law (a b : Int) (w : World) : Calls Try.prog 3 #[.int .i64 a, .int .i64 b] w fun e w' => e = .returned (.bool true) ∧ Below w.heap.size w w' := by
  go_enter Try.func3, Try.ntmps3
  go_wp2_with (first
    | (go_at_call 4; refine (new_calls 1 _ (by omega) (by omega)).mono ?_; rintro e w1 ⟨mb, fb, cs, rfl, hmb, hfb, hne, hm, hf, hcs, hb1⟩; have B1 := Aside.mk hb1; have M1 := Aside.mk hm; have Y1 := Aside.mk (blk_below (blk_new w _) (by simp) hb1); clear hb1 hm hf hcs)
    | (go_at_call 5; (with_reducible refine (viewNew0 mb fb 1 1 _ M1.out ?_).mono ?_); (focus decide); rintro e w2 ⟨vb, db, rfl, hvb, hdb, hne2, hv, hd, hb2⟩; have B2 := Aside.mk (below_step (below_step (below_alloc (Below.refl _ _) _) B1.out) hb2); have M2 := Aside.mk (blk_below M1.out (blk_lt M1.out) hb2); have Y2 := Aside.mk (blk_below Y1.out (blk_lt Y1.out) hb2); clear hb2 hv hd B1 M1 Y1)
    | (go_at_call 6; refine (imageNew _).mono ?_; rintro e w3 ⟨xb, ib, rfl, hxb, hx, hb3⟩; have E := Aside.mk (Env.mk (below_step B2.out hb3) (blk_below Y2.out (blk_lt Y2.out) hb3) (blk_below M2.out (blk_lt M2.out) hb3) hx); clear hx hb3 B2 M2 Y2; have Cy := fun i => blk_cell E.out.y i; have Ly := blk_lt E.out.y; have My := fun k => Nat.lt_add_right k Ly)
    | (go_at_call 8; (first
        | ((with_reducible refine (new_nil xb ib _ ?_).mono ?_); (repeat (with_reducible first | exact E.out.d | apply blk_alloc | apply blk_drewN | apply blk_drew)); rintro e w5 ⟨rfl, hb9⟩)
        | ((with_reducible refine (new_noimage _ _).mono ?_); rintro e w5 ⟨rfl, hb9⟩)
        | ((with_reducible refine (new_made gb mb d1 d2 xb ib _ G.out E.out.d).mono ?_); rintro e w5 ⟨rb, q, rfl, hr, hb9⟩; have Cr := fun i => blk_cell hr i; have Lr := blk_lt hr; have Mr := fun k => Nat.lt_add_right k Lr; clear hr)); have E' := Aside.mk (Env.below (by repeat (with_reducible first | exact E.out | apply Env.alloc | apply Env.drewN | apply Env.drew)) hb9); clear E hb9 Cy Ly My; have E := E'; clear E'; have Cy := fun i => blk_cell E.out.y i; have Ly := blk_lt E.out.y; have My := fun k => Nat.lt_add_right k Ly)
    | (go_at_call 9; (with_reducible refine (grantNew mb fb 1 1 _ ?_ ?_).mono ?_); (repeat (with_reducible first | exact E.out.m | apply blk_alloc | apply blk_drewN | apply blk_drew)); (focus decide); rintro e w4 ⟨gb, d1, d2, rfl, hgb, hd1, hd2, hn1, hn2, hn3, hg, hm1, hm2, hb9⟩; have E' := Aside.mk (Env.below (by repeat (with_reducible first | exact E.out | apply Env.alloc | apply Env.drewN | apply Env.drew)) hb9); clear E hb9 Cy Ly My; have E := E'; clear E'; have Cy := fun i => blk_cell E.out.y i; have Ly := blk_lt E.out.y; have My := fun k => Nat.lt_add_right k Ly; have G := Aside.mk hg; clear hg hm1 hm2 hn1 hn2 hn3 hgb hd1 hd2)
    | go_in)
  go_ret
  exact ⟨by first | rfl | (simp; done), by repeat (with_reducible first | exact E.out.bel | apply below_alloc | apply below_drewN | apply below_drew)⟩
end Go.Proofs.Ytdndglceaceblaa.BZ
