/- Proved: grants that nobody made answer nothing, nor do they with a view that nobody made: the walk through the law; no condition. -/
import Derived.Test.YtjeobbhaoahdcaaPhys
namespace Go.Proofs.Ytjeobbhaoahdcaa.GZ
open Go.RowKit Go.Proofs.Ytjeobbhaoahdcaa.Base Go.Proofs.Ytjeobbhaoahdcaa.Phys
set_option linter.unusedVariables false

/-- Grants that nobody made: nil, or of zeroes. -/
def Nobody (w : World) (p : Value) : Prop := p = .pointer none ∨ ∃ g, p = .pointer (some ⟨g, 0, none⟩) ∧ w.cell? ⟨g, 0, none⟩ = some (.pointer none) ∧ g < w.heap.size
theorem Nobody.below {w w1 : World} {p : Value} (h : Nobody w p) (hb : Below w.heap.size w w1) : Nobody w1 p := by
  rcases h with h | ⟨g, hp, hc, hlt⟩
  · exact .inl h
  · exact .inr ⟨g, hp, cell_below hb hc, Nat.lt_of_lt_of_le hlt hb.size⟩

set_option maxHeartbeats 2000000 in
set_option maxRecDepth 100000 in
theorem held_nobody (p : Value) (a b : Int) (w : World) (hp : Nobody w p) : Calls Try.prog 62 #[p, .int .i64 a, .int .i64 b] w fun e w' => e = .returned (.tuple #[.agg #[.int .i64 0, .int .i64 0, .int .i64 0, .int .i64 0, .int .i64 0, .bool false], .int .i64 7]) ∧ Below w.heap.size w w' := by
  rcases hp with rfl | ⟨g, rfl, hc, hlt⟩
  all_goals
    go_enter Try.func62, Try.ntmps62
    go_wp2
    refine bodyPost_ret (v := .tuple #[.agg #[.int .i64 0, .int .i64 0, .int .i64 0, .int .i64 0, .int .i64 0, .bool false], .int .i64 7]) ?_ rfl ⟨rfl, ?_⟩
    · simp only [results, Try.results62]; go_simp
    · repeat (with_reducible first | exact Below.refl _ _ | apply below_alloc | apply below_drewN | apply below_drew | refine below_set ?_ (by omega) _)

set_option maxHeartbeats 2000000 in
set_option maxRecDepth 100000 in
theorem find_nobody (p v : Value) (a n : Int) (t0 : Bool) (t1 t2 t3 t5 : Int) (wr : Bool) (w : World) (hp : Nobody w p) : Calls Try.prog 50 #[p, v, .int .i64 a, .agg #[.bool t0, .int .i64 t1, .int .i64 t2, .int .i64 t3, .int .i64 t5], .int .i64 n, .bool wr] w fun e w' => e = .returned (.tuple #[.agg #[.int .i64 0, .int .i64 0], .int .i64 7]) ∧ Below w.heap.size w w' := by
  rcases hp with rfl | ⟨g, rfl, hc, hlt⟩
  all_goals
    go_enter Try.func50, Try.ntmps50
    go_wp2
    refine bodyPost_ret (v := .tuple #[.agg #[.int .i64 0, .int .i64 0], .int .i64 7]) ?_ rfl ⟨rfl, ?_⟩
    · simp only [results, Try.results50]; go_simp
    · repeat (with_reducible first | exact Below.refl _ _ | apply below_alloc | apply below_drewN | apply below_drew | refine below_set ?_ (by omega) _)

set_option maxHeartbeats 2000000 in
set_option maxRecDepth 100000 in
theorem grantNew (mb fb n c : Nat) (w : World) (hm : w.heap[mb]? = some (.cells #[.bool true, .slice (some ⟨fb, 0, none⟩) n c] 90 (0, 0))) (hn : ((n : Int) == 0) = false) :
    Calls Try.prog 32 #[.pointer (some ⟨mb, 0, none⟩)] w fun e w' => ∃ gb d1 d2, e = .returned (.pointer (some ⟨gb, 0, none⟩)) ∧ w.heap.size ≤ gb ∧ w.heap.size ≤ d1 ∧ w.heap.size ≤ d2 ∧ gb ≠ d1 ∧ gb ≠ d2 ∧ d1 ≠ d2 ∧ w'.heap[gb]? = some (.cells #[.pointer (some ⟨mb, 0, none⟩), .map (some d1), .map (some d2)] 78 (0, 0)) ∧ w'.heap[d1]? = some (.map #[] 0) ∧ w'.heap[d2]? = some (.map #[] 0) ∧ Below w.heap.size w w' := by
  have hmm := @run_makeMap Try.prog
  have C1 := fun i => blk_cell hm i
  have L1 := blk_lt hm
  clear hm
  go_enter Try.func32, Try.ntmps32
  go_wp2
  go_ret
  refine ⟨_, _, _, rfl, ?_, ?_, ?_, ?_, ?_, ?_, blk_newest ?_ _, blk_alloc (blk_alloc (blk_new _ _) _) _, blk_alloc (blk_newest ?_ _) _, ?_⟩
  · omega
  · omega
  · omega
  · omega
  · omega
  · omega
  · simp
  · simp
  · exact below_alloc (below_alloc (below_alloc (Below.refl _ _) _) _) _

set_option maxHeartbeats 2000000 in
set_option maxRecDepth 100000 in
theorem grantNew_nil (w : World) : Calls Try.prog 32 #[.pointer none] w fun e w' => e = .returned (.pointer none) ∧ Below w.heap.size w w' := by
  go_enter Try.func32, Try.ntmps32
  go_wp2
  go_ret
  exact ⟨rfl, by repeat (with_reducible first | exact Below.refl _ _ | apply below_alloc | apply below_drewN | apply below_drew)⟩

set_option maxHeartbeats 2000000 in
set_option maxRecDepth 100000 in
theorem grantNew_zero (g : Nat) (w : World) (hc : w.cell? ⟨g, 0, none⟩ = some (.bool false)) : Calls Try.prog 32 #[.pointer (some ⟨g, 0, none⟩)] w fun e w' => e = .returned (.pointer none) ∧ Below w.heap.size w w' := by
  go_enter Try.func32, Try.ntmps32
  go_wp2
  go_ret
  exact ⟨rfl, by repeat (with_reducible first | exact Below.refl _ _ | apply below_alloc | apply below_drewN | apply below_drew)⟩

set_option maxHeartbeats 2000000 in
set_option maxRecDepth 100000 in
theorem find_zeroview (gb vb : Nat) (mp : Addr) (a n : Int) (t0 : Bool) (t1 t2 t3 t5 : Int) (wr : Bool) (w : World) (h1 : w.cell? ⟨gb, 0, none⟩ = some (.pointer (some mp))) (h2 : w.cell? ⟨vb, 0, none⟩ = some (.pointer none)) (l1 : gb < w.heap.size) (l2 : vb < w.heap.size) :
    Calls Try.prog 50 #[.pointer (some ⟨gb, 0, none⟩), .pointer (some ⟨vb, 0, none⟩), .int .i64 a, .agg #[.bool t0, .int .i64 t1, .int .i64 t2, .int .i64 t3, .int .i64 t5], .int .i64 n, .bool wr] w fun e w' => e = .returned (.tuple #[.agg #[.int .i64 0, .int .i64 0], .int .i64 7]) ∧ Below w.heap.size w w' := by
  go_enter Try.func50, Try.ntmps50
  go_wp2
  refine bodyPost_ret (v := .tuple #[.agg #[.int .i64 0, .int .i64 0], .int .i64 7]) ?_ rfl ⟨rfl, ?_⟩
  · simp only [results, Try.results50]; go_simp
  · repeat (with_reducible first | exact Below.refl _ _ | apply below_alloc | apply below_drewN | apply below_drew | refine below_set ?_ (by omega) _)

set_option maxHeartbeats 2000000 in
set_option maxRecDepth 100000 in
theorem p2mNew1 (w : World) : Calls Try.prog 33 #[.int .i64 1] w fun e w' => ∃ v, e = .returned (.tuple #[v, .int .i64 0]) ∧ Below w.heap.size w w' := by
  have hmm := @run_makeMap Try.prog
  go_enter Try.func33, Try.ntmps33
  go_wp2
  go_ret2
  exact ⟨_, rfl, by repeat (with_reducible first | exact Below.refl _ _ | apply below_alloc | apply below_drewN | apply below_drew)⟩
set_option maxHeartbeats 2000000 in
set_option maxRecDepth 100000 in
theorem viewNew0 (mb fb n c : Nat) (w : World) (hm : w.heap[mb]? = some (.cells #[.bool true, .slice (some ⟨fb, 0, none⟩) n c] 90 (0, 0))) (hn : ((n : Int) == 0) = false) :
    Calls Try.prog 10 #[.pointer (some ⟨mb, 0, none⟩), .slice none 0 0] w fun e w' => ∃ vb db, e = .returned (.tuple #[.pointer (some ⟨vb, 0, none⟩), .int .i64 0]) ∧ w.heap.size ≤ vb ∧ w.heap.size ≤ db ∧ vb ≠ db ∧ w'.heap[vb]? = some (.cells #[.pointer (some ⟨mb, 0, none⟩), .map (some db), .int .i64 0] 84 (0, 0)) ∧ w'.heap[db]? = some (.map #[] 0) ∧ Below w.heap.size w w' := by
  have hmm := @run_makeMap Try.prog
  have C1 := fun i => blk_cell hm i
  have L1 := blk_lt hm
  clear hm
  go_enter Try.func10, Try.ntmps10
  go_wp2
  refine wp_loop_once ?_
  go_wp2
  go_ret2
  refine ⟨_, _, rfl, ?_, ?_, ?_, blk_alloc (blk_newest ?_ _) _, blk_alloc (blk_alloc (blk_new _ _) _) _, ?_⟩
  · omega
  · omega
  · omega
  · simp
  · exact below_alloc (below_alloc (below_alloc (Below.refl _ _) _) _) _

/-- What the law holds in memory. -/
structure Env (w W : World) (gy mb fb vb gb db d1 d2 : Nat) : Prop where
  bel : Below w.heap.size w W
  y : W.heap[gy]? = some (.cells #[.pointer none, .map none, .map none] 78 (0, 0))
  v : W.heap[vb]? = some (.cells #[.pointer (some ⟨mb, 0, none⟩), .map (some db), .int .i64 0] 84 (0, 0))
  g : W.heap[gb]? = some (.cells #[.pointer (some ⟨mb, 0, none⟩), .map (some d1), .map (some d2)] 78 (0, 0))
section
variable {w W W' : World} {gy mb fb vb gb db d1 d2 : Nat}
theorem Env.alloc (h : Env w W gy mb fb vb gb db d1 d2) (o : Obj) : Env w (W.alloc o) gy mb fb vb gb db d1 d2 := ⟨below_alloc h.bel o, blk_alloc h.y o, blk_alloc h.v o, blk_alloc h.g o⟩
theorem Env.drewN (h : Env w W gy mb fb vb gb db d1 d2) (n : Nat) : Env w (W.drewN n) gy mb fb vb gb db d1 d2 := ⟨below_drewN h.bel n, h.y, h.v, h.g⟩
theorem Env.drew (h : Env w W gy mb fb vb gb db d1 d2) : Env w W.drew gy mb fb vb gb db d1 d2 := ⟨below_drew h.bel, h.y, h.v, h.g⟩
theorem Env.below (h : Env w W gy mb fb vb gb db d1 d2) (hb : Below W.heap.size W W') : Env w W' gy mb fb vb gb db d1 d2 := ⟨below_step h.bel hb, blk_below h.y (blk_lt h.y) hb, blk_below h.v (blk_lt h.v) hb, blk_below h.g (blk_lt h.g) hb⟩
end

set_option maxHeartbeats 8000000 in
set_option maxRecDepth 100000 in
theorem law (a b c : Int) (w : World) : Calls Try.prog 7 #[.int .i64 a, .int .i64 b, .int .i64 c] w fun e w' => e = .returned (.bool true) ∧ Below w.heap.size w w' := by
  go_enter Try.func7, Try.ntmps7
  go_wp2_with (first
    | (go_at_call 31; refine (new_calls 1 _ (by omega) (by omega)).mono ?_; rintro e w1 ⟨mb, fb, cs, rfl, hmb, hfb, hne, hm, hf, hcs, hb1⟩; have B1 := Aside.mk hb1; have M1 := Aside.mk hm; clear hb1 hm hf hcs)
    | (go_at_call 10; with_reducible refine (viewNew0 mb fb 1 1 _ M1.out (by decide)).mono ?_; rintro e w2 ⟨vb, db, rfl, hvb, hdb, hne2, hv, hd, hb2⟩; have B2 := Aside.mk hb2; have V2 := Aside.mk hv; have M2 := Aside.mk (blk_below M1.out (blk_lt M1.out) hb2); clear hb2 hv hd)
    | (go_at_call 32; with_reducible refine (grantNew mb fb 1 1 _ M2.out (by decide)).mono ?_; rintro e w3 ⟨gb, d1, d2, rfl, hgb, hd1, hd2, hn1, hn2, hn3, hg, hm1, hm2, hb3⟩; have E := Aside.mk (Env.mk (fb := fb) (below_step (below_step (below_step (below_alloc (Below.refl _ _) _) B1.out) B2.out) hb3) (blk_below (blk_below (blk_below (blk_new w _) (by simp) B1.out) (Nat.lt_of_lt_of_le (by simp) B1.out.size) B2.out) (Nat.lt_of_lt_of_le (Nat.lt_of_lt_of_le (by simp) B1.out.size) B2.out.size) hb3) (blk_below V2.out (blk_lt V2.out) hb3) hg); clear hg hm1 hm2 hb3 B1 B2 M1 V2; have Cy := fun i => blk_cell E.out.y i; have Cv := fun i => blk_cell E.out.v i; have Cg := fun i => blk_cell E.out.g i; have Ly := blk_lt E.out.y; have Lv := blk_lt E.out.v; have Lg := blk_lt E.out.g; have My := fun k => Nat.lt_add_right k Ly; have Mv := fun k => Nat.lt_add_right k Lv; have Mg := fun k => Nat.lt_add_right k Lg)
    | (go_at_call 50; (with_reducible refine (find_nobody _ _ _ _ _ _ _ _ _ _ _ ?_).mono ?_); (first | exact Or.inl rfl | (refine Or.inr ⟨_, rfl, ?_, ?_⟩; (focus (go_simp; done)); (first | exact Ly | (focus (simp; omega))))); rintro e w9 ⟨rfl, hb9⟩; have E' := Aside.mk (Env.below (by repeat (with_reducible first | exact E.out | apply Env.alloc | apply Env.drewN | apply Env.drew)) hb9); clear E hb9 Cy Cv Cg Ly Lv Lg My Mv Mg; have E := E'; clear E'; have Cy := fun i => blk_cell E.out.y i; have Cv := fun i => blk_cell E.out.v i; have Cg := fun i => blk_cell E.out.g i; have Ly := blk_lt E.out.y; have Lv := blk_lt E.out.v; have Lg := blk_lt E.out.g; have My := fun k => Nat.lt_add_right k Ly; have Mv := fun k => Nat.lt_add_right k Lv; have Mg := fun k => Nat.lt_add_right k Lg)
    | (go_at_call 50; (with_reducible refine (find_zeroview _ _ ⟨mb, 0, none⟩ _ _ _ _ _ _ _ _ _ ?_ ?_ ?_ ?_).mono ?_); (focus (go_simp; done)); (focus (go_simp; done)); (first | exact Lg | (focus (simp; omega))); (focus (simp; done)); rintro e w9 ⟨rfl, hb9⟩; have E' := Aside.mk (Env.below (by repeat (with_reducible first | exact E.out | apply Env.alloc | apply Env.drewN | apply Env.drew)) hb9); clear E hb9 Cy Cv Cg Ly Lv Lg My Mv Mg; have E := E'; clear E'; have Cy := fun i => blk_cell E.out.y i; have Cv := fun i => blk_cell E.out.v i; have Cg := fun i => blk_cell E.out.g i; have Ly := blk_lt E.out.y; have Lv := blk_lt E.out.v; have Lg := blk_lt E.out.g; have My := fun k => Nat.lt_add_right k Ly; have Mv := fun k => Nat.lt_add_right k Lv; have Mg := fun k => Nat.lt_add_right k Lg)
    | (go_at_call 62; (with_reducible refine (held_nobody _ _ _ _ ?_).mono ?_); (first | exact Or.inl rfl | (refine Or.inr ⟨_, rfl, ?_, ?_⟩; (focus (go_simp; done)); (first | exact Ly | (focus (simp; omega))))); rintro e w9 ⟨rfl, hb9⟩; have E' := Aside.mk (Env.below (by repeat (with_reducible first | exact E.out | apply Env.alloc | apply Env.drewN | apply Env.drew)) hb9); clear E hb9 Cy Cv Cg Ly Lv Lg My Mv Mg; have E := E'; clear E'; have Cy := fun i => blk_cell E.out.y i; have Cv := fun i => blk_cell E.out.v i; have Cg := fun i => blk_cell E.out.g i; have Ly := blk_lt E.out.y; have Lv := blk_lt E.out.v; have Lg := blk_lt E.out.g; have My := fun k => Nat.lt_add_right k Ly; have Mv := fun k => Nat.lt_add_right k Lv; have Mg := fun k => Nat.lt_add_right k Lg)
    | (go_at_call 33; with_reducible refine (p2mNew1 _).mono ?_; rintro e w9 ⟨pv, rfl, hb9⟩; have E' := Aside.mk (Env.below (by repeat (with_reducible first | exact E.out | apply Env.alloc | apply Env.drewN | apply Env.drew)) hb9); clear E hb9 Cy Cv Cg Ly Lv Lg My Mv Mg; have E := E'; clear E'; have Cy := fun i => blk_cell E.out.y i; have Cv := fun i => blk_cell E.out.v i; have Cg := fun i => blk_cell E.out.g i; have Ly := blk_lt E.out.y; have Lv := blk_lt E.out.v; have Lg := blk_lt E.out.g; have My := fun k => Nat.lt_add_right k Ly; have Mv := fun k => Nat.lt_add_right k Lv; have Mg := fun k => Nat.lt_add_right k Lg)
    | (go_at_call 32; with_reducible refine (grantNew_nil _).mono ?_; rintro e w9 ⟨rfl, hb9⟩; have E' := Aside.mk (Env.below (by repeat (with_reducible first | exact E.out | apply Env.alloc | apply Env.drewN | apply Env.drew)) hb9); clear E hb9 Cy Cv Cg Ly Lv Lg My Mv Mg; have E := E'; clear E'; have Cy := fun i => blk_cell E.out.y i; have Cv := fun i => blk_cell E.out.v i; have Cg := fun i => blk_cell E.out.g i; have Ly := blk_lt E.out.y; have Lv := blk_lt E.out.v; have Lg := blk_lt E.out.g; have My := fun k => Nat.lt_add_right k Ly; have Mv := fun k => Nat.lt_add_right k Lv; have Mg := fun k => Nat.lt_add_right k Lg)
    | (go_at_call 32; (with_reducible refine (grantNew_zero _ _ ?_).mono ?_); (focus (go_simp; done)); rintro e w9 ⟨rfl, hb9⟩; have E' := Aside.mk (Env.below (by repeat (with_reducible first | exact E.out | apply Env.alloc | apply Env.drewN | apply Env.drew)) hb9); clear E hb9 Cy Cv Cg Ly Lv Lg My Mv Mg; have E := E'; clear E'; have Cy := fun i => blk_cell E.out.y i; have Cv := fun i => blk_cell E.out.v i; have Cg := fun i => blk_cell E.out.g i; have Ly := blk_lt E.out.y; have Lv := blk_lt E.out.v; have Lg := blk_lt E.out.g; have My := fun k => Nat.lt_add_right k Ly; have Mv := fun k => Nat.lt_add_right k Lv; have Mg := fun k => Nat.lt_add_right k Lg)
    | go_in)
  go_ret
  exact ⟨by first | rfl | (focus (simp; done)), by repeat (with_reducible first | exact E.out.bel | apply below_alloc | apply below_drewN | apply below_drew)⟩
end Go.Proofs.Ytjeobbhaoahdcaa.GZ
