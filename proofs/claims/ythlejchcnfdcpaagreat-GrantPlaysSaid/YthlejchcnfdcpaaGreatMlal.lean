/- Proved: what begin makes of no entries (a contract for the laws of the grants). Proved: the program's world as the laws of the grants use it behind begin (lemmas). Proved: lay: an owner writes an entry, in both worlds (a contract for the laws of the grants). -/
import Derived.Test.YthlejchcnfdcpaaGreatMlah
import Derived.Test.YthlejchcnfdcpaaGreatMlaj
import Derived.Test.YthlejchcnfdcpaaGreatMlak
import Derived.Outline
import Derived.Laws.Closers25b
import Derived.Deep.RegionWith
namespace Go.Proofs.YthlejchcnfdcpaaGreat.GbC
open Go.RowKit Go.Maps Base GaA GaB GaC GaD GmA GpA GgA RpA RmA RmB RmC RgA GnA GfC GfD GbA GbB
set_option linter.unusedVariables false
set_option linter.unusedSimpArgs false

theorem infoP : (Tryz.prog.info? 55).map (fun i => (i.zero, i.size, i.bytes)) = some (some (.pointer none), 1, 8) := by kernel_rfl
theorem infoQ : (Tryz.prog.info? 58).map (fun i => (i.zero, i.size, i.bytes)) = some (some (.pointer none), 1, 8) := by kernel_rfl
theorem frD_zero (k : Nat) : (fun _ => none) = frD k 0 := by funext x; exact (if_neg (by omega)).symm
theorem plD_zero (k : Nat) : (fun _ => none) = plD k 0 := by funext x; exact (if_neg (by omega)).symm
def nms (a : BA) (k pb fm pm qb qr qc : Nat) : BA := { a with pb := fun e => if e = k then pb else a.pb e, fm := fun e => if e = k then fm else a.fm e, pm := fun e => if e = k then pm else a.pm e, qb := fun e => if e = k then qb else a.qb e, qr := fun e => if e = k then qr else a.qr e, qc := fun e => if e = k then qc else a.qc e }
/-- A domain's places are made. -/
theorem in_new {w0 W w1 w2 : World} {a : BA} {s t : MS} {k pb fm pm qb qr qc : Nat} {P Q : Value} (h : Bd w0 W a s t ⟨k, k, k, k, k⟩ P Q) (hP : P2 w1 pb fm pm 8 (fun _ => none) (fun _ => none) 0) (hp : W.heap.size ≤ pb ∧ W.heap.size ≤ fm ∧ W.heap.size ≤ pm) (hB1 : Below W.heap.size W w1)
    (hR : R3 w2 qb qr qc (List.replicate 8 (-1))) (hq : w1.heap.size ≤ qb ∧ w1.heap.size ≤ qr) (hB2 : Below w1.heap.size w1 w2) : In w0 w2 (nms a k pb fm pm qb qr qc) s t k 0 0 P Q W.heap.size := by
  have h1 := (h.below hB1).below hB2
  have h2 : Bd w0 w2 (nms a k pb fm pm qb qr qc) s t ⟨k, k, k, k, k⟩ P Q := ⟨h1.bo.name ⟨rfl, rfl, rfl, rfl⟩ pb fm pm qb qr qc, h1.bel⟩
  have h3 : Bo w0.heap.size W (nms a k pb fm pm qb qr qc) s t ⟨k, k, k, k, k⟩ P Q := h.bo.name ⟨rfl, rfl, rfl, rfl⟩ pb fm pm qb qr qc
  have e1 : (nms a k pb fm pm qb qr qc).pb k = pb := if_pos rfl
  have e2 : (nms a k pb fm pm qb qr qc).fm k = fm := if_pos rfl
  have e3 : (nms a k pb fm pm qb qr qc).pm k = pm := if_pos rfl
  have e4 : (nms a k pb fm pm qb qr qc).qb k = qb := if_pos rfl
  have e5 : (nms a k pb fm pm qb qr qc).qr k = qr := if_pos rfl
  have e6 : (nms a k pb fm pm qb qr qc).qc k = qc := if_pos rfl
  have hs := hB1.size
  refine ⟨h2, ⟨?_, ?_, ?_⟩, h3.old, h.bel.size⟩
  · rw [e1, e2, e3, ← frD_zero, ← plD_zero]
    exact hP.below hB2
  · rw [e4, e5, e6, ← lstD_zero]
    exact hR
  · rw [e1, e2, e3, e4, e5]
    omega
def BeginOut (w : World) (e : Ending) (w' : World) : Prop := ∃ (a : BA) (P Q : Value), e = .returned (.tuple #[.pointer (some ⟨w.heap.size, 0, none⟩), .bool true]) ∧ a.xb = w.heap.size ∧ Bd w w' a (msB 3 0) (msB 3 0) ⟨3, 3, 3, 3, 3⟩ P Q
/-- The two worlds ahead of the first domain. -/
def Start (w W : World) : Prop := ∃ a : BA, a.xb = w.heap.size ∧ Bd w W a (msB 0 0) (msB 0 0) ⟨0, 0, 0, 0, 0⟩ (.slice none 0 0) (.slice none 0 0)
def Row0 (w W : World) (k : Nat) : Prop := ∃ (a : BA) (P Q : Value), a.xb = w.heap.size ∧ Bd w W a (msB k 0) (msB k 0) ⟨k, k, k, k, k⟩ P Q
theorem pnew13 (W : World) : Calls Tryz.prog 7 #[.int .i64 13] W (MnOut W 13) := mnew_calls 13 W (by decide) (by decide)
theorem rnew13 (W : World) : Calls Tryz.prog 8 #[.int .i64 13] W (RmA.NewOut W 13) := RmA.new_calls W 13 (by decide) (by decide)
theorem pnew8 (W : World) : Calls Tryz.prog 11 #[.int .i64 8] W fun e w' => ∃ pb fm pm, e = .returned (.tuple #[.pointer (some ⟨pb, 0, none⟩), .int .i64 0]) ∧ P2 w' pb fm pm 8 (fun _ => none) (fun _ => none) 0 ∧ (W.heap.size ≤ pb ∧ W.heap.size ≤ fm ∧ W.heap.size ≤ pm) ∧ Below W.heap.size W w' := GpA.new_calls W 8 (by decide)
theorem rnew8 (W : World) : Calls Tryz.prog 12 #[.int .i64 8] W (RpA.NewOut W 8) := RpA.new_calls W 8 (by decide) (by decide)
section
variable {W : World} {xb i : Nat} {cs : Array Value} {u : Value}
theorem xset (W : World) (xb i : Nat) (u : Value) : Chg (fun x => x = xb) W (W.setCell ⟨xb, i, none⟩ u) := Chg.set (F := fun x => x = xb) (p := ⟨xb, i, none⟩) (Chg.refl _ W) (.inl rfl) u
theorem mach_xb {mb fb : Nat} {s : MS} (h : Mach W mb fb s) (hx : W.heap[xb]? = some (.cells cs 47 (0, 0))) (i : Nat) (u : Value) : Mach (W.setCell ⟨xb, i, none⟩ u) mb fb s := by
  obtain ⟨c, l1, _⟩ := h.lst
  exact h.chg (xset W xb i u) (blk_ne h.blk hx (by decide)) (blk_ne l1 hx (by decide))
theorem rmach_xb {rb Fb Bb cF cB : Nat} {bs : List Nat} {s : MS} (h : RMach W rb Fb Bb cF cB bs s) (hx : W.heap[xb]? = some (.cells cs 47 (0, 0))) (i : Nat) (u : Value) : RMach (W.setCell ⟨xb, i, none⟩ u) rb Fb Bb cF cB bs s := by
  obtain ⟨c, l1, _⟩ := h.frs
  obtain ⟨c2, l2, _⟩ := h.rows
  refine h.chg (xset W xb i u) (blk_ne h.blk hx (by decide)) (blk_ne l1 hx (by decide)) (blk_ne l2 hx (by decide)) ?_
  intro b hb
  obtain ⟨j, hj, rfl⟩ := List.mem_iff_getElem.1 hb
  have hpg := h.page j (by rw [← h.len]; exact hj)
  rw [List.getD_eq_getElem?_getD, List.getElem?_eq_getElem hj] at hpg
  exact blk_ne hpg hx (by decide)
theorem g2_xb {gb mm hm mb c : Nat} {f : Int → Option (Int × Nat)} (h : G2 W gb mm hm mb f c) (hx : W.heap[xb]? = some (.cells cs 47 (0, 0))) (i : Nat) (u : Value) : G2 (W.setCell ⟨xb, i, none⟩ u) gb mm hm mb f c :=
  h.chg (xset W xb i u) (blk_ne h.blk hx (by decide)) (fun e => by have := ty_imap h.mem; rw [e, ty_cells hx] at this; cases this)
theorem map_xb {g k : Nat} {es : Array MapEntry} (h : W.heap[g]? = some (.map es k)) (hx : W.heap[xb]? = some (.cells cs 47 (0, 0))) (i : Nat) (u : Value) : (W.setCell ⟨xb, i, none⟩ u).heap[g]? = some (.map es k) :=
  (xset W xb i u).blk h (fun e => by have := ty_map h; rw [e, ty_cells hx] at this; cases this)
theorem r6_xb {hb Db cD rb : Nat} {f : Nat → Int × Option Nat} (h : R6 W hb Db cD rb f) (hx : W.heap[xb]? = some (.cells cs 47 (0, 0))) (i : Nat) (u : Value) : R6 (W.setCell ⟨xb, i, none⟩ u) hb Db cD rb f := by
  obtain ⟨c, l1, _⟩ := h.mem
  exact h.chg (xset W xb i u) (blk_ne h.blk hx (by decide)) (blk_ne l1 hx (by decide))
end
/-- Two worlds under way: what has been made. -/
structure St1 (w W : World) (mb fb : Nat) (p1 p3 p4 : Value) : Prop where
  blk : W.heap[w.heap.size]? = some (.cells #[.pointer (some ⟨mb, 0, none⟩), p1, .slice none 0 0, p3, p4, .slice none 0 0] 47 (0, 0))
  m : Mach W mb fb (msB 0 0)
  hf : w.heap.size ≤ fb
  bel : Below w.heap.size w W
theorem St1.below {w W W' : World} {mb fb : Nat} {p1 p3 p4 : Value} (h : St1 w W mb fb p1 p3 p4) (hb : Below W.heap.size W W') : St1 w W' mb fb p1 p3 p4 := ⟨blk_below h.blk (blk_lt h.blk) hb, h.m.below hb, h.hf, h.bel.trans (hb.mono h.bel.size)⟩
theorem st_one {w w1 : World} {mb fb : Nat} (hm1 : (w.alloc (.cells #[.pointer none, .pointer none, .slice none 0 0, .pointer none, .pointer none, .slice none 0 0] 47)).heap.size ≤ mb) (hf1 : (w.alloc (.cells #[.pointer none, .pointer none, .slice none 0 0, .pointer none, .pointer none, .slice none 0 0] 47)).heap.size ≤ fb) (hM1 : Mach w1 mb fb (ms0 13))
    (hB1 : Below (w.alloc (.cells #[.pointer none, .pointer none, .slice none 0 0, .pointer none, .pointer none, .slice none 0 0] 47)).heap.size (w.alloc (.cells #[.pointer none, .pointer none, .slice none 0 0, .pointer none, .pointer none, .slice none 0 0] 47)) w1) :
    w1.heap[w.heap.size]? = some (.cells #[.pointer none, .pointer none, .slice none 0 0, .pointer none, .pointer none, .slice none 0 0] 47 (0, 0)) ∧ St1 w (w1.setCell ⟨w.heap.size, 0, none⟩ (.pointer (some ⟨mb, 0, none⟩))) mb fb (.pointer none) (.pointer none) (.pointer none) := by
  have x1 := blk_below (blk_new w _) (blk_lt (blk_new w _)) hB1
  rw [msB_zero] at hM1
  rw [World.size_alloc] at hf1
  exact ⟨x1, blk_put x1 0 _ rfl, mach_xb hM1 x1 _ _, by omega, ((below_alloc (Below.refl _ _) _).trans (hB1.mono (by rw [World.size_alloc]; omega))).setCell (Nat.le_refl _) _⟩
theorem St1.set {w W : World} {mb fb : Nat} {p1 p3 p4 : Value} (h : St1 w W mb fb p1 p3 p4) (i : Nat) (u q1 q3 q4 : Value) (e : (#[.pointer (some ⟨mb, 0, none⟩), p1, .slice none 0 0, p3, p4, .slice none 0 0] : Array Value).setIfInBounds i u = #[.pointer (some ⟨mb, 0, none⟩), q1, .slice none 0 0, q3, q4, .slice none 0 0]) :
    St1 w (W.setCell ⟨w.heap.size, i, none⟩ u) mb fb q1 q3 q4 := ⟨blk_put h.blk i u e, mach_xb h.m h.blk _ _, h.hf, h.bel.setCell (Nat.le_refl _) _⟩
theorem xblk {w W : World} {a : BA} {s t : MS} {n : Cn} {P Q : Value} (h : Bd w W a s t n P Q) (hx : a.xb = w.heap.size) : W.heap[w.heap.size]? = some (.cells #[.pointer (some ⟨a.mb, 0, none⟩), .pointer (some ⟨a.gb, 0, none⟩), P, .pointer (some ⟨a.rb, 0, none⟩), .pointer (some ⟨a.hb, 0, none⟩), Q] 47 (0, 0)) := by
  rw [← hx]
  exact h.bo.blk
theorem bd_appP {w0 W W' : World} {a : BA} {s t : MS} {n : Cn} {P Q P' : Value} (h : Bd w0 W a s t n P Q) (hx : a.xb = w0.heap.size) {o : Obj} (hg : (W.alloc o).grownBy W' P.ownBlock) (hr : W'.ownsRow w0.heap.size 55 1 P' (n.kp + 1) (ptrs a.pb n.kp ++ [.pointer (some ⟨a.pb n.kp, 0, none⟩)])) :
    W'.heap[w0.heap.size]? = some (.cells #[.pointer (some ⟨a.mb, 0, none⟩), .pointer (some ⟨a.gb, 0, none⟩), P, .pointer (some ⟨a.rb, 0, none⟩), .pointer (some ⟨a.hb, 0, none⟩), Q] 47 (0, 0)) ∧ Bd w0 (W'.setCell ⟨w0.heap.size, 2, none⟩ P') a s t ⟨n.k, n.kp + 1, n.kq, n.kg, n.kh⟩ P' Q := by
  have h1 := h.below (below_alloc (Below.refl _ _) o)
  have h2 := h1.bo.appP (grown_chg hg) hr
  rw [hx] at h2
  have hb : Below w0.heap.size w0 W' := h1.out (grown_chg hg) (fun x hx => (h.bo.rp.lt x hx).1)
  exact ⟨h2.1, h2.2, hb.setCell (Nat.le_refl _) _⟩
theorem bd_appQ {w0 W W' : World} {a : BA} {s t : MS} {n : Cn} {P Q Q' : Value} (h : Bd w0 W a s t n P Q) (hx : a.xb = w0.heap.size) {o : Obj} (hg : (W.alloc o).grownBy W' Q.ownBlock) (hr : W'.ownsRow w0.heap.size 58 1 Q' (n.kq + 1) (ptrs a.qb n.kq ++ [.pointer (some ⟨a.qb n.kq, 0, none⟩)])) :
    W'.heap[w0.heap.size]? = some (.cells #[.pointer (some ⟨a.mb, 0, none⟩), .pointer (some ⟨a.gb, 0, none⟩), P, .pointer (some ⟨a.rb, 0, none⟩), .pointer (some ⟨a.hb, 0, none⟩), Q] 47 (0, 0)) ∧ Bd w0 (W'.setCell ⟨w0.heap.size, 5, none⟩ Q') a s t ⟨n.k, n.kp, n.kq + 1, n.kg, n.kh⟩ P Q' := by
  have h1 := h.below (below_alloc (Below.refl _ _) o)
  have h2 := h1.bo.appQ (grown_chg hg) hr
  rw [hx] at h2
  have hb : Below w0.heap.size w0 W' := h1.out (grown_chg hg) (fun x hx => (h.bo.rq.lt x hx).1)
  exact ⟨h2.1, h2.2, hb.setCell (Nat.le_refl _) _⟩
theorem new_set (W : World) (p : Addr) (x v : Value) (t : TypeId) : ∀ j u, [v][j]? = some u → ((W.setCell p x).alloc (.cells #[v] t)).cell? ((⟨W.heap.size, 0, none⟩ : Addr).add j) = some u := by
  have := cell_one_new (W.setCell p x) v t
  rw [size_set] at this
  exact this
set_option maxHeartbeats 8000000 in
set_option maxRecDepth 100000 in
theorem begin_nil (w : World) : Calls Tryz.prog 4 #[.slice none 0 0] w (BeginOut w) := by
  go_enter Tryz.func4, Tryz.ntmps4
  go_wp2_with (first
    | (go_at_call 7; (with_reducible refine (pnew13 _).mono ?_); rintro z w1 ⟨mb, fb, rfl, hm1, hf1, hM1, hB1⟩; have s1 := st_one hm1 hf1 hM1 hB1; have C1 := (fun i => blk_cell s1.1 i); have F1 := (fun i => blk_frozen s1.1 i); have L1 := blk_lt s1.1; have S1 := Base.Aside.mk s1.2; clear hM1 hB1 hm1 hf1 s1)
    | (go_at_call 8; (with_reducible refine (rnew13 _).mono ?_); rintro z w2 ⟨rb, Fb, Bb, cF, cB, bs, rfl, hr1, hr2, hr3, hr4, hR2, hB2⟩; have s2 := S1.out.below hB2; have R3 := rmach_xb hR2 s2.blk 3 (.pointer (some ⟨rb, 0, none⟩)); have C2 := (fun i => blk_cell s2.blk i); have F2 := (fun i => blk_frozen s2.blk i); have L2 := blk_lt s2.blk; have z2 := S1.out.bel.size; have s3 := s2.set 3 (.pointer (some ⟨rb, 0, none⟩)) (.pointer none) (.pointer (some ⟨rb, 0, none⟩)) (.pointer none) rfl; have hgn := gnew_calls s3.m (by decide); have S3 := Base.Aside.mk s3; have R3 := Base.Aside.mk (And.intro R3 (And.intro hr1 (And.intro hr2 (And.intro hr3 hr4)))); clear hR2 hB2 hr1 hr2 hr3 hr4 s2 s3)
    | (go_at_call 9; refine hgn.mono ?_; rintro z w3 ⟨gb, mm, hm, rfl, hg1, hg2, hg3, hg4, hG3, hk3, hB3⟩; have s4 := S3.out.below hB3; have R4 := rmach_xb (R3.out.1.below hB3) s4.blk 1 (.pointer (some ⟨gb, 0, none⟩)); have C3 := (fun i => blk_cell s4.blk i); have F3 := (fun i => blk_frozen s4.blk i); have L3 := blk_lt s4.blk; have G4 := g2_xb hG3 s4.blk 1 (.pointer (some ⟨gb, 0, none⟩)); have k4 := map_xb hk3 s4.blk 1 (.pointer (some ⟨gb, 0, none⟩)); have s5 := s4.set 1 (.pointer (some ⟨gb, 0, none⟩)) (.pointer (some ⟨gb, 0, none⟩)) (.pointer (some ⟨rb, 0, none⟩)) (.pointer none) rfl; have S5 := Base.Aside.mk (And.intro s5 (And.intro R4 (And.intro G4 k4))); have S6 := Base.Aside.mk (And.intro hg1 (And.intro hg2 (And.intro hg3 (And.intro hg4 S3.out.bel.size)))); clear hg1 hg2 hg3 hg4 hG3 hk3 hB3 s4 s5 R4 G4 k4)
    | (go_at_call 10; (with_reducible refine (RgA.new_calls _ rb).mono ?_); rintro z w4 ⟨hb, Db, cD, rfl, hh1, hh2, hH4, hB4⟩; have s6 := S5.out.1.below hB4; have C4 := (fun i => blk_cell s6.blk i); have F4 := (fun i => blk_frozen s6.blk i); have L4 := blk_lt s6.blk; have H5 := r6_xb hH4 s6.blk 4 (.pointer (some ⟨hb, 0, none⟩)); have R5 := rmach_xb (S5.out.2.1.below hB4) s6.blk 4 (.pointer (some ⟨hb, 0, none⟩)); have G5 := g2_xb (S5.out.2.2.1.below hB4) s6.blk 4 (.pointer (some ⟨hb, 0, none⟩)); have k5 := map_xb (blk_below S5.out.2.2.2 (blk_lt S5.out.2.2.2) hB4) s6.blk 4 (.pointer (some ⟨hb, 0, none⟩)); have s7 := s6.set 4 (.pointer (some ⟨hb, 0, none⟩)) (.pointer (some ⟨gb, 0, none⟩)) (.pointer (some ⟨rb, 0, none⟩)) (.pointer (some ⟨hb, 0, none⟩)) rfl; have S7 := Base.Aside.mk (And.intro s7 (And.intro R5 (And.intro G5 (And.intro k5 (And.intro H5 (And.intro hh1 (And.intro hh2 S5.out.1.bel.size))))))); clear hh1 hh2 hH4 hB4 s6 s7 H5 R5 G5 k5)
    | go_in)
  refine wp_world (fun W => Row0 w W 0) ?_ ?_
  · obtain ⟨s7, hR, hG, hk, hH, h1, h2, h3⟩ := S7.out
    obtain ⟨g1, g2, g3, g4, g5⟩ := S6.out
    obtain ⟨r1, r2, r3, r4⟩ := R3.out.2
    rw [msB_zero] at hR
    have e1 : ∀ pb, memG pb 0 = fun _ => none := fun pb => by funext x; exact if_neg (by omega)
    have e2 : ∀ qb, memR qb 0 = fun _ => (-1, none) := fun qb => by funext x; exact if_neg (by omega)
    have z1 := S1.out.bel.size
    refine ⟨⟨w.heap.size, mb, fb, gb, mm, hm, rb, Fb, Bb, cF, cB, bs, hb, Db, cD, fun _ => 0, fun _ => 0, fun _ => 0, fun _ => 0, fun _ => 0, fun _ => 0⟩, .slice none 0 0, .slice none 0 0, rfl, ⟨⟨s7.blk, s7.m, hR, ?_, hk, ?_, fun e he => absurd he (Nat.not_lt_zero _), fun e he => absurd he (Nat.not_lt_zero _), World.ownsRow_nil _ _ _ _, World.ownsRow_nil _ _ _ _, ?_, g4, fun e he => absurd he (Nat.not_lt_zero _), fun e e' he => absurd he (Nat.not_lt_zero _), ⟨?_, fun e he => absurd he (Nat.not_lt_zero _), fun e e' he => absurd he (Nat.not_lt_zero _)⟩⟩, s7.bel⟩⟩
    · rw [e1]; exact hG
    · rw [e2]; exact hH
    · have z2 := s7.bel.size
      refine ⟨Nat.le_refl _, s7.hf, ?_, ?_, ?_, ?_, fun b hb => ?_, z2⟩
      · show w.heap.size ≤ mm; omega
      · show w.heap.size ≤ hm; omega
      · show w.heap.size ≤ Fb; omega
      · show w.heap.size ≤ Db; omega
      · have := r4 b hb; omega
    · show w.heap.size ≤ hb; omega
  clear S7 S6 R3 S5 S3 S1
  intro W0 h0
  obtain ⟨i0, hi, hz0, hz1, hz2⟩ := info_parts infoP
  obtain ⟨i1, hj, hy0, hy1, hy2⟩ := info_parts infoQ
  go_loopw [5] (fun v wr => ∃ (k : Nat) (W2 : World), k ≤ 3 ∧ v = .int .i64 k ∧ wr = W2 ∧ Base.Aside (Row0 w W2 k)) (fun v _ => 3 - (intOf v).toNat)
  case atStart => exact ⟨0, W0, by omega, rfl, rfl, ⟨h0⟩⟩
  case round =>
    obtain ⟨k, W2, hk, rfl, hwr, hA⟩ := hrel
    obtain rfl := hwr.symm
    obtain ⟨a, P, Q, hxb, hbd⟩ := hA.out
    by_cases hlt : k < 3
    · have HD := Base.Aside.mk (And.intro hxb hbd)
      clear hA hbd hxb
      go_wp2_with (first
        | (go_at_call 11; (with_reducible refine (pnew8 _).mono ?_); rintro z w3 ⟨pb, fm, pm, rfl, hP, hp, hB1⟩; have E3 := Base.Aside.mk (And.intro hP (And.intro hp hB1)); clear hP hp hB1)
        | (go_at_call 12; (with_reducible refine (rnew8 _).mono ?_); rintro z w4 ⟨qb, qr, qc, rfl, hq1, hq2, hR, hB2⟩; have hin := in_new HD.out.2 E3.out.1 E3.out.2.1 E3.out.2.2 hR ⟨hq1, hq2⟩ hB2; have hbk := xblk hin.bd HD.out.1; have C4 := (fun i => blk_cell hbk i); have L4 := blk_lt hbk; have E4 := Base.Aside.mk hin; clear hq1 hq2 hR hB2 hin hbk)
        | go_in)
      obtain ⟨a2, ha2⟩ : ∃ a2, a2 = nms a k pb fm pm qb qr qc := ⟨_, rfl⟩
      have hxx : a2.xb = w.heap.size := by rw [ha2]; exact HD.out.1
      have e1 : a2.pb k = pb := by rw [ha2]; exact if_pos rfl
      have e4 : a2.qb k = qb := by rw [ha2]; exact if_pos rfl
      have hin := E4.out
      rw [← ha2] at hin
      obtain ⟨N, hN⟩ : ∃ N, N = W2.heap.size := ⟨_, rfl⟩
      rw [← hN] at hin
      have HX := Base.Aside.mk (And.intro hxx (And.intro e1 e4))
      have H4 := Base.Aside.mk hin
      clear E3 E4 HD hin C4 L4 ha2 hxx e1 e4 hN
      go_loopw [10] (fun v wr => ∃ (i : Nat) (W5 : World), i ≤ 4 ∧ v = .int .i64 i ∧ wr = W5 ∧ Base.Aside (In w W5 a2 (msB k i) (msB k i) k i i P Q N)) (fun v _ => 4 - (intOf v).toNat)
      case atStart => exact ⟨0, w4, by omega, rfl, rfl, H4⟩
      case round =>
        obtain ⟨i, W5, hi4, rfl, hwr5, hA5⟩ := hrel
        obtain rfl := hwr5.symm
        have b5 := xblk hA5.out.bd HX.out.1
        have C5 := fun i => blk_cell b5 i
        have L5 := blk_lt b5
        by_cases hil : i < 4
        · have c1 := in_alloc hA5.out hlt hil
          clear b5
          go_wp2_with (first
            | (go_at_call 13; refine c1.mono ?_; rintro z w6 ⟨⟨x6, rfl⟩, h6⟩; have b6 := xblk h6.bd HX.out.1; have C6 := (fun i => blk_cell b6 i); have L6 := blk_lt b6; have c2 := in_ralloc h6 hlt hil; clear b6 h6)
            | (go_at_call 14; refine c2.mono ?_; rintro z w7 ⟨⟨x7, rfl⟩, h7⟩; have c3 := in_pset h7 hlt hil; rw [HX.out.2.1] at c3; clear h7)
            | (go_at_call 15; refine c3.mono ?_; rintro z w8 ⟨rfl, h8⟩; have c4 := in_qset h8 hlt hil; rw [HX.out.2.2] at c4; clear h8)
            | (go_at_call 16; refine c4.mono ?_; rintro z w9 ⟨rfl, h9⟩; have E9 := Base.Aside.mk h9; clear h9)
            | go_in)
          exact ⟨⟨i + 1, w9, by omega, by simp, rfl, E9⟩, by simp [intOf]; omega⟩
        · obtain rfl : i = 4 := by omega
          have ht : Bd w W5 a2 (msB k 4) (msB k 4) ⟨k + 1, k, k, k, k⟩ P Q := ⟨hA5.out.bd.bo.take hA5.out.cur hA5.out.old, hA5.out.bd.bel⟩
          have HT := Base.Aside.mk ht
          clear ht b5
          go_wp2_with (first
            | (at_builtin; refine wpList_append_own_at _ rfl _ _ 42 rfl w.heap.size 55 i0 (.pointer none) 1 8 Tryz.underlying42 hi hz0 hz1 hz2 rfl (by decide) _ k _ rfl (HT.out.bo.rp.alloc _) ⟨W5.heap.size, 0, none⟩ 1 1 [.pointer (some ⟨pb, 0, none⟩)] rfl rfl (cell_one_new _ _ _) (by intro u hu; simp at hu; subst hu; rfl) (by unfold maxLen; omega) (by omega) (by have := HT.out.bel.size; simp; omega) ?_)
            | go_in)
          intro v6 w6 hown6 hg6 hnil6 hloc6
          obtain ⟨g6, cap6, rfl, hg62⟩ := row_full hown6 (by omega)
          have h6 := bd_appP HT.out HX.out.1 hg6 (by rw [HX.out.2.1]; exact hown6)
          have C6 := fun i => blk_cell h6.1 i
          have F6 := fun i => blk_frozen h6.1 i
          have L6 := blk_lt h6.1
          have hnw := new_set w6 ⟨w.heap.size, 2, none⟩ (.slice (some ⟨g6, 0, none⟩) (k + 1 : Nat) cap6)
          have hsz6 : (w6.setCell ⟨w.heap.size, 2, none⟩ (.slice (some ⟨g6, 0, none⟩) (k + 1 : Nat) cap6)).heap.size = w6.heap.size := size_set _ _ _
          have H6 := Base.Aside.mk h6.2
          have HN := Base.Aside.mk (And.intro hnw hsz6)
          clear h6 hown6 hg6 hnil6 hloc6 hg62 hnw hsz6
          go_wp2_with (first
            | (at_builtin; refine wpList_append_own_at _ rfl _ _ 45 rfl w.heap.size 58 i1 (.pointer none) 1 8 Tryz.underlying45 hj hy0 hy1 hy2 rfl (by decide) _ k _ rfl (H6.out.bo.rq.alloc _) ⟨w6.heap.size, 0, none⟩ 1 1 [.pointer (some ⟨qb, 0, none⟩)] rfl rfl (HN.out.1 _ _) (by intro u hu; simp at hu; subst hu; rfl) (by unfold maxLen; omega) (by omega) (by have h1 := H6.out.bel.size; rw [HN.out.2] at h1; simp; omega) ?_)
            | go_in)
          intro v7 w7 hown7 hg7 hnil7 hloc7
          obtain ⟨g7, cap7, rfl, hg72⟩ := row_full hown7 (by omega)
          have h7 := bd_appQ H6.out HX.out.1 hg7 (by rw [HX.out.2.2]; exact hown7)
          have C7 := fun i => blk_cell h7.1 i
          have F7 := fun i => blk_frozen h7.1 i
          have L7 := blk_lt h7.1
          have c8 := bd_joinG h7.2 hlt
          rw [HX.out.2.1] at c8
          clear h7 hown7 hg7 hnil7 hloc7 hg72
          go_wp2_with (first
            | (go_at_call 17; refine c8.mono ?_; rintro z w8 ⟨rfl, h8⟩; have b8 := xblk h8 HX.out.1; have C8 := (fun i => blk_cell b8 i); have L8 := blk_lt b8; have c9 := bd_joinH h8 hlt; rw [HX.out.2.2] at c9; clear b8 h8)
            | (go_at_call 18; refine c9.mono ?_; rintro z w9 ⟨rfl, h9⟩; have E9 := Base.Aside.mk h9; clear h9)
            | go_in)
          exact ⟨⟨k + 1, w9, by omega, by simp, rfl, ⟨⟨a2, _, _, HX.out.1, E9.out⟩⟩⟩, by simp [intOf]; omega⟩
    · obtain rfl : k = 3 := by omega
      have HD := Base.Aside.mk (And.intro hxb hbd)
      clear hA hbd hxb
      go_wp2
      go_loopw [11] (fun v wr => v = .int .i64 0 ∧ wr = W2) (fun v _ => 0)
      case atStart => exact ⟨rfl, rfl⟩
      case round =>
        obtain ⟨rfl, hwr5⟩ := hrel
        obtain rfl := hwr5.symm
        go_wp2
        go_ret2
        exact ⟨a, P, Q, by first | rfl | (simp; done), HD.out.1, HD.out.2⟩
end Go.Proofs.YthlejchcnfdcpaaGreat.GbC
namespace Go.Proofs.YthlejchcnfdcpaaGreat.GlA
open Go.RowKit Go.Maps Base GaA GaB GaC GaD GmA GmB GmC GpA GgA GvA GeA GeB GfA GfB GfC GfD GfE GfF GfG GfH GbA GbB GbC GkA GkB RmB
set_option linter.unusedVariables false
set_option linter.unusedSimpArgs false

def piI (a : BA) (e : Nat) : PI := ⟨a.fm e, a.pm e, 8, 4, frD e 4, plD e 4⟩
def piB (a : BA) : Nat → PI := fun b => if b = a.pb 0 then piI a 0 else if b = a.pb 1 then piI a 1 else piI a 2
def N3 : Cn := ⟨3, 3, 3, 3, 3⟩
theorem pi_at {B : Nat} {W : World} {a : BA} {s t : MS} {P Q : Value} (h : Bo B W a s t N3 P Q) (e : Nat) (he : e < 3) : piB a (a.pb e) = piI a e := by
  unfold piB
  have hj := fun e e' (h1 : e < 3) (h2 : e' < 3) => h.inj e e' h1 h2
  have h012 : e = 0 ∨ e = 1 ∨ e = 2 := by omega
  rcases h012 with rfl | rfl | rfl
  · rw [if_pos rfl]
  · rw [if_neg (fun h => by have := hj 1 0 (by omega) (by omega) h; omega), if_pos rfl]
  · rw [if_neg (fun h => by have := hj 2 0 (by omega) (by omega) h; omega), if_neg (fun h => by have := hj 2 1 (by omega) (by omega) h; omega)]
theorem memG_some {pb : Nat → Nat} {d : Int} {x : Int × Nat} (h : memG pb 3 d = some x) : ∃ e : Nat, e < 3 ∧ d = e ∧ x = (4 * (e : Int), pb e) := by
  unfold memG at h
  by_cases hd : 0 ≤ d ∧ d < (3 : Nat)
  · rw [if_pos hd] at h
    refine ⟨d.toNat, by omega, by omega, ?_⟩
    rw [← Option.some.inj h]
    congr 1
    omega
  · rw [if_neg hd] at h
    cases h
theorem memG_at (pb : Nat → Nat) (e : Nat) (he : e < 3) : memG pb 3 e = some (4 * (e : Int), pb e) := by
  unfold memG
  rw [if_pos (by omega)]
  simp
theorem bo_gw {B : Nat} {W : World} {a : BA} {s t : MS} {P Q : Value} (h : Bo B W a s t N3 P Q) (hn : s.n = 13) : GW W a.gb a.mm a.hm a.mb a.fb s (memG a.pb 3) 3 (piB a) := by
  refine ⟨h.g, h.m, fun d x hd => ?_, fun d x hd => ?_⟩
  · obtain ⟨e, he, rfl, rfl⟩ := memG_some hd
    simp only
    rw [pi_at h e he]
    exact ⟨h.p e he, by show 8 ≤ 48; omega⟩
  · obtain ⟨e, he, rfl, rfl⟩ := memG_some hd
    exact ⟨by omega, 4 * e, by simp, by omega⟩
/-- The program's world behind begin. -/
structure Lw (w0 W : World) (a : BA) (s : MS) (P Q : Value) : Prop where
  x : W.heap[w0.heap.size]? = some (.cells #[.pointer (some ⟨a.mb, 0, none⟩), .pointer (some ⟨a.gb, 0, none⟩), P, .pointer (some ⟨a.rb, 0, none⟩), .pointer (some ⟨a.hb, 0, none⟩), Q] 47 (0, 0))
  g : GW W a.gb a.mm a.hm a.mb a.fb s (memG a.pb 3) 3 (piB a)
  ge : w0.heap.size ≤ a.fb ∧ w0.heap.size ≤ a.mm ∧ w0.heap.size ≤ a.hm ∧ a.mm ≠ a.hm
  nm : ∀ e, e < 3 → a.mm ≠ a.fm e ∧ a.mm ≠ a.pm e ∧ a.hm ≠ a.fm e ∧ a.hm ≠ a.pm e
  pi : ∀ e, e < 3 → piB a (a.pb e) = piI a e
  bel : Below w0.heap.size w0 W
section
variable {w0 W W' : World} {a : BA} {s s' : MS} {P Q : Value} {vb db r : Nat}
theorem bd_lw (h : Bd w0 W a s s' N3 P Q) (hx : a.xb = w0.heap.size) (hn : s.n = 13) : Lw w0 W a s P Q :=
  ⟨xblk h hx, bo_gw h.bo hn, ⟨h.bo.ge.2.1, h.bo.ge.2.2.1, h.bo.ge.2.2.2.1, h.bo.mh⟩, h.bo.ne, fun e he => pi_at h.bo e he, h.bel⟩
theorem Lw.below (h : Lw w0 W a s P Q) (hb : Below W.heap.size W W') : Lw w0 W' a s P Q := ⟨blk_below h.x (blk_lt h.x) hb, h.g.below hb, h.ge, h.nm, h.pi, h.bel.trans (hb.mono h.bel.size)⟩
theorem Lw.xf (h : Lw w0 W a s P Q) : w0.heap.size ≠ a.fb := by
  obtain ⟨cs, h1, _⟩ := h.g.m.lst
  exact bne h.x h1 (by decide)
theorem Lw.mach (h : Lw w0 W a s P Q) (hc : Chg (fun x => x = a.fb) W W') (hM : Mach W' a.mb a.fb s') (hn : s'.n = s.n) : Lw w0 W' a s' P Q :=
  ⟨hc.blk h.x h.xf, gw_fb h.g hM hn hc, h.ge, h.nm, h.pi, hc.out h.bel h.bel.size (by rintro x rfl; exact h.ge.1)⟩
theorem Lw.vw {r' : Nat} (h : Lw w0 W a s P Q) (hV : V2 W vb db a.mb r) (hv : w0.heap.size ≤ vb) (k : Vw vb db a.mb W W' r') : Lw w0 W' a s P Q :=
  ⟨k.c.blk h.x (fun e => bne hV.blk h.x (by decide) e.symm), h.g.vw hV k, h.ge, h.nm, h.pi, k.c.out h.bel h.bel.size (by rintro x rfl; exact hv)⟩
theorem Lw.push (h : Lw w0 W a s P Q) (hV : V2 W vb db a.mb r) (hv : w0.heap.size ≤ vb) (hg : GW W' a.gb a.mm a.hm a.mb a.fb s' (memG a.pb 3) 3 (piB a)) (hc : Chg (fun x => x = vb ∨ x = a.fb) W W') : Lw w0 W' a s' P Q :=
  ⟨hc.blk h.x (by rintro (e | e); exact bne hV.blk h.x (by decide) e.symm; exact h.xf e), hg, h.ge, h.nm, h.pi, hc.out h.bel h.bel.size (by rintro x (rfl | rfl); exact hv; exact h.ge.1)⟩
/-- A write of the law's own. -/
theorem lw_write (h : Lw w0 W a s P Q) (k off : Int) (A : Option Addr) (l c : Nat) (zs : List UInt8) (hl : l = zs.length) (hz : Bytes W A zs) : Calls Tryz.prog 58 #[.pointer (some ⟨a.mb, 0, none⟩), .int .i64 k, .int .i64 off, .slice A l c] W fun e w' => e = .returned (.int .i64 (wrE s k off zs.length)) ∧ Lw w0 w' a (wrS s k off zs) P Q ∧ Chg (fun x => x = a.fb) W w' :=
  (write_any h.g.m k off A l c zs hl hz).mono fun e w' ⟨h1, h2, h3⟩ => ⟨h1, h.mach h3 h2 (wrS_n _ _ _ _), h3⟩
end
/-- What the page of the law's frame holds while it is filled. -/
theorem wrS_ok {s : MS} {k off : Nat} {zs : List UInt8} (hk : k < s.n) (ho : off + zs.length ≤ 256) (hw : (s.fr k).own ≠ -1) : wrE s k off zs.length = 0 ∧ wrS s k off zs = MS.wr s k off zs := by
  have hin : inR s k off zs.length := by unfold inR; omega
  have h1 : wrE s k off zs.length = 0 := by
    unfold wrE
    rw [if_pos hin, if_neg (by simpa using hw)]
  refine ⟨h1, ?_⟩
  unfold wrS
  rw [if_pos h1]
  simp
end Go.Proofs.YthlejchcnfdcpaaGreat.GlA
namespace Go.Proofs.YthlejchcnfdcpaaGreat.GoB
open Go.RowKit Go.Maps Base GaA GaB GaC GaD RpA RmA RmB RmC GfB GfC GbA GbB GbC GkA GkB GoA GlA
set_option linter.unusedVariables false
set_option linter.unusedSimpArgs false

/-- An entry of the law's. -/
structure LE where
  dom : Int
  ref : Int
  g : Gr
  fl : Int
def layOk (e : LE) : Prop := ¬ packBad e.g ∧ 0 ≤ e.dom ∧ e.dom ≤ 2 ∧ 0 ≤ e.ref ∧ e.ref < 32
instance (e : LE) : Decidable (layOk e) := by unfold layOk; infer_instance
def layZ (e : LE) : List UInt8 := ofI (bits .xor .u8 (packN e.g) e.fl) :: (packZ e.g).tail
def layS (s : MS) (e : LE) : MS := if layOk e then MS.wr s (4 * e.dom.toNat) (8 * e.ref.toNat) (layZ e) else s
theorem layZ_len (e : LE) : (layZ e).length = 8 := rfl
theorem layS_n (s : MS) (e : LE) : (layS s e).n = s.n := by unfold layS; split <;> rfl
theorem layS_fr (s : MS) (e : LE) : (layS s e).fr = s.fr := by unfold layS; split <;> rfl
theorem xor_u8 (a b : Int) : 0 ≤ bits .xor .u8 a b ∧ bits .xor .u8 a b < 256 := ⟨bits_lo_u8 _ _ _, by have := bits_hi_u8 .xor a b; omega⟩
theorem layZ_vals (e : LE) (h : ¬ packBad e.g) : u8s (layZ e) = .int .u8 (bits .xor .u8 (packN e.g) e.fl) :: (u8s (packZ e.g)).tail := by
  obtain ⟨h0, h1⟩ := xor_u8 (packN e.g) e.fl
  unfold layZ u8s
  rw [List.map_cons, ofI_toNat _ h0 h1, List.map_tail]
section
variable {w0 W W' : World} {a : BA} {s t s' t' : MS} {n : Cn} {P Q : Value}
/-- A page of the document's turns. -/
theorem bo_rpage {B : Nat} (h : Bo B W a s t n P Q) {k : Nat} (hk : k < t.n) (hc : Chg (fun x => x = a.bs.getD k 0) W W') (w' : RMach W' a.rb a.Fb a.Bb a.cF a.cB a.bs t') : Bo B W' a s t' n P Q := by
  have hp := h.w.page k hk
  obtain ⟨cs, h1, h2⟩ := h.m.lst
  exact h.step hc (h.m.chg hc (blk_ne h.m.blk hp (by decide)) (blk_ne h1 hp (by decide))) w' (fun x hx => h.ty_ne (ty_cells hp) (by decide) hx)
theorem bd_write (h : Bd w0 W a s t n P Q) (k off : Nat) (hk : k < s.n) (hown : (s.fr k).own ≠ -1) (A : Option Addr) (l c : Nat) (zs : List UInt8) (hl : l = zs.length) (hz : Bytes W A zs) (ho : off + zs.length ≤ 256) :
    Calls Tryz.prog 58 #[.pointer (some ⟨a.mb, 0, none⟩), .int .i64 k, .int .i64 off, .slice A l c] W fun e w' => e = .returned (.int .i64 0) ∧ Bd w0 w' a (MS.wr s k off zs) t n P Q ∧ Chg (fun x => x = a.fb) W w' :=
  (GaC.write_calls h.bo.m k hk off A l c zs hl hz ho hown).mono fun e w' ⟨h1, h2, h3⟩ => ⟨h1, ⟨h.bo.mach h3 h2, h.out h3 (by rintro x rfl; exact h.bo.ge.2.1)⟩, h3⟩
theorem bd_rwrite (h : Bd w0 W a s t n P Q) (k off : Nat) (hk : k < t.n) (hown : (t.fr k).own ≠ -1) (x : Addr) (c : Nat) (zs : List UInt8) (hz : Holds W x zs) (ho : off + zs.length ≤ 256) (hx : x.block ∉ a.bs) :
    Calls Tryz.prog 59 #[.pointer (some ⟨a.rb, 0, none⟩), .int .i64 k, .int .i64 off, .slice (some x) zs.length c] W fun e w' => e = .returned (.int .i64 0) ∧ Bd w0 w' a s (MS.wr t k off zs) n P Q :=
  (rwrite h.bo.w k off hk hown x c zs hz ho (fun e => hx (by rw [e]; exact RMach.mem h.bo.w k hk))).mono fun e w' ⟨h1, h2, h3⟩ => ⟨h1, bo_rpage h.bo hk h3 h2, h.out h3 (by rintro y rfl; exact h.bo.ge.2.2.2.2.2.2.1 _ (RMach.mem h.bo.w k hk))⟩
/-- lay's argument. -/
def leV (e : LE) : Value := .agg #[.int .i64 e.dom, .int .i64 e.ref, .int .i64 e.g.kd, .bool e.g.ro, .bool e.g.sb, .int .i64 e.g.dom, .int .i64 e.g.gp, .int .i64 e.g.of, .int .i64 e.g.le, .int .u8 e.fl]
set_option maxHeartbeats 8000000 in
set_option maxRecDepth 100000 in
theorem lay_no (h : Bd w0 W a s t n P Q) (hx : a.xb = w0.heap.size) (e : LE) (he : ¬ layOk e) :
    Calls Tryz.prog 19 #[.pointer (some ⟨w0.heap.size, 0, none⟩), .agg #[.int .i64 e.dom, .int .i64 e.ref, .int .i64 e.g.kd, .bool e.g.ro, .bool e.g.sb, .int .i64 e.g.dom, .int .i64 e.g.gp, .int .i64 e.g.of, .int .i64 e.g.le, .int .u8 e.fl]] W fun o w' => o = .returned (.tuple #[]) ∧ Bd w0 w' a s t n P Q := by
  have hpb := fun (h : packBad e.g) W => pack_bad e.g h W
  have hpg := fun (h : ¬ packBad e.g) W => pack_good e.g h W
  obtain ⟨dom, ref, g, fl⟩ := e
  obtain ⟨kd, ro, sb, gd, gp, of, le⟩ := g
  simp only at hpb hpg he ⊢
  have HB := Base.Aside.mk h
  clear h
  by_cases hb : packBad ⟨kd, ro, sb, gd, gp, of, le⟩
  · have hpk := hpb hb
    clear hpb hpg hb he
    go_enter Tryz.func19, Tryz.ntmps19
    go_wp2_with (first
      | (go_at_call 57; (with_reducible refine (hpk _).mono ?_); rintro z w2 ⟨rfl, hB2⟩; have E2 := Base.Aside.mk hB2; clear hB2)
      | go_in)
    refine bodyPost_ret (results_none rfl _ _ _) rfl ?_
    exact ⟨by first | rfl | (simp; done), (HB.out.below (below_alloc (Below.refl _ _) _)).below E2.out⟩
  · have hpk := hpg hb
    unfold layOk at he
    simp only at he
    have he2 : dom < 0 ∨ (0 ≤ dom ∧ 2 < dom) ∨ (0 ≤ dom ∧ dom ≤ 2 ∧ ref < 0) ∨ (0 ≤ dom ∧ dom ≤ 2 ∧ 0 ≤ ref ∧ 32 ≤ ref) := by
      by_cases h1 : dom < 0
      · exact .inl h1
      · by_cases h2 : 2 < dom
        · exact .inr (.inl ⟨by omega, h2⟩)
        · by_cases h3 : ref < 0
          · exact .inr (.inr (.inl ⟨by omega, by omega, h3⟩))
          · refine .inr (.inr (.inr ⟨by omega, by omega, by omega, ?_⟩))
            by_cases h4 : 32 ≤ ref
            · exact h4
            · exact absurd ⟨hb, by omega, by omega, by omega, by omega⟩ he
    clear hpb hpg hb he
    rcases he2 with h1 | ⟨h1, h2⟩ | ⟨h1, h2, h3⟩ | ⟨h1, h2, h3, h4⟩
    all_goals
      go_enter Tryz.func19, Tryz.ntmps19
      go_wp2_with (first
        | (go_at_call 57; (with_reducible refine (hpk _).mono ?_); rintro z w2 ⟨N, hN, rfl, hbk, hB2⟩; have hk2 := blk_below (blk_new W _) (blk_lt (blk_new W _)) hB2; have C2 := (fun i => blk_cell hk2 i); have L2 := blk_lt hk2; have E2 := Base.Aside.mk hB2; clear hB2 hbk)
        | go_in)
      refine bodyPost_ret (results_none rfl _ _ _) rfl ?_
      exact ⟨by first | rfl | (simp; done), (HB.out.below (below_alloc (Below.refl _ _) _)).below E2.out⟩
set_option maxHeartbeats 8000000 in
set_option maxRecDepth 100000 in
theorem lay_ok (h : Bd w0 W a s t n P Q) (hx : a.xb = w0.heap.size) (e : LE) (he : layOk e) (hn : s.n = 13 ∧ t.n = 13) (ho : ∀ k, k < 12 → (s.fr k).own ≠ -1 ∧ (t.fr k).own ≠ -1) :
    Calls Tryz.prog 19 #[.pointer (some ⟨w0.heap.size, 0, none⟩), .agg #[.int .i64 e.dom, .int .i64 e.ref, .int .i64 e.g.kd, .bool e.g.ro, .bool e.g.sb, .int .i64 e.g.dom, .int .i64 e.g.gp, .int .i64 e.g.of, .int .i64 e.g.le, .int .u8 e.fl]] W fun o w' => o = .returned (.tuple #[]) ∧ Bd w0 w' a (layS s e) (layS t e) n P Q := by
  have hpk := fun W => pack_good e.g he.1 W
  have hzv := layZ_vals e he.1
  have hpv := packZ_vals e.g he.1
  have e1 : layS s e = MS.wr s (4 * e.dom.toNat) (8 * e.ref.toNat) (layZ e) := if_pos he
  have e2 : layS t e = MS.wr t (4 * e.dom.toNat) (8 * e.ref.toNat) (layZ e) := if_pos he
  rw [e1, e2]
  rw [hpv] at hzv
  simp only [List.tail_cons] at hzv
  simp only [hpv] at hpk
  obtain ⟨_, hd0, hd2, hr0, hr32⟩ := he
  obtain ⟨dom, ref, g, fl⟩ := e
  simp only at hpk hzv hd0 hd2 hr0 hr32 ⊢
  obtain ⟨d, rfl⟩ : ∃ d : Nat, dom = d := ⟨dom.toNat, by omega⟩
  obtain ⟨r, rfl⟩ : ∃ r : Nat, ref = r := ⟨ref.toNat, by omega⟩
  simp only [Int.toNat_natCast]
  generalize layZ ⟨d, r, g, fl⟩ = zs at hzv ⊢
  have hzl : zs.length = 8 := by have := congrArg List.length hzv; simpa [u8s] using this
  obtain ⟨hdv, hhd⟩ : ∃ x, x = bits .xor .u8 (packN g) fl := ⟨_, rfl⟩
  generalize packN g = pn at hpk hzv hhd
  generalize (if g.sb = true then g.of else 0) = v6 at hpk hzv
  generalize (if g.sb = true then g.le else 256) - 1 = v7 at hpk hzv
  have HB := Base.Aside.mk (And.intro h (And.intro hx hzv))
  have d1 : decide ((d : Int) < 0) = false := decide_eq_false (by omega)
  have d2 : decide ((2 : Int) < (d : Int)) = false := decide_eq_false (by omega)
  have d3 : decide ((r : Int) < 0) = false := decide_eq_false (by omega)
  have d4 : decide ((32 : Int) ≤ (r : Int)) = false := decide_eq_false (by omega)
  have HN := Base.Aside.mk (And.intro hn (And.intro ho hzl))
  clear h hzv hpv hx hn ho hzl
  go_enter Tryz.func19, Tryz.ntmps19
  go_wp2_with (first
    | (go_at_call 57; (with_reducible refine (hpk _).mono ?_); rintro z w2 ⟨N, hN, rfl, hbk, hB2⟩; have hk2 := blk_below (blk_new W _) (blk_lt (blk_new W _)) hB2; have C2 := (fun i => blk_cell hk2 i); have L2 := blk_lt hk2; have D2 := (fun i => blk_cell hbk i); have G2 := (fun i => blk_frozen hbk i); have M2 := blk_lt hbk; have nN : N ≠ W.heap.size := (by have := hN; rw [World.size_alloc] at this; omega); have E2 := Base.Aside.mk (And.intro hB2 (And.intro hk2 (And.intro hbk hN))); clear hB2 hbk hN hk2)
    | go_in)
  go_region
  go_upto_region 4 with fail
  refine wp_world (fun W3 => Bd w0 W3 a s t n P Q ∧ W3.heap[W.heap.size]? = some (.cells #[.int .i64 d, .int .i64 r, .int .i64 g.kd, .bool g.ro, .bool g.sb, .int .i64 g.dom, .int .i64 g.gp, .int .i64 g.of, .int .i64 g.le, .int .u8 fl] 34 (0, 0)) ∧ W3.heap[N]? = some (.cells (u8s zs).toArray 5 (0, 0)) ∧ N ∉ a.bs) ?_ ?_
  · obtain ⟨hB2, hk2, hbk, hN⟩ := E2.out
    rw [World.size_alloc] at hN
    have hb2 := (HB.out.1.below (below_alloc (Below.refl _ _) _)).below hB2
    have ho := HB.out.1.bo.old
    have hs := HB.out.1.bel.size
    have hc : Chg (fun x => x = N) w2 ((w2.setCell ⟨N, 0, none⟩ (.int .u8 (bits .xor .u8 pn fl)))) := chg_fb (Chg.refl _ w2) 0 _
    have hnb : N ∉ a.bs := fun hm => by have := ho.m.2.2.2.2.2 _ hm; omega
    refine ⟨Bd.below (W := (w2.setCell ⟨N, 0, none⟩ (.int .u8 (bits .xor .u8 pn fl)))) ⟨hb2.bo.young hc (N := W.heap.size + 1) (by rintro x rfl; exact hN) ⟨fun x hx => by have := ho.bl x hx; omega, by obtain ⟨m1, m2, m3, m4, m5, m6⟩ := ho.m; exact ⟨by omega, by omega, by omega, by omega, by omega, fun b hb => by have := m6 b hb; omega⟩⟩, hb2.out hc (by rintro x rfl; omega)⟩ (Below.refl _ _).drew, ?_, ?_, hnb⟩
    · exact hc.blk hk2 (by omega)
    · have h9 := HB.out.2.2
      rw [← hhd] at h9
      have h8 := blk_put hbk 0 (.int .u8 (bits .xor .u8 pn fl)) rfl
      refine h8.trans ?_
      rw [h9, hhd]
      rfl
  · intro W3 ⟨h3, hx3, hz3, hnb⟩
    have hb3 := xblk h3 HB.out.2.1
    have hbc := fun (W' : World) (hW : Below W3.heap.size W3 W') => bd_write (h3.below hW) (4 * d) (8 * r) (by rw [HN.out.1.1]; omega) (HN.out.2.1 _ (by omega)).1 (some ⟨N, 0, none⟩) 8 8 zs HN.out.2.2.symm (.inr ⟨_, rfl, (Holds.of_block hz3).below hW⟩) (by rw [HN.out.2.2]; omega)
    rw [show ((4 * d : Nat) : Int) = 4 * (d : Int) by omega, show ((8 * r : Nat) : Int) = 8 * (r : Int) by omega] at hbc
    have C3 := fun i => blk_cell hb3 i
    have D3 := fun i => blk_cell hx3 i
    have L3 := blk_lt hb3
    have M3 := blk_lt hx3
    have E3 := Base.Aside.mk (And.intro h3 (And.intro hx3 (And.intro hz3 hnb)))
    have hw1 : IntKind.i64.wrap (4 * (d : Int)) = 4 * (d : Int) := GuA.wraps_i64 _ (by omega) (by omega)
    have hw2 : IntKind.i64.wrap (8 * (r : Int)) = 8 * (r : Int) := GuA.wraps_i64 _ (by omega) (by omega)
    clear C2 L2 D2 G2 M2 E2 nN h3 hb3 hx3 hz3 hnb hpk
    go_cut [] from 42 to 53 (fun wx => Base.Aside (Bd w0 wx a (MS.wr s (4 * d) (8 * r) zs) t n P Q ∧ wx.heap[W.heap.size]? = some (.cells #[.int .i64 d, .int .i64 r, .int .i64 g.kd, .bool g.ro, .bool g.sb, .int .i64 g.dom, .int .i64 g.gp, .int .i64 g.of, .int .i64 g.le, .int .u8 fl] 34 (0, 0)) ∧ wx.heap[N]? = some (.cells (u8s zs).toArray 5 (0, 0))))
    case first =>
      go_region_with (first
        | (go_at_call 58; (with_reducible refine (hbc _ ?_).mono ?_); (focus (repeat (with_reducible first | exact Below.refl _ _ | refine below_drew ?_ | refine below_alloc ?_ _))); rintro z w5 ⟨rfl, h5, hc5⟩; have E5 := Base.Aside.mk (And.intro h5 hc5); clear h5 hc5))
      all_goals
        go_wp2_with fail
        go_meet
        case rel =>
          obtain ⟨cs, l1, _⟩ := E3.out.1.bo.m.lst
          exact ⟨E5.out.1, E5.out.2.blk E3.out.2.1 (bne E3.out.2.1 l1 (by decide)), E5.out.2.blk E3.out.2.2.1 (bne E3.out.2.2.1 l1 (by decide))⟩
    case rest =>
      have h6 := hcut.out.1
      have hb6 := xblk h6 HB.out.2.1
      have hbr := fun (W' : World) (hW : Below wc.heap.size wc W') => bd_rwrite (h6.below hW) (4 * d) (8 * r) (by rw [HN.out.1.2]; omega) (HN.out.2.1 _ (by omega)).2 ⟨N, 0, none⟩ 8 zs ((Holds.of_block hcut.out.2.2).below hW) (by rw [HN.out.2.2]; omega) E3.out.2.2.2
      rw [show ((4 * d : Nat) : Int) = 4 * (d : Int) by omega, show ((8 * r : Nat) : Int) = 8 * (r : Int) by omega, HN.out.2.2] at hbr
      have C6 := fun i => blk_cell hb6 i
      have D6 := fun i => blk_cell hcut.out.2.1 i
      have L6 := blk_lt hb6
      have M6 := blk_lt hcut.out.2.1
      clear h6 hb6 hcut C3 D3 L3 M3 hbc
      go_upto_region 5 with fail
      go_region_with (first
        | (go_at_call 59; (with_reducible refine (hbr _ ?_).mono ?_); (focus (repeat (with_reducible first | exact Below.refl _ _ | refine below_drew ?_ | refine below_alloc ?_ _))); rintro z w7 ⟨rfl, h7⟩; have E7 := Base.Aside.mk h7; clear h7))
      all_goals
        go_wp2
        refine bodyPost_end (results_none rfl _ _ _) rfl ?_
        exact ⟨by first | rfl | (simp; done), E7.out⟩
/-- lay, at every entry. -/
theorem lay_any (h : Bd w0 W a s t n P Q) (hx : a.xb = w0.heap.size) (e : LE) (hn : s.n = 13 ∧ t.n = 13) (ho : ∀ k, k < 12 → (s.fr k).own ≠ -1 ∧ (t.fr k).own ≠ -1) :
    Calls Tryz.prog 19 #[.pointer (some ⟨w0.heap.size, 0, none⟩), .agg #[.int .i64 e.dom, .int .i64 e.ref, .int .i64 e.g.kd, .bool e.g.ro, .bool e.g.sb, .int .i64 e.g.dom, .int .i64 e.g.gp, .int .i64 e.g.of, .int .i64 e.g.le, .int .u8 e.fl]] W fun o w' => o = .returned (.tuple #[]) ∧ Bd w0 w' a (layS s e) (layS t e) n P Q := by
  by_cases he : layOk e
  · exact lay_ok h hx e he hn ho
  · have e1 : layS s e = s := if_neg he
    have e2 : layS t e = t := if_neg he
    rw [e1, e2]
    exact lay_no h hx e he
end
end Go.Proofs.YthlejchcnfdcpaaGreat.GoB
