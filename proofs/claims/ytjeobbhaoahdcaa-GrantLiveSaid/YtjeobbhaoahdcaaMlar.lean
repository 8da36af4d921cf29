/- Proved: GrantLive answers true at every argument (the walk of the law). Proved: what the rows of the laws of the grants read of their arguments (lemmas). -/
import Derived.Test.YtjeobbhaoahdcaaMlaq
import Derived.Outline
import Derived.Deep.CutRange
import Derived.BigQuiet
namespace Go.Proofs.Ytjeobbhaoahdcaa.GqH
open Go.RowKit Go.Maps Go.Proofs.Ytjeobbhaoahdcaa.Base Go.Proofs.Ytjeobbhaoahdcaa.GaA Go.Proofs.Ytjeobbhaoahdcaa.GaB Go.Proofs.Ytjeobbhaoahdcaa.GaC Go.Proofs.Ytjeobbhaoahdcaa.GmA Go.Proofs.Ytjeobbhaoahdcaa.GmB Go.Proofs.Ytjeobbhaoahdcaa.GmC Go.Proofs.Ytjeobbhaoahdcaa.GpA Go.Proofs.Ytjeobbhaoahdcaa.GgA Go.Proofs.Ytjeobbhaoahdcaa.GvA Go.Proofs.Ytjeobbhaoahdcaa.GeA Go.Proofs.Ytjeobbhaoahdcaa.GeB Go.Proofs.Ytjeobbhaoahdcaa.GfA Go.Proofs.Ytjeobbhaoahdcaa.GfB Go.Proofs.Ytjeobbhaoahdcaa.GfC Go.Proofs.Ytjeobbhaoahdcaa.GfD Go.Proofs.Ytjeobbhaoahdcaa.GfH Go.Proofs.Ytjeobbhaoahdcaa.GbA Go.Proofs.Ytjeobbhaoahdcaa.GbB Go.Proofs.Ytjeobbhaoahdcaa.GbC Go.Proofs.Ytjeobbhaoahdcaa.GkA Go.Proofs.Ytjeobbhaoahdcaa.GkB Go.Proofs.Ytjeobbhaoahdcaa.GlA Go.Proofs.Ytjeobbhaoahdcaa.GoB Go.Proofs.Ytjeobbhaoahdcaa.GjA Go.Proofs.Ytjeobbhaoahdcaa.GjB Go.Proofs.Ytjeobbhaoahdcaa.GjC Go.Proofs.Ytjeobbhaoahdcaa.GjD Go.Proofs.Ytjeobbhaoahdcaa.GjE Go.Proofs.Ytjeobbhaoahdcaa.GjF Go.Proofs.Ytjeobbhaoahdcaa.GjG Go.Proofs.Ytjeobbhaoahdcaa.GjH Go.Proofs.Ytjeobbhaoahdcaa.GjI Go.Proofs.Ytjeobbhaoahdcaa.GjJ Go.Proofs.Ytjeobbhaoahdcaa.GjK Go.Proofs.Ytjeobbhaoahdcaa.GqA Go.Proofs.Ytjeobbhaoahdcaa.GqB Go.Proofs.Ytjeobbhaoahdcaa.GqC Go.Proofs.Ytjeobbhaoahdcaa.GqB Go.Proofs.Ytjeobbhaoahdcaa.GqE Go.Proofs.Ytjeobbhaoahdcaa.GqF Go.Proofs.Ytjeobbhaoahdcaa.GqG Go.Proofs.Ytjeobbhaoahdcaa.GrA
set_option linter.unusedVariables false
set_option linter.unusedSimpArgs false

theorem bytes_take {w : World} {A : Option Addr} {zs : List UInt8} (h : Bytes w A zs) (k : Nat) : Bytes w A (zs.take k) := by
  rcases h with rfl | ⟨x, rfl, hx⟩
  · exact .inl (by simp)
  · refine .inr ⟨x, rfl, ⟨hx.lt, fun j hj => ?_⟩⟩
    rw [List.length_take] at hj
    rw [List.getElem_take]
    exact hx.cell j (by omega)
/-- What the law's world keeps from its map on. -/
def Lv (w : World) (wr : Bool) (zs : List UInt8) (a : BA) (P Q : Value) (vb db : Nat) (W : World) : Prop := ∃ S' f' c' r', Sx S' (bL wr) ∧ (∀ j (hj : j < zs.length), S'.byt 7 (11 + j) = zs[j]) ∧ Gv w W a S' P Q f' c' (HF 2 1 5 7 (bL wr)) 1 vb db r'
/-- .. till its owner leaves. -/
def Lj (w : World) (wr : Bool) (zs : List UInt8) (a : BA) (P Q : Value) (vb db : Nat) (W : World) : Prop := ∃ S' r', Sx S' (bL wr) ∧ Fr.few (S'.fr 4) ∧ (∀ j (hj : j < zs.length), S'.byt 7 (11 + j) = zs[j]) ∧ Gv w W a S' P Q (memG a.pb 3) 3 (HF 2 1 5 7 (bL wr)) 1 vb db r'
section
variable {w W W' : World} {wr : Bool} {zs : List UInt8} {a : BA} {P Q : Value} {vb db : Nat}
theorem lj_x (h : Lj w wr zs a P Q vb db W) : W.heap[w.heap.size]? = some (.cells #[.pointer (some ⟨a.mb, 0, none⟩), .pointer (some ⟨a.gb, 0, none⟩), P, .pointer (some ⟨a.rb, 0, none⟩), .pointer (some ⟨a.hb, 0, none⟩), Q] 35 (0, 0)) := by
  obtain ⟨S, r, _, _, _, h⟩ := h
  exact h.x
theorem lj_bel (h : Lj w wr zs a P Q vb db W) : Below w.heap.size w W := by
  obtain ⟨S, r, _, _, _, h⟩ := h
  exact h.bel
theorem lv_x (h : Lv w wr zs a P Q vb db W) : W.heap[w.heap.size]? = some (.cells #[.pointer (some ⟨a.mb, 0, none⟩), .pointer (some ⟨a.gb, 0, none⟩), P, .pointer (some ⟨a.rb, 0, none⟩), .pointer (some ⟨a.hb, 0, none⟩), Q] 35 (0, 0)) := by
  obtain ⟨S, f, c, r, _, _, h⟩ := h
  exact h.x
theorem lv_bel (h : Lv w wr zs a P Q vb db W) : Below w.heap.size w W := by
  obtain ⟨S, f, c, r, _, _, h⟩ := h
  exact h.bel
theorem lj_lv (h : Lj w wr zs a P Q vb db W) : Lv w wr zs a P Q vb db W := by
  obtain ⟨S, r, h1, _, h2, h⟩ := h
  exact ⟨S, _, _, r, h1, h2, h⟩
theorem lj_below (h : Lj w wr zs a P Q vb db W) (hb : Below W.heap.size W W') : Lj w wr zs a P Q vb db W' := by
  obtain ⟨S, r, h1, h2, h3, h⟩ := h
  exact ⟨S, r, h1, h2, h3, h.below hb⟩
theorem lj_start {r : Nat} (h : Gv w W a (S2 zs wr) P Q (memG a.pb 3) 3 (HF 2 1 5 7 (bL wr)) 1 vb db r) : Lj w wr zs a P Q vb db W := ⟨_, _, (sx_2 zs wr).1, (sx_2 zs wr).2.1, (sx_2 zs wr).2.2, h⟩
theorem lj_over (h : Lj w wr zs a P Q vb db W) (A : Option Addr) (l cap : Nat) (ys : List UInt8) (hl : l = ys.length) (hz : Bytes W A ys) : Calls Try.prog 18 #[.pointer (some ⟨a.mb, 0, none⟩), .int .i64 4, .int .i64 40, .slice A l cap] W fun e w' => (∃ x, e = .returned (.int .i64 x)) ∧ Lj w wr zs a P Q vb db w' := by
  obtain ⟨S, r, h1, h2, h3, h⟩ := h
  refine (gv_over h h1 A l cap ys hl hz).mono fun e w' ⟨q1, S', q2, q3, q4, q5⟩ => ⟨q1, S', r, q2, by rw [q3]; exact h2, fun j hj => ?_, q5⟩
  rw [q4]
  exact h3 j hj
theorem lj_leave (h : Lj w wr zs a P Q vb db W) : Calls Try.prog 27 #[.pointer (some ⟨a.gb, 0, none⟩), .int .i64 1] W fun e w' => e = .returned (.int .i64 0) ∧ Lv w wr zs a P Q vb db w' := by
  obtain ⟨S, r, h1, h2, h3, h⟩ := h
  refine (gv_leave h h1 h2 (memG_at a.pb 1 (by omega))).mono fun e w' ⟨q1, S', f', c', q2, q3, q4⟩ => ⟨q1, S', f', c', r, q2, fun j hj => ?_, q4⟩
  rw [q3]
  exact h3 j hj
theorem lv_read (h : Lv w wr zs a P Q vb db W) (hl : zs.length ≤ 200) : Calls Try.prog 28 #[.pointer (some ⟨a.gb, 0, none⟩), .pointer (some ⟨vb, 0, none⟩), .int .i64 2, .int .i64 0, .int .i64 11, .int .i64 zs.length] W fun e w' =>
    ∃ N, e = .returned (.tuple #[.slice (some ⟨N, 0, none⟩) zs.length zs.length, .int .i64 0]) ∧ w'.heap[N]? = some (.cells (u8s zs).toArray 5 (0, 0)) ∧ Lv w wr zs a P Q vb db w' := by
  obtain ⟨S, f, c, r, h1, h2, h⟩ := h
  exact (gv_read h h1.n zs hl h2).mono fun e w' ⟨⟨N, q1, q2⟩, q3⟩ => ⟨N, q1, q2, S, f, c, _, h1, h2, q3⟩
/-- Behind the write the bytes are no longer of interest. -/
def Lw2 (w : World) (wr : Bool) (a : BA) (P Q : Value) (vb db : Nat) (W : World) : Prop := ∃ S' f' c' r', Sx S' (bL wr) ∧ Gv w W a S' P Q f' c' (HF 2 1 5 7 (bL wr)) 1 vb db r'
def Lu (w : World) (wr : Bool) (a : BA) (P Q : Value) (vb db : Nat) (W : World) : Prop := ∃ S' f' c' r' n', Gv w W a S' P Q f' c' (HF 2 1 5 7 (upd (bL wr) 0 none)) n' vb db r'
theorem l2_x (h : Lw2 w wr a P Q vb db W) : W.heap[w.heap.size]? = some (.cells #[.pointer (some ⟨a.mb, 0, none⟩), .pointer (some ⟨a.gb, 0, none⟩), P, .pointer (some ⟨a.rb, 0, none⟩), .pointer (some ⟨a.hb, 0, none⟩), Q] 35 (0, 0)) := by
  obtain ⟨S, f, c, r, _, h⟩ := h
  exact h.x
theorem l2_bel (h : Lw2 w wr a P Q vb db W) : Below w.heap.size w W := by
  obtain ⟨S, f, c, r, _, h⟩ := h
  exact h.bel
theorem l2_below (h : Lw2 w wr a P Q vb db W) (hb : Below W.heap.size W W') : Lw2 w wr a P Q vb db W' := by
  obtain ⟨S, f, c, r, h1, h⟩ := h
  exact ⟨S, f, c, r, h1, h.below hb⟩
theorem lu_x (h : Lu w wr a P Q vb db W) : W.heap[w.heap.size]? = some (.cells #[.pointer (some ⟨a.mb, 0, none⟩), .pointer (some ⟨a.gb, 0, none⟩), P, .pointer (some ⟨a.rb, 0, none⟩), .pointer (some ⟨a.hb, 0, none⟩), Q] 35 (0, 0)) := by
  obtain ⟨S, f, c, r, n, h⟩ := h
  exact h.x
theorem lu_bel (h : Lu w wr a P Q vb db W) : Below w.heap.size w W := by
  obtain ⟨S, f, c, r, n, h⟩ := h
  exact h.bel
theorem lv_write (h : Lv w wr zs a P Q vb db W) (hl : zs.length ≤ 200) (A : Option Addr) (cap : Nat) (hz : Bytes W A zs) {N : Nat} (hN : W.heap[N]? = some (.cells (u8s zs).toArray 5 (0, 0))) : Calls Try.prog 29 #[.pointer (some ⟨a.gb, 0, none⟩), .int .i64 2, .int .i64 0, .int .i64 0, .slice A zs.length cap] W fun e w' =>
    e = .returned (.int .i64 (if wr then 0 else 62)) ∧ w'.heap[N]? = some (.cells (u8s zs).toArray 5 (0, 0)) ∧ Lw2 w wr a P Q vb db w' := by
  obtain ⟨S, f, c, r, h1, h2, h⟩ := h
  refine (gv_write h h1 zs hl A cap hz).mono fun e w' ⟨q1, q2, S', q3, q4⟩ => ⟨q1, q2.blk hN ?_, S', f, c, r, q3, q4⟩
  obtain ⟨cs, g1, _⟩ := h.g.g.m.lst
  exact bne hN g1 (by decide)
theorem l2_free (h : Lw2 w wr a P Q vb db W) : Calls Try.prog 30 #[.pointer (some ⟨a.mb, 0, none⟩), .int .i64 7] W fun e w' => e = .returned (.int .i64 9) ∧ w' = W := by
  obtain ⟨S, f, c, r, h1, h⟩ := h
  exact gv_free h h1
theorem l2_foreign (h : Lw2 w wr a P Q vb db W) : Calls Try.prog 25 #[.pointer (some ⟨a.gb, 0, none⟩), .int .i64 1] W fun e w' => e = .returned (.int .i64 1) ∧ Lw2 w wr a P Q vb db w' := by
  obtain ⟨S, f, c, r, h1, h⟩ := h
  refine (gv_foreign h).mono fun e w' ⟨q1, q2⟩ => ⟨?_, S, f, c, r, h1, q2⟩
  rw [q1, cbL]
  rfl
theorem l2_unmap (h : Lw2 w wr a P Q vb db W) : Calls Try.prog 23 #[.pointer (some ⟨a.gb, 0, none⟩), .int .i64 2, .int .i64 0] W fun e w' => e = .returned (.int .i64 0) ∧ Lu w wr a P Q vb db w' := by
  obtain ⟨S, f, c, r, h1, h⟩ := h
  exact (gv_unmap h h1).mono fun e w' ⟨q1, S', q2⟩ => ⟨q1, S', f, c, r, _, q2⟩
theorem lu_unmap (h : Lu w wr a P Q vb db W) : Calls Try.prog 23 #[.pointer (some ⟨a.gb, 0, none⟩), .int .i64 2, .int .i64 0] W fun e w' => e = .returned (.int .i64 6) ∧ Lu w wr a P Q vb db w' := by
  obtain ⟨S, f, c, r, n, h⟩ := h
  exact (gv_unmap0 h rfl).mono fun e w' ⟨q1, q2⟩ => ⟨q1, S, f, c, r, n, q2⟩
theorem lu_foreign (h : Lu w wr a P Q vb db W) : Calls Try.prog 25 #[.pointer (some ⟨a.gb, 0, none⟩), .int .i64 1] W fun e w' => e = .returned (.int .i64 0) ∧ Lu w wr a P Q vb db w' := by
  obtain ⟨S, f, c, r, n, h⟩ := h
  refine (gv_foreign h).mono fun e w' ⟨q1, q2⟩ => ⟨?_, S, f, c, r, n, q2⟩
  have e0 : cb all1 (upd (bL wr) 0 none) = 0 := by cases wr <;> decide
  rw [q1, e0]
  rfl
theorem lu_read (h : Lu w wr a P Q vb db W) : Calls Try.prog 28 #[.pointer (some ⟨a.gb, 0, none⟩), .pointer (some ⟨vb, 0, none⟩), .int .i64 2, .int .i64 0, .int .i64 0, .int .i64 1] W fun e w' => e = .returned (.tuple #[.slice none 0 0, .int .i64 6]) ∧ Lu w wr a P Q vb db w' := by
  obtain ⟨S, f, c, r, n, h⟩ := h
  exact (gv_read0 h rfl 0 1).mono fun e w' ⟨q1, q2⟩ => ⟨q1, S, f, c, r, n, q2⟩
theorem lu_write (h : Lu w wr a P Q vb db W) (A : Option Addr) (l cap : Nat) : Calls Try.prog 29 #[.pointer (some ⟨a.gb, 0, none⟩), .int .i64 2, .int .i64 0, .int .i64 0, .slice A l cap] W fun e w' => e = .returned (.int .i64 6) ∧ Lu w wr a P Q vb db w' := by
  obtain ⟨S, f, c, r, n, h⟩ := h
  exact (gv_write0 h rfl 0 A l cap).mono fun e w' ⟨q1, q2⟩ => ⟨q1, S, f, c, r, n, q2⟩
end
set_option maxHeartbeats 16000000 in
set_option maxRecDepth 100000 in
theorem law_calls (w : World) (wr lv : Bool) (A : Option Addr) (c : Nat) (zs : List UInt8) (hz : Bytes w A zs) (B : Option Addr) (cB : Nat) (ys : List UInt8) (hy : Bytes w B ys) (hcB : ys.length ≤ cB) :
    Calls Try.prog 6 #[.bool wr, .slice B ys.length cB, .slice A zs.length c, .bool lv] w fun e w' => e = .returned (.bool true) ∧ Below w.heap.size w w' := by
  have hbeg := begin_nil w
  have HZ := Base.Aside.mk (And.intro hz hy)
  clear hz hy
  by_cases h200 : 200 < zs.length
  · have d0 : decide ((200 : Int) < (zs.length : Int)) = true := decide_eq_true (by omega)
    go_enter Try.func6, Try.ntmps6
    go_wp2_with (first
      | (go_at_call 8; refine hbeg.mono ?_; rintro z w1 ⟨a, P, Q, rfl, hxb, hbd⟩; have E1 := Base.Aside.mk (And.intro hxb hbd); clear hxb hbd)
      | go_in)
    go_ret
    exact ⟨by first | rfl | (simp; done), E1.out.2.bel⟩
  · have d0 : decide ((200 : Int) < (zs.length : Int)) = false := decide_eq_false (by omega)
    have h2 : zs.length ≤ 200 := by omega
    clear h200
    go_enter Try.func6, Try.ntmps6
    go_upto_if 70 with (first
      | (go_at_call 8; refine hbeg.mono ?_; rintro z w1 ⟨a, P, Q, rfl, hxb, hbd⟩; have hly := lay_litL hbd hxb; have E1 := Base.Aside.mk hxb; clear hxb hbd)
      | (go_at_call 21; (with_reducible refine hly.mono ?_); rintro z w2 ⟨rfl, hbd2⟩; have hx2 := xblk hbd2 E1.out; have C2 := (fun i => blk_cell hx2 i); have L2 := blk_lt hx2; have hby := bd_bytes hbd2 A c zs h2 (HZ.out.1.below hbd2.bel); clear hbd2 hx2)
      | (go_at_call 18; (with_reducible refine hby.mono ?_); rintro z w3 ⟨rfl, hbd3⟩; have hx3 := xblk hbd3 E1.out; have C3 := (fun i => blk_cell hx3 i); have L3 := blk_lt hx3; have hvn := GvA.new_calls hbd3.bo.m (by show 0 < 13; omega); have E3 := Base.Aside.mk hbd3; clear hbd3 hx3)
      | (go_at_call 10; refine hvn.mono ?_; rintro z w4 ⟨vb, db, rfl, hv1, hv2, hV, hB4⟩; have hh4 := hw_of E3.out E1.out rfl hB4 hV hv1 hv2; have hx4 := hh4.x; have C4 := (fun i => blk_cell hx4 i); have L4 := blk_lt hx4; have hmp := map_L zs hh4 (nm_of E3.out hv2) wr; clear hh4 hx4 hV hB4)
      | (go_at_call 22; refine hmp.mono ?_; rintro z w5 ⟨rfl, h5⟩; have hx5 := h5.x; have C5 := (fun i => blk_cell hx5 i); have L5 := blk_lt hx5; have hrv := gv_revoke h5 (memG_at a.pb 1 (by omega)); clear h5 hx5)
      | (go_at_call 26; refine hrv.mono ?_; rintro z w6 ⟨rfl, h6⟩; have E6 := Base.Aside.mk (lj_start h6); clear h6)
      | go_in)
    have C6 := fun i => blk_cell (lj_x E6.out) i
    have L6 := blk_lt (lj_x E6.out)
    clear C2 L2 C3 L3 C4 L4 C5 L5 hbeg hly hby hvn hmp hrv hv1 hv2 E3
    go_cut [] from 68 to 83 (fun wx => Base.Aside (Lj w wr zs a P Q vb db wx))
    case first =>
      by_cases h8 : 8 < ys.length
      · have d8 : decide ((8 : Int) < (ys.length : Int)) = true := decide_eq_true (by omega)
        have hov : ∀ W', Below w6.heap.size w6 W' → _ := fun W' (hW : Below w6.heap.size w6 W') => lj_over (lj_below E6.out hW) B 8 cB (ys.take 8) (by rw [List.length_take]; omega) (bytes_take (HZ.out.2.below ((lj_bel E6.out).trans (hW.mono (lj_bel E6.out).size))) 8)
        have hc8 : (8 : Int) ≤ (cB : Int) := by omega
        have hBn : ∃ x, B = some x := by
          rcases HZ.out.2 with e | ⟨x, e, _⟩
          · rw [e] at h8
            exact absurd h8 (by simp)
          · exact ⟨x, e⟩
        obtain ⟨x, rfl⟩ := hBn
        go_upto_region 11 with fail
        go_region_held3 (fun W' => W'.cell? ⟨w.heap.size, 0, none⟩ = some (.pointer (some ⟨a.mb, 0, none⟩)))
          (first
            | go_keep
            | exact C6 0
            | exact blk_cell (lj_x E7.out) 0)
          ((first
            | (go_at_call 18; (with_reducible refine (hov _ ?_).mono ?_); (focus (repeat (with_reducible first | exact Below.refl _ _ | refine below_drew ?_ | refine below_alloc ?_ _))); rintro z w7 ⟨⟨x7, rfl⟩, h7⟩; have E7 := Base.Aside.mk h7; clear h7)))
        all_goals
          go_wp2_with fail
          go_meet
        case rel => exact E7
      · have d8 : decide ((8 : Int) < (ys.length : Int)) = false := decide_eq_false (by omega)
        have hov := lj_over E6.out B ys.length cB ys rfl (HZ.out.2.below (lj_bel E6.out))
        go_wp2_with (first
          | (go_at_call 18; (with_reducible refine hov.mono ?_); rintro z w7 ⟨⟨x7, rfl⟩, h7⟩; have E7 := Base.Aside.mk h7; clear h7)
          | go_in)
        go_meet
        case rel => exact E7
    case rest =>
      have E7 := Base.Aside.mk hcut.out
      clear hcut C6 L6 E6
      have C7 := fun i => blk_cell (lj_x E7.out) i
      have L7 := blk_lt (lj_x E7.out)
      go_upto_if 84 with fail
      go_cut [] from 84 to 89 (fun wx => Base.Aside (Lv w wr zs a P Q vb db wx))
      case first =>
        have hle := lj_leave E7.out
        cases lv with
        | true =>
          go_wp2_with (first
            | (go_at_call 27; refine hle.mono ?_; rintro z w8 ⟨rfl, h8⟩; have E8 := Base.Aside.mk h8; clear h8)
            | go_in)
          go_meet
          case rel => exact E8
        | false =>
          go_wp2_with fail
          go_meet
          case rel => exact ⟨lj_lv E7.out⟩
      case rest =>
        have E8 := Base.Aside.mk hcut.out
        clear hcut C7 L7 E7
        have C8 := fun i => blk_cell (lv_x E8.out) i
        have L8 := blk_lt (lv_x E8.out)
        have hrd := lv_read E8.out h2
        go_upto_region 17 with (first
          | (go_at_call 28; (with_reducible refine hrd.mono ?_); rintro z w9 ⟨N, rfl, hN9, h9⟩; have C9 := (fun i => blk_cell (lv_x h9) i); have L9 := blk_lt (lv_x h9); have hwt := lv_write h9 h2 A c (HZ.out.1.below (lv_bel h9)) hN9; clear h9 hN9)
          | (go_at_call 29; (with_reducible refine hwt.mono ?_); rintro z w10 ⟨rfl, hN10, h10⟩; have E10 := Base.Aside.mk (And.intro h10 hN10); clear h10 hN10)
          | go_in)
        clear C8 L8 C9 L9 hrd hwt
        have hcv1 : (convert 42 9 (.slice (some ⟨N, 0, none⟩) zs.length zs.length)).run Try.prog w10 = .ok (.string ⟨zs.toArray⟩) w10 := conv_bytes (.inr ⟨_, rfl, Holds.of_block E10.out.2⟩) _ _ rfl
        have hcv2 : (convert 42 9 (.slice A zs.length c)).run Try.prog w10 = .ok (.string ⟨zs.toArray⟩) w10 := conv_bytes (HZ.out.1.below (l2_bel E10.out.1)) _ _ rfl
        have C10 := fun i => blk_cell (l2_x E10.out.1) i
        have L10 := blk_lt (l2_x E10.out.1)
        have hfr := l2_free E10.out.1
        have hfo := l2_foreign E10.out.1
        clear E8
        cases wr
        all_goals
          go_wp2_with (first
            | (go_at_call 30; (with_reducible refine hfr.mono ?_); rintro z w11 ⟨rfl, hw11⟩; obtain rfl := hw11.symm)
            | (go_at_call 25; (with_reducible refine hfo.mono ?_); rintro z w12 ⟨rfl, h12⟩; have C12 := (fun i => blk_cell (l2_x h12) i); have L12 := blk_lt (l2_x h12); have hu1 := l2_unmap h12; clear h12)
            | (go_at_call 23; (with_reducible refine hu1.mono ?_); rintro z w13 ⟨rfl, h13⟩; have C13 := (fun i => blk_cell (lu_x h13) i); have L13 := blk_lt (lu_x h13); have hu2 := lu_unmap h13; clear h13)
            | (go_at_call 23; (with_reducible refine hu2.mono ?_); rintro z w14 ⟨rfl, h14⟩; have C14 := (fun i => blk_cell (lu_x h14) i); have L14 := blk_lt (lu_x h14); have hf2 := lu_foreign h14; clear h14)
            | (go_at_call 25; (with_reducible refine hf2.mono ?_); rintro z w15 ⟨rfl, h15⟩; have C15 := (fun i => blk_cell (lu_x h15) i); have L15 := blk_lt (lu_x h15); have hr2 := lu_read h15; clear h15)
            | (go_at_call 28; (with_reducible refine hr2.mono ?_); rintro z w16 ⟨rfl, h16⟩; have C16 := (fun i => blk_cell (lu_x h16) i); have L16 := blk_lt (lu_x h16); have hw2 := lu_write h16 A zs.length c; clear h16)
            | (go_at_call 29; (with_reducible refine hw2.mono ?_); rintro z w17 ⟨rfl, h17⟩; have E17 := Base.Aside.mk (lu_bel h17); clear h17)
            | go_in)
          go_ret
          exact ⟨by first | rfl | (simp; done), E17.out⟩
end Go.Proofs.Ytjeobbhaoahdcaa.GqH
namespace Go.Proofs.Ytjeobbhaoahdcaa.GrC
open Go.RowKit Go.Proofs.Ytjeobbhaoahdcaa.Base Go.Proofs.Ytjeobbhaoahdcaa.GaA Go.Proofs.Ytjeobbhaoahdcaa.GaC Go.Proofs.Ytjeobbhaoahdcaa.GmB Go.Proofs.Ytjeobbhaoahdcaa.GkA
set_option linter.unusedVariables false

theorem wf_u8 {x : Int} (h : (Lit.int .u8 x).wf = true) : 0 ≤ x ∧ x < 256 := by
  have h1 : IntKind.u8.min = 0 := rfl
  have h2 : IntKind.u8.max = 255 := rfl
  simp [Lit.wf] at h
  omega
theorem wf_i64 {x : Int} (h : (Lit.int .i64 x).wf = true) : okI x := by
  have h1 : IntKind.i64.min = -9223372036854775808 := rfl
  have h2 : IntKind.i64.max = 9223372036854775807 := rfl
  simp [Lit.wf] at h
  unfold okI
  omega
theorem args_bytes {W : World} {a : Option Addr} {len cap : Nat} {zs : List Int} (h : (a = none ∧ len = 0 ∧ cap = 0 ∧ zs = []) ∨ ∃ x, a = some x ∧ len ≤ cap ∧ cap ≤ maxLen ∧ zs.length = cap ∧ (∀ i, i < zs.length → W.cell? (x.add i) = some (.int .u8 (zs.getD i 0))) ∧ ∀ n ∈ zs, (Lit.int .u8 n).wf = true) :
    ∃ bs : List UInt8, len = bs.length ∧ Bytes W a bs ∧ bs.length ≤ 9223372036854775807 := by
  rcases h with ⟨rfl, rfl, rfl, rfl⟩ | ⟨x, rfl, h1, h2, h3, h4, h5⟩
  · exact ⟨[], rfl, .inl rfl, by simp⟩
  · unfold maxLen at h2
    have hl : ((zs.take len).map ofI).length = len := by rw [List.length_map, List.length_take]; omega
    refine ⟨(zs.take len).map ofI, hl.symm, ?_, by rw [hl]; omega⟩
    by_cases h0 : len = 0
    · subst h0
      exact .inl (by simp)
    · have hc0 := h4 0 (by omega)
      refine .inr ⟨x, rfl, ⟨?_, fun j hj => ?_⟩⟩
      · have := World.block_lt_of_cell? W _ hc0
        rwa [add_block] at this
      · rw [hl] at hj
        rw [h4 j (by omega), List.getElem_map, List.getElem_take]
        have hm : zs[j]'(by omega) ∈ zs := List.getElem_mem _
        obtain ⟨g0, g1⟩ := wf_u8 (h5 _ hm)
        rw [ofI_toNat _ g0 g1, List.getD_eq_getElem?_getD, List.getElem?_eq_getElem (by omega)]
        rfl
end Go.Proofs.Ytjeobbhaoahdcaa.GrC
