/- Proved: where an end of a copy lies, at every argument (contracts for the laws of the grants). -/
import Derived.Test.YtjeobbhaoahdcaaGfD
namespace Go.Proofs.Ytjeobbhaoahdcaa.GfE
open Go.RowKit Go.Maps Go.Proofs.Ytjeobbhaoahdcaa.Base Go.Proofs.Ytjeobbhaoahdcaa.GaA Go.Proofs.Ytjeobbhaoahdcaa.GaB Go.Proofs.Ytjeobbhaoahdcaa.GaC Go.Proofs.Ytjeobbhaoahdcaa.GmA Go.Proofs.Ytjeobbhaoahdcaa.GmB Go.Proofs.Ytjeobbhaoahdcaa.GpA Go.Proofs.Ytjeobbhaoahdcaa.GgA Go.Proofs.Ytjeobbhaoahdcaa.GeA Go.Proofs.Ytjeobbhaoahdcaa.GeB Go.Proofs.Ytjeobbhaoahdcaa.GfA Go.Proofs.Ytjeobbhaoahdcaa.GfB Go.Proofs.Ytjeobbhaoahdcaa.GfC Go.Proofs.Ytjeobbhaoahdcaa.GfD Go.Proofs.Ytjeobbhaoahdcaa.GvA
set_option linter.unusedVariables false
set_option linter.unusedSimpArgs false

section
variable {w w' W : World} {gb mm hm mb fb : Nat} {f : Int → Option (Int × Nat)} {c : Nat} {s : MS} {pi : Nat → PI} {vb db r r' : Nat}
set_option maxHeartbeats 8000000 in
set_option maxRecDepth 100000 in
theorem lent_no (h : GW w gb mm hm mb fb s f c pi) (hV : V2 w vb db mb r) (d ref caller off n : Int) (hd : okI d) (wr : Bool) (hn : ((f d).isSome && slotB ref) = false) :
    Calls Try.prog 111 #[.agg #[.int .i64 d, .int .i64 ref, .int .i64 off, .bool wr], .pointer (some ⟨gb, 0, none⟩), .pointer (some ⟨vb, 0, none⟩), .int .i64 caller, .int .i64 n] w fun e w' =>
      e = .returned (.tuple #[.agg #[.int .i64 0, .int .i64 0], .int .i64 1]) ∧ Vw vb db mb w w' r := by
  have hj := fun W hW => joined_any (h.g.below (w' := W) hW) d hd
  have hs := slot_any ref
  have hVlt := blk_lt hV.blk
  have hDlt := hV.due.lt
  have hb2 : Below w.heap.size w ((w.alloc (.cells #[.int .i64 d, .int .i64 ref, .int .i64 off, .bool wr] 171)).alloc (.cells #[.int .i64 0, .int .i64 0] 123)) := below_alloc (below_alloc (Below.refl _ _) _) _
  have hx1 := blk_alloc (blk_new w (.cells #[.int .i64 d, .int .i64 ref, .int .i64 off, .bool wr] 171)) (.cells #[.int .i64 0, .int .i64 0] 123)
  have hx2 := blk_new (w.alloc (.cells #[.int .i64 d, .int .i64 ref, .int .i64 off, .bool wr] 171)) (.cells #[.int .i64 0, .int .i64 0] 123)
  rw [World.size_alloc] at hx2
  have hj1 := hj _ hb2
  have HB := Base.Aside.mk (And.intro hb2 (Vw.refl hV))
  generalize (f d).isSome = b1 at hn hj1
  generalize slotB ref = b2 at hn hs
  clear h hV hj hb2
  cases b1
  all_goals
    try (simp only [Bool.true_and] at hn; subst hn)
    go_enter Try.func111, Try.ntmps111
    go_wp2_with (first
      | (go_at_call 56; refine hj1.mono ?_; rintro z w1 ⟨rfl, hB1⟩; have hk1 := blk_below hx1 (blk_lt hx1) hB1; have hk2 := blk_below hx2 (blk_lt hx2) hB1; have C1 := fun i => blk_cell hk1 i; have L1 := blk_lt hk1; have D0 := fun i => blk_cell hk2 i; have G0 := fun i => blk_frozen hk2 i; have L2 := blk_lt hk2; have E1 := Base.Aside.mk (HB.out.2.below (HB.out.1.trans (hB1.mono HB.out.1.size))); clear hB1)
      | (go_at_call 57; refine (hs _).mono ?_; rintro z w5 ⟨rfl, hw5⟩; obtain rfl := hw5.symm)
      | go_in)
    refine bodyPost_ret (v := .tuple #[.agg #[.int .i64 0, .int .i64 0], .int .i64 1]) ?_ rfl ⟨rfl, ?_⟩
    · simp only [results, Try.results111]
      first | (go_simp; done) | (go_simp; rfl)
    · repeat (with_reducible first | exact E1.out | refine Vw.alloc ?_ _ | (refine Vw.set ?_ ?_ _ _; rotate_left; omega))
/-- lent's find, at every argument. -/
theorem lent_any (h : GW w gb mm hm mb fb s f c pi) (hV : V2 w vb db mb r) (hr : 0 ≤ r) (d ref caller off n : Int) (hd : okI d) (wr : Bool) :
    Calls Try.prog 111 #[.agg #[.int .i64 d, .int .i64 ref, .int .i64 off, .bool wr], .pointer (some ⟨gb, 0, none⟩), .pointer (some ⟨vb, 0, none⟩), .int .i64 caller, .int .i64 n] w fun e w' =>
      e = .returned (.tuple #[.agg #[.int .i64 (lentR s f pi caller d ref off wr n).1.1, .int .i64 (lentR s f pi caller d ref off wr n).1.2], .int .i64 (lentR s f pi caller d ref off wr n).2]) ∧ Vw vb db mb w w' (r + lentN f d ref) := by
  by_cases hn : ((f d).isSome && slotB ref) = false
  · have e1 : lentR s f pi caller d ref off wr n = ((0, 0), 1) := by
      unfold lentR
      cases hf : f d with
      | none => rfl
      | some x =>
        rw [hf] at hn
        simp only [Option.isSome_some, Bool.true_and] at hn
        simp [hn]
    have e2 : lentN f d ref = 0 := by unfold lentN; rw [hn]; rfl
    rw [e1, e2]
    exact lent_no h hV d ref caller off n hd wr hn
  · have hn2 : ((f d).isSome && slotB ref) = true := by simpa using hn
    obtain ⟨h1, h2⟩ := Bool.and_eq_true_iff.1 hn2
    obtain ⟨x, hx⟩ := Option.isSome_iff_exists.1 h1
    have hs := h2
    simp [slotB] at hs
    obtain ⟨k, rfl⟩ : ∃ k : Nat, ref = k := ⟨ref.toNat, by omega⟩
    have e1 : lentR s f pi caller d k off wr n = lentS s (pi x.2) x.1.toNat caller d k off wr n := by
      unfold lentR
      rw [hx]
      simp [h2]
    have e2 : lentN f d k = 1 := by unfold lentN; rw [hn2]; rfl
    rw [e1, e2]
    exact lent_in h hV hr d x hx k (by omega) caller off n wr
/-- Where a place of the caller's lies. -/
def ownR (f : Int → Option (Int × Nat)) (pi : Nat → PI) (caller gpfn off n : Int) : (Int × Int) × Int :=
  match f caller with
  | none => ((0, 0), 1)
  | some x => if (getV (pi x.2).size (pi x.2).fr gpfn).2 = 0 ∧ inn off n 256 = false then (((getV (pi x.2).size (pi x.2).fr gpfn).1, off), 63) else (((getV (pi x.2).size (pi x.2).fr gpfn).1, off), (getV (pi x.2).size (pi x.2).fr gpfn).2)
set_option maxHeartbeats 8000000 in
set_option maxRecDepth 100000 in
theorem own_any (h : GW w gb mm hm mb fb s f c pi) (caller gpfn off n : Int) (hd : okI caller) (vp : Option Addr) :
    Calls Try.prog 110 #[.agg #[.int .i64 gpfn, .int .i64 off], .pointer (some ⟨gb, 0, none⟩), .pointer vp, .int .i64 caller, .int .i64 n] w fun e w' =>
      e = .returned (.tuple #[.agg #[.int .i64 (ownR f pi caller gpfn off n).1.1, .int .i64 (ownR f pi caller gpfn off n).1.2], .int .i64 (ownR f pi caller gpfn off n).2]) ∧ Below w.heap.size w w' := by
  have hj := fun W hW => joined_any (h.g.below (w' := W) hW) caller hd
  have hw := within_calls off n 256 (by omega) (by omega)
  have hb2 : Below w.heap.size w ((w.alloc (.cells #[.int .i64 gpfn, .int .i64 off] 167)).alloc (.cells #[.int .i64 0, .int .i64 0] 123)) := below_alloc (below_alloc (Below.refl _ _) _) _
  have hx1 := blk_alloc (blk_new w (.cells #[.int .i64 gpfn, .int .i64 off] 167)) (.cells #[.int .i64 0, .int .i64 0] 123)
  have hx2 := blk_new (w.alloc (.cells #[.int .i64 gpfn, .int .i64 off] 167)) (.cells #[.int .i64 0, .int .i64 0] 123)
  rw [World.size_alloc] at hx2
  have hj1 := hj _ hb2
  have HB := Base.Aside.mk (And.intro h hb2)
  obtain ⟨R, hR⟩ : ∃ R, R = ownR f pi caller gpfn off n := ⟨_, rfl⟩
  rw [← hR]
  unfold ownR at hR
  have hfd : ∀ (W : World) (a b : Value), (Instr.field 142 (.agg #[a, b]) 1).run Try.prog W = .ok b W := fun _ _ _ => by kernel_rfl
  cases hf : f caller with
  | none =>
    rw [hf] at hR hj1
    simp only [Option.isSome_none] at hj1
    clear h hj hb2
    go_enter Try.func110, Try.ntmps110
    go_wp2_with (first
      | (go_at_call 56; refine hj1.mono ?_; rintro z w1 ⟨rfl, hB1⟩; have hk1 := blk_below hx1 (blk_lt hx1) hB1; have hk2 := blk_below hx2 (blk_lt hx2) hB1; have C1 := fun i => blk_cell hk1 i; have L1 := blk_lt hk1; have D0 := fun i => blk_cell hk2 i; have G0 := fun i => blk_frozen hk2 i; have L2 := blk_lt hk2; have E1 := Base.Aside.mk (HB.out.2.trans (hB1.mono HB.out.2.size)); clear hB1)
      | go_in)
    refine bodyPost_ret (v := .tuple #[.agg #[.int .i64 0, .int .i64 0], .int .i64 1]) ?_ rfl ⟨by rw [hR], ?_⟩
    · simp only [results, Try.results110]
      first | (go_simp; done) | (go_simp; rfl)
    · repeat (with_reducible first | exact E1.out | refine below_alloc ?_ _ | refine below_drewN ?_ _ | refine below_drew ?_ | (refine GuA.below_setN ?_ ?_; rotate_left; omega))
  | some x =>
    rw [hf] at hR hj1
    simp only [Option.isSome_some] at hj1 hR
    obtain ⟨⟨d0, d8⟩, k, hk1, hk⟩ := h.d caller x hf
    have e1 : mvs f caller = some (.agg #[.int .i64 x.1, .pointer (some ⟨x.2, 0, none⟩)]) := by unfold mvs; rw [hf]; rfl
    have hG := fun W hW => (h.g.below (w' := W) hW)
    have hlk := fun W hW => (hG W hW).mem.look Try.underlying75 (zeroM _) caller (by omega) (by omega)
    rw [e1] at hlk
    simp only [Option.getD_some] at hlk
    have hge := fun W hW => GpA.get_calls ((h.below (w' := W) hW).p caller x hf).1 gpfn ((h.below (w' := W) hW).p caller x hf).2
    generalize getV (pi x.2).size (pi x.2).fr gpfn = q at hge hR
    have HR := Base.Aside.mk hR
    clear h hj hb2 e1 hR hk hk1
    have hin : (inn off n 256 = true) ∨ inn off n 256 = false := by cases inn off n 256 <;> simp
    rcases hin with hi | hi
    all_goals
      have HI := Base.Aside.mk hi
      rw [hi] at hw
      clear hi
      go_enter Try.func110, Try.ntmps110
      go_wp2_with (first
        | (go_at_call 56; refine hj1.mono ?_; rintro z w1 ⟨rfl, hB1⟩; have hk1 := blk_below hx1 (blk_lt hx1) hB1; have hk2 := blk_below hx2 (blk_lt hx2) hB1; have C1 := fun i => blk_cell hk1 i; have L1 := blk_lt hk1; have D0 := fun i => blk_cell hk2 i; have G0 := fun i => blk_frozen hk2 i; have L2 := blk_lt hk2; have hB2 := HB.out.2.trans (hB1.mono HB.out.2.size); have B0 := fun i => blk_cell (hG _ hB2).blk i; have B1 := blk_lt (hG _ hB2).blk; have hlk2 := fun n => hlk _ (below_drewN hB2 n); have hge2 := fun n => hge _ (below_drewN hB2 n); have E1 := Base.Aside.mk hB2; clear hB1 hB2)
        | go_in)
      go_quiet ((go_at_call 67; refine Calls.quiet_of_same (hge2 _)))
      go_wp2_with (first
        | (go_at_call 64; refine (hw _).mono ?_; rintro z w6 ⟨rfl, hw6⟩; obtain rfl := hw6.symm)
        | go_in)
      all_goals
        refine bodyPost_ret (v := .tuple #[.agg #[.int .i64 R.1.1, .int .i64 R.1.2], .int .i64 R.2]) ?_ rfl ⟨rfl, ?_⟩
        · simp only [results, Try.results110]
          go_simp
          all_goals
            go_light
            have hr := HR.out
            have hi := HI.out
            clear HR HB HI E1 hlk hlk2 hge hge2 hG
            simp_all
        · repeat (with_reducible first | exact E1.out | refine below_alloc ?_ _ | refine below_drewN ?_ _ | refine below_drew ?_ | (refine GuA.below_setN ?_ ?_; rotate_left; omega))
end
end Go.Proofs.Ytjeobbhaoahdcaa.GfE
