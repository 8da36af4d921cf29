/- Proved: where an end of a copy lies, through a view with rewrites (contracts for the laws of the grants). Proved: Pull and Push through a view with rewrites (contracts for the laws of the grants). Proved: Copy through a view with rewrites (a contract for the laws of the grants). -/
import Derived.Test.YthlejchcnfdcpaaGreatMlai
import Derived.Test.YthlejchcnfdcpaaGreatMlaj
import Derived.Test.YthlejchcnfdcpaaGreatMlao
namespace Go.Proofs.YthlejchcnfdcpaaGreat.GwG
open Go.RowKit Go.Maps Base GaA GaB GaC GmA GmB GpA GgA GeA GeB GfA GfB GfC GfD GfE GfF GwB GwF
set_option linter.unusedVariables false
set_option linter.unusedSimpArgs false

section
variable {a : VA} {w w' W : World} {gb mm hm : Nat} {f : Int → Option (Int × Nat)} {c : Nat} {s : MS} {pi : Nat → PI} {r r' : Nat}
set_option maxHeartbeats 8000000 in
set_option maxRecDepth 100000 in
theorem lent_in (h : GW w gb mm hm a.mb a.fb s f c pi) (hV : Vm a w w r s) (d : Int) (x : Int × Nat) (hd : f d = some x) (ref : Nat) (h32 : ref < 32) (caller off n : Int) (wr : Bool) :
    Calls Tryz.prog 136 #[.agg #[.int .i64 d, .int .i64 ref, .int .i64 off, .bool wr], .pointer (some ⟨gb, 0, none⟩), .pointer (some ⟨a.vb, 0, none⟩), .int .i64 caller, .int .i64 n] w fun e w' =>
      e = .returned (.tuple #[.agg #[.int .i64 (lentS (pokeS s a.ps r) (pi x.2) x.1.toNat caller d ref off wr n).1.1, .int .i64 (lentS (pokeS s a.ps r) (pi x.2) x.1.toNat caller d ref off wr n).1.2], .int .i64 (lentS (pokeS s a.ps r) (pi x.2) x.1.toNat caller d ref off wr n).2]) ∧ Vm a w w' (r + 1) (pokeS s a.ps r) := by
  obtain ⟨⟨d0, d8⟩, k, hk1, hk⟩ := h.d d x hd
  obtain ⟨x1, pb⟩ := x
  simp only at hk1
  subst hk1
  simp only [Int.toNat_natCast]
  have hj := fun W hW => joined_any (h.g.below (w' := W) hW) d ⟨by omega, by omega⟩
  have hp := fun W hW => GwF.permit_any (h.g.below (w' := W) hW) (Vm.start (hV.v.below hW) (hV.m.below hW) hV.hB hV.h64) d d0 d8 k pb hd hk ref h32 caller
  obtain ⟨s1, hs1⟩ : ∃ s1, s1 = pokeS s a.ps r := ⟨_, rfl⟩
  have hn1 : s1.n = s.n := by rw [hs1, pokeS_n]
  have hfr := fun W (hW : Vm a w W (r + 1) s1) => GfA.frame_calls (gw_vm h hW hn1).g (gw_vm h hW hn1).m ((gw_vm h hW hn1).p d _ hd).1 ((gw_vm h hW hn1).p d _ hd).2 d d0 d8 k hd (entG (ent s1 k ref)).gp
  rw [← hs1] at hp ⊢
  have HS1 := Base.Aside.mk hs1
  clear hs1
  have hsl : slotB (ref : Int) = true := by unfold slotB; simp; omega
  have hs := slot_any ref
  rw [hsl] at hs
  obtain ⟨o0, l0, ol⟩ := ent_of s1 k ref
  have hw := within_calls off n (entG (ent s1 k ref)).le l0 (by omega)
  obtain ⟨R, hR⟩ : ∃ R, R = lentS s1 (pi pb) k caller d ref off wr n := ⟨_, rfl⟩
  rw [← hR]
  unfold lentS at hR
  simp only at hfr
  generalize frameR s1 (pi pb).size (pi pb).fr d (entG (ent s1 k ref)).gp = q at hfr hR
  generalize permE (ent s1 k ref) caller = pe at hp hR
  generalize entG (ent s1 k ref) = g at hp hfr hR hw o0 l0 ol
  unfold aggv at hp
  rw [hd] at hj
  simp only [Option.isSome_some] at hj
  have hlv := hV.lt.1
  have hlf := hV.lm.2
  have hb2 : Below w.heap.size w ((w.alloc (.cells #[.int .i64 d, .int .i64 ref, .int .i64 off, .bool wr] 196)).alloc (.cells #[.int .i64 0, .int .i64 0] 184)) := below_alloc (below_alloc (Below.refl _ _) _) _
  have hx1 := blk_alloc (blk_new w (.cells #[.int .i64 d, .int .i64 ref, .int .i64 off, .bool wr] 196)) (.cells #[.int .i64 0, .int .i64 0] 184)
  have hx2 := blk_new (w.alloc (.cells #[.int .i64 d, .int .i64 ref, .int .i64 off, .bool wr] 196)) (.cells #[.int .i64 0, .int .i64 0] 184)
  rw [World.size_alloc] at hx2
  have nv1 : w.heap.size ≠ a.vb := by omega
  have nv2 : w.heap.size + 1 ≠ a.vb := by omega
  have nf1 : w.heap.size ≠ a.fb := by omega
  have nf2 : w.heap.size + 1 ≠ a.fb := by omega
  have HV := Base.Aside.mk hV
  have hj1 := hj _ hb2
  have HR := Base.Aside.mk hR
  have HB := Base.Aside.mk hb2
  have HP := hp
  clear h hV hR hj hb2 hp hsl
  have hin : (inn off n g.le = true ∧ 0 ≤ off ∧ off ≤ 256) ∨ inn off n g.le = false := by
    cases h5 : inn off n g.le with
    | false => exact .inr rfl
    | true =>
      refine .inl ⟨rfl, ?_⟩
      simp [inn] at h5
      omega
  have o3 : g.of ≤ 256 := by omega
  clear ol l0
  rcases hin with ⟨hi, o1, o2⟩ | hi
  all_goals
    have HI := Base.Aside.mk hi
    rw [hi] at hw
    clear hi
    go_enter Tryz.func136, Tryz.ntmps136
    go_wp2_with (first
      | (go_at_call 63; refine hj1.mono ?_; rintro z w1 ⟨rfl, hB1⟩; have hk1 := blk_below hx1 (blk_lt hx1) hB1; have hk2 := blk_below hx2 (blk_lt hx2) hB1; have hp2 := HP w1 (HB.out.trans (hB1.mono HB.out.size)); have C1 := fun i => blk_cell hk1 i; have L1 := blk_lt hk1; have D0 := fun i => blk_cell hk2 i; have G0 := fun i => blk_frozen hk2 i; have L2 := blk_lt hk2; have E1 := Base.Aside.mk (HB.out.trans (hB1.mono HB.out.size)); clear hB1)
      | (go_at_call 64; refine (hs _).mono ?_; rintro z w5 ⟨rfl, hw5⟩; obtain rfl := hw5.symm)
      | (go_at_call 77; refine (hw _).mono ?_; rintro z w6 ⟨rfl, hw6⟩; obtain rfl := hw6.symm)
      | (go_at_call 65; (with_reducible refine hp2.mono ?_); rintro z w2 ⟨rfl, hv2⟩; have hy1 := hv2.bl hk1 nv1 nf1; have hy2 := hv2.bl hk2 nv2 nf2; have D1 := fun i => blk_cell hy1 i; have D2 := fun i => blk_cell hy2 i; have G2 := fun i => blk_frozen hy2 i; have M1 := blk_lt hy1; have M2 := blk_lt hy2; have hv3 := Vm.pre E1.out HV.out hv2; have hfr2 := fun cs => hfr _ (hv3.alloc (.cells cs 32)); have E2 := Base.Aside.mk hv3; clear hv2 hv3)
      | (go_at_call 66; refine (hfr2 _).mono ?_; rintro z w3 ⟨rfl, hB3⟩; have z1 := blk_below (blk_alloc hy1 _) (blk_lt (blk_alloc hy1 _)) hB3; have z2 := blk_below (blk_alloc hy2 _) (blk_lt (blk_alloc hy2 _)) hB3; have z3 := blk_below (blk_new w2 _) (blk_lt (blk_new w2 _)) hB3; have K1 := fun i => blk_cell z1 i; have K2 := fun i => blk_cell z2 i; have K3 := fun i => blk_cell z3 i; have Q2 := fun i => blk_frozen z2 i; have P1 := blk_lt z1; have P2 := blk_lt z2; have P3 := blk_lt z3; have E3 := Base.Aside.mk ((E2.out.alloc _).below hB3); clear hB3)
      | go_in)
    all_goals
      refine bodyPost_ret (v := .tuple #[.agg #[.int .i64 R.1.1, .int .i64 R.1.2], .int .i64 R.2]) ?_ rfl ⟨rfl, ?_⟩
      · simp only [results, Tryz.results136]
        go_simp
        all_goals
          go_light
          have hr := HR.out
          have hi := HI.out
          clear HR HB HP HI HV HS1
          simp_all
      · repeat (with_reducible first | exact E3.out | exact E2.out | refine Vm.alloc ?_ _ | (refine Vm.set ?_ ?_ _ _; rotate_left; omega))
set_option maxHeartbeats 8000000 in
set_option maxRecDepth 100000 in
theorem lent_no (h : GW w gb mm hm a.mb a.fb s f c pi) (hV : Vm a w w r s) (d ref caller off n : Int) (hd : okI d) (wr : Bool) (hn : ((f d).isSome && slotB ref) = false) :
    Calls Tryz.prog 136 #[.agg #[.int .i64 d, .int .i64 ref, .int .i64 off, .bool wr], .pointer (some ⟨gb, 0, none⟩), .pointer (some ⟨a.vb, 0, none⟩), .int .i64 caller, .int .i64 n] w fun e w' =>
      e = .returned (.tuple #[.agg #[.int .i64 0, .int .i64 0], .int .i64 1]) ∧ Vm a w w' r s := by
  have hj := fun W hW => joined_any (h.g.below (w' := W) hW) d hd
  have hs := slot_any ref
  have hlv := hV.lt.1
  have hlf := hV.lm.2
  have hb2 : Below w.heap.size w ((w.alloc (.cells #[.int .i64 d, .int .i64 ref, .int .i64 off, .bool wr] 196)).alloc (.cells #[.int .i64 0, .int .i64 0] 184)) := below_alloc (below_alloc (Below.refl _ _) _) _
  have hx1 := blk_alloc (blk_new w (.cells #[.int .i64 d, .int .i64 ref, .int .i64 off, .bool wr] 196)) (.cells #[.int .i64 0, .int .i64 0] 184)
  have hx2 := blk_new (w.alloc (.cells #[.int .i64 d, .int .i64 ref, .int .i64 off, .bool wr] 196)) (.cells #[.int .i64 0, .int .i64 0] 184)
  rw [World.size_alloc] at hx2
  have hj1 := hj _ hb2
  have HB := Base.Aside.mk (And.intro hb2 (hV))
  generalize (f d).isSome = b1 at hn hj1
  generalize slotB ref = b2 at hn hs
  clear h hV hj hb2
  cases b1
  all_goals
    try (simp only [Bool.true_and] at hn; subst hn)
    go_enter Tryz.func136, Tryz.ntmps136
    go_wp2_with (first
      | (go_at_call 63; refine hj1.mono ?_; rintro z w1 ⟨rfl, hB1⟩; have hk1 := blk_below hx1 (blk_lt hx1) hB1; have hk2 := blk_below hx2 (blk_lt hx2) hB1; have C1 := fun i => blk_cell hk1 i; have L1 := blk_lt hk1; have D0 := fun i => blk_cell hk2 i; have G0 := fun i => blk_frozen hk2 i; have L2 := blk_lt hk2; have E1 := Base.Aside.mk (HB.out.2.below (HB.out.1.trans (hB1.mono HB.out.1.size))); clear hB1)
      | (go_at_call 64; refine (hs _).mono ?_; rintro z w5 ⟨rfl, hw5⟩; obtain rfl := hw5.symm)
      | go_in)
    refine bodyPost_ret (v := .tuple #[.agg #[.int .i64 0, .int .i64 0], .int .i64 1]) ?_ rfl ⟨rfl, ?_⟩
    · simp only [results, Tryz.results136]
      first | (go_simp; done) | (go_simp; rfl)
    · repeat (with_reducible first | exact E1.out | refine Vm.alloc ?_ _ | (refine Vm.set ?_ ?_ _ _; rotate_left; omega))
/-- lent's find, at every argument. -/
theorem lent_any (h : GW w gb mm hm a.mb a.fb s f c pi) (hV : Vm a w w r s) (d ref caller off n : Int) (hd : okI d) (wr : Bool) :
    Calls Tryz.prog 136 #[.agg #[.int .i64 d, .int .i64 ref, .int .i64 off, .bool wr], .pointer (some ⟨gb, 0, none⟩), .pointer (some ⟨a.vb, 0, none⟩), .int .i64 caller, .int .i64 n] w fun e w' =>
      e = .returned (.tuple #[.agg #[.int .i64 (lentR (pokeS s a.ps r) f pi caller d ref off wr n).1.1, .int .i64 (lentR (pokeS s a.ps r) f pi caller d ref off wr n).1.2], .int .i64 (lentR (pokeS s a.ps r) f pi caller d ref off wr n).2]) ∧ Vm a w w' (r + lentN f d ref) (pkn s a.ps r (lentN f d ref)) := by
  by_cases hn : ((f d).isSome && slotB ref) = false
  · have e1 : lentR (pokeS s a.ps r) f pi caller d ref off wr n = ((0, 0), 1) := by
      unfold lentR
      cases hf : f d with
      | none => rfl
      | some x =>
        rw [hf] at hn
        simp only [Option.isSome_some, Bool.true_and] at hn
        simp [hn]
    have e2 : lentN f d ref = 0 := by unfold lentN; rw [hn]; rfl
    rw [e1, e2]
    exact GwG.lent_no h hV d ref caller off n hd wr hn
  · have hn2 : ((f d).isSome && slotB ref) = true := by simpa using hn
    obtain ⟨h1, h2⟩ := Bool.and_eq_true_iff.1 hn2
    obtain ⟨x, hx⟩ := Option.isSome_iff_exists.1 h1
    have hs := h2
    simp [slotB] at hs
    obtain ⟨k, rfl⟩ : ∃ k : Nat, ref = k := ⟨ref.toNat, by omega⟩
    have e1 : lentR (pokeS s a.ps r) f pi caller d k off wr n = lentS (pokeS s a.ps r) (pi x.2) x.1.toNat caller d k off wr n := by
      unfold lentR
      rw [hx]
      simp [h2]
    have e2 : lentN f d k = 1 := by unfold lentN; rw [hn2]; rfl
    rw [e1, e2]
    exact GwG.lent_in h hV d x hx k (by omega) caller off n wr
set_option maxHeartbeats 8000000 in
set_option maxRecDepth 100000 in
theorem find_bad (h : GW w gb mm hm a.mb a.fb s f c pi) (hV : Vm a w w r s) (caller n : Int) (t : En) (wr : Bool) (hb : endBad caller n t) :
    Calls Tryz.prog 109 #[.pointer (some ⟨gb, 0, none⟩), .pointer (some ⟨a.vb, 0, none⟩), .int .i64 caller, .agg #[.bool t.gr, .int .i64 t.dom, .int .i64 t.ref, .int .i64 t.gpfn, .int .i64 t.off], .int .i64 n, .bool wr] w fun e w' =>
      e = .returned (.tuple #[.agg #[.int .i64 0, .int .i64 0], .int .i64 1]) ∧ Vm a w w' r s := by
  have hb2 : Below w.heap.size w ((w.alloc (.cells #[.bool t.gr, .int .i64 t.dom, .int .i64 t.ref, .int .i64 t.gpfn, .int .i64 t.off] 29)).alloc (.cells #[.int .i64 0, .int .i64 0] 184)) := below_alloc (below_alloc (Below.refl _ _) _) _
  have hno := GgA.none_calls (h.below hb2).g
  have hun := Vm.unmade (Vm.start (hV.v.below hb2) (hV.m.below hb2) hV.hB hV.h64)
  have hdo := fun W => GgA.domain_calls caller W
  have HB := Base.Aside.mk (hV)
  obtain ⟨gr, dom, ref, gpfn, off⟩ := t
  simp only at hb ⊢
  clear h hV hb2
  have hcase : (decide (0 ≤ caller) && decide (caller < 8)) = false ∨ ((decide (0 ≤ caller) && decide (caller < 8)) = true ∧ decide (n < 0) = true) ∨ ((decide (0 ≤ caller) && decide (caller < 8)) = true ∧ decide (n < 0) = false ∧ decide (off < 0) = true) := by
    unfold endBad at hb
    simp only at hb
    by_cases h1 : 0 ≤ caller ∧ caller < 8
    · by_cases h2 : n < 0
      · exact .inr (.inl ⟨by simp [h1.1, h1.2], by simp [h2]⟩)
      · exact .inr (.inr ⟨by simp [h1.1, h1.2], by simp; omega, by simp; omega⟩)
    · refine .inl ?_
      simp
      omega
  clear hb
  rcases hcase with hc | ⟨hc, hc2⟩ | ⟨hc, hc2, hc3⟩
  all_goals
    rw [hc] at hdo
    clear hc
    go_enter Tryz.func109, Tryz.ntmps109
    go_wp2_with (first
      | (go_at_call 52; refine hno.mono ?_; rintro z w1 ⟨rfl, hw1⟩; obtain rfl := hw1.symm)
      | (go_at_call 62; refine hun.mono ?_; rintro z w1 ⟨rfl, hw1⟩; obtain rfl := hw1.symm)
      | (go_at_call 54; refine (hdo _).mono ?_; rintro z w1 ⟨rfl, hw1⟩; obtain rfl := hw1.symm)
      | go_in)
    refine bodyPost_ret (v := .tuple #[.agg #[.int .i64 0, .int .i64 0], .int .i64 1]) ?_ rfl ⟨rfl, ?_⟩
    · simp only [results, Tryz.results109]
      first | (go_simp; done) | (go_simp; rfl)
    · repeat (with_reducible first | exact HB.out | refine Vm.alloc ?_ _ | (refine Vm.set ?_ ?_ _ _; rotate_left; omega))
set_option maxHeartbeats 8000000 in
set_option maxRecDepth 100000 in
theorem find_lent (h : GW w gb mm hm a.mb a.fb s f c pi) (hV : Vm a w w r s) (caller n : Int) (t : En) (ht : t.gr = true) (hd : okI t.dom) (wr : Bool) (hb : ¬ endBad caller n t) :
    Calls Tryz.prog 109 #[.pointer (some ⟨gb, 0, none⟩), .pointer (some ⟨a.vb, 0, none⟩), .int .i64 caller, .agg #[.bool t.gr, .int .i64 t.dom, .int .i64 t.ref, .int .i64 t.gpfn, .int .i64 t.off], .int .i64 n, .bool wr] w fun e w' =>
      e = .returned (.tuple #[.agg #[.int .i64 (lentR (pokeS s a.ps r) f pi caller t.dom t.ref t.off wr n).1.1, .int .i64 (lentR (pokeS s a.ps r) f pi caller t.dom t.ref t.off wr n).1.2], .int .i64 (lentR (pokeS s a.ps r) f pi caller t.dom t.ref t.off wr n).2]) ∧ Vm a w w' (r + lentN f t.dom t.ref) (pkn s a.ps r (lentN f t.dom t.ref)) := by
  have hb2 : Below w.heap.size w ((w.alloc (.cells #[.bool t.gr, .int .i64 t.dom, .int .i64 t.ref, .int .i64 t.gpfn, .int .i64 t.off] 29)).alloc (.cells #[.int .i64 0, .int .i64 0] 184)) := below_alloc (below_alloc (Below.refl _ _) _) _
  have hno := GgA.none_calls (h.below hb2).g
  have hun := Vm.unmade (Vm.start (hV.v.below hb2) (hV.m.below hb2) hV.hB hV.h64)
  unfold endBad at hb
  have hdo := fun W => GgA.domain_in caller (by omega) (by omega) W
  have hle := fun W hW => GwG.lent_any (h.below (w' := W) hW) (Vm.start (hV.v.below hW) (hV.m.below hW) hV.hB hV.h64) t.dom t.ref caller t.off n hd wr
  have hta := assert_lent
  have hme := method_lent
  have HB := Base.Aside.mk (hV)
  obtain ⟨gr, dom, ref, gpfn, off⟩ := t
  simp only at hb ht hle hno hun ⊢
  subst ht
  generalize lentR (pokeS s a.ps r) f pi caller dom ref off wr n = R at hle ⊢
  have d1 : decide (n < 0) = false := decide_eq_false (by omega)
  have d2 : decide (off < 0) = false := decide_eq_false (by omega)
  have hlv := hV.lt.1
  have hlf := hV.lm.2
  have hle2 : ∀ W, Below w.heap.size w W → W.heap[w.heap.size + 1]? = some (.cells #[.int .i64 0, .int .i64 0] 184 (0, 0)) → Calls Tryz.prog 136 #[.agg #[.int .i64 dom, .int .i64 ref, .int .i64 off, .bool wr], .pointer (some ⟨gb, 0, none⟩), .pointer (some ⟨a.vb, 0, none⟩), .int .i64 caller, .int .i64 n] W fun e w' =>
      e = .returned (.tuple #[.agg #[.int .i64 R.1.1, .int .i64 R.1.2], .int .i64 R.2]) ∧ Vm a w w' (r + lentN f dom ref) (pkn s a.ps r (lentN f dom ref)) ∧ w'.heap[w.heap.size + 1]? = some (.cells #[.int .i64 0, .int .i64 0] 184 (0, 0)) := fun W hW hk => (hle W hW).mono fun e w' ⟨h1, h2⟩ => ⟨h1, Vm.pre hW hV h2, h2.bl hk (by omega) (by omega)⟩
  clear h hV hb2 hb hle
  go_enter Tryz.func109, Tryz.ntmps109
  go_wp2_with (first
    | (go_at_call 52; refine hno.mono ?_; rintro z w1 ⟨rfl, hw1⟩; obtain rfl := hw1.symm)
    | (go_at_call 62; refine hun.mono ?_; rintro z w1 ⟨rfl, hw1⟩; obtain rfl := hw1.symm)
    | (go_at_call 54; refine (hdo _).mono ?_; rintro z w1 ⟨rfl, hw1⟩; obtain rfl := hw1.symm)
    | (go_at_call 136; with_reducible refine (hle2 _ ?_ ?_).mono ?_; (focus (repeat (with_reducible first | exact Below.refl _ _ | refine below_alloc ?_ _))); (focus exact blk_alloc (blk_newest (by simp) _) _); rintro z w2 ⟨rfl, hv2, hk2⟩; have D2 := (fun i => blk_cell hk2 i); have G2 := (fun i => blk_frozen hk2 i); have M2 := blk_lt hk2; have E2 := Base.Aside.mk hv2; clear hv2)
    | go_in)
  refine bodyPost_ret (v := .tuple #[.agg #[.int .i64 R.1.1, .int .i64 R.1.2], .int .i64 R.2]) ?_ rfl ⟨rfl, ?_⟩
  · simp only [results, Tryz.results109]
    first | (go_simp; done) | (go_simp; rfl)
  · repeat (with_reducible first | exact E2.out | refine Vm.alloc ?_ _ | (refine Vm.set ?_ ?_ _ _; rotate_left; omega))
set_option maxHeartbeats 8000000 in
set_option maxRecDepth 100000 in
theorem find_own (h : GW w gb mm hm a.mb a.fb s f c pi) (hV : Vm a w w r s) (caller n : Int) (t : En) (ht : t.gr = false) (wr : Bool) (hb : ¬ endBad caller n t) :
    Calls Tryz.prog 109 #[.pointer (some ⟨gb, 0, none⟩), .pointer (some ⟨a.vb, 0, none⟩), .int .i64 caller, .agg #[.bool t.gr, .int .i64 t.dom, .int .i64 t.ref, .int .i64 t.gpfn, .int .i64 t.off], .int .i64 n, .bool wr] w fun e w' =>
      e = .returned (.tuple #[.agg #[.int .i64 (ownR f pi caller t.gpfn t.off n).1.1, .int .i64 (ownR f pi caller t.gpfn t.off n).1.2], .int .i64 (ownR f pi caller t.gpfn t.off n).2]) ∧ Vm a w w' r s := by
  have hb2 : Below w.heap.size w ((w.alloc (.cells #[.bool t.gr, .int .i64 t.dom, .int .i64 t.ref, .int .i64 t.gpfn, .int .i64 t.off] 29)).alloc (.cells #[.int .i64 0, .int .i64 0] 184)) := below_alloc (below_alloc (Below.refl _ _) _) _
  have hno := GgA.none_calls (h.below hb2).g
  have hun := Vm.unmade (Vm.start (hV.v.below hb2) (hV.m.below hb2) hV.hB hV.h64)
  unfold endBad at hb
  have hdo := fun W => GgA.domain_in caller (by omega) (by omega) W
  have hle := fun W hW => GfE.own_any (h.below (w' := W) hW) caller t.gpfn t.off n ⟨by omega, by omega⟩ (some ⟨a.vb, 0, none⟩)
  have hta := assert_own
  have hme := method_own
  have HB := Base.Aside.mk (hV)
  obtain ⟨gr, dom, ref, gpfn, off⟩ := t
  simp only at hb ht hle hno hun ⊢
  subst ht
  generalize ownR f pi caller gpfn off n = R at hle ⊢
  have d1 : decide (n < 0) = false := decide_eq_false (by omega)
  have d2 : decide (off < 0) = false := decide_eq_false (by omega)
  have hlv := hV.lt.1
  have hlf := hV.lm.2
  have hle2 : ∀ W, Below w.heap.size w W → W.heap[w.heap.size + 1]? = some (.cells #[.int .i64 0, .int .i64 0] 184 (0, 0)) → Calls Tryz.prog 135 #[.agg #[.int .i64 gpfn, .int .i64 off], .pointer (some ⟨gb, 0, none⟩), .pointer (some ⟨a.vb, 0, none⟩), .int .i64 caller, .int .i64 n] W fun e w' =>
      e = .returned (.tuple #[.agg #[.int .i64 R.1.1, .int .i64 R.1.2], .int .i64 R.2]) ∧ Vm a w w' r s ∧ w'.heap[w.heap.size + 1]? = some (.cells #[.int .i64 0, .int .i64 0] 184 (0, 0)) := fun W hW hk => (hle W hW).mono fun e w' ⟨h1, h2⟩ => ⟨h1, (HB.out.below hW).below h2, blk_below hk (blk_lt hk) h2⟩
  clear h hV hb2 hb hle
  go_enter Tryz.func109, Tryz.ntmps109
  go_wp2_with (first
    | (go_at_call 52; refine hno.mono ?_; rintro z w1 ⟨rfl, hw1⟩; obtain rfl := hw1.symm)
    | (go_at_call 62; refine hun.mono ?_; rintro z w1 ⟨rfl, hw1⟩; obtain rfl := hw1.symm)
    | (go_at_call 54; refine (hdo _).mono ?_; rintro z w1 ⟨rfl, hw1⟩; obtain rfl := hw1.symm)
    | (go_at_call 135; with_reducible refine (hle2 _ ?_ ?_).mono ?_; (focus (repeat (with_reducible first | exact Below.refl _ _ | refine below_alloc ?_ _))); (focus exact blk_alloc (blk_newest (by simp) _) _); rintro z w2 ⟨rfl, hv2, hk2⟩; have D2 := (fun i => blk_cell hk2 i); have G2 := (fun i => blk_frozen hk2 i); have M2 := blk_lt hk2; have E2 := Base.Aside.mk hv2; clear hv2)
    | go_in)
  refine bodyPost_ret (v := .tuple #[.agg #[.int .i64 R.1.1, .int .i64 R.1.2], .int .i64 R.2]) ?_ rfl ⟨rfl, ?_⟩
  · simp only [results, Tryz.results109]
    first | (go_simp; done) | (go_simp; rfl)
  · repeat (with_reducible first | exact E2.out | refine Vm.alloc ?_ _ | (refine Vm.set ?_ ?_ _ _; rotate_left; omega))
/-- find, at every argument. -/
theorem find_any (h : GW w gb mm hm a.mb a.fb s f c pi) (hV : Vm a w w r s) (caller n : Int) (t : En) (hd : okI t.dom) (wr : Bool) :
    Calls Tryz.prog 109 #[.pointer (some ⟨gb, 0, none⟩), .pointer (some ⟨a.vb, 0, none⟩), .int .i64 caller, .agg #[.bool t.gr, .int .i64 t.dom, .int .i64 t.ref, .int .i64 t.gpfn, .int .i64 t.off], .int .i64 n, .bool wr] w fun e w' =>
      e = .returned (.tuple #[.agg #[.int .i64 (findR (pokeS s a.ps r) f pi caller t n wr).1.1, .int .i64 (findR (pokeS s a.ps r) f pi caller t n wr).1.2], .int .i64 (findR (pokeS s a.ps r) f pi caller t n wr).2]) ∧ Vm a w w' (r + findN f caller t n) (pkn s a.ps r (findN f caller t n)) := by
  by_cases hb : endBad caller n t
  · have e1 : findR (pokeS s a.ps r) f pi caller t n wr = ((0, 0), 1) := if_pos hb
    have e2 : findN f caller t n = 0 := if_pos hb
    rw [e1, e2]
    exact GwG.find_bad h hV caller n t wr hb
  · have e1 : findR (pokeS s a.ps r) f pi caller t n wr = if t.gr then lentR (pokeS s a.ps r) f pi caller t.dom t.ref t.off wr n else ownR f pi caller t.gpfn t.off n := if_neg hb
    have e2 : findN f caller t n = if t.gr then lentN f t.dom t.ref else 0 := if_neg hb
    rw [e1, e2]
    cases ht : t.gr with
    | true =>
      rw [← ht]
      simp only [ht, if_true]
      have := GwG.find_lent h hV caller n t ht hd wr hb
      rw [ht] at this
      exact this
    | false =>
      rw [← ht]
      simp only [ht, Bool.false_eq_true, if_false]
      have := GwG.find_own h hV caller n t ht wr hb
      rw [ht] at this
      exact this
end
end Go.Proofs.YthlejchcnfdcpaaGreat.GwG
namespace Go.Proofs.YthlejchcnfdcpaaGreat.GwH
open Go.RowKit Go.Maps Base GaA GaB GaC GmA GmB GpA GgA GeA GeB GfA GfB GfC GfD GfE GfF GfG GfH GwB GwF
set_option linter.unusedVariables false
set_option linter.unusedSimpArgs false

section
variable {a : VA} {w w' W W' : World} {gb mm hm : Nat} {f : Int → Option (Int × Nat)} {c : Nat} {s s' : MS} {pi : Nat → PI} {r r' : Nat}
theorem bytes_vm {A : Option Addr} {zs : List UInt8} (h : Bytes w A zs) (hA : ∀ x, A = some x → x.block ≠ a.vb ∧ x.block ≠ a.fb) (k : Vm a w W r s) : Bytes W A zs :=
  h.chg k.c fun x hx => by
    rintro (e | e)
    · exact (hA x hx).1 e
    · exact (hA x hx).2 e
/-- The machine's frames turn. -/
theorem _root_.Go.Proofs.YthlejchcnfdcpaaGreat.GwF.Vm.frames (h : Vm a w W r s) (hM : Mach W' a.mb a.fb s') (hc : Chg (fun x => x = a.fb) W W') : Vm a w W' r s' := by
  have h1 := h.v.ge
  have h2 := h.hB
  exact ⟨h.v0, hc.blk h.blk (by omega), hM, h.c.trans (hc.mono fun _ h => .inr h), h.hB, h.h64, h.lm⟩
def PullOut (a : VA) (w : World) (s2 s : MS) (q : (Int × Int) × Int) (n : Int) (r n1 : Nat) (e : Ending) (w' : World) : Prop :=
  ∃ (A : Option Addr) (l : Nat) (er : Int), e = .returned (.tuple #[.slice A l l, .int .i64 er]) ∧ PullOk w.heap.size s2 q n A l er w' ∧ Vm a w w' (r + pullN q n1) (pkn s a.ps r (pullN q n1))
def PushOut (a : VA) (w : World) (s1 : MS) (q : (Int × Int) × Int) (zs : List UInt8) (r1 : Nat) (e : Ending) (w' : World) : Prop :=
  e = .returned (.int .i64 (pushE s1 q zs.length)) ∧ Vm a w w' r1 (pushS s1 q zs)
set_option maxHeartbeats 8000000 in
set_option maxRecDepth 100000 in
theorem pull_any (h : GW w gb mm hm a.mb a.fb s f c pi) (hV : Vm a w w r s) (caller n : Int) (t : En) (hd : okI t.dom) :
    Calls Tryz.prog 86 #[.pointer (some ⟨gb, 0, none⟩), .pointer (some ⟨a.vb, 0, none⟩), .int .i64 caller, .agg #[.bool t.gr, .int .i64 t.dom, .int .i64 t.ref, .int .i64 t.gpfn, .int .i64 t.off], .int .i64 n] w (PullOut a w (pkn s a.ps r (findN f caller t n + 1)) s (findR (pokeS s a.ps r) f pi caller t n false) n r (findN f caller t n)) := by
  have hlv := hV.lt.1
  have hlf := hV.lm.2
  have HV0 := Base.Aside.mk hV
  have hb2 : Below w.heap.size w (w.alloc (.cells #[.bool t.gr, .int .i64 t.dom, .int .i64 t.ref, .int .i64 t.gpfn, .int .i64 t.off] 29)) := below_alloc (Below.refl _ _) _
  have hf1 := GwG.find_any (h.below hb2) (Vm.start (hV.v.below hb2) (hV.m.below hb2) hV.hB hV.h64) caller n t hd false
  have hrd : ∀ W, Vm a w W (r + findN f caller t n) (pkn s a.ps r (findN f caller t n)) → ∀ k o, Calls Tryz.prog 78 #[.pointer (some ⟨a.vb, 0, none⟩), .int .i64 k, .int .i64 o, .int .i64 n] W (GwF.VrOut a W (r + findN f caller t n) (pkn s a.ps r (findN f caller t n + 1)) k o n) := fun W hW k o => vmread hW k o n
  generalize findR (pokeS s a.ps r) f pi caller t n false = q at hf1 ⊢
  generalize findN f caller t n = n1 at hf1 hrd ⊢
  have HB := Base.Aside.mk hb2
  clear h hV hb2
  by_cases hq : q.2 = 0
  · have HQ := Base.Aside.mk hq
    rw [hq] at hf1
    go_enter Tryz.func86, Tryz.ntmps86
    go_wp2_with (first
      | (go_at_call 109; (with_reducible refine hf1.mono ?_); rintro z w1 ⟨rfl, hv1⟩; have hv2 := (Vm.pre HB.out HV0.out hv1); have hsz := hv2.c.size; have hrd2 := fun cs => hrd _ (hv2.alloc (.cells cs 184)); have E1 := Base.Aside.mk hv2; clear hv1 hv2)
      | (go_at_call 78; refine (hrd2 _ _ _).mono ?_; rintro z w2 ⟨N, A, l, er, rfl, hN, ho, hv3⟩; have E2 := Base.Aside.mk (And.intro hN (And.intro ho hv3)); clear hN ho hv3)
      | go_in)
    go_ret2
    refine ⟨A, l, er, by first | rfl | (simp; done), .inr ⟨HQ.out, N, ?_, E2.out.2.1⟩, ?_⟩
    · have := E2.out.1
      rw [World.size_alloc] at this
      omega
    · have e1 : pullN q n1 = n1 + 1 := if_pos HQ.out
      rw [e1]
      exact (E1.out.alloc _).trans E2.out.2.2
  · have hb1 : (q.2 != 0) = true := by simp [hq]
    have HQ := Base.Aside.mk hq
    clear hq
    go_enter Tryz.func86, Tryz.ntmps86
    go_wp2_with (first
      | (go_at_call 109; (with_reducible refine hf1.mono ?_); rintro z w1 ⟨rfl, hv1⟩; have E1 := Base.Aside.mk (Vm.pre HB.out HV0.out hv1); clear hv1)
      | go_in)
    go_ret2
    refine ⟨none, 0, q.2, by first | rfl | (simp; done), .inl ⟨HQ.out, rfl, rfl, rfl⟩, ?_⟩
    have e1 : pullN q n1 = n1 := if_neg HQ.out
    rw [e1]
    exact E1.out.alloc _
set_option maxHeartbeats 8000000 in
set_option maxRecDepth 100000 in
theorem push_any (h : GW w gb mm hm a.mb a.fb s f c pi) (hV : Vm a w w r s) (caller : Int) (t : En) (hd : okI t.dom) (A : Option Addr) (cap : Nat) (zs : List UInt8) (hz : Bytes w A zs) (hA : ∀ x, A = some x → x.block ≠ a.vb ∧ x.block ≠ a.fb) (hl : zs.length ≤ 9223372036854775807) :
    Calls Tryz.prog 88 #[.pointer (some ⟨gb, 0, none⟩), .pointer (some ⟨a.vb, 0, none⟩), .int .i64 caller, .agg #[.bool t.gr, .int .i64 t.dom, .int .i64 t.ref, .int .i64 t.gpfn, .int .i64 t.off], .slice A zs.length cap] w (PushOut a w (pkn s a.ps r (findN f caller t zs.length)) (findR (pokeS s a.ps r) f pi caller t zs.length true) zs (r + findN f caller t zs.length)) := by
  have hlv := hV.lt.1
  have hlf := hV.lm.2
  have HV0 := Base.Aside.mk hV
  have hb2 : Below w.heap.size w (w.alloc (.cells #[.bool t.gr, .int .i64 t.dom, .int .i64 t.ref, .int .i64 t.gpfn, .int .i64 t.off] 29)) := below_alloc (Below.refl _ _) _
  have hf1 := GwG.find_any (h.below hb2) (Vm.start (hV.v.below hb2) (hV.m.below hb2) hV.hB hV.h64) caller zs.length t hd true
  generalize findR (pokeS s a.ps r) f pi caller t zs.length true = q at hf1 ⊢
  have hn1 := pkn_n s a.ps r (findN f caller t zs.length)
  generalize pkn s a.ps r (findN f caller t zs.length) = s1 at hf1 hn1 ⊢
  generalize r + findN f caller t zs.length = r1 at hf1 ⊢
  have HW := fun W (hW : Vm a w W r1 s1) => And.intro (gw_vm h hW hn1) (bytes_vm hz hA hW)
  have HB := Base.Aside.mk hb2
  have hgl := blk_lt h.g.blk
  clear h hV hb2 hz
  by_cases hq : q.2 = 0
  · have HQ := Base.Aside.mk hq
    rw [hq] at hf1
    go_enter Tryz.func88, Tryz.ntmps88
    go_wp2_with (first
      | (go_at_call 109; (with_reducible refine hf1.mono ?_); rintro z w1 ⟨rfl, hv1⟩; have hv2 := (Vm.pre HB.out HV0.out hv1); have hsz := hv2.c.size; have E1 := Base.Aside.mk hv2; clear hv1 hv2)
      | go_in)
    refine wp_world (fun W => Vm a w W r1 s1 ∧ W.heap[w1.heap.size]? = some (.cells #[.int .i64 q.1.1, .int .i64 q.1.2] 184 (0, 0))) ⟨E1.out.alloc _, blk_new _ _⟩ ?_
    intro W2 ⟨hv2, hx⟩
    have hw2 := HW _ hv2
    have S0 : ∀ W', Below W2.heap.size W2 W' → W'.cell? ⟨gb, 0, none⟩ = some (.pointer (some ⟨a.mb, 0, none⟩)) ∧ W'.cell? ⟨w1.heap.size, 0, none⟩ = some (.int .i64 q.1.1) ∧ W'.cell? ⟨w1.heap.size, 1, none⟩ = some (.int .i64 q.1.2) := fun W' hW' =>
      ⟨blk_cell (blk_below hw2.1.g.blk (blk_lt hw2.1.g.blk) hW') 0, blk_cell (blk_below hx (blk_lt hx) hW') 0, blk_cell (blk_below hx (blk_lt hx) hW') 1⟩
    have hfr := fun W' hW' => (frame_any (hw2.1.m.below (w' := W') hW') q.1.1).mono (R' := fun e w' => e = .returned (.tuple #[.agg #[.int .i64 (frV s1 q.1.1).1.own, .int .i64 (frV s1 q.1.1).1.typ, .int .i64 (frV s1 q.1.1).1.cnt, .int .i64 (frV s1 q.1.1).1.tot], .int .i64 (frV s1 q.1.1).2]) ∧ Below W2.heap.size W2 w' ∧ ∀ k o, W'.heap[k]? = some o → w'.heap[k]? = some o) (fun e w' h => ⟨h.1, Below.trans hW' (h.2.mono hW'.size), fun k o ho => blk_below ho (blk_lt ho) h.2⟩)
    have hsz2 := hv2.c.size
    have L5 := blk_lt hx
    have L6 := blk_lt hw2.1.g.blk
    obtain ⟨y, hy⟩ : ∃ y, y = frV s1 q.1.1 := ⟨_, rfl⟩
    rw [← hy] at hfr
    have E2 := Base.Aside.mk (And.intro hv2 (And.intro hw2 hy))
    have C0 := (S0 W2 (Below.refl _ _))
    obtain ⟨k0, k1, k2⟩ := C0
    have HWA := Base.Aside.mk HW
    clear hv2 hw2 hy HW
    go_cut [13, 14] from 28 to 37 (fun v v2 wx => ∃ N : Nat, v = .pointer (some ⟨N, 0, none⟩) ∧ v2 = .int .i64 y.2 ∧ Base.Aside (Below W2.heap.size W2 wx ∧ wx.heap[N]? = some (.cells #[.int .i64 y.1.own, .int .i64 y.1.typ, .int .i64 y.1.cnt, .int .i64 y.1.tot] 95 (0, 0)) ∧ W2.heap.size ≤ N))
    case first =>
      go_region_with (first
        | (go_at_call 36; (with_reducible refine (hfr _ ?_).mono ?_); (focus (repeat (with_reducible first | exact Below.refl _ _ | refine below_drew ?_ | refine below_alloc ?_ _))); rintro z w3 ⟨rfl, hB3, hkeep⟩; have E3 := Base.Aside.mk hB3; have k3 := S0 _ hB3; obtain ⟨k30, k31, k32⟩ := k3; have s3 := hB3.size; (first | (have z3 := hkeep _ _ (blk_drew (blk_new W2 _)); have C3 := (fun i => blk_cell z3 i); have F3 := (fun i => blk_frozen z3 i); have L3 := blk_lt z3) | skip); clear hB3 hkeep))
      all_goals
        go_wp2_with fail
        go_meet
        case rel =>
          first
          | exact ⟨_, rfl, rfl, ⟨below_alloc E3.out _, blk_new _ _, s3⟩⟩
          | exact ⟨_, rfl, rfl, ⟨GuA.below_setN (GuA.below_setN (GuA.below_setN (GuA.below_setN E3.out (Nat.le_refl _)) (Nat.le_refl _)) (Nat.le_refl _)) (Nat.le_refl _), blk_put (blk_put (blk_put (blk_put z3 0 _ rfl) 1 _ rfl) 2 _ rfl) 3 _ rfl, Nat.le_refl _⟩⟩
    case rest =>
      obtain ⟨N, rfl, rfl, hA⟩ := hcut
      have E4 := Base.Aside.mk hA.out
      have C4 := fun i => blk_cell hA.out.2.1 i
      have L4 := blk_lt hA.out.2.1
      have k4 := S0 _ hA.out.1
      have hx4 := blk_below hx (blk_lt hx) hA.out.1
      have X4 := fun i => blk_cell hx4 i
      have LX := blk_lt hx4
      have hv4 := E2.out.1.below hA.out.1
      have hw4 := (HWA.out _ hv4).1
      have G4 := fun i => blk_cell hw4.g.blk i
      have LG := blk_lt hw4.g.blk
      have hwr := fun W' hW' => write_any (hw4.m.below (w' := W') hW') q.1.1 q.1.2 A zs.length cap zs rfl ((HWA.out _ hv4).2.below hW')
      have E5 := Base.Aside.mk (And.intro hv4 hw4)
      have hy := E2.out.2.2
      have HY := Base.Aside.mk hy
      clear hA k4 hx hfr S0 k0 k1 k2 hv4 hy
      by_cases ht : isTab y.1
      · have htt : (y.1.typ == 2) = true ∨ ((y.1.typ == 2) = false ∧ (y.1.typ == 3) = true) := by
          unfold isTab at ht
          by_cases h2 : y.1.typ = 2
          · exact .inl (by simp [h2])
          · exact .inr ⟨by simp [h2], by simp; omega⟩
        have HT := Base.Aside.mk ht
        clear ht hwr
        rcases htt with h2 | ⟨h2, h3⟩
        all_goals
          go_wp2
          go_ret
          have e1 : pushE s1 q zs.length = 13 := by unfold pushE; rw [if_neg (by simp [HQ.out]), ← HY.out, if_pos HT.out]
          have e2 : pushS s1 q zs = s1 := by unfold pushS; rw [if_neg (by simp [HQ.out]), ← HY.out, if_pos HT.out]
          refine ⟨by rw [e1]; first | rfl | (simp; done), by rw [e2]; exact E5.out.1⟩
      · have h2 : (y.1.typ == 2) = false := by simp; exact fun h => ht (.inl h)
        have h3 : (y.1.typ == 3) = false := by simp; exact fun h => ht (.inr h)
        have HT := Base.Aside.mk ht
        clear ht
        obtain ⟨cs, hl1, hl2⟩ := hw4.m.lst
        have ng : gb ≠ a.fb := bne hw4.g.blk hl1 (by decide)
        clear hl1 hl2 cs
        go_wp2
        go_region_with (first
          | (go_at_call 58; (with_reducible refine (hwr _ ?_).mono ?_); (focus (repeat (with_reducible first | exact Below.refl _ _ | refine below_drew ?_ | refine below_alloc ?_ _))); rintro z w5 ⟨rfl, hM5, hC5⟩; have E6 := Base.Aside.mk (And.intro hM5 hC5); clear hM5 hC5))
        all_goals
          go_wp2
          go_ret
          have e1 : pushE s1 q zs.length = wrE s1 q.1.1 q.1.2 zs.length := by unfold pushE; rw [if_neg (by simp [HQ.out]), ← HY.out, if_neg HT.out]
          have e2 : pushS s1 q zs = wrS s1 q.1.1 q.1.2 zs := by unfold pushS; rw [if_neg (by simp [HQ.out]), ← HY.out, if_neg HT.out]
          have hd := (Below.refl wc.heap.size wc).drew
          refine ⟨by rw [e1]; first | rfl | (simp; done), by rw [e2]; exact (E5.out.1.below hd).frames E6.out.1 E6.out.2⟩
  · have hb1 : (q.2 != 0) = true := by simp [hq]
    have HQ := Base.Aside.mk hq
    have HWA := Base.Aside.mk HW
    clear hq HW
    go_enter Tryz.func88, Tryz.ntmps88
    go_wp2_with (first
      | (go_at_call 109; (with_reducible refine hf1.mono ?_); rintro z w1 ⟨rfl, hv1⟩; have hv2 := (Vm.pre HB.out HV0.out hv1); have hsz := hv2.c.size; have E1 := Base.Aside.mk hv2; clear hv1 hv2)
      | go_in)
    go_ret
    have e1 : pushE s1 q zs.length = q.2 := by unfold pushE; rw [if_pos HQ.out]
    have e2 : pushS s1 q zs = s1 := by unfold pushS; rw [if_pos HQ.out]
    have hv := E1.out.alloc (.cells #[.int .i64 q.1.1, .int .i64 q.1.2] 184)
    exact ⟨by rw [e1]; first | rfl | (simp; done), by rw [e2]; exact hv⟩
end
end Go.Proofs.YthlejchcnfdcpaaGreat.GwH
namespace Go.Proofs.YthlejchcnfdcpaaGreat.GwI
open Go.RowKit Go.Maps Base GaA GaB GaC GmA GmB GpA GgA GeA GeB GfA GfB GfC GfD GfE GfF GfG GfH GfI GwB GwF GwH
set_option linter.unusedVariables false
set_option linter.unusedSimpArgs false

/-- What Copy comes to behind its Pull: q is the place, s2 the machine, r2 how many reads there were. -/
def copyB (ps : List Pk) (s2 : MS) (f : Int → Option (Int × Nat)) (pi : Nat → PI) (caller : Int) (q : (Int × Int) × Int) (u : En) (n : Int) (r2 : Nat) : Int × MS × Nat :=
  if q.2 ≠ 0 then (q.2, s2, r2)
  else if ¬ inR s2 q.1.1 q.1.2 n then (1, s2, r2)
  else (pushE (pkn s2 ps r2 (findN f caller u n)) (findR (pokeS s2 ps r2) f pi caller u n true) n.toNat, pushS (pkn s2 ps r2 (findN f caller u n)) (findR (pokeS s2 ps r2) f pi caller u n true) (MS.rd s2 q.1.1.toNat q.1.2.toNat n.toNat), r2 + findN f caller u n)
def copyP (ps : List Pk) (s : MS) (f : Int → Option (Int × Nat)) (pi : Nat → PI) (caller : Int) (t u : En) (n : Int) (r : Nat) : Int × MS × Nat :=
  copyB ps (pkn s ps r (pullN (findR (pokeS s ps r) f pi caller t n false) (findN f caller t n))) f pi caller (findR (pokeS s ps r) f pi caller t n false) u n (r + pullN (findR (pokeS s ps r) f pi caller t n false) (findN f caller t n))
section
variable {a : VA} {w w' W W' : World} {gb mm hm : Nat} {f : Int → Option (Int × Nat)} {c : Nat} {s s' : MS} {pi : Nat → PI} {r r' : Nat}
def CopyOut (a : VA) (w : World) (R : Int × MS × Nat) (e : Ending) (w' : World) : Prop :=
  e = .returned (.int .i64 R.1) ∧ Vm a w w' R.2.2 R.2.1
set_option maxHeartbeats 8000000 in
set_option maxRecDepth 100000 in
theorem copy_any (h : GW w gb mm hm a.mb a.fb s f c pi) (hV : Vm a w w r s) (caller n : Int) (t u : En) (hd : okI t.dom) (hu : okI u.dom) :
    Calls Tryz.prog 82 #[.pointer (some ⟨gb, 0, none⟩), .pointer (some ⟨a.vb, 0, none⟩), .int .i64 caller, .agg #[.bool t.gr, .int .i64 t.dom, .int .i64 t.ref, .int .i64 t.gpfn, .int .i64 t.off], .agg #[.bool u.gr, .int .i64 u.dom, .int .i64 u.ref, .int .i64 u.gpfn, .int .i64 u.off], .int .i64 n] w (CopyOut a w (copyP a.ps s f pi caller t u n r)) := by
  have hlv := hV.lt.1
  have hlf := hV.lm.2
  have HV0 := Base.Aside.mk hV
  have hb2 := box2 w t u
  have hx2 := blk_new (w.alloc (.cells #[.bool t.gr, .int .i64 t.dom, .int .i64 t.ref, .int .i64 t.gpfn, .int .i64 t.off] 29)) (.cells #[.bool u.gr, .int .i64 u.dom, .int .i64 u.ref, .int .i64 u.gpfn, .int .i64 u.off] 29)
  rw [World.size_alloc] at hx2
  have hV2 := Vm.start (hV.v.below hb2) (hV.m.below hb2) hV.hB hV.h64
  have hp1 := GwH.pull_any (h.below hb2) hV2 caller n t hd
  unfold GwH.PullOut at hp1
  obtain ⟨R, hR⟩ : ∃ R, R = copyP a.ps s f pi caller t u n r := ⟨_, rfl⟩
  rw [← hR]
  unfold copyP at hR
  have hpn := fun q : (Int × Int) × Int => show pullN q (findN f caller t n) = if q.2 = 0 then findN f caller t n + 1 else findN f caller t n from rfl
  generalize findR (pokeS s a.ps r) f pi caller t n false = q at hp1 hR
  have hs2 : q.2 = 0 → pkn s a.ps r (findN f caller t n + 1) = pkn s a.ps r (pullN q (findN f caller t n)) := fun hq => by rw [hpn, if_pos hq]
  have hn2 := pkn_n s a.ps r (pullN q (findN f caller t n))
  generalize pkn s a.ps r (pullN q (findN f caller t n)) = s2 at hp1 hR hs2 hn2
  generalize r + pullN q (findN f caller t n) = r2 at hp1 hR
  unfold copyB at hR
  have hin : inR s2 q.1.1 q.1.2 n ↔ inR s q.1.1 q.1.2 n := by unfold inR; rw [hn2]
  have HB := Base.Aside.mk (And.intro hb2 hV2)
  have nv : w.heap.size ≠ a.vb ∧ w.heap.size + 1 ≠ a.vb ∧ w.heap.size + 1 ≠ a.fb := by omega
  have HX := Base.Aside.mk hx2
  by_cases hok : q.2 = 0 ∧ inR s2 q.1.1 q.1.2 n
  · have hR3 : R = (pushE (pkn s2 a.ps r2 (findN f caller u n)) (findR (pokeS s2 a.ps r2) f pi caller u n true) n.toNat, pushS (pkn s2 a.ps r2 (findN f caller u n)) (findR (pokeS s2 a.ps r2) f pi caller u n true) (MS.rd s2 q.1.1.toNat q.1.2.toNat n.toNat), r2 + findN f caller u n) := by
      rw [hR, if_neg (by simp [hok.1]), if_neg (by simp [hok.2])]
    generalize hzs : MS.rd s2 q.1.1.toNat q.1.2.toNat n.toNat = zs at hR3
    have hzl : zs.length = n.toNat := by rw [← hzs, rd_len]
    have hin2 := hok.2
    unfold inR at hin2
    have hzl2 : (zs.length : Int) = n := by omega
    have hp2 := hp1.mono (R' := fun e w' => ∃ N, e = .returned (.tuple #[.slice (some ⟨N, 0, none⟩) zs.length zs.length, .int .i64 0]) ∧ w'.heap[N]? = some (.cells (u8s zs).toArray 5 (0, 0)) ∧ w.heap.size ≤ N ∧ Vm a ((w.alloc (.cells #[.bool t.gr, .int .i64 t.dom, .int .i64 t.ref, .int .i64 t.gpfn, .int .i64 t.off] 29)).alloc (.cells #[.bool u.gr, .int .i64 u.dom, .int .i64 u.ref, .int .i64 u.gpfn, .int .i64 u.off] 29)) w' r2 s2) (by
      rintro e w' ⟨A, l, er, he, hpo, hv⟩
      rcases hpo with ⟨h1, _⟩ | ⟨_, N, hN, hrd⟩
      · exact absurd hok.1 h1
      · rw [hs2 hok.1] at hrd
        rcases hrd.res with ⟨_, rfl, rfl, rfl, hb⟩ | ⟨h2, _⟩
        · exact ⟨N, by rw [he, hzl], by rw [← hzs]; exact hb, by have := hb2.size; omega, hv⟩
        · exact absurd hok.2 h2)
    have hps := fun W (hW : Vm a w W r2 s2) (A : Option Addr) (hz : Bytes W A zs) (hA : ∀ x, A = some x → x.block ≠ a.vb ∧ x.block ≠ a.fb) => GwH.push_any (gw_vm h hW hn2) (Vm.start hW.v hW.m hW.hB hW.h64) caller u hu A zs.length zs hz hA (by omega)
    rw [hzl2, hzl] at hps
    rw [hzl] at hp2
    have HR := Base.Aside.mk (And.intro hR3 hzl)
    clear h hV hb2 hV2 hR hx2 hp1 hR3 hok hzs hin hin2 hpn hs2
    go_enter Tryz.func82, Tryz.ntmps82
    go_wp2_with (first
      | (go_at_call 86; (with_reducible refine hp2.mono ?_); rintro z w1 ⟨N, rfl, hbk, hN, hv1⟩; have hv2 := Vm.pre HB.out.1 HV0.out hv1; have hx3 := hv1.bl HX.out nv.2.1 nv.2.2; have C1 := (fun i => blk_cell hx3 i); have L1 := blk_lt hx3; have hpp := hps _ hv2 (some ⟨N, 0, none⟩) (.inr ⟨_, rfl, Holds.of_block hbk⟩) (fun x hx => by injection hx with hx; subst hx; exact ⟨by show N ≠ a.vb; omega, by show N ≠ a.fb; omega⟩); have E1 := Base.Aside.mk hv2; clear hv1 hv2 hbk hx3)
      | (go_at_call 88; (with_reducible refine hpp.mono ?_); rintro z w2 ⟨rfl, hv2⟩; have E2 := Base.Aside.mk hv2; clear hv2)
      | go_in)
    go_ret
    rw [HR.out.1]
    exact ⟨by simp only [HR.out.2]; first | rfl | (simp; done), E1.out.trans E2.out⟩
  · obtain ⟨er, hp2, hR3, h0⟩ : ∃ er : Int, (Calls Tryz.prog 86 #[.pointer (some ⟨gb, 0, none⟩), .pointer (some ⟨a.vb, 0, none⟩), .int .i64 caller, .agg #[.bool t.gr, .int .i64 t.dom, .int .i64 t.ref, .int .i64 t.gpfn, .int .i64 t.off], .int .i64 n] ((w.alloc (.cells #[.bool t.gr, .int .i64 t.dom, .int .i64 t.ref, .int .i64 t.gpfn, .int .i64 t.off] 29)).alloc (.cells #[.bool u.gr, .int .i64 u.dom, .int .i64 u.ref, .int .i64 u.gpfn, .int .i64 u.off] 29)) fun e w' => e = .returned (.tuple #[.slice none 0 0, .int .i64 er]) ∧ Vm a ((w.alloc (.cells #[.bool t.gr, .int .i64 t.dom, .int .i64 t.ref, .int .i64 t.gpfn, .int .i64 t.off] 29)).alloc (.cells #[.bool u.gr, .int .i64 u.dom, .int .i64 u.ref, .int .i64 u.gpfn, .int .i64 u.off] 29)) w' r2 s2) ∧ R = (er, s2, r2) ∧ er ≠ 0 := by
      by_cases hq : q.2 = 0
      · have hn : ¬ inR s2 q.1.1 q.1.2 n := fun h => hok ⟨hq, h⟩
        refine ⟨1, hp1.mono ?_, by rw [hR, if_neg (by simp [hq]), if_pos hn], by decide⟩
        rintro e w' ⟨A, l, er, he, hpo, hv⟩
        rcases hpo with ⟨h1, _⟩ | ⟨_, N, _, hrd⟩
        · exact absurd hq h1
        · rw [hs2 hq] at hrd
          rcases hrd.res with ⟨h2, _⟩ | ⟨h2, rfl, rfl, rfl⟩
          · exact absurd h2 hn
          · exact ⟨he, hv⟩
      · refine ⟨q.2, hp1.mono ?_, by rw [hR, if_pos hq], hq⟩
        rintro e w' ⟨A, l, er, he, hpo, hv⟩
        rcases hpo with ⟨h1, rfl, rfl, rfl⟩ | ⟨h1, _⟩
        · exact ⟨he, hv⟩
        · exact absurd h1 hq
    have hb1 : (er != 0) = true := by simp [h0]
    have HR := Base.Aside.mk hR3
    clear h hV hb2 hV2 hR hx2 hp1 hR3 hok h0 hin hpn hs2
    go_enter Tryz.func82, Tryz.ntmps82
    go_wp2_with (first
      | (go_at_call 86; (with_reducible refine hp2.mono ?_); rintro z w1 ⟨rfl, hv1⟩; have hv2 := Vm.pre HB.out.1 HV0.out hv1; have E1 := Base.Aside.mk hv2; clear hv1 hv2)
      | go_in)
    go_ret
    rw [HR.out]
    exact ⟨by first | rfl | (simp; done), E1.out⟩
end
end Go.Proofs.YthlejchcnfdcpaaGreat.GwI
