/- Proved: the ends of a copy, at every argument (contracts for the laws of the grants). -/
import Derived.Test.YtjeobbhaoahdcaaGfC
import Derived.Test.YtjeobbhaoahdcaaGmC
namespace Go.Proofs.Ytjeobbhaoahdcaa.GfD
open Go.RowKit Go.Maps Go.Proofs.Ytjeobbhaoahdcaa.Base Go.Proofs.Ytjeobbhaoahdcaa.GaA Go.Proofs.Ytjeobbhaoahdcaa.GaB Go.Proofs.Ytjeobbhaoahdcaa.GaC Go.Proofs.Ytjeobbhaoahdcaa.GmA Go.Proofs.Ytjeobbhaoahdcaa.GmB Go.Proofs.Ytjeobbhaoahdcaa.GpA Go.Proofs.Ytjeobbhaoahdcaa.GgA Go.Proofs.Ytjeobbhaoahdcaa.GeA Go.Proofs.Ytjeobbhaoahdcaa.GeB Go.Proofs.Ytjeobbhaoahdcaa.GfA Go.Proofs.Ytjeobbhaoahdcaa.GfB Go.Proofs.Ytjeobbhaoahdcaa.GfC Go.Proofs.Ytjeobbhaoahdcaa.GvA
set_option linter.unusedVariables false
set_option linter.unusedSimpArgs false

theorem ent_rd (s : MS) (k ref : Nat) (i : Int) : 0 ≤ GuA.rd (ent s k ref) i ∧ GuA.rd (ent s k ref) i < 256 := by
  unfold GuA.rd ent
  rw [List.getD_eq_getElem?_getD, List.getElem?_map]
  cases h : (MS.rd s k (8 * ref) 8)[i.toNat]? with
  | none => simp
  | some b =>
    have := b.toNat_lt
    simp
    omega
theorem ent_of (s : MS) (k ref : Nat) : 0 ≤ (entG (ent s k ref)).of ∧ 0 ≤ (entG (ent s k ref)).le ∧ (entG (ent s k ref)).of + (entG (ent s k ref)).le ≤ 256 := by
  unfold entG
  by_cases hb : GuA.bad (ent s k ref)
  · rw [if_pos hb]; simp
  · rw [if_neg hb]
    have h6 := ent_rd s k ref 6
    have h7 := ent_rd s k ref 7
    have hb' : ¬ 256 < GuA.of (ent s k ref) + GuA.le (ent s k ref) := fun h => hb (.inr (.inr h))
    refine ⟨?_, ?_, by simp only; omega⟩
    · simp only [GuA.of]; split <;> omega
    · simp only [GuA.le]; split <;> omega
theorem ent_gp (s : MS) (k ref : Nat) : 0 ≤ (entG (ent s k ref)).gp ∧ (entG (ent s k ref)).gp < 65536 := by
  unfold entG
  by_cases hb : GuA.bad (ent s k ref)
  · rw [if_pos hb]; simp
  · rw [if_neg hb]
    have h4 := ent_rd s k ref 4
    have h5 := ent_rd s k ref 5
    simp only
    omega
/-- A member's map of places. -/
structure PI where
  fm : Nat
  pm : Nat
  size : Nat
  c : Nat
  fr : Int → Option Int
  pl : Int → Option Int
/-- Grants, their machine, their members' places, in memory. -/
structure GW (w : World) (gb mm hm mb fb : Nat) (s : MS) (f : Int → Option (Int × Nat)) (c : Nat) (pi : Nat → PI) : Prop where
  g : G2 w gb mm hm mb f c
  m : Mach w mb fb s
  p : ∀ d x, f d = some x → P2 w x.2 (pi x.2).fm (pi x.2).pm (pi x.2).size (pi x.2).fr (pi x.2).pl (pi x.2).c ∧ (pi x.2).size ≤ 48
  d : ∀ d x, f d = some x → (0 ≤ d ∧ d < 8) ∧ ∃ k : Nat, x.1 = k ∧ k < s.n
section
variable {w w' W : World} {gb mm hm mb fb : Nat} {f : Int → Option (Int × Nat)} {c : Nat} {s : MS} {pi : Nat → PI} {vb db r r' : Nat}
theorem GW.below (h : GW w gb mm hm mb fb s f c pi) (hb : Below w.heap.size w w') : GW w' gb mm hm mb fb s f c pi := ⟨h.g.below hb, h.m.below hb, fun d x hd => ⟨(h.p d x hd).1.below hb, (h.p d x hd).2⟩, h.d⟩
theorem GW.vw (h : GW w gb mm hm mb fb s f c pi) (hV : V2 w vb db mb r) (k : Vw vb db mb w w' r') : GW w' gb mm hm mb fb s f c pi :=
  ⟨h.g.chg k.c (fun e => (hV.ne_g h.g).1 e.symm) (fun e => (hV.ne_g h.g).2 e.symm), h.m.chg k.c (fun e => (hV.ne_m h.m).1 e.symm) (fun e => (hV.ne_m h.m).2 e.symm),
    fun d x hd => ⟨(h.p d x hd).1.chg k.c (fun e => (hV.ne_p (h.p d x hd).1).1 e.symm) (fun e => (hV.ne_p (h.p d x hd).1).2.1 e.symm) (fun e => (hV.ne_p (h.p d x hd).1).2.2 e.symm), (h.p d x hd).2⟩, h.d⟩
theorem joined_any (h : G2 w gb mm hm mb f c) (d : Int) (hd : okI d) : Calls Try.prog 56 #[.pointer (some ⟨gb, 0, none⟩), .int .i64 d] w fun e w' => e = .returned (.bool (f d).isSome) ∧ Below w.heap.size w w' := by
  have C0 := fun i => blk_cell h.blk i
  have L0 := blk_lt h.blk
  have hlk := h.mem.look_ok Try.underlying75 (zeroM w) d hd.1 hd.2
  have e1 : (mvs f d).isSome = (f d).isSome := by unfold mvs; cases f d <;> rfl
  obtain ⟨a, b, e2⟩ : ∃ a b, (mvs f d).getD (.agg #[.int .i64 0, .pointer none]) = .agg #[.int .i64 a, .pointer b] := by
    unfold mvs
    cases f d with
    | none => exact ⟨0, none, rfl⟩
    | some x => exact ⟨x.1, some ⟨x.2, 0, none⟩, rfl⟩
  rw [e1, e2] at hlk
  clear h e1 e2
  go_enter Try.func56, Try.ntmps56
  go_wp2
  go_ret
  exact ⟨by first | rfl | (simp; done), below_alloc (Below.refl _ _) _⟩
def slotB (k : Int) : Bool := decide (0 ≤ k) && decide (k < 32)
theorem slot_any (k : Int) (w : World) : Calls Try.prog 57 #[.int .i64 k] w fun e w' => e = .returned (.bool (slotB k)) ∧ w' = w := by
  unfold slotB
  by_cases h : 0 ≤ k
  · have h1 : decide (0 ≤ k) = true := decide_eq_true h
    go_enter Try.func57, Try.ntmps57
    go_wp2
    go_ret
    exact ⟨by first | rfl | (rw [h1]; first | rfl | (simp; done)) | (simp [h1]; done), rfl⟩
  · have h1 : decide (0 ≤ k) = false := decide_eq_false h
    go_enter Try.func57, Try.ntmps57
    go_wp2
    go_ret
    exact ⟨by first | rfl | (rw [h1]; first | rfl | (simp; done)) | (simp [h1]; done), rfl⟩
/-- Where an entry's bytes lie. -/
def lentS (s : MS) (P : PI) (k : Nat) (caller d : Int) (ref : Nat) (off : Int) (wr : Bool) (n : Int) : (Int × Int) × Int :=
  if permE (ent s k ref) caller ≠ 0 then ((0, 0), permE (ent s k ref) caller)
  else if (frameR s P.size P.fr d (entG (ent s k ref)).gp).2 ≠ 0 then ((0, 0), (frameR s P.size P.fr d (entG (ent s k ref)).gp).2)
  else if (wr && (entG (ent s k ref)).ro) = true then ((0, 0), 62)
  else if inn off n (entG (ent s k ref)).le = false then ((0, 0), 63)
  else (((frameR s P.size P.fr d (entG (ent s k ref)).gp).1, (entG (ent s k ref)).of + off), 0)
def lentR (s : MS) (f : Int → Option (Int × Nat)) (pi : Nat → PI) (caller d ref off : Int) (wr : Bool) (n : Int) : (Int × Int) × Int :=
  match f d with
  | none => ((0, 0), 1)
  | some x => if slotB ref = false then ((0, 0), 1) else lentS s (pi x.2) x.1.toNat caller d ref.toNat off wr n
/-- How many reads it takes. -/
def lentN (f : Int → Option (Int × Nat)) (d ref : Int) : Nat := if (f d).isSome && slotB ref then 1 else 0
set_option maxHeartbeats 8000000 in
set_option maxRecDepth 100000 in
theorem lent_in (h : GW w gb mm hm mb fb s f c pi) (hV : V2 w vb db mb r) (hr : 0 ≤ r) (d : Int) (x : Int × Nat) (hd : f d = some x) (ref : Nat) (h32 : ref < 32) (caller off n : Int) (wr : Bool) :
    Calls Try.prog 111 #[.agg #[.int .i64 d, .int .i64 ref, .int .i64 off, .bool wr], .pointer (some ⟨gb, 0, none⟩), .pointer (some ⟨vb, 0, none⟩), .int .i64 caller, .int .i64 n] w fun e w' =>
      e = .returned (.tuple #[.agg #[.int .i64 (lentS s (pi x.2) x.1.toNat caller d ref off wr n).1.1, .int .i64 (lentS s (pi x.2) x.1.toNat caller d ref off wr n).1.2], .int .i64 (lentS s (pi x.2) x.1.toNat caller d ref off wr n).2]) ∧ Vw vb db mb w w' (r + 1) := by
  obtain ⟨⟨d0, d8⟩, k, hk1, hk⟩ := h.d d x hd
  obtain ⟨x1, pb⟩ := x
  simp only at hk1
  subst hk1
  simp only [Int.toNat_natCast]
  have hj := fun W hW => joined_any (h.g.below (w' := W) hW) d ⟨by omega, by omega⟩
  have hp := fun W hW => permit_any (h.g.below (w' := W) hW) (h.m.below hW) (hV.below hW) hr d d0 d8 k pb hd hk ref h32 caller
  have hfr := fun W (hW : Vw vb db mb w W (r + 1)) => GfA.frame_calls (h.vw hV hW).g (h.vw hV hW).m ((h.vw hV hW).p d _ hd).1 ((h.vw hV hW).p d _ hd).2 d d0 d8 k hd (entG (ent s k ref)).gp
  have hsl : slotB (ref : Int) = true := by unfold slotB; simp; omega
  have hs := slot_any ref
  rw [hsl] at hs
  obtain ⟨o0, l0, ol⟩ := ent_of s k ref
  have hw := within_calls off n (entG (ent s k ref)).le l0 (by omega)
  obtain ⟨R, hR⟩ : ∃ R, R = lentS s (pi pb) k caller d ref off wr n := ⟨_, rfl⟩
  rw [← hR]
  unfold lentS at hR
  simp only at hfr
  generalize frameR s (pi pb).size (pi pb).fr d (entG (ent s k ref)).gp = q at hfr hR
  generalize permE (ent s k ref) caller = pe at hp hR
  generalize entG (ent s k ref) = g at hp hfr hR hw o0 l0 ol
  unfold aggv at hp
  rw [hd] at hj
  simp only [Option.isSome_some] at hj
  have hVlt := blk_lt hV.blk
  have hDlt := hV.due.lt
  have hb2 : Below w.heap.size w ((w.alloc (.cells #[.int .i64 d, .int .i64 ref, .int .i64 off, .bool wr] 171)).alloc (.cells #[.int .i64 0, .int .i64 0] 123)) := below_alloc (below_alloc (Below.refl _ _) _) _
  have hx1 := blk_alloc (blk_new w (.cells #[.int .i64 d, .int .i64 ref, .int .i64 off, .bool wr] 171)) (.cells #[.int .i64 0, .int .i64 0] 123)
  have hx2 := blk_new (w.alloc (.cells #[.int .i64 d, .int .i64 ref, .int .i64 off, .bool wr] 171)) (.cells #[.int .i64 0, .int .i64 0] 123)
  rw [World.size_alloc] at hx2
  have nv1 : w.heap.size ≠ vb := by omega
  have nv2 : w.heap.size + 1 ≠ vb := by omega
  have hj1 := hj _ hb2
  have HR := Base.Aside.mk hR
  have HB := Base.Aside.mk hb2
  have HP := hp
  clear h hV hR hj hb2 hp hsl
  have hin : (inn off n g.le = true ∧ 0 ≤ off ∧ off ≤ 256) ∨ inn off n g.le = false := by
    cases h5 : inn off n g.le with
    | false => exact .inr rfl
    | true =>
      refine .inl ⟨rfl, ?_⟩
      simp [inn] at h5
      omega
  have o3 : g.of ≤ 256 := by omega
  clear ol l0
  rcases hin with ⟨hi, o1, o2⟩ | hi
  all_goals
    have HI := Base.Aside.mk hi
    rw [hi] at hw
    clear hi
    go_enter Try.func111, Try.ntmps111
    go_wp2_with (first
      | (go_at_call 56; refine hj1.mono ?_; rintro z w1 ⟨rfl, hB1⟩; have hk1 := blk_below hx1 (blk_lt hx1) hB1; have hk2 := blk_below hx2 (blk_lt hx2) hB1; have hp2 := HP w1 (HB.out.trans (hB1.mono HB.out.size)); have C1 := fun i => blk_cell hk1 i; have L1 := blk_lt hk1; have D0 := fun i => blk_cell hk2 i; have G0 := fun i => blk_frozen hk2 i; have L2 := blk_lt hk2; have E1 := Base.Aside.mk (HB.out.trans (hB1.mono HB.out.size)); clear hB1)
      | (go_at_call 57; refine (hs _).mono ?_; rintro z w5 ⟨rfl, hw5⟩; obtain rfl := hw5.symm)
      | (go_at_call 64; refine (hw _).mono ?_; rintro z w6 ⟨rfl, hw6⟩; obtain rfl := hw6.symm)
      | (go_at_call 58; refine hp2.mono ?_; rintro z w2 ⟨rfl, hv2⟩; have hy1 := hv2.blk hk1 nv1; have hy2 := hv2.blk hk2 nv2; have D1 := fun i => blk_cell hy1 i; have D2 := fun i => blk_cell hy2 i; have G2 := fun i => blk_frozen hy2 i; have M1 := blk_lt hy1; have M2 := blk_lt hy2; have hv3 := Vw.pre E1.out hVlt hDlt hv2; have hfr2 := fun cs => hfr _ (hv3.alloc (.cells cs 53)); have E2 := Base.Aside.mk hv3; clear hv2 hv3)
      | (go_at_call 59; refine (hfr2 _).mono ?_; rintro z w3 ⟨rfl, hB3⟩; have z1 := blk_below (blk_alloc hy1 _) (blk_lt (blk_alloc hy1 _)) hB3; have z2 := blk_below (blk_alloc hy2 _) (blk_lt (blk_alloc hy2 _)) hB3; have z3 := blk_below (blk_new w2 _) (blk_lt (blk_new w2 _)) hB3; have K1 := fun i => blk_cell z1 i; have K2 := fun i => blk_cell z2 i; have K3 := fun i => blk_cell z3 i; have Q2 := fun i => blk_frozen z2 i; have P1 := blk_lt z1; have P2 := blk_lt z2; have P3 := blk_lt z3; have E3 := Base.Aside.mk ((E2.out.alloc _).below hB3); clear hB3)
      | go_in)
    all_goals
      refine bodyPost_ret (v := .tuple #[.agg #[.int .i64 R.1.1, .int .i64 R.1.2], .int .i64 R.2]) ?_ rfl ⟨rfl, ?_⟩
      · simp only [results, Try.results111]
        go_simp
        all_goals
          go_light
          have hr := HR.out
          have hi := HI.out
          clear HR HB HP HI
          simp_all
      · repeat (with_reducible first | exact E3.out | exact E2.out | refine Vw.alloc ?_ _ | (refine Vw.set ?_ ?_ _ _; rotate_left; omega))
end
end Go.Proofs.Ytjeobbhaoahdcaa.GfD
