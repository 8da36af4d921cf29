/- Proved: Copy, at every argument (a contract for the laws of the grants). -/
import Derived.Test.YtjeobbhaoahdcaaGfH
namespace Go.Proofs.Ytjeobbhaoahdcaa.GfI
open Go.RowKit Go.Maps Go.Proofs.Ytjeobbhaoahdcaa.Base Go.Proofs.Ytjeobbhaoahdcaa.GaA Go.Proofs.Ytjeobbhaoahdcaa.GaB Go.Proofs.Ytjeobbhaoahdcaa.GaC Go.Proofs.Ytjeobbhaoahdcaa.GmA Go.Proofs.Ytjeobbhaoahdcaa.GmB Go.Proofs.Ytjeobbhaoahdcaa.GpA Go.Proofs.Ytjeobbhaoahdcaa.GgA Go.Proofs.Ytjeobbhaoahdcaa.GeA Go.Proofs.Ytjeobbhaoahdcaa.GeB Go.Proofs.Ytjeobbhaoahdcaa.GfA Go.Proofs.Ytjeobbhaoahdcaa.GfB Go.Proofs.Ytjeobbhaoahdcaa.GfC Go.Proofs.Ytjeobbhaoahdcaa.GfD Go.Proofs.Ytjeobbhaoahdcaa.GfE Go.Proofs.Ytjeobbhaoahdcaa.GfF Go.Proofs.Ytjeobbhaoahdcaa.GfG Go.Proofs.Ytjeobbhaoahdcaa.GfH Go.Proofs.Ytjeobbhaoahdcaa.GvA
set_option linter.unusedVariables false
set_option linter.unusedSimpArgs false

/-- What Copy comes to: its answer, the machine behind it, and how many reads there were. -/
def copyR (s : MS) (f : Int → Option (Int × Nat)) (pi : Nat → PI) (caller : Int) (t u : En) (n : Int) (r : Nat) : Int × MS × Nat :=
  if (findR s f pi caller t n false).2 ≠ 0 then ((findR s f pi caller t n false).2, s, pullN (findR s f pi caller t n false) (r + findN f caller t n))
  else if ¬ inR s (findR s f pi caller t n false).1.1 (findR s f pi caller t n false).1.2 n then (1, s, pullN (findR s f pi caller t n false) (r + findN f caller t n))
  else (pushE s (findR s f pi caller u n true) n.toNat, pushS s (findR s f pi caller u n true) (MS.rd s (findR s f pi caller t n false).1.1.toNat (findR s f pi caller t n false).1.2.toNat n.toNat), pullN (findR s f pi caller t n false) (r + findN f caller t n) + findN f caller u n)
section
variable {w w' W : World} {gb mm hm mb fb : Nat} {f : Int → Option (Int × Nat)} {c : Nat} {s : MS} {pi : Nat → PI} {vb db r r' : Nat}
def CopyOut (w : World) (gb mm hm mb fb : Nat) (f : Int → Option (Int × Nat)) (c : Nat) (pi : Nat → PI) (R : Int × MS × Nat) (vb db : Nat) (e : Ending) (w' : World) : Prop :=
  e = .returned (.int .i64 R.1) ∧ GW w' gb mm hm mb fb R.2.1 f c pi ∧ V2 w' vb db mb R.2.2 ∧ Chg (fun x => x = vb ∨ x = fb) w w'
theorem box2 (w : World) (t u : En) : Below w.heap.size w ((w.alloc (.cells #[.bool t.gr, .int .i64 t.dom, .int .i64 t.ref, .int .i64 t.gpfn, .int .i64 t.off] 24)).alloc (.cells #[.bool u.gr, .int .i64 u.dom, .int .i64 u.ref, .int .i64 u.gpfn, .int .i64 u.off] 24)) := below_alloc (below_alloc (Below.refl _ _) _) _
theorem pullN_le (q : (Int × Int) × Int) (r : Nat) : pullN q r ≤ r + 1 := by unfold pullN; split <;> omega
set_option maxHeartbeats 8000000 in
set_option maxRecDepth 100000 in
theorem copy_any (h : GW w gb mm hm mb fb s f c pi) (hV : V2 w vb db mb r) (hr : 0 ≤ r) (caller n : Int) (t u : En) (hd : okI t.dom) (hu : okI u.dom) :
    Calls Try.prog 11 #[.pointer (some ⟨gb, 0, none⟩), .pointer (some ⟨vb, 0, none⟩), .int .i64 caller, .agg #[.bool t.gr, .int .i64 t.dom, .int .i64 t.ref, .int .i64 t.gpfn, .int .i64 t.off], .agg #[.bool u.gr, .int .i64 u.dom, .int .i64 u.ref, .int .i64 u.gpfn, .int .i64 u.off], .int .i64 n] w (CopyOut w gb mm hm mb fb f c pi (copyR s f pi caller t u n r) vb db) := by
  have hVlt := blk_lt hV.blk
  have hDlt := hV.due.lt
  have hb2 := box2 w t u
  have hx1 := blk_alloc (blk_new w (.cells #[.bool t.gr, .int .i64 t.dom, .int .i64 t.ref, .int .i64 t.gpfn, .int .i64 t.off] 24)) (.cells #[.bool u.gr, .int .i64 u.dom, .int .i64 u.ref, .int .i64 u.gpfn, .int .i64 u.off] 24)
  have hx2 := blk_new (w.alloc (.cells #[.bool t.gr, .int .i64 t.dom, .int .i64 t.ref, .int .i64 t.gpfn, .int .i64 t.off] 24)) (.cells #[.bool u.gr, .int .i64 u.dom, .int .i64 u.ref, .int .i64 u.gpfn, .int .i64 u.off] 24)
  rw [World.size_alloc] at hx2
  have hp1 := pull_any (h.below hb2) (hV.below hb2) (by omega) caller n t hd
  unfold PullOut at hp1
  have hr1 := pullN_le (findR s f pi caller t n false) (r + findN f caller t n)
  have hr2 := findN_le f caller t n
  obtain ⟨R, hR⟩ : ∃ R, R = copyR s f pi caller t u n r := ⟨_, rfl⟩
  rw [← hR]
  unfold copyR at hR
  generalize findR s f pi caller t n false = q at hp1 hR hr1
  generalize pullN q (r + findN f caller t n) = r1 at hp1 hR hr1
  have HV := fun W (hW : Vw vb db mb w W r1) => h.vw hV hW
  have HB := Base.Aside.mk hb2
  have nv : w.heap.size ≠ vb ∧ w.heap.size + 1 ≠ vb := by omega
  have HX := Base.Aside.mk (And.intro hx1 hx2)
  by_cases hok : q.2 = 0 ∧ inR s q.1.1 q.1.2 n
  · have hR3 : R = (pushE s (findR s f pi caller u n true) n.toNat, pushS s (findR s f pi caller u n true) (MS.rd s q.1.1.toNat q.1.2.toNat n.toNat), r1 + findN f caller u n) := by
      rw [hR, if_neg (by simp [hok.1]), if_neg (by simp [hok.2])]
    generalize hzs : MS.rd s q.1.1.toNat q.1.2.toNat n.toNat = zs at hR3
    have hzl : zs.length = n.toNat := by rw [← hzs, rd_len]
    have hin := hok.2
    unfold inR at hin
    have hzl2 : (zs.length : Int) = n := by omega
    have hp2 := hp1.mono (R' := fun e w' => ∃ N, e = .returned (.tuple #[.slice (some ⟨N, 0, none⟩) zs.length zs.length, .int .i64 0]) ∧ w'.heap[N]? = some (.cells (u8s zs).toArray 5 (0, 0)) ∧ Vw vb db mb ((w.alloc (.cells #[.bool t.gr, .int .i64 t.dom, .int .i64 t.ref, .int .i64 t.gpfn, .int .i64 t.off] 24)).alloc (.cells #[.bool u.gr, .int .i64 u.dom, .int .i64 u.ref, .int .i64 u.gpfn, .int .i64 u.off] 24)) w' r1) (by
      rintro e w' ⟨A, l, er, he, hpo, hv⟩
      rcases hpo with ⟨h1, _⟩ | ⟨_, N, _, hrd⟩
      · exact absurd hok.1 h1
      · rcases hrd.res with ⟨_, rfl, rfl, rfl, hb⟩ | ⟨h2, _⟩
        · exact ⟨N, by rw [he, hzl], by rw [← hzs]; exact hb, hv⟩
        · exact absurd hok.2 h2)
    have hps := fun W (hW : Vw vb db mb w W r1) (A : Option Addr) (hz : Bytes W A zs) => push_any (h.vw hV hW) hW.v (by omega) caller u hu A zs.length zs hz (by omega)
    rw [hzl2, hzl] at hps
    rw [hzl] at hp2
    have HR := Base.Aside.mk (And.intro hR3 hzl)
    clear h hV hb2 hR HV hx1 hx2 hp1 hR3 hok hzs hin
    go_enter Try.func11, Try.ntmps11
    go_wp2_with (first
      | (go_at_call 19; refine hp2.mono ?_; rintro z w1 ⟨N, rfl, hbk, hv1⟩; have hv2 := Vw.pre HB.out hVlt hDlt hv1; have hx3 := hv1.blk HX.out.2 nv.2; have C1 := (fun i => blk_cell hx3 i); have L1 := blk_lt hx3; have hpp := hps _ hv2 (some ⟨N, 0, none⟩) (.inr ⟨_, rfl, Holds.of_block hbk⟩); have E1 := Base.Aside.mk hv2; clear hv1 hv2 hbk hx3)
      | (go_at_call 20; refine hpp.mono ?_; rintro z w2 ⟨rfl, hg2, hv2, hc2⟩; have E2 := Base.Aside.mk (And.intro hg2 (And.intro hv2 hc2)); clear hg2 hv2 hc2)
      | go_in)
    go_ret
    rw [HR.out.1]
    exact ⟨by simp only [HR.out.2]; first | rfl | (simp; done), E2.out.1, E2.out.2.1, (E1.out.c.mono fun k hk => .inl hk).trans E2.out.2.2⟩
  · obtain ⟨er, hp2, hR3, h0⟩ : ∃ er : Int, (Calls Try.prog 19 #[.pointer (some ⟨gb, 0, none⟩), .pointer (some ⟨vb, 0, none⟩), .int .i64 caller, .agg #[.bool t.gr, .int .i64 t.dom, .int .i64 t.ref, .int .i64 t.gpfn, .int .i64 t.off], .int .i64 n] ((w.alloc (.cells #[.bool t.gr, .int .i64 t.dom, .int .i64 t.ref, .int .i64 t.gpfn, .int .i64 t.off] 24)).alloc (.cells #[.bool u.gr, .int .i64 u.dom, .int .i64 u.ref, .int .i64 u.gpfn, .int .i64 u.off] 24)) fun e w' => e = .returned (.tuple #[.slice none 0 0, .int .i64 er]) ∧ Vw vb db mb ((w.alloc (.cells #[.bool t.gr, .int .i64 t.dom, .int .i64 t.ref, .int .i64 t.gpfn, .int .i64 t.off] 24)).alloc (.cells #[.bool u.gr, .int .i64 u.dom, .int .i64 u.ref, .int .i64 u.gpfn, .int .i64 u.off] 24)) w' r1) ∧ R = (er, s, r1) ∧ er ≠ 0 := by
      by_cases hq : q.2 = 0
      · have hn : ¬ inR s q.1.1 q.1.2 n := fun h => hok ⟨hq, h⟩
        refine ⟨1, hp1.mono ?_, by rw [hR, if_neg (by simp [hq]), if_pos hn], by decide⟩
        rintro e w' ⟨A, l, er, he, hpo, hv⟩
        rcases hpo with ⟨h1, _⟩ | ⟨_, N, _, hrd⟩
        · exact absurd hq h1
        · rcases hrd.res with ⟨h2, _⟩ | ⟨h2, rfl, rfl, rfl⟩
          · exact absurd h2 hn
          · exact ⟨he, hv⟩
      · refine ⟨q.2, hp1.mono ?_, by rw [hR, if_pos hq], hq⟩
        rintro e w' ⟨A, l, er, he, hpo, hv⟩
        rcases hpo with ⟨h1, rfl, rfl, rfl⟩ | ⟨h1, _⟩
        · exact ⟨he, hv⟩
        · exact absurd h1 hq
    have hb1 : (er != 0) = true := by simp [h0]
    have HR := Base.Aside.mk (And.intro hR3 HV)
    clear h hV hb2 hR HV hx1 hx2 hp1 hR3 hok h0
    go_enter Try.func11, Try.ntmps11
    go_wp2_with (first
      | (go_at_call 19; refine hp2.mono ?_; rintro z w1 ⟨rfl, hv1⟩; have hv2 := Vw.pre HB.out hVlt hDlt hv1; have E1 := Base.Aside.mk hv2; clear hv1 hv2)
      | go_in)
    go_ret
    rw [HR.out.1]
    exact ⟨by first | rfl | (simp; done), HR.out.2 _ E1.out, E1.out.v, E1.out.c.mono fun k hk => .inl hk⟩
end
end Go.Proofs.Ytjeobbhaoahdcaa.GfI
