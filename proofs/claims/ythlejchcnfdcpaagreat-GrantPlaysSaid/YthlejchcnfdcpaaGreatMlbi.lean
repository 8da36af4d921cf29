/- Proved: Transfer answers the same on both sides (the plain law of the grants). -/
import Derived.Test.YthlejchcnfdcpaaGreatMlbe
import Derived.Test.YthlejchcnfdcpaaGreatMlbf
namespace Go.Proofs.YthlejchcnfdcpaaGreat.GzJ
open Go.RowKit Go.Maps Base GaA GaB GaC GaD GmA GmB GmC GpA GgA GeA GeB GfA GfB GfC GfD GjA GjB GjC GjE GjK GwA GwB GwE GwF GwJ GwO GwQ RpA RmA RmB RgA GxA GxC GxD GyA GyB GyE GyN GbA GzA GzB GzC GzD GwR GwS GwT GyR GyS GyT GzE GzG
set_option linter.unusedVariables false
set_option linter.unusedSimpArgs false

theorem cntO_put {fr : Int → Option Int} {g : Nat} (hg : g < 8) (h : fr g = none) (m : Int) : cntO (iput fr g m) = cntO fr + 1 :=
  cp_more (fun i : Nat => (fr i).isSome) (fun i : Nat => (iput fr g m i).isSome) g (by simp [h]) (by simp [iput]) (fun i hi => by simp only [iput]; rw [if_neg (by omega)]) 8 hg
theorem cntO_del {fr : Int → Option Int} {g : Nat} (hg : g < 8) (m : Int) (h : fr g = some m) : cntO fr = cntO (idel fr g) + 1 :=
  cp_more (fun i : Nat => (idel fr g i).isSome) (fun i : Nat => (fr i).isSome) g (by simp [idel]) (by simp [h]) (fun i hi => by simp only [idel]; rw [if_neg (by omega)]) 8 hg
theorem setE_zero {size : Nat} {fr pl : Int → Option Int} {g m : Int} (h : setE size fr pl g m = 0) : (0 ≤ g ∧ g < size) ∧ fr g = none ∧ pl m = none := by
  unfold setE at h
  by_cases q1 : ¬ (0 ≤ g ∧ g < size)
  · rw [if_pos q1] at h; cases h
  · rw [if_neg q1] at h
    by_cases q2 : ¬ (0 ≤ m ∧ m < 256)
    · rw [if_pos q2] at h; cases h
    · rw [if_neg q2] at h
      refine ⟨by omega, ?_⟩
      cases q3 : fr g with
      | some z => rw [q3] at h; simp at h
      | none =>
        rw [q3] at h
        cases q4 : pl m with
        | some z => rw [q4] at h; simp at h
        | none => exact ⟨rfl, rfl⟩
/-- The places behind a Transfer. -/
def piT (pi : Nat → PI) (xb pb : Nat) (gp g5 m : Int) : Nat → PI := fun b =>
  if b = pb then { pi b with fr := iput (pi b).fr g5 m, pl := iput (pi b).pl m g5, c := (pi b).c + 1 }
  else if b = xb then { pi b with fr := idel (pi b).fr gp, pl := idel (pi b).pl m, c := (pi b).c - 1 }
  else pi b
section
variable {w0 W W' : World} {a : BX} {P Q : Value} {σ τ σ' τ' : SS} {v : VP} {rp rd : Nat}
def trN (σ : SS) (s1 : MS) (m : Nat) (e : Int) (xb pb : Nat) (gp g5 : Int) : SS := { σ with s := give s1 m e, pi := piT σ.pi xb pb gp g5 m }
theorem pu_tr {B : Nat} (hs : St B a) (h : Pu a σ) {s1 : MS} (hn : s1.n = σ.s.n) (hf : s1.fr = σ.s.fr) (m : Nat) (e : Int) (i j : Nat) (hi : i < 3) (hj : j < 3) (gp g5 : Int) (hse : setE (σ.pi (a.pb j)).size (σ.pi (a.pb j)).fr (σ.pi (a.pb j)).pl g5 m = 0) (hfm : (σ.pi (a.pb i)).fr gp = some (m : Int)) (hij : a.pb i ≠ a.pb j) :
    Pu a (trN σ s1 m e (a.pb i) (a.pb j) gp g5) := by
  have hpj := h.pi j hj
  have hpi := h.pi i hi
  obtain ⟨z1, z2, z3⟩ := setE_zero hse
  rw [hpj.e.2.2] at z1 hse
  have hgp := (hpi.pos.le gp m hfm).1
  refine ⟨hn.trans h.n, h.mem, h.lk, h.maps, h.len, fun k hk => ?_, fun l hl => ?_, h.cm⟩
  · refine FrOk.same (h.fr k hk) rfl rfl ?_
    show ((give s1 m e).fr k).typ = _ ∧ ((give s1 m e).fr k).cnt = _ ∧ ((give s1 m e).fr k).tot = _
    have : ((give s1 m e).fr k).typ = (s1.fr k).typ ∧ ((give s1 m e).fr k).cnt = (s1.fr k).cnt ∧ ((give s1 m e).fr k).tot = (s1.fr k).tot := by
      unfold give MS.put1
      simp only
      by_cases q : k = m
      · subst q; rw [if_pos rfl]; exact ⟨rfl, rfl, rfl⟩
      · rw [if_neg q]; exact ⟨rfl, rfl, rfl⟩
    rw [← hf]
    exact this
  · have hpl := h.pi l hl
    have hx : (trN σ s1 m e (a.pb i) (a.pb j) gp g5).pi (a.pb l) = piT σ.pi (a.pb i) (a.pb j) gp g5 m (a.pb l) := rfl
    by_cases q1 : a.pb l = a.pb j
    · have hy : piT σ.pi (a.pb i) (a.pb j) gp g5 m (a.pb l) = { σ.pi (a.pb l) with fr := iput (σ.pi (a.pb l)).fr g5 m, pl := iput (σ.pi (a.pb l)).pl m g5, c := (σ.pi (a.pb l)).c + 1 } := if_pos q1
      obtain rfl : l = j := hs.inj l j hl hj q1
      obtain ⟨g, rfl⟩ : ∃ g : Nat, g5 = g := ⟨g5.toNat, by omega⟩
      refine ⟨?_, ?_, ?_⟩ <;> rw [hx, hy]
      · exact hpl.e
      · exact hpl.pos.put g m hse
      · show (σ.pi (a.pb l)).c + 1 ≤ cntO (iput (σ.pi (a.pb l)).fr g m)
        rw [cntO_put (by omega) z2]
        have := hpl.c
        omega
    · by_cases q2 : a.pb l = a.pb i
      · have hy : piT σ.pi (a.pb i) (a.pb j) gp g5 m (a.pb l) = { σ.pi (a.pb l) with fr := idel (σ.pi (a.pb l)).fr gp, pl := idel (σ.pi (a.pb l)).pl m, c := (σ.pi (a.pb l)).c - 1 } := by
          unfold piT
          rw [if_neg q1, if_pos q2]
        obtain rfl : l = i := hs.inj l i hl hi q2
        obtain ⟨g, rfl⟩ : ∃ g : Nat, gp = g := ⟨gp.toNat, by omega⟩
        refine ⟨?_, ?_, ?_⟩ <;> rw [hx, hy]
        · exact hpl.e
        · exact hpl.pos.del g m hfm
        · show (σ.pi (a.pb l)).c - 1 ≤ cntO (idel (σ.pi (a.pb l)).fr g)
          have := cntO_del (by omega) m hfm
          have := hpl.c
          omega
      · have hy : piT σ.pi (a.pb i) (a.pb j) gp g5 m (a.pb l) = σ.pi (a.pb l) := by
          unfold piT
          rw [if_neg q1, if_neg q2]
        refine ⟨?_, ?_, ?_⟩ <;> rw [hx, hy]
        · exact hpl.e
        · exact hpl.pos
        · exact hpl.c
theorem getV_zero {size : Nat} {fr : Int → Option Int} {g : Int} (h : (getV size fr g).2 = 0) : (0 ≤ g ∧ g < size) ∧ fr g = some (getV size fr g).1 := by
  unfold getV at h ⊢
  by_cases q : 0 ≤ g ∧ g < size
  · simp only [q, and_self, if_true] at h ⊢
    cases e : fr g with
    | none => rw [e] at h; simp at h
    | some m => exact ⟨trivial, rfl⟩
  · simp [q] at h
/-- The program's side behind Transfer. -/
theorem tr_p (hs : St w0.heap.size a) (hp : Pu a σ) (h : JV w0 W a P Q σ τ v 0 0) {s1 : MS} {m : Nat} {e gp g5 : Int} {i j : Nat} (hi : i < 3) (hj : j < 3) (hij : a.pb i ≠ a.pb j) {z : Ending}
    (k : TrOut W (vaOf a v) s1 σ.pi (a.pb i) gp (a.pb j) g5 m e (0 + 1) z W') : z = .returned (.int .i64 0) ∧ JV w0 W' a P Q (trN σ s1 m e (a.pb i) (a.pb j) gp g5) τ v 1 0 := by
  obtain ⟨k1, k2, k3, k4, k5, k6⟩ := k
  obtain ⟨pe1, pe2, pe3⟩ := (hp.pi j hj).e
  obtain ⟨xe1, xe2, xe3⟩ := (hp.pi i hi).e
  rw [pe1, pe2, pe3] at k4
  rw [xe1, xe2, xe3] at k5
  rw [pe1, pe2, xe1, xe2] at k6
  have hc : Chg (fun k => k = v.vb ∨ k = a.fb ∨ k = a.fm j ∨ k = a.pm j ∨ k = a.fm i ∨ k = a.pm i) W W' := k6
  have tv := ty_cells h.b
  have tf := h.j.p.tfb
  have tm : ∀ l, l < 3 → tyAt W (a.fm l) = none ∧ tyAt W (a.pm l) = none := fun l hl => ⟨ty_imap (h.j.p.p l hl).mf, ty_imap (h.j.p.p l hl).mp⟩
  have hG : ∀ x, (x = v.vb ∨ x = a.fb ∨ x = a.fm j ∨ x = a.pm j ∨ x = a.fm i ∨ x = a.pm i) → tyAt W x ∈ progKinds := by
    rintro x (rfl | rfl | rfl | rfl | rfl | rfl)
    · rw [tv]; decide
    · rw [tf]; decide
    · rw [(tm j hj).1]; decide
    · rw [(tm j hj).2]; decide
    · rw [(tm i hi).1]; decide
    · rw [(tm i hi).2]; decide
  have kc : ∀ {g : Nat} {cs : Array Value} {u : TypeId}, W.heap[g]? = some (.cells cs u (0, 0)) → some u ∉ progKinds → ¬ (g = v.vb ∨ g = a.fb ∨ g = a.fm j ∨ g = a.pm j ∨ g = a.fm i ∨ g = a.pm i) := fun hg hu hx => hu (by have := hG _ hx; rwa [ty_cells hg] at this)
  have km : ∀ {g : Nat}, tyAt W g = none → g ≠ a.fm j → g ≠ a.pm j → g ≠ a.fm i → g ≠ a.pm i → ¬ (g = v.vb ∨ g = a.fb ∨ g = a.fm j ∨ g = a.pm j ∨ g = a.fm i ∨ g = a.pm i) := by
    rintro g hg n1 n2 n3 n4 (rfl | rfl | e | e | e | e)
    · rw [tv] at hg; cases hg
    · rw [tf] at hg; cases hg
    · exact n1 e
    · exact n2 e
    · exact n3 e
    · exact n4 e
  have hm := h.j.p.tmm
  have hh := h.j.p.thm
  have nj := hs.ne j hj
  have ni := hs.ne i hi
  refine ⟨k1, h.prog (σ' := trN σ s1 m e (a.pb i) (a.pb j) gp g5) ⟨k2, h.j.p.g.chg hc (kc h.j.p.g.blk (by decide)) (km hm nj.1 nj.2.1 ni.1 ni.2.1), h.j.p.k.chg hc (km hh nj.2.2.1 nj.2.2.2 ni.2.2.1 ni.2.2.2), fun l hl => ?_⟩ k3.blk hc (fun x hx _ => hG x hx) ?_⟩
  · show P2 W' (a.pb l) (a.fm l) (a.pm l) 8 (piT σ.pi (a.pb i) (a.pb j) gp g5 m (a.pb l)).fr (piT σ.pi (a.pb i) (a.pb j) gp g5 m (a.pb l)).pl (piT σ.pi (a.pb i) (a.pb j) gp g5 m (a.pb l)).c
    by_cases q1 : a.pb l = a.pb j
    · obtain rfl : l = j := hs.inj l j hl hj q1
      have hy : piT σ.pi (a.pb i) (a.pb l) gp g5 m (a.pb l) = { σ.pi (a.pb l) with fr := iput (σ.pi (a.pb l)).fr g5 m, pl := iput (σ.pi (a.pb l)).pl m g5, c := (σ.pi (a.pb l)).c + 1 } := if_pos rfl
      rw [hy]
      exact k4
    · by_cases q2 : a.pb l = a.pb i
      · obtain rfl : l = i := hs.inj l i hl hi q2
        have hy : piT σ.pi (a.pb l) (a.pb j) gp g5 m (a.pb l) = { σ.pi (a.pb l) with fr := idel (σ.pi (a.pb l)).fr gp, pl := idel (σ.pi (a.pb l)).pl m, c := (σ.pi (a.pb l)).c - 1 } := by
          unfold piT
          rw [if_neg q1, if_pos rfl]
        rw [hy]
        exact k5
      · have hy : piT σ.pi (a.pb i) (a.pb j) gp g5 m (a.pb l) = σ.pi (a.pb l) := by
          unfold piT
          rw [if_neg q1, if_neg q2]
        rw [hy]
        have sj := hs.sep.ne l j hl hj (fun e => q1 (by rw [e]))
        have si := hs.sep.ne l i hl hi (fun e => q2 (by rw [e]))
        have sj' := hs.sep.ne j l hj hl (fun e => q1 (by rw [e]))
        have si' := hs.sep.ne i l hi hl (fun e => q2 (by rw [e]))
        have hpl := h.j.p.p l hl
        exact hpl.chg hc (kc hpl.blk (by decide)) (km (tm l hl).1 sj.2.2.1 sj.2.2.2.1 si.2.2.1 si.2.2.2.1) (km (tm l hl).2 (fun e => sj'.2.2.2.1 e.symm) sj.2.2.2.2 (fun e => si'.2.2.2.1 e.symm) si.2.2.2.2)
  · rintro x (rfl | rfl | rfl | rfl | rfl | rfl)
    · have := h.lo; omega
    · exact hs.ge.2.1
    · exact (hs.sep.ge j hj).1
    · exact (hs.sep.ge j hj).2.1
    · exact (hs.sep.ge i hi).1
    · exact (hs.sep.ge i hi).2.1
/-- The document's side behind Transfer. -/
theorem tr_d (hs : St w0.heap.size a) (hp : Pu a τ) (h : JV w0 W a P Q σ τ v rp 0) {s1 : MS} (hn : s1.n = τ.s.n) {m : Nat} {e gp g5 : Int} {i j : Nat} (hi : i < 3) (hj : j < 3) (hij : a.pb i ≠ a.pb j) {z : Ending}
    (k : RtOut W (daOf a) (dvOf v) (give s1 m e) τ.pi (qqOf a) (a.pb i) gp (a.pb j) g5 m (0 + 1) z W') : z = .returned (.int .i64 0) ∧ JV w0 W' a P Q σ (trN τ s1 m e (a.pb i) (a.pb j) gp g5) v rp 1 := by
  obtain ⟨k1, k2, k3, k4, k5, k6⟩ := k
  rw [qq_at hs j hj, (hp.pi j hj).e.2.2] at k4
  rw [qq_at hs i hi, (hp.pi i hi).e.2.2] at k5
  rw [qq_at hs j hj, qq_at hs i hi] at k6
  have hc : Chg (fun k => k = v.ub ∨ k ∈ a.bs ∨ k = a.Fb ∨ k = a.qr j ∨ k = a.qr i) W W' := k6
  obtain ⟨A, cap, hd, hob⟩ := h.j.d.d
  obtain ⟨t1, t2, t3, t4, t5⟩ := Jd.tk hd
  have tq : ∀ l, l < 3 → tyAt W (a.qr l) = some 3 := fun l hl => ty_row (h.j.d.q l hl).r.row rfl
  have hG : ∀ x, (x = v.ub ∨ x ∈ a.bs ∨ x = a.Fb ∨ x = a.qr j ∨ x = a.qr i) → tyAt W x = some 80 ∨ tyAt W x = some 5 ∨ tyAt W x = some 95 ∨ tyAt W x = some 3 := by
    rintro x (rfl | e | rfl | rfl | rfl)
    · exact .inl (ty_cells h.u)
    · exact .inr (.inl (t4 x e))
    · exact .inr (.inr (.inl t1))
    · exact .inr (.inr (.inr (tq j hj)))
    · exact .inr (.inr (.inr (tq i hi)))
  have kt : ∀ {g : Nat} {u : TypeId}, tyAt W g = some u → u ≠ 80 → u ≠ 5 → u ≠ 95 → u ≠ 3 → ¬ (g = v.ub ∨ g ∈ a.bs ∨ g = a.Fb ∨ g = a.qr j ∨ g = a.qr i) := fun hg n1 n2 n3 n4 hx => by
    rcases hG _ hx with q | q | q | q <;> rw [hg] at q <;> injection q with q
    · exact n1 q
    · exact n2 q
    · exact n3 q
    · exact n4 q
  have hq : ∀ l, l < 3 → Q3 W' (a.qb l) (a.qr l) (a.qc l) 8 (piT τ.pi (a.pb i) (a.pb j) gp g5 m (a.pb l)).fr (piT τ.pi (a.pb i) (a.pb j) gp g5 m (a.pb l)).pl := by
    intro l hl
    by_cases q1 : a.pb l = a.pb j
    · obtain rfl : l = j := hs.inj l j hl hj q1
      have hy : piT τ.pi (a.pb i) (a.pb l) gp g5 m (a.pb l) = { τ.pi (a.pb l) with fr := iput (τ.pi (a.pb l)).fr g5 m, pl := iput (τ.pi (a.pb l)).pl m g5, c := (τ.pi (a.pb l)).c + 1 } := if_pos rfl
      rw [hy]
      exact k4
    · by_cases q2 : a.pb l = a.pb i
      · obtain rfl : l = i := hs.inj l i hl hi q2
        have hy : piT τ.pi (a.pb l) (a.pb j) gp g5 m (a.pb l) = { τ.pi (a.pb l) with fr := idel (τ.pi (a.pb l)).fr gp, pl := idel (τ.pi (a.pb l)).pl m, c := (τ.pi (a.pb l)).c - 1 } := by
          unfold piT
          rw [if_neg q1, if_pos rfl]
        rw [hy]
        exact k5
      · have hy : piT τ.pi (a.pb i) (a.pb j) gp g5 m (a.pb l) = τ.pi (a.pb l) := by
          unfold piT
          rw [if_neg q1, if_neg q2]
        rw [hy]
        have sj := hs.sep.ne l j hl hj (fun e => q1 (by rw [e]))
        have si := hs.sep.ne l i hl hi (fun e => q2 (by rw [e]))
        have hql := h.j.d.q l hl
        refine hql.chg hc (kt (ty_cells hql.blk) (by decide) (by decide) (by decide) (by decide)) ?_
        rintro (e | e | e | e | e)
        · have := tq l hl; rw [e, ty_cells h.u] at this; exact absurd (Option.some.inj this) (by decide)
        · have := tq l hl; rw [t4 _ e] at this; exact absurd (Option.some.inj this) (by decide)
        · have := tq l hl; rw [e, t1] at this; exact absurd (Option.some.inj this) (by decide)
        · exact sj.2.1 e
        · exact si.2.1 e
  obtain ⟨cs, m1, m2⟩ := hd.mem
  have hm13 : (give s1 m e).n = τ.s.n := hn
  have hJd : Jd w0 W' a (trN τ s1 m e (a.pb i) (a.pb j) gp g5) := by
    refine ⟨⟨A, cap, ⟨hc.blk hd.blk (kt (ty_cells hd.blk) (by decide) (by decide) (by decide) (by decide)), ⟨cs, hc.blk m1 (kt (ty_cells m1) (by decide) (by decide) (by decide) (by decide)), m2⟩, row_chg hd.row hc (fun g hg => kt (t5 g hg) (by decide) (by decide) (by decide) (by decide)), k2, fun d x hx => ?_, fun d x hx => ?_, hd.few⟩, hob⟩, hq⟩
    · obtain ⟨_, ⟨l, hl, hxl⟩, _⟩ := hp.mem d x hx
      show Q3 W' (qqOf a x.2).1 (qqOf a x.2).2.1 (qqOf a x.2).2.2 (piT τ.pi (a.pb i) (a.pb j) gp g5 m x.2).size (piT τ.pi (a.pb i) (a.pb j) gp g5 m x.2).fr (piT τ.pi (a.pb i) (a.pb j) gp g5 m x.2).pl
      have hsz : (piT τ.pi (a.pb i) (a.pb j) gp g5 m x.2).size = (τ.pi x.2).size := by
        unfold piT
        split
        · rfl
        · split <;> rfl
      rw [hsz, hxl, qq_at hs l hl, (hp.pi l hl).e.2.2]
      exact hq l hl
    · have := hd.d d x hx
      show _ ∧ ∃ k : Nat, x.1 = k ∧ k < (give s1 m e).n
      rw [hm13]
      exact this
  refine ⟨k1, h.doc hJd k3 hc (fun x hx _ => ?_) (fun x hx _ => ?_)⟩
  · rcases hG x hx with q | q | q | q <;> (rw [q]; decide)
  · obtain ⟨g1, g2, g3, g4, g5, g6, g7⟩ := hs.ge
    rcases hx with rfl | e | rfl | rfl | rfl
    · exact h.lo.2.2.2.2.2.2
    · exact g7 x e
    · exact g5
    · exact (hs.sep.ge j hj).2.2
    · exact (hs.sep.ge i hi).2.2
theorem transfer_both (hs : St w0.heap.size a) (hp : Pu a σ) (d gp e ref : Int) (hd : okI d) (he : okI e) :
    Two (fun x _ => .int .i64 x) w0 a P Q σ v (fun W R => Calls Tryz.prog 84 #[.pointer (some ⟨a.gb, 0, none⟩), .pointer (some ⟨v.vb, 0, none⟩), .int .i64 d, .int .i64 gp, .int .i64 e, .int .i64 ref] W R)
      (fun W R => Calls Tryz.prog 85 #[.pointer (some ⟨a.hb, 0, none⟩), .pointer (some ⟨v.ub, 0, none⟩), .int .i64 d, .int .i64 gp, .int .i64 e, .int .i64 ref] W R) := by
  by_cases hb : σ.f d = none ∨ σ.f e = none ∨ d = e ∨ slotB ref = false
  · refine ⟨1, 0, σ, 0, hp, fun W h h3 => ?_, fun W h => ?_⟩
    · exact (transfer_arg (a := vaOf a v) (h.j.p.gw hp) (h.vms h3) d gp e ref hd he hb).mono fun z w' ⟨h1, h2⟩ => ⟨h1, h.below h2⟩
    · obtain ⟨A, cap, hdw, hob⟩ := h.j.d.d
      exact (rtransfer_arg hdw v.ub d gp e ref hb).mono fun z w' ⟨h1, h2⟩ => ⟨h1, by rw [h2]; exact h⟩
  obtain ⟨x, hx⟩ : ∃ x, σ.f d = some x := by
    cases q : σ.f d with
    | none => exact absurd (.inl q) hb
    | some x => exact ⟨x, rfl⟩
  obtain ⟨y, hy⟩ : ∃ y, σ.f e = some y := by
    cases q : σ.f e with
    | none => exact absurd (.inr (.inl q)) hb
    | some x => exact ⟨x, rfl⟩
  have hde : d ≠ e := fun q => hb (.inr (.inr (.inl q)))
  have hsl : slotB ref = true := by
    cases q : slotB ref with
    | false => exact absurd (.inr (.inr (.inr q))) hb
    | true => rfl
  obtain ⟨n, rfl⟩ : ∃ n : Nat, ref = n := ⟨ref.toNat, by unfold slotB at hsl; simp at hsl; omega⟩
  have h32 : n < 32 := by have := hsl; unfold slotB at this; simp at this; omega
  obtain ⟨hd8, ⟨i, hi, hxi⟩, kx, hkx, hkx13⟩ := hp.mem d x hx
  obtain ⟨he8, ⟨j, hj, hyj⟩, k, hk, hk13⟩ := hp.mem e y hy
  obtain ⟨x1, x2⟩ := x
  obtain ⟨y1, y2⟩ := y
  simp only at hxi hyj hk
  subst hxi
  subst hyj
  subst hk
  obtain ⟨dn, rfl⟩ : ∃ dn : Nat, d = dn := ⟨d.toNat, by omega⟩
  obtain ⟨en, rfl⟩ : ∃ en : Nat, e = en := ⟨e.toNat, by omega⟩
  by_cases hA : trA σ.s σ.f σ.pi dn gp en n ≠ 0
  · refine ⟨trA σ.s σ.f σ.pi dn gp en n, 0, σ, 0, hp, fun W h h3 => ?_, fun W h => ?_⟩
    · exact (transfer_a (a := vaOf a v) (h.j.p.gw hp) (h.vms h3) dn gp en n hd he _ _ hx hy hde hsl hA).mono fun z w' ⟨h1, h2⟩ => ⟨h1, h.below h2⟩
    · obtain ⟨A, cap, hdw, hob⟩ := h.j.d.d
      exact (rtransfer_a hdw v.ub dn en gp n _ _ hx hy (by omega) hsl hA).mono fun z w' ⟨h1, h2⟩ => ⟨h1, by rw [h2]; exact h⟩
  have hA0 : trA σ.s σ.f σ.pi dn gp en n = 0 := Decidable.byContradiction hA
  unfold trA at hA0
  rw [hx] at hA0
  simp only at hA0
  rw [if_neg (by rw [hy, hsl]; simp; omega)] at hA0
  have hq2 : (getV (σ.pi (a.pb i)).size (σ.pi (a.pb i)).fr gp).2 = 0 := by
    refine Decidable.byContradiction fun q => ?_
    rw [if_pos q] at hA0
    exact q hA0
  obtain ⟨hgp, hfm0⟩ := getV_zero hq2
  rw [if_neg (fun q => q hq2)] at hA0
  obtain ⟨q1, hq1⟩ : ∃ q1, q1 = (getV (σ.pi (a.pb i)).size (σ.pi (a.pb i)).fr gp).1 := ⟨_, rfl⟩
  rw [← hq1] at hA0 hfm0
  have hqq : getV (σ.pi (a.pb i)).size (σ.pi (a.pb i)).fr gp = (q1, 0) := by rw [hq1, ← hq2]
  have hv2 : (frV σ.s q1).2 = 0 ∧ (frV σ.s q1).1.own = dn := by
    refine Decidable.byContradiction fun q => ?_
    rw [if_pos (by by_cases q2 : (frV σ.s q1).2 = 0; exact .inr (fun q3 => q ⟨q2, q3⟩); exact .inl q2)] at hA0
    cases hA0
  rw [if_neg (by simp [hv2])] at hA0
  have htot : (frV σ.s q1).1.tot = 0 := by
    refine Decidable.byContradiction fun q => ?_
    rw [if_pos q] at hA0
    cases hA0
  have hin : 0 ≤ q1 ∧ q1 < σ.s.n := by
    refine Decidable.byContradiction fun q => ?_
    have := hv2.1
    unfold frV at this
    rw [if_neg q] at this
    cases this
  obtain ⟨m, rfl⟩ : ∃ m : Nat, q1 = m := ⟨q1.toNat, by omega⟩
  have hv : frV σ.s m = (σ.s.fr m, 0) := by unfold frV; rw [if_pos hin, Int.toNat_natCast]
  rw [hv] at hv2 htot
  have ho := hv2.2
  simp only at ho htot
  have hms : m < σ.s.n := by omega
  clear hA hA0 hb hq1 hv2
  obtain ⟨s1, hs1⟩ : ∃ s1, s1 = pokeS σ.s v.ps 0 := ⟨_, rfl⟩
  have hn1 : s1.n = σ.s.n := by rw [hs1, pokeS_n]
  have hf1 : s1.fr = σ.s.fr := by rw [hs1, pokeS_fr]
  obtain ⟨er, her⟩ : ∃ er, er = if entE (ent s1 k n) ≠ 0 ∨ (entG (ent s1 k n)).kd ≠ 2 ∨ (entG (ent s1 k n)).dom ≠ dn then 60 else setE (σ.pi (a.pb j)).size (σ.pi (a.pb j)).fr (σ.pi (a.pb j)).pl (entG (ent s1 k n)).gp m := ⟨_, rfl⟩
  have pv : pokeS σ.s (vaOf a v).ps 0 = s1 := hs1.symm
  have dv : pokeS σ.s (dvOf v).ps 0 = s1 := hs1.symm
  by_cases hne : er ≠ 0
  · refine ⟨er, 0, { σ with s := s1 }, 1, hp.mach hn1 hf1, fun W h h3 => ?_, fun W h => ?_⟩
    · have := transfer_b (a := vaOf a v) (h.j.p.gw hp) (h.vms h3) dn gp en n h32 hd _ k _ hx hy hde m hqq hv ho htot er (by rw [pv]; exact her) hne
      rw [pv] at this
      exact this.mono fun z w' ⟨h1, h2⟩ => ⟨h1, h.vm hp h2 hn1⟩
    · obtain ⟨A, cap, hdw, hob⟩ := h.j.d.d
      have := rtransfer_b (h.startD hdw) dn en gp n h32 _ k _ hx hy (by omega) m hqq hms ho htot er (by rw [dv]; exact her) hne
      rw [dv] at this
      exact this.mono fun z w' ⟨h1, h2⟩ => ⟨h1, h.dv hdw hob h2⟩
  · have hz : er = 0 := Decidable.byContradiction hne
    rw [hz] at her
    have hc3 : entE (ent s1 k n) = 0 ∧ (entG (ent s1 k n)).kd = 2 ∧ (entG (ent s1 k n)).dom = dn := by
      refine Decidable.byContradiction fun q => ?_
      rw [if_pos (by
        by_cases q1 : entE (ent s1 k n) = 0
        · by_cases q2 : (entG (ent s1 k n)).kd = 2
          · exact .inr (.inr fun q3 => q ⟨q1, q2, q3⟩)
          · exact .inr (.inl q2)
        · exact .inl q1)] at her
      cases her
    rw [if_neg (by simp [hc3])] at her
    have hse := her.symm
    have hij : a.pb i ≠ a.pb j := fun q => by
      have h1 := (setE_zero hse).2.2
      have h2 := (hp.pi i hi).pos.le gp m hfm0
      rw [← q, h2.2.2] at h1
      cases h1
    have hne2 : i ≠ j := fun q => hij (by rw [q])
    have hpu := pu_tr hs hp hn1 hf1 m en i j hi hj gp _ hse hfm0 hij
    refine ⟨0, 0, trN σ s1 m en (a.pb i) (a.pb j) gp (entG (ent s1 k n)).gp, 1, hpu, fun W h h3 => ?_, fun W h => ?_⟩
    · obtain ⟨pe1, pe2, pe3⟩ := (hp.pi j hj).e
      obtain ⟨xe1, xe2, xe3⟩ := (hp.pi i hi).e
      have sij := hs.sep.ne i j hi hj hne2
      have sji := hs.sep.ne j i hj hi (fun q => hne2 q.symm)
      have := transfer_ok (a := vaOf a v) (h.j.p.gw hp) (h.vms h3) dn gp en n h32 hd x1 _ k _ hx hy hde m hqq hv ho htot (by rw [pv]; exact hc3.1) (by rw [pv]; exact hc3.2.1) (by rw [pv]; exact hc3.2.2) (by rw [pv]; exact hse) hms hgp hfm0 (by rw [((hp.pi i hi).pos.le gp m hfm0).2.2]; rfl) (by have := (hp.pi j hj).c; have := cntO_le (σ.pi (a.pb j)).fr; omega)
        (by rintro q (rfl | rfl)
            · rw [xe1, xe2]; exact ⟨(hs.ne i hi).1, (hs.ne i hi).2.1⟩
            · rw [pe1, pe2]; exact ⟨(hs.ne j hj).1, (hs.ne j hj).2.1⟩)
        (by rw [pe1, pe2, xe1, xe2]; exact ⟨sij.2.2.1, sij.2.2.2.1, fun q => sji.2.2.2.1 q.symm, sij.2.2.2.2⟩)
        (by rw [pe1, pe2, xe1, xe2]; have hl := h.lo.2.2.2.2.2.1; exact ⟨(hl i hi).1, (hl i hi).2, (hl j hj).1, (hl j hj).2⟩)
      rw [pv] at this
      exact this.mono fun z w' k => tr_p hs hp h hi hj hij k
    · obtain ⟨A, cap, hdw, hob⟩ := h.j.d.d
      have := rtransfer_ok (h.startD hdw) dn en gp n h32 _ k _ hx hy (by omega) m hqq hms ho htot (by rw [dv]; exact hc3.1) (by rw [dv]; exact hc3.2.1) (by rw [dv]; exact hc3.2.2) (by rw [dv]; exact hse) hfm0 (by rw [qq_at hs i hi, qq_at hs j hj]; exact (hs.sep.ne i j hi hj hne2).2.1)
      rw [dv] at this
      exact this.mono fun z w' k => tr_d hs hp h hn1 hi hj hij k
end
end Go.Proofs.YthlejchcnfdcpaaGreat.GzJ
