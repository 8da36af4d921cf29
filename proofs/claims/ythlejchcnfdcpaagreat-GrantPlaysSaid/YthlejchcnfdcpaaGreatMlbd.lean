/- Proved: the document's Transfer (contracts for the laws of the grants). Proved: the state that the program's grants and the document's share, and what always holds of it (the plain law of the grants). Proved: the program's grants and the document's side by side in memory (the plain law of the grants). Proved: what always holds of the state stays so behind each call (the plain law of the grants). -/
import Derived.Test.YthlejchcnfdcpaaGreatMlam
import Derived.Test.YthlejchcnfdcpaaGreatMlbb
import Derived.Test.YthlejchcnfdcpaaGreatMlbc
namespace Go.Proofs.YthlejchcnfdcpaaGreat.GyT
open Go.RowKit Go.Maps Base GaA GaB GaC GaD GmB GmC GpA GeA GeB GfA GfB GfC GfD GjA GjC GwA GwB GwF GwO GwR RpA RmA RmB RgA GxA GxB GxC GxD GyA GyB GyC GyD GyE GyF GyR GyS
set_option linter.unusedVariables false
set_option linter.unusedSimpArgs false

section
variable {w0 w w' W W0 W' : World} {a : DA} {v : DVA} {A : Option Addr} {cap : Nat} {s s' : MS} {f : Int → Option (Int × Nat)} {pi : Nat → PI} {qq : Nat → Nat × Nat × Nat} {L : List Mp} {F : Int × Int → Option Mp} {r : Nat}
theorem q3_int {qb qr c n : Nat} {fr pl : Int → Option Int} (h : Q3 W qb qr c n fr pl) : ∃ cs, W.heap[qr]? = some (.cells cs 3 (0, 0)) := by
  obtain ⟨_, ⟨h1, _⟩ | ⟨g', cap', cur, h1, _, h2, _⟩⟩ := h.r.row
  · cases h1
  · injection h1 with h1
    injection h1 with h1
    injection h1 with h1
    rw [h1]
    exact ⟨cur, h2⟩
theorem chg_cell {F : Nat → Prop} (hc : Chg F W W') {b i : Nat} {u : Value} (h : W.cell? ⟨b, i, none⟩ = some u) (hb : b < W.heap.size) (hn : ¬ F b) : W'.cell? ⟨b, i, none⟩ = some u := by
  have := hc.block b hb hn
  rw [← h]
  simp only [World.cell?, this]
/-- Behind Transfer. -/
def RtOut (W : World) (a : DA) (v : DVA) (s : MS) (pi : Nat → PI) (qq : Nat → Nat × Nat × Nat) (x : Nat) (gp : Int) (pb : Nat) (g5 : Int) (m r : Nat) (z : Ending) (w' : World) : Prop :=
  z = .returned (.int .i64 0) ∧ RMach w' a.rb a.Fb a.Bb a.cF a.cB a.bs s ∧ w'.heap[v.ub]? = some (.cells #[.pointer (some ⟨a.rb, 0, none⟩), .slice v.A v.ps.length v.cap, .int .i64 (GvA.cr r)] 80 (0, 0)) ∧
    Q3 w' (qq pb).1 (qq pb).2.1 (qq pb).2.2 (pi pb).size (iput (pi pb).fr g5 m) (iput (pi pb).pl m g5) ∧ Q3 w' (qq x).1 (qq x).2.1 (qq x).2.2 (pi x).size (idel (pi x).fr gp) (idel (pi x).pl m) ∧
    Chg (fun k => k = v.ub ∨ k ∈ a.bs ∨ k = a.Fb ∨ k = (qq pb).2.1 ∨ k = (qq x).2.1) W w'
set_option maxHeartbeats 8000000 in
set_option maxRecDepth 100000 in
theorem rtransfer_ok (h : DV w0 a v W W A cap s f pi qq L r) (d e : Nat) (gp : Int) (ref : Nat) (h32 : ref < 32) (x : Int × Nat) (k pb : Nat) (hx : f d = some x) (hy : f e = some ((k : Int), pb)) (hde : d ≠ e) (m : Nat) (hq : getV (pi x.2).size (pi x.2).fr gp = ((m : Int), 0)) (hms : m < s.n) (ho : (s.fr m).own = d) (ht : (s.fr m).tot = 0)
    (he0 : entE (ent (pokeS s v.ps r) k ref) = 0) (hkd : (entG (ent (pokeS s v.ps r) k ref)).kd = 2) (hdm : (entG (ent (pokeS s v.ps r) k ref)).dom = d) (hse : setE (pi pb).size (pi pb).fr (pi pb).pl (entG (ent (pokeS s v.ps r) k ref)).gp m = 0)
    (hfm : (pi x.2).fr gp = some (m : Int)) (hap : (qq x.2).2.1 ≠ (qq pb).2.1) :
    Calls Tryz.prog 85 #[.pointer (some ⟨a.hb, 0, none⟩), .pointer (some ⟨v.ub, 0, none⟩), .int .i64 d, .int .i64 gp, .int .i64 e, .int .i64 ref] W (RtOut W a v (give (pokeS s v.ps r) m e) pi qq x.2 gp pb (entG (ent (pokeS s v.ps r) k ref)).gp m (r + 1)) := by
  have hsl : slotB (ref : Int) = true := by unfold slotB; simp; omega
  have hjo1 := rjoined h.dw d
  have hjo2 := rjoined h.dw e
  have hso := rslot_any (ref : Int)
  rw [hx] at hjo1
  rw [hy] at hjo2
  rw [hsl] at hso
  simp only [Option.isSome_some] at hjo1 hjo2
  have d1 : ((d : Int) == (e : Int)) = false := by simp; omega
  have d8 := (h.dw.d d _ hx).1
  have e8 := (h.dw.d e _ hy).1
  have i0 : (0 : Int) ≤ (d : Int) := d8.1
  have i1 : (d : Int) < 8 := d8.2
  have C0 := fun i => blk_cell h.dw.blk i
  have L0 := blk_lt h.dw.blk
  have LD := h.dw.ldb
  have c1 := h.dw.ptr d (by omega)
  have hfD : fD f qq d = (x.1, some (qq x.2).1) := by unfold fD; rw [hx]
  rw [hfD] at c1
  simp only [Option.map_some] at c1
  have hge := get_any (h.dw.q d x hx) gp
  have D0 := fun i => blk_cell h.dw.m.blk i
  have M0 := blk_lt h.dw.m.blk
  have M1 := h.dw.m.lt.2.1
  have e0 : (0 : Int) ≤ (e : Int) := e8.1
  have e1 : (e : Int) < 8 := e8.2
  have r0 : (0 : Int) ≤ ref := Int.natCast_nonneg _
  have r1 : (ref : Int) < 32 := by omega
  have hkn : k < s.n := by obtain ⟨k2, e1, e2⟩ := (h.dw.d e _ hy).2; simp only at e1; omega
  rw [hq] at hge
  simp only at hge
  have his := is_any h.dw.m m
  have hbt : (decide (0 ≤ (m : Int)) && decide ((m : Int) < s.n)) = true := by simp; omega
  rw [hbt] at his
  have c5 := h.dw.m.own m hms
  have c6 : W.cell? ⟨a.Fb, m * 4 + 3, none⟩ = some (.int .i64 (s.fr m).tot) := h.dw.m.cell m 3 hms (by omega)
  rw [ho] at c5
  rw [ht] at c6
  have i4 : (m : Int) < (s.n : Int) := by omega
  have i5 : (0 : Int) ≤ (m : Int) := Int.natCast_nonneg _
  have c7 := h.dw.mfn e (by omega)
  have hfE : fD f qq e = ((k : Int), some (qq pb).1) := by unfold fD; rw [hy]
  rw [hfE] at c7
  simp only at c7
  have dd : ((d : Int) != (d : Int)) = false := by simp
  obtain ⟨s1, hs1⟩ : ∃ s1, s1 = pokeS s v.ps r := ⟨_, rfl⟩
  have hn1 : s1.n = s.n := by rw [hs1, pokeS_n]
  have hrd := dvent h k ref hkn h32
  unfold ReOut at hrd
  have HFR : Base.Aside (s1.fr = s.fr) := ⟨by rw [hs1, pokeS_fr]⟩
  rw [← hs1] at hrd he0 hkd hdm hse ⊢
  generalize ent s1 k ref = l at hrd he0 hkd hdm hse ⊢
  have hun := fun (x : Addr) (c : Nat) W' (hB : GuA.Bytes W' x 8 l) => refunpack_any x c l W' hB
  generalize entG l = g at hun hkd hdm hse ⊢
  rw [he0] at hun
  unfold aggv at hun
  obtain ⟨g1, g2, g3, g4, g5, g6, g7⟩ := g
  simp only at hun hkd hdm hse ⊢
  subst hkd
  subst hdm
  have hset : ∀ W', DV w0 a v W W' A cap s1 f pi qq L (r + 1) → Calls Tryz.prog 16 #[.pointer (some ⟨(qq pb).1, 0, none⟩), .int .i64 g5, .int .i64 m] W' fun e w' => e = .returned (.int .i64 0) ∧ Q3 w' (qq pb).1 (qq pb).2.1 (qq pb).2.2 (pi pb).size (iput (pi pb).fr g5 m) (iput (pi pb).pl m g5) ∧ Chg (fun x => x = (qq pb).2.1) W' w' := fun W' hW => (GyA.set_any (hW.dw.q e _ hy) g5 m).mono fun e w' h => by
    obtain ⟨h1, h2⟩ := h
    rw [hse] at h1
    rw [if_pos hse] at h2
    exact ⟨h1, h2.1, h2.2⟩
  have hP := Base.Aside.mk (And.intro hfE (And.intro hfD (And.intro hx (And.intro hy (And.intro hap (And.intro hfm (And.intro ho (And.intro ht (And.intro hn1 trivial)))))))))
  clear h hx hy hsl hq ho ht hs1 hn1 hkn hfD hfE hbt hde hse he0 hap hfm
  go_enter Tryz.func85, Tryz.ntmps85
  go_upto_region 16 with (first
      | (go_at_call 68; (with_reducible refine hjo1.mono ?_); rintro z w1 ⟨rfl, hw1⟩; obtain rfl := hw1.symm)
      | (go_at_call 68; (with_reducible refine hjo2.mono ?_); rintro z w1 ⟨rfl, hw1⟩; obtain rfl := hw1.symm)
      | (go_at_call 69; (with_reducible refine (hso _).mono ?_); rintro z w9 ⟨rfl, hw9⟩; obtain rfl := hw9.symm)
      | (go_at_call 102; (with_reducible refine hge.mono ?_); rintro z w9 ⟨rfl, hw9⟩; obtain rfl := hw9.symm)
      | (go_at_call 96; (with_reducible refine his.mono ?_); rintro z w4 ⟨rfl, hw4⟩; obtain rfl := hw4.symm)
      | (go_at_call 81; (with_reducible refine hrd.mono ?_); rintro z w2 ⟨ad, cc, rfl, hB2, hV2⟩; have hun2 := hun ad cc w2 hB2; have E1 := Base.Aside.mk hV2; clear hV2 hB2)
      | (go_at_call 101; (with_reducible refine hun2.mono ?_); rintro z w3 ⟨rfl, hB3⟩; have E2 := Base.Aside.mk (E1.out.below hB3); clear hB3)
      | go_in)
  refine wp_world (fun W5 => DV w0 a v W W5 A cap s1 f pi qq L (r + 1) ∧ W5.heap[w3.heap.size]? = some (.cells #[.int .i64 2, .bool g2, .bool g3, .int .i64 d, .int .i64 g5, .int .i64 g6, .int .i64 g7] 32 (0, 0))) ⟨E2.out.below (below_alloc (Below.refl _ _) _), blk_new _ _⟩ ?_
  intro W5 ⟨hv5, hb5⟩
  have q0 : W5.cell? ⟨a.hb, 1, none⟩ = some (.slice (some ⟨a.Db, 0, none⟩) 8 a.cD) := blk_cell hv5.dw.blk 1
  have q1 : W5.cell? ⟨w3.heap.size, 4, none⟩ = some (.int .i64 g5) := blk_cell hb5 4
  have q2 := hv5.dw.ptr e (by omega)
  rw [hP.out.1] at q2
  simp only [Option.map_some] at q2
  have Lg := blk_lt hv5.dw.blk
  have Lb := blk_lt hb5
  have Ld := hv5.dw.ldb
  have hne5 : a.hb ≠ (qq pb).2.1 ∧ w3.heap.size ≠ (qq pb).2.1 ∧ a.Db ≠ (qq pb).2.1 := by
    obtain ⟨cs, hcs⟩ := q3_int (hv5.dw.q e _ hP.out.2.2.2.1)
    obtain ⟨ds, hds, _⟩ := hv5.dw.mem
    exact ⟨bne hv5.dw.blk hcs (by decide), bne hb5 hcs (by decide), bne hds hcs (by decide)⟩
  have KS : ∀ Wx W6 : World, Below W5.heap.size W5 Wx → Chg (fun x => x = (qq pb).2.1) Wx W6 → W6.cell? ⟨a.hb, 1, none⟩ = some (.slice (some ⟨a.Db, 0, none⟩) 8 a.cD) ∧ W6.cell? ⟨w3.heap.size, 4, none⟩ = some (.int .i64 g5) ∧ W6.cell? ⟨a.Db, e * 2 + 1, none⟩ = some (.pointer (some ⟨(qq pb).1, 0, none⟩)) := fun Wx W6 hb hc =>
    have hcc := (Chg.below (fun x => x = (qq pb).2.1) hb).trans hc
    ⟨chg_cell hcc q0 Lg hne5.1, chg_cell hcc q1 Lb hne5.2.1, chg_cell hcc q2 Ld hne5.2.2⟩
  have hse5 := fun Wx (hb : Below W5.heap.size W5 Wx) => hset Wx (hv5.below hb)
  have E5 := Base.Aside.mk hv5
  clear hb5 hv5 hset
  go_cut [14] from 122 to 134 (fun v wx => v = .int .i64 0 ∧ Base.Aside (Q3 wx (qq pb).1 (qq pb).2.1 (qq pb).2.2 (pi pb).size (iput (pi pb).fr g5 m) (iput (pi pb).pl m g5) ∧ Chg (fun x => x = (qq pb).2.1) W5 wx))
  case first =>
    go_region_held3 (fun W' => W'.cell? ⟨a.hb, 1, none⟩ = some (.slice (some ⟨a.Db, 0, none⟩) 8 a.cD) ∧ W'.cell? ⟨w3.heap.size, 4, none⟩ = some (.int .i64 g5) ∧ W'.cell? ⟨a.Db, e * 2 + 1, none⟩ = some (.pointer (some ⟨(qq pb).1, 0, none⟩)))
      (first
        | go_keep
        | (with_reducible exact ⟨q0, q1, q2⟩)
        | (refine KS _ _ ?_ E6.out.2; (repeat (with_reducible first | exact Below.refl _ _ | refine below_drew ?_ | refine below_alloc ?_ _)); done))
      ((first
        | (go_at_call 16; (with_reducible refine (hse5 _ ?_).mono ?_); (focus (repeat (with_reducible first | exact Below.refl _ _ | refine below_drew ?_ | refine below_alloc ?_ _))); rintro z w6 ⟨rfl, hP6, hC6⟩; have E6 := Base.Aside.mk (And.intro hP6 hC6); clear hP6 hC6)))
    all_goals
      go_wp2_with fail
      go_meet
    case rel =>
      refine ⟨rfl, ⟨E6.out.1, (Chg.below _ ?_).trans E6.out.2⟩⟩
      (repeat (with_reducible first | exact Below.refl _ _ | refine below_drew ?_ | refine below_alloc ?_ _))
  case rest =>
    obtain ⟨rfl, hA⟩ := hcut
    obtain ⟨hfE, hfD, hx, hy, hap, hfm, ho, ht, hn1, _⟩ := hP.out
    have hD5 := E5.out.dw
    obtain ⟨cs, hcs⟩ := q3_int (hD5.q e _ hy)
    obtain ⟨ds, hds, _⟩ := hD5.mem
    have hF : ∀ y cs2 t, W5.heap[y]? = some (.cells cs2 t (0, 0)) → t ≠ 3 → ¬ y = (qq pb).2.1 := fun y cs2 t hy2 ht => bne hy2 hcs ht
    have C6 := hA.out.2.blk hD5.blk (hF _ _ _ hD5.blk (by decide))
    have C7 := fun i => blk_cell C6 i
    have L7 := blk_lt C6
    have hX5 := hD5.q d _ hx
    have hX6 := hX5.chg hA.out.2 (hF _ _ _ hX5.blk (by decide)) hap
    have p5 := hD5.ptr d (by omega)
    rw [hfD] at p5
    simp only [Option.map_some] at p5
    have p6 := chg_cell hA.out.2 p5 hD5.ldb (hF _ _ _ hds (by decide))
    have LD6 := Nat.lt_of_lt_of_le hD5.ldb hA.out.2.size
    have hcl := GyA.clear_ok hX6 gp m hfm
    unfold GyA.ClearOut at hcl
    obtain ⟨c1, k1, _⟩ := hD5.m.frs
    obtain ⟨c2, k2, _⟩ := hD5.m.rows
    have M6 := hD5.m.chg hA.out.2 (hF _ _ _ hD5.m.blk (by decide)) (hF _ _ _ k1 (by decide)) (hF _ _ _ k2 (by decide)) (fun b hb => by
      obtain ⟨cs, hcs⟩ := page_mem hD5.m hb
      exact hF _ _ _ hcs (by decide))
    obtain ⟨cs6, hcs6⟩ := q3_int hX6
    have hF6 : ∀ y cs2 t, wc.heap[y]? = some (.cells cs2 t (0, 0)) → t ≠ 3 → ¬ y = (qq x.2).2.1 := fun y cs2 t hy2 ht => bne hy2 hcs6 ht
    obtain ⟨c16, k16, _⟩ := M6.frs
    obtain ⟨c26, k26, _⟩ := M6.rows
    have R7 : ∀ w7, Chg (fun k => k = (qq x.2).2.1) wc w7 → RMach w7 a.rb a.Fb a.Bb a.cF a.cB a.bs s1 ∧ w7.heap[a.hb]? = some (.cells #[.pointer (some ⟨a.rb, 0, none⟩), .slice (some ⟨a.Db, 0, none⟩) 8 a.cD, .slice A L.length cap] 120 (0, 0)) ∧ Q3 w7 (qq pb).1 (qq pb).2.1 (qq pb).2.2 (pi pb).size (iput (pi pb).fr g5 m) (iput (pi pb).pl m g5) := by
      intro w7 hc
      refine ⟨M6.chg hc (hF6 _ _ _ M6.blk (by decide)) (hF6 _ _ _ k16 (by decide)) (hF6 _ _ _ k26 (by decide)) (fun b hb => by
        obtain ⟨cs, hcs⟩ := page_mem M6 hb
        exact hF6 _ _ _ hcs (by decide)), hc.blk C6 (hF6 _ _ _ C6 (by decide)), hA.out.1.chg hc (hF6 _ _ _ hA.out.1.blk (by decide)) (fun q => hap q.symm)⟩
    have hgi := fun w7 (hM : RMach w7 a.rb a.Fb a.Bb a.cF a.cB a.bs s1) => rgive_ok hM m (by rw [hn1]; exact hms) e e8 (by rw [HFR.out, ho]; omega) (by rw [HFR.out]; exact ht)
    have HC := Base.Aside.mk C6
    clear C6 hF hF6 C0 hcs hcs6 k1 k2 k16 k26 hds q0 q1 q2 KS hse5
    go_wp2_with (first
      | (go_at_call 107; (with_reducible refine hcl.mono ?_); rintro z w7 ⟨⟨v7, rfl⟩, hP7, hC7⟩; obtain ⟨hM7, hB7, hQ7⟩ := R7 w7 hC7; have C8 := fun i => blk_cell hB7 i; have L8 := blk_lt hB7; have hgi7 := hgi w7 hM7; have E7 := Base.Aside.mk (And.intro hP7 (And.intro hC7 (And.intro hM7 (And.intro hQ7 hB7)))); clear hP7 hC7 hM7 hQ7 hB7)
      | (go_at_call 108; (with_reducible refine hgi7.mono ?_); rintro z w8 ⟨rfl, hM8, hC8⟩; have E8 := Base.Aside.mk (And.intro hM8 hC8); clear hM8 hC8)
      | go_in)
    go_ret
    obtain ⟨c37, k37, _⟩ := E7.out.2.2.1.frs
    have hF7 : ∀ y cs2 t, w7.heap[y]? = some (.cells cs2 t (0, 0)) → t ≠ 95 → ¬ y = a.Fb := fun y cs2 t hy2 ht => bne hy2 k37 ht
    have C57 : Chg (fun k => k = a.Fb ∨ k = (qq pb).2.1 ∨ k = (qq x.2).2.1) W5 w8 := ((hA.out.2.mono fun _ q => .inr (.inl q)).trans (E7.out.2.1.mono fun _ q => .inr (.inr q))).trans (E8.out.2.mono fun _ q => .inl q)
    refine ⟨by first | rfl | (simp; done), E8.out.1, ?_, ?_, ?_, (E5.out.ch.mono (by rintro k (q | q); exact .inl q; exact .inr (.inl q))).trans (C57.mono fun k q => .inr (.inr q))⟩
    · obtain ⟨cs, hcs⟩ := q3_int (E5.out.dw.q e _ hy)
      obtain ⟨cs2, hcs2⟩ := q3_int (E5.out.dw.q d _ hx)
      obtain ⟨c1, k1, _⟩ := E5.out.dw.m.frs
      exact C57.blk E5.out.vd.blk (by rintro (q | q | q); exact bne E5.out.vd.blk k1 (by decide) q; exact bne E5.out.vd.blk hcs (by decide) q; exact bne E5.out.vd.blk hcs2 (by decide) q)
    · have hQ := E7.out.2.2.2.1
      obtain ⟨cs, hcs⟩ := q3_int hQ
      exact hQ.chg E8.out.2 (hF7 _ _ _ hQ.blk (by decide)) (hF7 _ _ _ hcs (by decide))
    · have hQ := E7.out.1
      obtain ⟨cs, hcs⟩ := q3_int hQ
      exact hQ.chg E8.out.2 (hF7 _ _ _ hQ.blk (by decide)) (hF7 _ _ _ hcs (by decide))
end
end Go.Proofs.YthlejchcnfdcpaaGreat.GyT
namespace Go.Proofs.YthlejchcnfdcpaaGreat.GzA
open Go.RowKit Go.Maps Base GaA GaB GaC GaD GmA GmB GmC GpA GgA GfA GfB GfC GfD GjA GjB GjC GjE GjK GwB GwF GwO GwQ GxA GyA GyB GyN GbA
set_option linter.unusedVariables false
set_option linter.unusedSimpArgs false

/-- What both hold. -/
structure SS where
  s : MS
  f : Int → Option (Int × Nat)
  c : Nat
  pi : Nat → PI
  F : Int × Int → Option Mp
  n : Nat
  L : List Mp
/-- How many have joined with a frame. -/
def mN (f : Int → Option (Int × Nat)) (k : Int) : Nat := (List.range 8).countP fun d : Nat => (f d).map (·.1) == some k
def mJ (f : Int → Option (Int × Nat)) : Nat := (List.range 8).countP fun d : Nat => (f d).isSome
/-- How many references a frame bears, and how many of its kind. -/
def totT (σ : SS) (k : Int) : Nat := σ.L.countP (fun m => m.mfn == k) + mN σ.f k
def cntT (σ : SS) (k : Int) : Nat := σ.L.countP (fun m => m.mfn == k && m.wr) + mN σ.f k
def cntO (fr : Int → Option Int) : Nat := (List.range 8).countP fun i : Nat => (fr i).isSome
structure FrOk (σ : SS) (k : Nat) : Prop where
  tot : (σ.s.fr k).tot = (totT σ k : Nat)
  cnt : (σ.s.fr k).cnt = (cntT σ k : Nat)
  tk : ((σ.s.fr k).cnt = 0 → (σ.s.fr k).typ = 0) ∧ ((σ.s.fr k).cnt ≠ 0 → (σ.s.fr k).typ = 1)
structure PiOk (a : BA) (σ : SS) (i : Nat) : Prop where
  e : (σ.pi (a.pb i)).fm = a.fm i ∧ (σ.pi (a.pb i)).pm = a.pm i ∧ (σ.pi (a.pb i)).size = 8
  pos : Pos 8 (σ.pi (a.pb i)).fr (σ.pi (a.pb i)).pl
  c : (σ.pi (a.pb i)).c ≤ cntO (σ.pi (a.pb i)).fr
/-- What always holds. -/
structure Pu (a : BA) (σ : SS) : Prop where
  n : σ.s.n = 13
  mem : ∀ d x, σ.f d = some x → (0 ≤ d ∧ d < 8) ∧ (∃ i, i < 3 ∧ x.2 = a.pb i) ∧ ∃ k : Nat, x.1 = k ∧ k < 13
  lk : Lk σ.F σ.L
  maps : ∀ m ∈ σ.L, (0 ≤ m.caller ∧ m.caller < 8) ∧ (0 ≤ m.h ∧ m.h < 16) ∧ ∃ k : Nat, m.mfn = k ∧ k < 13
  len : σ.n = σ.L.length
  fr : ∀ k, k < 13 → FrOk σ k
  pi : ∀ i, i < 3 → PiOk a σ i
  cm : σ.c ≤ mJ σ.f
theorem pig : ∀ (n : Nat) (l : List Nat), l.Nodup → (∀ x ∈ l, x < n) → l.length ≤ n
  | 0, l, _, h => by
    cases l with
    | nil => exact Nat.le_refl _
    | cons x t => exact absurd (h x (List.mem_cons_self ..)) (Nat.not_lt_zero _)
  | n + 1, l, hd, h => by
    by_cases hn : n ∈ l
    · have h1 := pig n (l.erase n) (hd.erase n) (fun x hx => by
        have h2 := (hd.mem_erase_iff).1 hx
        have := h x h2.2
        omega)
      have := List.length_erase_of_mem hn
      omega
    · have h1 := pig n l hd (fun x hx => by
        have := h x hx
        have : x ≠ n := fun e => hn (e ▸ hx)
        omega)
      omega
section
variable {a : BA} {σ : SS}
theorem Lk.few {F : Int × Int → Option Mp} {L : List Mp} (h : Lk F L) (hb : ∀ m ∈ L, (0 ≤ m.caller ∧ m.caller < 8) ∧ (0 ≤ m.h ∧ m.h < 16)) : L.length ≤ 128 := by
  have h1 := pig 128 (L.map fun m => m.caller.toNat * 16 + m.h.toNat) ?_ ?_
  · rw [List.length_map] at h1
    exact h1
  · refine List.pairwise_iff_getElem.2 fun i j hi hj hij => ?_
    rw [List.getElem_map, List.getElem_map]
    intro e
    rw [List.length_map] at hi hj
    have h2 := hb _ (List.getElem_mem hi)
    have h3 := hb _ (List.getElem_mem hj)
    have h4 := h.one hi hj (by omega) (by omega)
    omega
  · intro x hx
    obtain ⟨m, hm, rfl⟩ := List.mem_map.1 hx
    have h2 := hb m hm
    omega
theorem Pu.few (h : Pu a σ) : σ.L.length ≤ 128 := Lk.few h.lk fun m hm => ⟨(h.maps m hm).1, (h.maps m hm).2.1⟩
theorem mN_le (f : Int → Option (Int × Nat)) (k : Int) : mN f k ≤ 8 := by
  have := List.countP_le_length (p := fun d : Nat => (f d).map (·.1) == some k) (l := List.range 8)
  rw [List.length_range] at this
  exact this
theorem mJ_le (f : Int → Option (Int × Nat)) : mJ f ≤ 8 := by
  have := List.countP_le_length (p := fun d : Nat => (f d).isSome) (l := List.range 8)
  rw [List.length_range] at this
  exact this
theorem cntO_le (f : Int → Option Int) : cntO f ≤ 8 := by
  have := List.countP_le_length (p := fun i : Nat => (f i).isSome) (l := List.range 8)
  rw [List.length_range] at this
  exact this
theorem Pu.frfew (h : Pu a σ) (k : Nat) (hk : k < 13) : Fr.few (σ.s.fr k) := by
  have h1 := h.fr k hk
  have h2 := h.few
  have h3 := mN_le σ.f k
  have h4 := List.countP_le_length (p := fun m : Mp => m.mfn == (k : Int)) (l := σ.L)
  have h5 := List.countP_le_length (p := fun m : Mp => m.mfn == (k : Int) && m.wr) (l := σ.L)
  have h6 := h1.tot
  have h7 := h1.cnt
  unfold totT at h6
  unfold cntT at h7
  unfold Fr.few
  omega
theorem Pu.frtk (h : Pu a σ) (k : Nat) (hk : k < 13) : Fr.tk (σ.s.fr k) := by
  have h1 := (h.fr k hk).tk
  exact ⟨h1.1, fun e => by rw [h1.2 e]; decide⟩
/-- A machine whose frames bear the same references. -/
theorem Pu.mach (h : Pu a σ) {s' : MS} (hn : s'.n = σ.s.n) (hf : s'.fr = σ.s.fr) : Pu a { σ with s := s' } :=
  ⟨hn.trans h.n, h.mem, h.lk, h.maps, h.len, fun k hk => ⟨by rw [hf]; exact (h.fr k hk).tot, by rw [hf]; exact (h.fr k hk).cnt, by rw [hf]; exact (h.fr k hk).tk⟩, fun i hi => ⟨(h.pi i hi).e, (h.pi i hi).pos, (h.pi i hi).c⟩, h.cm⟩
theorem least_lead (h : Lk σ.F σ.L) (c : Int) : Least σ.F c (lead 0 (mapsL σ.F c 16)) ∧ (lead 0 (mapsL σ.F c 16) < 16 ↔ (mapsL σ.F c 16).length < 16) := by
  have hF : ∀ c h' m, σ.F (c, h') = some m → m.h = h' := fun c h' m e => by
    have := (h.mem _ _ e).2
    injection this with _ h3
    exact h3.symm
  obtain ⟨h1, h2, h3, h4⟩ := lead_spec hF c 16
  have h5 := lead_le (mapsL σ.F c 16) 0
  have h6 := mapsL_len σ.F c 16
  refine ⟨⟨h1, h2, h3⟩, fun h7 => ?_, fun h7 => by omega⟩
  rcases Nat.lt_or_ge (mapsL σ.F c 16).length 16 with h8 | h8
  · exact h8
  · have := h4 (by omega)
    omega
end
end Go.Proofs.YthlejchcnfdcpaaGreat.GzA
namespace Go.Proofs.YthlejchcnfdcpaaGreat.GzB
open Go.RowKit Go.Maps Base GaA GaB GaC GaD GmA GmB GmC GpA GgA GfA GfB GfC GfD GjA GjB GjC GjE GjK GwA GwB GwF GwO GwQ RpA RmA RmB RgA GxA GxC GxD GyA GyB GyE GyN GbA GzA
set_option linter.unusedVariables false
set_option linter.unusedSimpArgs false

/-- What never changes. -/
structure St (B : Nat) (a : BA) : Prop where
  ge : B ≤ a.xb ∧ B ≤ a.fb ∧ B ≤ a.mm ∧ B ≤ a.hm ∧ B ≤ a.Fb ∧ B ≤ a.Db ∧ (∀ b ∈ a.bs, B ≤ b)
  mh : a.mm ≠ a.hm
  ne : ∀ e, e < 3 → a.mm ≠ a.fm e ∧ a.mm ≠ a.pm e ∧ a.hm ≠ a.fm e ∧ a.hm ≠ a.pm e
  inj : ∀ e e', e < 3 → e' < 3 → a.pb e = a.pb e' → e = e'
  sep : Sep B a 3
def daOf (a : BA) : DA := ⟨a.hb, a.Db, a.cD, a.rb, a.Fb, a.Bb, a.cF, a.cB, a.bs⟩
def qqOf (a : BA) (b : Nat) : Nat × Nat × Nat := if b = a.pb 0 then (a.qb 0, a.qr 0, a.qc 0) else if b = a.pb 1 then (a.qb 1, a.qr 1, a.qc 1) else (a.qb 2, a.qr 2, a.qc 2)
theorem qq_at {B : Nat} {a : BA} (h : St B a) (i : Nat) (hi : i < 3) : qqOf a (a.pb i) = (a.qb i, a.qr i, a.qc i) := by
  have h01 := h.inj 0 1 (by omega) (by omega)
  have h02 := h.inj 0 2 (by omega) (by omega)
  have h12 := h.inj 1 2 (by omega) (by omega)
  unfold qqOf
  match i, hi with
  | 0, _ => rw [if_pos rfl]
  | 1, _ => rw [if_neg (fun e => by have := h01 e.symm; omega), if_pos rfl]
  | 2, _ => rw [if_neg (fun e => by have := h02 e.symm; omega), if_neg (fun e => by have := h12 e.symm; omega)]
/-- The program's side. -/
structure Jp (W : World) (a : BA) (σ : SS) : Prop where
  m : Mach W a.mb a.fb σ.s
  g : G2 W a.gb a.mm a.hm a.mb σ.f σ.c
  k : KMap W a.hm σ.F σ.n
  p : ∀ i, i < 3 → P2 W (a.pb i) (a.fm i) (a.pm i) 8 (σ.pi (a.pb i)).fr (σ.pi (a.pb i)).pl (σ.pi (a.pb i)).c
/-- The document's side. -/
structure Jd (w0 W : World) (a : BA) (σ : SS) : Prop where
  d : ∃ A cap, DW W (daOf a) A cap σ.s σ.f σ.pi (qqOf a) σ.L ∧ ∀ x, (Value.slice A σ.L.length cap).ownBlock = some x → w0.heap.size ≤ x
  q : ∀ i, i < 3 → Q3 W (a.qb i) (a.qr i) (a.qc i) 8 (σ.pi (a.pb i)).fr (σ.pi (a.pb i)).pl
/-- The addresses, and blocks of the law's that are kept. -/
structure BX extends BA where
  ko : List (Nat × Array Value)
instance : Coe BX BA := ⟨BX.toBA⟩
/-- The law's own blocks. -/
structure Jx (w0 W : World) (a : BX) (P Q : Value) : Prop where
  x : W.heap[a.xb]? = some (.cells #[.pointer (some ⟨a.mb, 0, none⟩), .pointer (some ⟨a.gb, 0, none⟩), P, .pointer (some ⟨a.rb, 0, none⟩), .pointer (some ⟨a.hb, 0, none⟩), Q] 47 (0, 0))
  rp : W.ownsRow w0.heap.size 55 1 P 3 (ptrs a.pb 3)
  rq : W.ownsRow w0.heap.size 58 1 Q 3 (ptrs a.qb 3)
  bel : Below w0.heap.size w0 W
  kp : ∀ b, b ∈ a.ko → W.heap[b.1]? = some (.cells b.2 37 (0, 0))
/-- Both sides, the program's at one state, the document's at another. -/
structure J (w0 W : World) (a : BX) (P Q : Value) (σ τ : SS) : Prop where
  st : St w0.heap.size a
  x : Jx w0 W a P Q
  p : Jp W a σ
  d : Jd w0 W a τ
/-- Blocks that a document's step may turn. -/
def docKinds : List (Option TypeId) := [some 95, some 5, some 120, some 122, some 102, some 80, some 3]
def progKinds : List (Option TypeId) := [none, some 113, some 144]
section
variable {w0 W W' : World} {a : BX} {P Q : Value} {σ τ σ' τ' : SS} {G : Nat → Prop}
theorem not_in {K : List (Option TypeId)} (hG : ∀ x, G x → x < W.heap.size → tyAt W x ∈ K) {b : Nat} {u : Option TypeId} (hl : b < W.heap.size) (hb : tyAt W b = u) (hu : u ∉ K) : ¬ G b := fun h => hu (hb ▸ hG b h hl)
theorem Jp.keep (h : Jp W a σ) (hc : Chg G W W') (hG : ∀ x, G x → x < W.heap.size → tyAt W x ∈ docKinds) : Jp W' a σ := by
  obtain ⟨cs, l1, _⟩ := h.m.lst
  have kc : ∀ {g : Nat} {cs : Array Value} {u : TypeId}, W.heap[g]? = some (.cells cs u (0, 0)) → some u ∉ docKinds → ¬ G g := fun hg hu => not_in hG (blk_lt hg) (ty_cells hg) hu
  have km : ∀ {g : Nat} {c : Nat} {f : Int → Option Value}, IMap W g f c → ¬ G g := fun hg => not_in hG hg.lt (ty_imap hg) (by decide)
  refine ⟨h.m.chg hc (kc h.m.blk (by decide)) (kc l1 (by decide)), h.g.chg hc (kc h.g.blk (by decide)) (km h.g.mem), h.k.chg hc ?_, fun i hi => (h.p i hi).chg hc (kc (h.p i hi).blk (by decide)) (km (h.p i hi).mf) (km (h.p i hi).mp)⟩
  obtain ⟨es, n, h1⟩ := h.k.is
  exact not_in hG h.k.lt (ty_map h1) (by decide)
theorem Jd.keep (h : Jd w0 W a τ) (hc : Chg G W W') (hG : ∀ x, G x → x < W.heap.size → tyAt W x ∈ progKinds) : Jd w0 W' a τ := by
  obtain ⟨A, cap, hd, ho⟩ := h.d
  have kc : ∀ {g : Nat} {cs : Array Value} {u : TypeId}, W.heap[g]? = some (.cells cs u (0, 0)) → some u ∉ progKinds → ¬ G g := fun hg hu => not_in hG (blk_lt hg) (ty_cells hg) hu
  have kr : ∀ {v : Value} {b e size n g : Nat} {xs : List Value}, W.ownsRow b e size v n xs → some e ∉ progKinds → v.ownBlock = some g → ¬ G g := fun hr hu hg => not_in hG (hr.lt _ hg).2 (ty_row hr hg) hu
  obtain ⟨cs, m1, m2⟩ := hd.mem
  obtain ⟨c1, k1, _⟩ := hd.m.frs
  obtain ⟨c2, k2, _⟩ := hd.m.rows
  have hq : ∀ {qb qr c n : Nat} {fr pl : Int → Option Int}, Q3 W qb qr c n fr pl → Q3 W' qb qr c n fr pl := fun h => h.chg hc (kc h.blk (by decide)) (kr h.r.row (by decide) rfl)
  refine ⟨⟨A, cap, ⟨hc.blk hd.blk (kc hd.blk (by decide)), ⟨cs, hc.blk m1 (kc m1 (by decide)), m2⟩, row_chg hd.row hc (fun g hg => kr hd.row (by decide) hg), hd.m.chg hc (kc hd.m.blk (by decide)) (kc k1 (by decide)) (kc k2 (by decide)) (fun b hb => ?_), fun d x hx => hq (hd.q d x hx), hd.d, hd.few⟩, ho⟩, fun i hi => hq (h.q i hi)⟩
  obtain ⟨cs, hcs⟩ := page_mem hd.m hb
  exact kc hcs (by decide)
theorem Jx.keep (h : Jx w0 W a P Q) (hc : Chg G W W') (hG : ∀ x, G x → x < W.heap.size → tyAt W x ∈ docKinds ∨ tyAt W x ∈ progKinds) (hge : ∀ x, G x → x < W.heap.size → w0.heap.size ≤ x) : Jx w0 W' a P Q := by
  have kc : ∀ {g : Nat} {u : TypeId}, g < W.heap.size → tyAt W g = some u → some u ∉ docKinds → some u ∉ progKinds → ¬ G g := fun hl hg hu hv hx => by
    rcases hG _ hx hl with h1 | h1
    · exact hu (hg ▸ h1)
    · exact hv (hg ▸ h1)
  refine ⟨hc.blk h.x (kc (blk_lt h.x) (ty_cells h.x) (by decide) (by decide)), row_chg h.rp hc (fun g hg => kc (h.rp.lt _ hg).2 (ty_row h.rp hg) (by decide) (by decide)), row_chg h.rq hc (fun g hg => kc (h.rq.lt _ hg).2 (ty_row h.rq hg) (by decide) (by decide)), ?_, fun cs e => hc.blk (h.kp cs e) (kc (blk_lt (h.kp cs e)) (ty_cells (h.kp cs e)) (by decide) (by decide))⟩
  have hc2 : Chg (fun x => G x ∧ x < W.heap.size) W W' := ⟨hc.os, hc.tape, hc.output, hc.size, fun k hk hn => hc.block k hk (fun hg => hn ⟨hg, hk⟩)⟩
  exact hc2.out h.bel h.bel.size (fun x hx => hge x hx.1 hx.2)
/-- Another block is kept. -/
theorem J.box (h : J w0 W a P Q σ τ) {n : Nat} {cs : Array Value} (hn : W.heap[n]? = some (.cells cs 37 (0, 0))) : J w0 W ⟨a.toBA, (n, cs) :: a.ko⟩ P Q σ τ :=
  ⟨h.st, ⟨h.x.x, h.x.rp, h.x.rq, h.x.bel, fun b hb => by
    rcases List.mem_cons.1 hb with rfl | hb
    · exact hn
    · exact h.x.kp b hb⟩, h.p, h.d⟩
theorem J.unbox {b : Nat × Array Value} (h : J w0 W ⟨a.toBA, b :: a.ko⟩ P Q σ τ) : J w0 W a P Q σ τ :=
  ⟨h.st, ⟨h.x.x, h.x.rp, h.x.rq, h.x.bel, fun c hc => h.x.kp c (List.mem_cons_of_mem _ hc)⟩, h.p, h.d⟩
theorem Jp.below (h : Jp W a σ) (hb : Below W.heap.size W W') : Jp W' a σ := h.keep (Chg.below (fun _ => False) hb) (fun _ h => h.elim)
theorem Jd.below (h : Jd w0 W a σ) (hb : Below W.heap.size W W') : Jd w0 W' a σ := h.keep (Chg.below (fun _ => False) hb) (fun _ h => h.elim)
theorem Jx.below (h : Jx w0 W a P Q) (hb : Below W.heap.size W W') : Jx w0 W' a P Q := h.keep (Chg.below (fun _ => False) hb) (fun _ h => h.elim) (fun _ h => h.elim)
theorem J.below (h : J w0 W a P Q σ τ) (hb : Below W.heap.size W W') : J w0 W' a P Q σ τ := ⟨h.st, h.x.below hb, h.p.below hb, h.d.below hb⟩
/-- The program's grants, as its contracts take them. -/
theorem Jp.gw (h : Jp W a σ) (hp : Pu a σ) : GW W a.gb a.mm a.hm a.mb a.fb σ.s σ.f σ.c σ.pi := by
  refine ⟨h.g, h.m, fun d x hd => ?_, fun d x hd => ?_⟩
  · obtain ⟨_, ⟨i, hi, hx⟩, _⟩ := hp.mem d x hd
    obtain ⟨e1, e2, e3⟩ := (hp.pi i hi).e
    rw [hx, e1, e2, e3]
    exact ⟨h.p i hi, by omega⟩
  · obtain ⟨h1, _, k, h2, h3⟩ := hp.mem d x hd
    exact ⟨h1, k, h2, by rw [hp.n]; exact h3⟩
theorem Jp.gx (h : Jp W a σ) (hp : Pu a σ) {B : Nat} (hs : St B a) : GX W a.gb a.mm a.hm a.mb a.fb σ.s σ.f σ.c σ.pi σ.F σ.n := by
  refine ⟨h.gw hp, h.k, hs.mh, fun d x hd => ?_⟩
  obtain ⟨_, ⟨i, hi, hx⟩, _⟩ := hp.mem d x hd
  obtain ⟨e1, e2, e3⟩ := (hp.pi i hi).e
  rw [hx, e1, e2]
  exact ⟨(hs.ne i hi).2.2.1, (hs.ne i hi).2.2.2⟩
/-- A document's members' places: those of all three domains. -/
theorem Jd.member (h : Jd w0 W a σ) (hp : Pu a σ) {B : Nat} (hs : St B a) (d : Int) (x : Int × Nat) (hd : σ.f d = some x) : Q3 W (qqOf a x.2).1 (qqOf a x.2).2.1 (qqOf a x.2).2.2 (σ.pi x.2).size (σ.pi x.2).fr (σ.pi x.2).pl := by
  obtain ⟨_, ⟨i, hi, hx⟩, _⟩ := hp.mem d x hd
  rw [hx, qq_at hs i hi, (hp.pi i hi).e.2.2]
  exact h.q i hi
end
end Go.Proofs.YthlejchcnfdcpaaGreat.GzB
namespace Go.Proofs.YthlejchcnfdcpaaGreat.GzD
open Go.RowKit Go.Maps Base GaA GaB GaC GaD GmA GmB GmC GpA GgA GfA GfB GfC GfD GjA GjB GjC GjE GjK GwB GwF GwO GwQ GxA GyA GyB GyN GbA GzA
set_option linter.unusedVariables false
set_option linter.unusedSimpArgs false

theorem cp_same (p p' : Nat → Bool) : ∀ n : Nat, (∀ i, i < n → p' i = p i) → (List.range n).countP p' = (List.range n).countP p
  | 0, _ => rfl
  | n + 1, h => by
    rw [List.range_succ, List.countP_append, List.countP_append, cp_same p p' n (fun i hi => h i (by omega))]
    have := h n (by omega)
    simp [List.countP_cons, this]
theorem cp_more (p p' : Nat → Bool) (j : Nat) (hp : p j = false) (hp' : p' j = true) (hs : ∀ i, i ≠ j → p' i = p i) : ∀ n : Nat, j < n → (List.range n).countP p' = (List.range n).countP p + 1
  | 0, h => absurd h (Nat.not_lt_zero _)
  | n + 1, h => by
    rw [List.range_succ, List.countP_append, List.countP_append]
    by_cases e : j = n
    · subst e
      rw [cp_same p p' j (fun i hi => hs i (by omega))]
      simp [List.countP_cons, hp, hp']
    · rw [cp_more p p' j hp hp' hs n (by omega)]
      have := hs n (fun h => e h.symm)
      simp only [List.countP_cons, List.countP_nil, this]
      omega
section
variable {a : BA} {σ : SS} {F : Int × Int → Option Mp} {L : List Mp}
theorem Lk.push (h : Lk F L) (m : Mp) (hn : F (m.caller, m.h) = none) : Lk (kput F (m.caller, m.h) m) (L ++ [m]) := by
  have hnot : m ∉ L := fun hm => by
    obtain ⟨i, hi, rfl⟩ := List.mem_iff_getElem.1 hm
    have := h.at_ i hi
    rw [hn] at this
    cases this
  refine ⟨fun i hi => ?_, fun k x hk => ?_, ?_⟩
  · rw [List.length_append, List.length_singleton] at hi
    by_cases e : i < L.length
    · rw [List.getElem_append_left e]
      unfold kput
      have h1 := h.at_ i e
      rw [if_neg (fun e2 => by rw [e2, hn] at h1; cases h1)]
      exact h1
    · obtain rfl : i = L.length := by omega
      rw [List.getElem_append_right (Nat.le_refl _)]
      simp only [Nat.sub_self, List.getElem_cons_zero]
      exact if_pos rfl
  · unfold kput at hk
    split at hk
    · rename_i e
      injection hk with hk
      subst hk
      exact ⟨List.mem_append_right _ (List.mem_singleton.2 rfl), e⟩
    · obtain ⟨h1, h2⟩ := h.mem k x hk
      exact ⟨List.mem_append_left _ h1, h2⟩
  · exact List.nodup_append.2 ⟨h.nodup, List.nodup_cons.2 ⟨List.not_mem_nil, List.nodup_nil⟩, fun x hx y hy e => by
      rw [List.mem_singleton.1 hy] at e
      exact hnot (e ▸ hx)⟩
theorem Lk.pop (h : Lk F L) (i : Nat) (hi : i < L.length) : Lk (kdel F (L[i].caller, L[i].h)) (L.take i ++ L.drop (i + 1)) := by
  have hd := List.pairwise_iff_getElem.1 h.nodup
  have hmem : ∀ x, x ∈ L.take i ++ L.drop (i + 1) ↔ x ∈ L ∧ x ≠ L[i] := fun x => by
    rw [List.mem_append]
    refine ⟨fun hx => ?_, fun ⟨hx, hne⟩ => ?_⟩
    · rcases hx with hx | hx
      · obtain ⟨j, hj, rfl⟩ := List.mem_iff_getElem.1 hx
        have hj2 : j < i := by rw [List.length_take] at hj; omega
        rw [List.getElem_take]
        exact ⟨List.getElem_mem _, hd j i (by omega) hi hj2⟩
      · obtain ⟨j, hj, rfl⟩ := List.mem_iff_getElem.1 hx
        rw [List.length_drop] at hj
        rw [List.getElem_drop]
        exact ⟨List.getElem_mem _, fun e => hd i (i + 1 + j) hi (by omega) (by omega) e.symm⟩
    · obtain ⟨j, hj, rfl⟩ := List.mem_iff_getElem.1 hx
      rcases Nat.lt_trichotomy j i with q | q | q
      · exact .inl (List.mem_iff_getElem.2 ⟨j, by rw [List.length_take]; omega, List.getElem_take⟩)
      · subst q; exact absurd rfl hne
      · refine .inr (List.mem_iff_getElem.2 ⟨j - (i + 1), by rw [List.length_drop]; omega, ?_⟩)
        rw [List.getElem_drop]
        congr 1
        omega
  have hsub : (L.take i ++ L.drop (i + 1)).Sublist L := by
    have h1 : L = L.take i ++ L.drop i := (List.take_append_drop i L).symm
    have h2 : (L.drop (i + 1)).Sublist (L.drop i) := by
      rw [← List.drop_drop]
      exact List.drop_sublist _ _
    conv => rhs; rw [h1]
    exact (List.Sublist.refl _).append h2
  refine ⟨fun j hj => ?_, fun k x hk => ?_, h.nodup.sublist hsub⟩
  · obtain ⟨h1, h2⟩ := (hmem _).1 (List.getElem_mem hj)
    obtain ⟨l, hl, e⟩ := List.mem_iff_getElem.1 h1
    rw [← e] at h2 ⊢
    unfold kdel
    rw [if_neg (fun e2 => ?_)]
    · exact h.at_ l hl
    · injection e2 with e3 e4
      exact h2 (by have := h.one hl hi e3 e4; subst this; rfl)
  · unfold kdel at hk
    split at hk
    · cases hk
    · rename_i hne
      obtain ⟨h1, h2⟩ := h.mem k x hk
      exact ⟨(hmem x).2 ⟨h1, fun e => hne (by rw [h2, e])⟩, h2⟩
theorem countP_pop (p : Mp → Bool) (i : Nat) (hi : i < L.length) : L.countP p = (L.take i ++ L.drop (i + 1)).countP p + if p L[i] then 1 else 0 := by
  have h1 : L = L.take i ++ L.drop i := (List.take_append_drop i L).symm
  conv => lhs; rw [h1]
  rw [List.drop_eq_getElem_cons hi, List.countP_append, List.countP_append, List.countP_cons]
  omega
/-- What a mapped frame comes to. -/
theorem FrOk.more {σ' : SS} {k : Nat} (h : FrOk σ k) (wr : Bool) (own : Int) (ht : totT σ' k = totT σ k + 1) (hc : cntT σ' k = cntT σ k + if wr then 1 else 0) (hf : σ'.s.fr k = ⟨own, if wr then 1 else (σ.s.fr k).typ, (σ.s.fr k).cnt + (if wr then 1 else 0), (σ.s.fr k).tot + 1⟩) : FrOk σ' k := by
  have h1 := h.tot
  have h2 := h.cnt
  refine ⟨?_, ?_, ?_⟩
  · rw [hf, ht]; simp only; omega
  · rw [hf, hc]; cases wr <;> simp only [Bool.false_eq_true, if_false, if_true] <;> omega
  · rw [hf]
    cases wr with
    | true => simp only [if_true]; exact ⟨fun e => by omega, fun _ => trivial⟩
    | false => simp only [Bool.false_eq_true, if_false, Int.add_zero]; exact h.tk
theorem FrOk.same {σ' : SS} {k : Nat} (h : FrOk σ k) (ht : totT σ' k = totT σ k) (hc : cntT σ' k = cntT σ k) (hf : (σ'.s.fr k).typ = (σ.s.fr k).typ ∧ (σ'.s.fr k).cnt = (σ.s.fr k).cnt ∧ (σ'.s.fr k).tot = (σ.s.fr k).tot) : FrOk σ' k :=
  ⟨by rw [hf.2.2, ht]; exact h.tot, by rw [hf.2.1, hc]; exact h.cnt, by rw [hf.1, hf.2.1]; exact h.tk⟩
theorem FrOk.less {σ' : SS} {k : Nat} (h : FrOk σ k) (wr : Bool) (ht : totT σ k = totT σ' k + 1) (hc : cntT σ k = cntT σ' k + if wr then 1 else 0) (hf : σ'.s.fr k = putF (σ.s.fr k) (if wr then 1 else 0)) : FrOk σ' k := by
  have h1 := h.tot
  have h2 := h.cnt
  have h3 := h.tk
  generalize σ.s.fr k = fr at h1 h2 h3 hf
  obtain ⟨o, y, cn, tt⟩ := fr
  simp only at h1 h2 h3
  refine ⟨?_, ?_, ?_⟩
  · rw [hf]; simp only [putF]; omega
  · rw [hf]; cases wr <;> simp [putF] <;> simp at hc <;> omega
  · rw [hf]
    cases wr with
    | true =>
      simp only [putF, if_true, if_neg (show ¬ (1 : Int) = 0 by decide)]
      simp at hc
      refine ⟨fun e => if_pos e, fun e => ?_⟩
      rw [if_neg e]
      exact h3.2 (by omega)
    | false =>
      simp only [putF, Bool.false_eq_true, if_false, if_true]
      refine ⟨fun e => if_pos e, fun e => ?_⟩
      rw [if_neg e]
      exact h3.2 e
/-- A live map, or a member, may be put back. -/
theorem FrOk.put {k : Nat} (h : FrOk σ k) (wr : Bool) (ht : if wr then 0 < cntT σ k else cntT σ k < totT σ k) : putE (σ.s.fr k) (if wr then 1 else 0) = 0 := by
  have h1 := h.tot
  have h2 := h.cnt
  have h3 := h.tk
  unfold putE
  cases wr with
  | true =>
    simp only [if_true] at ht ⊢
    rw [if_neg]
    rintro (⟨_, e⟩ | ⟨e, _⟩)
    · exact e (h3.2 (by omega))
    · exact absurd e (by decide)
  | false =>
    simp only [Bool.false_eq_true, if_false] at ht ⊢
    rw [if_neg]
    rintro (⟨e, _⟩ | ⟨_, e⟩)
    · exact e rfl
    · omega
end
end Go.Proofs.YthlejchcnfdcpaaGreat.GzD
