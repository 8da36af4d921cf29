/- Proved: an owner writes an entry, in both worlds, at any time (the plain law of the grants). -/
import Derived.Test.YthlejchcnfdcpaaGreatMlam
import Derived.Test.YthlejchcnfdcpaaGreatMlbj
import Derived.Laws.Closers25b
import Derived.Deep.RegionWith
import Derived.Outline
namespace Go.Proofs.YthlejchcnfdcpaaGreat.GzK
open Go.RowKit Go.Maps Base GaA GaB GaC GaD GmA GmB GmC GpA GgA GeA GeB GfA GfB GfC GfD GjA GjB GjC GjE GjK GwA GwB GwE GwF GwJ GwO GwQ RpA RmA RmB RgA GxA GxC GxD GyA GyB GyE GyN GbA GzA GzB GzC GzD GkA GkB GoA GoB GyM GzE GzG GzH
set_option linter.unusedVariables false
set_option linter.unusedSimpArgs false

/-- The machine behind an entry laid. -/
def layT (s : MS) (e : LE) : MS := if layOk e then wrS s (4 * e.dom) (8 * e.ref) (layZ e) else s
theorem layT_n (s : MS) (e : LE) : (layT s e).n = s.n := by unfold layT; split; exact GwA.wrS_n _ _ _ _; rfl
theorem layT_fr (s : MS) (e : LE) : (layT s e).fr = s.fr := by unfold layT; split; exact GwA.wrS_fr _ _ _ _; rfl
section
variable {w0 W W' : World} {a : BX} {P Q : Value} {σ τ σ' τ' : SS}
theorem j_write (h : J w0 W a P Q σ τ) (hp : Pu a σ) (k off : Int) (A : Option Addr) (c : Nat) (zs : List UInt8) (hz : Bytes W A zs) :
    Calls Tryz.prog 58 #[.pointer (some ⟨a.mb, 0, none⟩), .int .i64 k, .int .i64 off, .slice A zs.length c] W fun e w' => (∃ u, e = .returned u) ∧ J w0 w' a P Q { σ with s := wrS σ.s k off zs } τ ∧ Chg (fun x => x = a.fb) W w' :=
  (write_any h.p.m k off A zs.length c zs rfl hz).mono fun e w' ⟨h1, h2, h3⟩ => ⟨⟨_, h1⟩, J.gx (σ' := { σ with s := wrS σ.s k off zs }) h ((h.p.gx hp h.st).mach h2 (GwA.wrS_n _ _ _ _) h3) rfl h3 (fun x hx => .inl hx), h3⟩
theorem j_rwrite (h : J w0 W a P Q σ τ) (k off : Int) (A : Option Addr) (c : Nat) (zs : List UInt8) (hz : Bytes W A zs) (hx : zs ≠ [] → ∀ x, A = some x → x.block ∉ a.bs) :
    Calls Tryz.prog 59 #[.pointer (some ⟨a.rb, 0, none⟩), .int .i64 k, .int .i64 off, .slice A zs.length c] W fun e w' => (∃ u, e = .returned u) ∧ J w0 w' a P Q σ { τ with s := wrS τ.s k off zs } := by
  obtain ⟨B, cap, hd, ho⟩ := h.d.d
  exact (dw_write hd k off A c zs hz hx).mono fun e w' ⟨h1, h2, h3⟩ => ⟨⟨_, h1⟩, J.dw (τ' := { τ with s := wrS τ.s k off zs }) h hd ho h2 ho rfl h3 (fun x hx => .inr (.inl hx))⟩
theorem jblk (h : J w0 W a P Q σ τ) (hx : a.xb = w0.heap.size) : W.heap[w0.heap.size]? = some (.cells #[.pointer (some ⟨a.mb, 0, none⟩), .pointer (some ⟨a.gb, 0, none⟩), P, .pointer (some ⟨a.rb, 0, none⟩), .pointer (some ⟨a.hb, 0, none⟩), Q] 47 (0, 0)) := by
  rw [← hx]
  exact h.x.x
set_option maxHeartbeats 8000000 in
set_option maxRecDepth 100000 in
theorem lay_no (h : J w0 W a P Q σ τ) (hx : a.xb = w0.heap.size) (e : LE) (he : ¬ layOk e) :
    Calls Tryz.prog 19 #[.pointer (some ⟨w0.heap.size, 0, none⟩), .agg #[.int .i64 e.dom, .int .i64 e.ref, .int .i64 e.g.kd, .bool e.g.ro, .bool e.g.sb, .int .i64 e.g.dom, .int .i64 e.g.gp, .int .i64 e.g.of, .int .i64 e.g.le, .int .u8 e.fl]] W fun o w' => o = .returned (.tuple #[]) ∧ J w0 w' a P Q σ τ := by
  have hpb := fun (h : packBad e.g) W => pack_bad e.g h W
  have hpg := fun (h : ¬ packBad e.g) W => pack_good e.g h W
  obtain ⟨dom, ref, g, fl⟩ := e
  obtain ⟨kd, ro, sb, gd, gp, of, le⟩ := g
  simp only at hpb hpg he ⊢
  have HB := Base.Aside.mk h
  clear h
  by_cases hb : packBad ⟨kd, ro, sb, gd, gp, of, le⟩
  · have hpk := hpb hb
    clear hpb hpg hb he
    go_enter Tryz.func19, Tryz.ntmps19
    go_wp2_with (first
      | (go_at_call 57; (with_reducible refine (hpk _).mono ?_); rintro z w2 ⟨rfl, hB2⟩; have E2 := Base.Aside.mk hB2; clear hB2)
      | go_in)
    refine bodyPost_ret (results_none rfl _ _ _) rfl ?_
    exact ⟨by first | rfl | (simp; done), (HB.out.below (below_alloc (Below.refl _ _) _)).below E2.out⟩
  · have hpk := hpg hb
    unfold layOk at he
    simp only at he
    have he2 : dom < 0 ∨ (0 ≤ dom ∧ 2 < dom) ∨ (0 ≤ dom ∧ dom ≤ 2 ∧ ref < 0) ∨ (0 ≤ dom ∧ dom ≤ 2 ∧ 0 ≤ ref ∧ 32 ≤ ref) := by
      by_cases h1 : dom < 0
      · exact .inl h1
      · by_cases h2 : 2 < dom
        · exact .inr (.inl ⟨by omega, h2⟩)
        · by_cases h3 : ref < 0
          · exact .inr (.inr (.inl ⟨by omega, by omega, h3⟩))
          · refine .inr (.inr (.inr ⟨by omega, by omega, by omega, ?_⟩))
            by_cases h4 : 32 ≤ ref
            · exact h4
            · exact absurd ⟨hb, by omega, by omega, by omega, by omega⟩ he
    clear hpb hpg hb he
    rcases he2 with h1 | ⟨h1, h2⟩ | ⟨h1, h2, h3⟩ | ⟨h1, h2, h3, h4⟩
    all_goals
      go_enter Tryz.func19, Tryz.ntmps19
      go_wp2_with (first
        | (go_at_call 57; (with_reducible refine (hpk _).mono ?_); rintro z w2 ⟨N, hN, rfl, hbk, hB2⟩; have hk2 := blk_below (blk_new W _) (blk_lt (blk_new W _)) hB2; have C2 := (fun i => blk_cell hk2 i); have L2 := blk_lt hk2; have E2 := Base.Aside.mk hB2; clear hB2 hbk)
        | go_in)
      refine bodyPost_ret (results_none rfl _ _ _) rfl ?_
      exact ⟨by first | rfl | (simp; done), (HB.out.below (below_alloc (Below.refl _ _) _)).below E2.out⟩
set_option maxHeartbeats 8000000 in
set_option maxRecDepth 100000 in
theorem lay_ok (h : J w0 W a P Q σ τ) (hp : Pu a σ) (hx : a.xb = w0.heap.size) (e : LE) (he : layOk e) :
    Calls Tryz.prog 19 #[.pointer (some ⟨w0.heap.size, 0, none⟩), .agg #[.int .i64 e.dom, .int .i64 e.ref, .int .i64 e.g.kd, .bool e.g.ro, .bool e.g.sb, .int .i64 e.g.dom, .int .i64 e.g.gp, .int .i64 e.g.of, .int .i64 e.g.le, .int .u8 e.fl]] W fun o w' => o = .returned (.tuple #[]) ∧ J w0 w' a P Q { σ with s := layT σ.s e } { τ with s := layT τ.s e } := by
  have hpk := fun W => pack_good e.g he.1 W
  have hzv := layZ_vals e he.1
  have hpv := packZ_vals e.g he.1
  have e1 : layT σ.s e = wrS σ.s (4 * e.dom) (8 * e.ref) (layZ e) := if_pos he
  have e2 : layT τ.s e = wrS τ.s (4 * e.dom) (8 * e.ref) (layZ e) := if_pos he
  rw [e1, e2]
  rw [hpv] at hzv
  simp only [List.tail_cons] at hzv
  simp only [hpv] at hpk
  obtain ⟨_, hd0, hd2, hr0, hr32⟩ := he
  obtain ⟨dom, ref, g, fl⟩ := e
  simp only at hpk hzv hd0 hd2 hr0 hr32 ⊢
  obtain ⟨d, rfl⟩ : ∃ d : Nat, dom = d := ⟨dom.toNat, by omega⟩
  obtain ⟨r, rfl⟩ : ∃ r : Nat, ref = r := ⟨ref.toNat, by omega⟩
  generalize layZ ⟨d, r, g, fl⟩ = zs at hzv ⊢
  have hzl : zs.length = 8 := by have := congrArg List.length hzv; simpa [u8s] using this
  obtain ⟨hdv, hhd⟩ : ∃ x, x = bits .xor .u8 (packN g) fl := ⟨_, rfl⟩
  generalize packN g = pn at hpk hzv hhd
  generalize (if g.sb = true then g.of else 0) = v6 at hpk hzv
  generalize (if g.sb = true then g.le else 256) - 1 = v7 at hpk hzv
  have HB := Base.Aside.mk (And.intro h (And.intro hx hzv))
  have d1 : decide ((d : Int) < 0) = false := decide_eq_false (by omega)
  have d2 : decide ((2 : Int) < (d : Int)) = false := decide_eq_false (by omega)
  have d3 : decide ((r : Int) < 0) = false := decide_eq_false (by omega)
  have d4 : decide ((32 : Int) ≤ (r : Int)) = false := decide_eq_false (by omega)
  have HN := Base.Aside.mk (And.intro hp hzl)
  have hp1 := hp
  clear h hzv hpv hx hp hp1 hzl
  go_enter Tryz.func19, Tryz.ntmps19
  go_wp2_with (first
    | (go_at_call 57; (with_reducible refine (hpk _).mono ?_); rintro z w2 ⟨N, hN, rfl, hbk, hB2⟩; have hk2 := blk_below (blk_new W _) (blk_lt (blk_new W _)) hB2; have C2 := (fun i => blk_cell hk2 i); have L2 := blk_lt hk2; have D2 := (fun i => blk_cell hbk i); have G2 := (fun i => blk_frozen hbk i); have M2 := blk_lt hbk; have nN : N ≠ W.heap.size := (by have := hN; rw [World.size_alloc] at this; omega); have E2 := Base.Aside.mk (And.intro hB2 (And.intro hk2 (And.intro hbk hN))); clear hB2 hbk hN hk2)
    | go_in)
  go_region
  go_upto_region 4 with fail
  refine wp_world (fun W3 => J w0 W3 a P Q σ τ ∧ W3.heap[W.heap.size]? = some (.cells #[.int .i64 d, .int .i64 r, .int .i64 g.kd, .bool g.ro, .bool g.sb, .int .i64 g.dom, .int .i64 g.gp, .int .i64 g.of, .int .i64 g.le, .int .u8 fl] 34 (0, 0)) ∧ W3.heap[N]? = some (.cells (u8s zs).toArray 5 (0, 0)) ∧ N ∉ a.bs) ?_ ?_
  · obtain ⟨hB2, hk2, hbk, hN⟩ := E2.out
    rw [World.size_alloc] at hN
    have hb2 : Below W.heap.size W w2 := (below_alloc (Below.refl _ _) _).trans (hB2.mono (by simp))
    have hc : Chg (fun x => x = N) w2 ((w2.setCell ⟨N, 0, none⟩ (.int .u8 (bits .xor .u8 pn fl)))) := chg_fb (Chg.refl _ w2) 0 _
    obtain ⟨A0, cap0, hd0', _⟩ := HB.out.1.d.d
    have hnb : N ∉ a.bs := fun hm => by
      obtain ⟨cs, hcs⟩ := page_mem hd0'.m hm
      have := blk_lt hcs
      omega
    refine ⟨HB.out.1.below (Below.drew (below_set hb2 (by show W.heap.size ≤ N; omega) _)), ?_, ?_, hnb⟩
    · exact hc.blk hk2 (by omega)
    · have h9 := HB.out.2.2
      rw [← hhd] at h9
      have h8 := blk_put hbk 0 (.int .u8 (bits .xor .u8 pn fl)) rfl
      refine h8.trans ?_
      rw [h9, hhd]
      rfl
  · intro W3 ⟨h3, hx3, hz3, hnb⟩
    have hb3 := jblk h3 HB.out.2.1
    have hbc := fun (W' : World) (hW : Below W3.heap.size W3 W') => j_write (h3.below hW) HN.out.1 (4 * d) (8 * r) (some ⟨N, 0, none⟩) 8 zs (.inr ⟨_, rfl, (Holds.of_block hz3).below hW⟩)
    rw [HN.out.2] at hbc
    have C3 := fun i => blk_cell hb3 i
    have D3 := fun i => blk_cell hx3 i
    have L3 := blk_lt hb3
    have M3 := blk_lt hx3
    have E3 := Base.Aside.mk (And.intro h3 (And.intro hx3 (And.intro hz3 hnb)))
    have hw1 : IntKind.i64.wrap (4 * (d : Int)) = 4 * (d : Int) := GuA.wraps_i64 _ (by omega) (by omega)
    have hw2 : IntKind.i64.wrap (8 * (r : Int)) = 8 * (r : Int) := GuA.wraps_i64 _ (by omega) (by omega)
    clear C2 L2 D2 G2 M2 E2 nN h3 hb3 hx3 hz3 hnb hpk
    go_cut [] from 42 to 53 (fun wx => Base.Aside (J w0 wx a P Q { σ with s := wrS σ.s (4 * d) (8 * r) zs } τ ∧ wx.heap[W.heap.size]? = some (.cells #[.int .i64 d, .int .i64 r, .int .i64 g.kd, .bool g.ro, .bool g.sb, .int .i64 g.dom, .int .i64 g.gp, .int .i64 g.of, .int .i64 g.le, .int .u8 fl] 34 (0, 0)) ∧ wx.heap[N]? = some (.cells (u8s zs).toArray 5 (0, 0))))
    case first =>
      go_region_with (first
        | (go_at_call 58; (with_reducible refine (hbc _ ?_).mono ?_); (focus (repeat (with_reducible first | exact Below.refl _ _ | refine below_drew ?_ | refine below_alloc ?_ _))); rintro z w5 ⟨⟨u5, rfl⟩, h5, hc5⟩; have E5 := Base.Aside.mk (And.intro h5 hc5); clear h5 hc5))
      all_goals
        go_wp2_with fail
        go_meet
        case rel =>
          obtain ⟨cs, l1, _⟩ := E3.out.1.p.m.lst
          exact ⟨E5.out.1, E5.out.2.blk E3.out.2.1 (bne E3.out.2.1 l1 (by decide)), E5.out.2.blk E3.out.2.2.1 (bne E3.out.2.2.1 l1 (by decide))⟩
    case rest =>
      have h6 := hcut.out.1
      have hb6 := jblk h6 HB.out.2.1
      have hbr := fun (W' : World) (hW : Below wc.heap.size wc W') => j_rwrite (h6.below hW) (4 * d) (8 * r) (some ⟨N, 0, none⟩) 8 zs (.inr ⟨_, rfl, (Holds.of_block hcut.out.2.2).below hW⟩) (fun _ x hx => by injection hx with hx; subst hx; exact E3.out.2.2.2)
      rw [HN.out.2] at hbr
      have C6 := fun i => blk_cell hb6 i
      have D6 := fun i => blk_cell hcut.out.2.1 i
      have L6 := blk_lt hb6
      have M6 := blk_lt hcut.out.2.1
      clear h6 hb6 hcut C3 D3 L3 M3 hbc
      go_upto_region 5 with fail
      go_region_with (first
        | (go_at_call 59; (with_reducible refine (hbr _ ?_).mono ?_); (focus (repeat (with_reducible first | exact Below.refl _ _ | refine below_drew ?_ | refine below_alloc ?_ _))); rintro z w7 ⟨⟨u7, rfl⟩, h7⟩; have E7 := Base.Aside.mk h7; clear h7))
      all_goals
        go_wp2
        refine bodyPost_end (results_none rfl _ _ _) rfl ?_
        exact ⟨by first | rfl | (simp; done), E7.out⟩
/-- lay, at every entry. -/
theorem lay_both (h : J w0 W a P Q σ σ) (hp : Pu a σ) (hx : a.xb = w0.heap.size) (e : LE) :
    Calls Tryz.prog 19 #[.pointer (some ⟨w0.heap.size, 0, none⟩), .agg #[.int .i64 e.dom, .int .i64 e.ref, .int .i64 e.g.kd, .bool e.g.ro, .bool e.g.sb, .int .i64 e.g.dom, .int .i64 e.g.gp, .int .i64 e.g.of, .int .i64 e.g.le, .int .u8 e.fl]] W fun o w' => o = .returned (.tuple #[]) ∧ J w0 w' a P Q { σ with s := layT σ.s e } { σ with s := layT σ.s e } := by
  by_cases he : layOk e
  · exact lay_ok h hp hx e he
  · have e1 : layT σ.s e = σ.s := if_neg he
    rw [e1]
    exact lay_no h hx e he
end
end Go.Proofs.YthlejchcnfdcpaaGreat.GzK
