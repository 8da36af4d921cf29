/- Proved: lay: an owner writes an entry, in both worlds (a contract for the laws of the grants). -/
import Derived.Test.YtjeobbhaoahdcaaGoA
import Derived.Test.YtjeobbhaoahdcaaGlA
import Derived.Laws.Closers25b
import Derived.Deep.RegionWith
import Derived.Outline
namespace Go.Proofs.Ytjeobbhaoahdcaa.GoB
open Go.RowKit Go.Maps Go.Proofs.Ytjeobbhaoahdcaa.Base Go.Proofs.Ytjeobbhaoahdcaa.GaA Go.Proofs.Ytjeobbhaoahdcaa.GaB Go.Proofs.Ytjeobbhaoahdcaa.GaC Go.Proofs.Ytjeobbhaoahdcaa.GaD Go.Proofs.Ytjeobbhaoahdcaa.RpA Go.Proofs.Ytjeobbhaoahdcaa.RmA Go.Proofs.Ytjeobbhaoahdcaa.RmB Go.Proofs.Ytjeobbhaoahdcaa.RmC Go.Proofs.Ytjeobbhaoahdcaa.GfB Go.Proofs.Ytjeobbhaoahdcaa.GfC Go.Proofs.Ytjeobbhaoahdcaa.GbA Go.Proofs.Ytjeobbhaoahdcaa.GbB Go.Proofs.Ytjeobbhaoahdcaa.GbC Go.Proofs.Ytjeobbhaoahdcaa.GkA Go.Proofs.Ytjeobbhaoahdcaa.GkB Go.Proofs.Ytjeobbhaoahdcaa.GoA Go.Proofs.Ytjeobbhaoahdcaa.GlA
set_option linter.unusedVariables false
set_option linter.unusedSimpArgs false

/-- An entry of the law's. -/
structure LE where
  dom : Int
  ref : Int
  g : Gr
  fl : Int
def layOk (e : LE) : Prop := ¬ packBad e.g ∧ 0 ≤ e.dom ∧ e.dom ≤ 2 ∧ 0 ≤ e.ref ∧ e.ref < 32
instance (e : LE) : Decidable (layOk e) := by unfold layOk; infer_instance
def layZ (e : LE) : List UInt8 := ofI (bits .xor .u8 (packN e.g) e.fl) :: (packZ e.g).tail
def layS (s : MS) (e : LE) : MS := if layOk e then MS.wr s (4 * e.dom.toNat) (8 * e.ref.toNat) (layZ e) else s
theorem layZ_len (e : LE) : (layZ e).length = 8 := rfl
theorem layS_n (s : MS) (e : LE) : (layS s e).n = s.n := by unfold layS; split <;> rfl
theorem layS_fr (s : MS) (e : LE) : (layS s e).fr = s.fr := by unfold layS; split <;> rfl
theorem xor_u8 (a b : Int) : 0 ≤ bits .xor .u8 a b ∧ bits .xor .u8 a b < 256 := ⟨bits_lo_u8 _ _ _, by have := bits_hi_u8 .xor a b; omega⟩
theorem layZ_vals (e : LE) (h : ¬ packBad e.g) : u8s (layZ e) = .int .u8 (bits .xor .u8 (packN e.g) e.fl) :: (u8s (packZ e.g)).tail := by
  obtain ⟨h0, h1⟩ := xor_u8 (packN e.g) e.fl
  unfold layZ u8s
  rw [List.map_cons, ofI_toNat _ h0 h1, List.map_tail]
section
variable {w0 W W' : World} {a : BA} {s t s' t' : MS} {n : Cn} {P Q : Value}
/-- A page of the document's turns. -/
theorem bo_rpage {B : Nat} (h : Bo B W a s t n P Q) {k : Nat} (hk : k < t.n) (hc : Chg (fun x => x = a.bs.getD k 0) W W') (w' : RMach W' a.rb a.Fb a.Bb a.cF a.cB a.bs t') : Bo B W' a s t' n P Q := by
  have hp := h.w.page k hk
  obtain ⟨cs, h1, h2⟩ := h.m.lst
  exact h.step hc (h.m.chg hc (blk_ne h.m.blk hp (by decide)) (blk_ne h1 hp (by decide))) w' (fun x hx => h.ty_ne (ty_cells hp) (by decide) hx)
theorem bd_write (h : Bd w0 W a s t n P Q) (k off : Nat) (hk : k < s.n) (hown : (s.fr k).own ≠ -1) (A : Option Addr) (l c : Nat) (zs : List UInt8) (hl : l = zs.length) (hz : Bytes W A zs) (ho : off + zs.length ≤ 256) :
    Calls Try.prog 18 #[.pointer (some ⟨a.mb, 0, none⟩), .int .i64 k, .int .i64 off, .slice A l c] W fun e w' => e = .returned (.int .i64 0) ∧ Bd w0 w' a (MS.wr s k off zs) t n P Q ∧ Chg (fun x => x = a.fb) W w' :=
  (GaC.write_calls h.bo.m k hk off A l c zs hl hz ho hown).mono fun e w' ⟨h1, h2, h3⟩ => ⟨h1, ⟨h.bo.mach h3 h2, h.out h3 (by rintro x rfl; exact h.bo.ge.2.1)⟩, h3⟩
theorem bd_rwrite (h : Bd w0 W a s t n P Q) (k off : Nat) (hk : k < t.n) (hown : (t.fr k).own ≠ -1) (x : Addr) (c : Nat) (zs : List UInt8) (hz : Holds W x zs) (ho : off + zs.length ≤ 256) (hx : x.block ∉ a.bs) :
    Calls Try.prog 52 #[.pointer (some ⟨a.rb, 0, none⟩), .int .i64 k, .int .i64 off, .slice (some x) zs.length c] W fun e w' => e = .returned (.int .i64 0) ∧ Bd w0 w' a s (MS.wr t k off zs) n P Q :=
  (rwrite h.bo.w k off hk hown x c zs hz ho (fun e => hx (by rw [e]; exact RMach.mem h.bo.w k hk))).mono fun e w' ⟨h1, h2, h3⟩ => ⟨h1, bo_rpage h.bo hk h3 h2, h.out h3 (by rintro y rfl; exact h.bo.ge.2.2.2.2.2.2.1 _ (RMach.mem h.bo.w k hk))⟩
/-- lay's argument. -/
def leV (e : LE) : Value := .agg #[.int .i64 e.dom, .int .i64 e.ref, .int .i64 e.g.kd, .bool e.g.ro, .bool e.g.sb, .int .i64 e.g.dom, .int .i64 e.g.gp, .int .i64 e.g.of, .int .i64 e.g.le, .int .u8 e.fl]
set_option maxHeartbeats 8000000 in
set_option maxRecDepth 100000 in
theorem lay_no (h : Bd w0 W a s t n P Q) (hx : a.xb = w0.heap.size) (e : LE) (he : ¬ layOk e) :
    Calls Try.prog 21 #[.pointer (some ⟨w0.heap.size, 0, none⟩), .agg #[.int .i64 e.dom, .int .i64 e.ref, .int .i64 e.g.kd, .bool e.g.ro, .bool e.g.sb, .int .i64 e.g.dom, .int .i64 e.g.gp, .int .i64 e.g.of, .int .i64 e.g.le, .int .u8 e.fl]] W fun o w' => o = .returned (.tuple #[]) ∧ Bd w0 w' a s t n P Q := by
  have hpb := fun (h : packBad e.g) W => pack_bad e.g h W
  have hpg := fun (h : ¬ packBad e.g) W => pack_good e.g h W
  obtain ⟨dom, ref, g, fl⟩ := e
  obtain ⟨kd, ro, sb, gd, gp, of, le⟩ := g
  simp only at hpb hpg he ⊢
  have HB := Base.Aside.mk h
  clear h
  by_cases hb : packBad ⟨kd, ro, sb, gd, gp, of, le⟩
  · have hpk := hpb hb
    clear hpb hpg hb he
    go_enter Try.func21, Try.ntmps21
    go_wp2_with (first
      | (go_at_call 16; (with_reducible refine (hpk _).mono ?_); rintro z w2 ⟨rfl, hB2⟩; have E2 := Base.Aside.mk hB2; clear hB2)
      | go_in)
    refine bodyPost_ret (results_none rfl _ _ _) rfl ?_
    exact ⟨by first | rfl | (simp; done), (HB.out.below (below_alloc (Below.refl _ _) _)).below E2.out⟩
  · have hpk := hpg hb
    unfold layOk at he
    simp only at he
    have he2 : dom < 0 ∨ (0 ≤ dom ∧ 2 < dom) ∨ (0 ≤ dom ∧ dom ≤ 2 ∧ ref < 0) ∨ (0 ≤ dom ∧ dom ≤ 2 ∧ 0 ≤ ref ∧ 32 ≤ ref) := by
      by_cases h1 : dom < 0
      · exact .inl h1
      · by_cases h2 : 2 < dom
        · exact .inr (.inl ⟨by omega, h2⟩)
        · by_cases h3 : ref < 0
          · exact .inr (.inr (.inl ⟨by omega, by omega, h3⟩))
          · refine .inr (.inr (.inr ⟨by omega, by omega, by omega, ?_⟩))
            by_cases h4 : 32 ≤ ref
            · exact h4
            · exact absurd ⟨hb, by omega, by omega, by omega, by omega⟩ he
    clear hpb hpg hb he
    rcases he2 with h1 | ⟨h1, h2⟩ | ⟨h1, h2, h3⟩ | ⟨h1, h2, h3, h4⟩
    all_goals
      go_enter Try.func21, Try.ntmps21
      go_wp2_with (first
        | (go_at_call 16; (with_reducible refine (hpk _).mono ?_); rintro z w2 ⟨N, hN, rfl, hbk, hB2⟩; have hk2 := blk_below (blk_new W _) (blk_lt (blk_new W _)) hB2; have C2 := (fun i => blk_cell hk2 i); have L2 := blk_lt hk2; have E2 := Base.Aside.mk hB2; clear hB2 hbk)
        | go_in)
      refine bodyPost_ret (results_none rfl _ _ _) rfl ?_
      exact ⟨by first | rfl | (simp; done), (HB.out.below (below_alloc (Below.refl _ _) _)).below E2.out⟩
set_option maxHeartbeats 8000000 in
set_option maxRecDepth 100000 in
theorem lay_ok (h : Bd w0 W a s t n P Q) (hx : a.xb = w0.heap.size) (e : LE) (he : layOk e) (hn : s.n = 13 ∧ t.n = 13) (ho : ∀ k, k < 12 → (s.fr k).own ≠ -1 ∧ (t.fr k).own ≠ -1) :
    Calls Try.prog 21 #[.pointer (some ⟨w0.heap.size, 0, none⟩), .agg #[.int .i64 e.dom, .int .i64 e.ref, .int .i64 e.g.kd, .bool e.g.ro, .bool e.g.sb, .int .i64 e.g.dom, .int .i64 e.g.gp, .int .i64 e.g.of, .int .i64 e.g.le, .int .u8 e.fl]] W fun o w' => o = .returned (.tuple #[]) ∧ Bd w0 w' a (layS s e) (layS t e) n P Q := by
  have hpk := fun W => pack_good e.g he.1 W
  have hzv := layZ_vals e he.1
  have hpv := packZ_vals e.g he.1
  have e1 : layS s e = MS.wr s (4 * e.dom.toNat) (8 * e.ref.toNat) (layZ e) := if_pos he
  have e2 : layS t e = MS.wr t (4 * e.dom.toNat) (8 * e.ref.toNat) (layZ e) := if_pos he
  rw [e1, e2]
  rw [hpv] at hzv
  simp only [List.tail_cons] at hzv
  simp only [hpv] at hpk
  obtain ⟨_, hd0, hd2, hr0, hr32⟩ := he
  obtain ⟨dom, ref, g, fl⟩ := e
  simp only at hpk hzv hd0 hd2 hr0 hr32 ⊢
  obtain ⟨d, rfl⟩ : ∃ d : Nat, dom = d := ⟨dom.toNat, by omega⟩
  obtain ⟨r, rfl⟩ : ∃ r : Nat, ref = r := ⟨ref.toNat, by omega⟩
  simp only [Int.toNat_natCast]
  generalize layZ ⟨d, r, g, fl⟩ = zs at hzv ⊢
  have hzl : zs.length = 8 := by have := congrArg List.length hzv; simpa [u8s] using this
  obtain ⟨hdv, hhd⟩ : ∃ x, x = bits .xor .u8 (packN g) fl := ⟨_, rfl⟩
  generalize packN g = pn at hpk hzv hhd
  generalize (if g.sb = true then g.of else 0) = v6 at hpk hzv
  generalize (if g.sb = true then g.le else 256) - 1 = v7 at hpk hzv
  have HB := Base.Aside.mk (And.intro h (And.intro hx hzv))
  have d1 : decide ((d : Int) < 0) = false := decide_eq_false (by omega)
  have d2 : decide ((2 : Int) < (d : Int)) = false := decide_eq_false (by omega)
  have d3 : decide ((r : Int) < 0) = false := decide_eq_false (by omega)
  have d4 : decide ((32 : Int) ≤ (r : Int)) = false := decide_eq_false (by omega)
  have HN := Base.Aside.mk (And.intro hn (And.intro ho hzl))
  clear h hzv hpv hx hn ho hzl
  go_enter Try.func21, Try.ntmps21
  go_wp2_with (first
    | (go_at_call 16; (with_reducible refine (hpk _).mono ?_); rintro z w2 ⟨N, hN, rfl, hbk, hB2⟩; have hk2 := blk_below (blk_new W _) (blk_lt (blk_new W _)) hB2; have C2 := (fun i => blk_cell hk2 i); have L2 := blk_lt hk2; have D2 := (fun i => blk_cell hbk i); have G2 := (fun i => blk_frozen hbk i); have M2 := blk_lt hbk; have nN : N ≠ W.heap.size := (by have := hN; rw [World.size_alloc] at this; omega); have E2 := Base.Aside.mk (And.intro hB2 (And.intro hk2 (And.intro hbk hN))); clear hB2 hbk hN hk2)
    | go_in)
  go_region
  go_upto_region 4 with fail
  refine wp_world (fun W3 => Bd w0 W3 a s t n P Q ∧ W3.heap[W.heap.size]? = some (.cells #[.int .i64 d, .int .i64 r, .int .i64 g.kd, .bool g.ro, .bool g.sb, .int .i64 g.dom, .int .i64 g.gp, .int .i64 g.of, .int .i64 g.le, .int .u8 fl] 63 (0, 0)) ∧ W3.heap[N]? = some (.cells (u8s zs).toArray 5 (0, 0)) ∧ N ∉ a.bs) ?_ ?_
  · obtain ⟨hB2, hk2, hbk, hN⟩ := E2.out
    rw [World.size_alloc] at hN
    have hb2 := (HB.out.1.below (below_alloc (Below.refl _ _) _)).below hB2
    have ho := HB.out.1.bo.old
    have hs := HB.out.1.bel.size
    have hc : Chg (fun x => x = N) w2 ((w2.setCell ⟨N, 0, none⟩ (.int .u8 (bits .xor .u8 pn fl)))) := chg_fb (Chg.refl _ w2) 0 _
    have hnb : N ∉ a.bs := fun hm => by have := ho.m.2.2.2.2.2 _ hm; omega
    refine ⟨Bd.below (W := (w2.setCell ⟨N, 0, none⟩ (.int .u8 (bits .xor .u8 pn fl)))) ⟨hb2.bo.young hc (N := W.heap.size + 1) (by rintro x rfl; exact hN) ⟨fun x hx => by have := ho.bl x hx; omega, by obtain ⟨m1, m2, m3, m4, m5, m6⟩ := ho.m; exact ⟨by omega, by omega, by omega, by omega, by omega, fun b hb => by have := m6 b hb; omega⟩⟩, hb2.out hc (by rintro x rfl; omega)⟩ (Below.refl _ _).drew, ?_, ?_, hnb⟩
    · exact hc.blk hk2 (by omega)
    · have h9 := HB.out.2.2
      rw [← hhd] at h9
      have h8 := blk_put hbk 0 (.int .u8 (bits .xor .u8 pn fl)) rfl
      refine h8.trans ?_
      rw [h9, hhd]
      rfl
  · intro W3 ⟨h3, hx3, hz3, hnb⟩
    have hb3 := xblk h3 HB.out.2.1
    have hbc := fun (W' : World) (hW : Below W3.heap.size W3 W') => bd_write (h3.below hW) (4 * d) (8 * r) (by rw [HN.out.1.1]; omega) (HN.out.2.1 _ (by omega)).1 (some ⟨N, 0, none⟩) 8 8 zs HN.out.2.2.symm (.inr ⟨_, rfl, (Holds.of_block hz3).below hW⟩) (by rw [HN.out.2.2]; omega)
    rw [show ((4 * d : Nat) : Int) = 4 * (d : Int) by omega, show ((8 * r : Nat) : Int) = 8 * (r : Int) by omega] at hbc
    have C3 := fun i => blk_cell hb3 i
    have D3 := fun i => blk_cell hx3 i
    have L3 := blk_lt hb3
    have M3 := blk_lt hx3
    have E3 := Base.Aside.mk (And.intro h3 (And.intro hx3 (And.intro hz3 hnb)))
    have hw1 : IntKind.i64.wrap (4 * (d : Int)) = 4 * (d : Int) := GuA.wraps_i64 _ (by omega) (by omega)
    have hw2 : IntKind.i64.wrap (8 * (r : Int)) = 8 * (r : Int) := GuA.wraps_i64 _ (by omega) (by omega)
    clear C2 L2 D2 G2 M2 E2 nN h3 hb3 hx3 hz3 hnb hpk
    go_cut [] from 42 to 53 (fun wx => Base.Aside (Bd w0 wx a (MS.wr s (4 * d) (8 * r) zs) t n P Q ∧ wx.heap[W.heap.size]? = some (.cells #[.int .i64 d, .int .i64 r, .int .i64 g.kd, .bool g.ro, .bool g.sb, .int .i64 g.dom, .int .i64 g.gp, .int .i64 g.of, .int .i64 g.le, .int .u8 fl] 63 (0, 0)) ∧ wx.heap[N]? = some (.cells (u8s zs).toArray 5 (0, 0))))
    case first =>
      go_region_with (first
        | (go_at_call 18; (with_reducible refine (hbc _ ?_).mono ?_); (focus (repeat (with_reducible first | exact Below.refl _ _ | refine below_drew ?_ | refine below_alloc ?_ _))); rintro z w5 ⟨rfl, h5, hc5⟩; have E5 := Base.Aside.mk (And.intro h5 hc5); clear h5 hc5))
      all_goals
        go_wp2_with fail
        go_meet
        case rel =>
          obtain ⟨cs, l1, _⟩ := E3.out.1.bo.m.lst
          exact ⟨E5.out.1, E5.out.2.blk E3.out.2.1 (bne E3.out.2.1 l1 (by decide)), E5.out.2.blk E3.out.2.2.1 (bne E3.out.2.2.1 l1 (by decide))⟩
    case rest =>
      have h6 := hcut.out.1
      have hb6 := xblk h6 HB.out.2.1
      have hbr := fun (W' : World) (hW : Below wc.heap.size wc W') => bd_rwrite (h6.below hW) (4 * d) (8 * r) (by rw [HN.out.1.2]; omega) (HN.out.2.1 _ (by omega)).2 ⟨N, 0, none⟩ 8 zs ((Holds.of_block hcut.out.2.2).below hW) (by rw [HN.out.2.2]; omega) E3.out.2.2.2
      rw [show ((4 * d : Nat) : Int) = 4 * (d : Int) by omega, show ((8 * r : Nat) : Int) = 8 * (r : Int) by omega, HN.out.2.2] at hbr
      have C6 := fun i => blk_cell hb6 i
      have D6 := fun i => blk_cell hcut.out.2.1 i
      have L6 := blk_lt hb6
      have M6 := blk_lt hcut.out.2.1
      clear h6 hb6 hcut C3 D3 L3 M3 hbc
      go_upto_region 5 with fail
      go_region_with (first
        | (go_at_call 52; (with_reducible refine (hbr _ ?_).mono ?_); (focus (repeat (with_reducible first | exact Below.refl _ _ | refine below_drew ?_ | refine below_alloc ?_ _))); rintro z w7 ⟨rfl, h7⟩; have E7 := Base.Aside.mk h7; clear h7))
      all_goals
        go_wp2
        refine bodyPost_end (results_none rfl _ _ _) rfl ?_
        exact ⟨by first | rfl | (simp; done), E7.out⟩
/-- lay, at every entry. -/
theorem lay_any (h : Bd w0 W a s t n P Q) (hx : a.xb = w0.heap.size) (e : LE) (hn : s.n = 13 ∧ t.n = 13) (ho : ∀ k, k < 12 → (s.fr k).own ≠ -1 ∧ (t.fr k).own ≠ -1) :
    Calls Try.prog 21 #[.pointer (some ⟨w0.heap.size, 0, none⟩), .agg #[.int .i64 e.dom, .int .i64 e.ref, .int .i64 e.g.kd, .bool e.g.ro, .bool e.g.sb, .int .i64 e.g.dom, .int .i64 e.g.gp, .int .i64 e.g.of, .int .i64 e.g.le, .int .u8 e.fl]] W fun o w' => o = .returned (.tuple #[]) ∧ Bd w0 w' a (layS s e) (layS t e) n P Q := by
  by_cases he : layOk e
  · exact lay_ok h hx e he hn ho
  · have e1 : layS s e = s := if_neg he
    have e2 : layS t e = t := if_neg he
    rw [e1, e2]
    exact lay_no h hx e he
end
end Go.Proofs.Ytjeobbhaoahdcaa.GoB
