/- Proved: an entry and what it permits, at every entry; the ends of a copy (contracts for the laws of the grants). -/
import Derived.Test.YtjeobbhaoahdcaaGfB
namespace Go.Proofs.Ytjeobbhaoahdcaa.GfC
open Go.RowKit Go.Maps Go.Proofs.Ytjeobbhaoahdcaa.Base Go.Proofs.Ytjeobbhaoahdcaa.GaA Go.Proofs.Ytjeobbhaoahdcaa.GaB Go.Proofs.Ytjeobbhaoahdcaa.GaC Go.Proofs.Ytjeobbhaoahdcaa.GmA Go.Proofs.Ytjeobbhaoahdcaa.GpA Go.Proofs.Ytjeobbhaoahdcaa.GgA Go.Proofs.Ytjeobbhaoahdcaa.GeA Go.Proofs.Ytjeobbhaoahdcaa.GeB Go.Proofs.Ytjeobbhaoahdcaa.GfA Go.Proofs.Ytjeobbhaoahdcaa.GfB Go.Proofs.Ytjeobbhaoahdcaa.GvA
set_option linter.unusedVariables false
set_option linter.unusedSimpArgs false

theorem bne {w : World} {g k : Nat} {t u : TypeId} {cs ds : Array Value} (h : w.heap[g]? = some (.cells cs t (0, 0))) (h2 : w.heap[k]? = some (.cells ds u (0, 0))) (hn : t ≠ u) : g ≠ k := by
  rintro rfl
  rw [h] at h2
  have e := Option.some.inj h2
  injection e with e1 e2 e3
  exact hn e2
theorem bnm {w : World} {g k c : Nat} {t : TypeId} {cs : Array Value} {f : Int → Option Value} (h : w.heap[g]? = some (.cells cs t (0, 0))) (h2 : IMap w k f c) : g ≠ k := by
  rintro rfl
  obtain ⟨es, clock, h1⟩ := h2.is
  rw [h] at h1
  cases h1
theorem _root_.Go.Proofs.Ytjeobbhaoahdcaa.GvA.V2.ne_m {w : World} {vb db mb mb' fb r : Nat} {s : MS} (h : V2 w vb db mb' r) (hM : Mach w mb fb s) : vb ≠ mb ∧ vb ≠ fb := by
  obtain ⟨cs, h1, h2⟩ := hM.lst
  exact ⟨bne h.blk hM.blk (by decide), bne h.blk h1 (by decide)⟩
theorem _root_.Go.Proofs.Ytjeobbhaoahdcaa.GvA.V2.ne_g {w : World} {vb db mb mb' r gb mm hm c : Nat} {f : Int → Option (Int × Nat)} (h : V2 w vb db mb' r) (hG : G2 w gb mm hm mb f c) : vb ≠ gb ∧ vb ≠ mm := ⟨bne h.blk hG.blk (by decide), bnm h.blk hG.mem⟩
theorem _root_.Go.Proofs.Ytjeobbhaoahdcaa.GvA.V2.ne_p {w : World} {vb db mb' r pb fm pm size c : Nat} {fr pl : Int → Option Int} (h : V2 w vb db mb' r) (hP : P2 w pb fm pm size fr pl c) : vb ≠ pb ∧ vb ≠ fm ∧ vb ≠ pm := ⟨bne h.blk hP.blk (by decide), bnm h.blk hP.mf, bnm h.blk hP.mp⟩
/-- A view behind so many reads; nothing else has turned. -/
structure Vw (vb db mb : Nat) (w W : World) (r : Nat) : Prop where
  v : V2 W vb db mb r
  c : Chg (fun x => x = vb) w W
  lv : vb < w.heap.size
  ld : db < w.heap.size
section
variable {vb db mb r : Nat} {w w' W W' : World}
theorem Vw.refl (h : V2 w vb db mb r) : Vw vb db mb w w r := ⟨h, Chg.refl _ _, blk_lt h.blk, h.due.lt⟩
theorem Vw.set (h : Vw vb db mb w W r) {g : Nat} (hg : w.heap.size ≤ g) (i : Nat) (u : Value) : Vw vb db mb w (W.setCell ⟨g, i, none⟩ u) r := by
  have h1 := h.lv
  have h2 := h.ld
  exact ⟨h.v.chg (Chg.set (F := fun x => x = g) (p := ⟨g, i, none⟩) (Chg.refl _ W) (.inl rfl) u) (by omega) (by omega), Chg.set (p := ⟨g, i, none⟩) h.c (.inr hg) u, h1, h2⟩
theorem Vw.below (h : Vw vb db mb w W r) (hb : Below W.heap.size W W') : Vw vb db mb w W' r := ⟨h.v.below hb, h.c.trans (Chg.below _ hb), h.lv, h.ld⟩
theorem Vw.alloc (h : Vw vb db mb w W r) (o : Obj) : Vw vb db mb w (W.alloc o) r := h.below (below_alloc (Below.refl _ _) o)
theorem Vw.drew (h : Vw vb db mb w W r) : Vw vb db mb w W.drew r := h.below (Below.refl _ _).drew
theorem Vw.drewN (h : Vw vb db mb w W r) (n : Nat) : Vw vb db mb w (W.drewN n) r := h.below ⟨rfl, rfl, rfl, Nat.le_refl _, fun _ _ => rfl⟩
theorem Vw.trans {r' : Nat} (h : Vw vb db mb w W r) (k : Vw vb db mb W W' r') : Vw vb db mb w W' r' := ⟨k.v, h.c.trans k.c, h.lv, h.ld⟩
theorem Vw.pre {r' : Nat} (hb : Below w.heap.size w W) (hv : vb < w.heap.size) (hd : db < w.heap.size) (k : Vw vb db mb W W' r') : Vw vb db mb w W' r' := ⟨k.v, (Chg.below _ hb).trans k.c, hv, hd⟩
theorem Vw.blk (h : Vw vb db mb w W r) {g : Nat} {o : Obj} (hg : w.heap[g]? = some o) (hn : g ≠ vb) : W.heap[g]? = some o := h.c.blk hg hn
end
section
variable {w w' : World} {vb db mb fb r : Nat} {s : MS}
def VrOut (w : World) (vb db mb r : Nat) (s : MS) (k off n : Int) (e : Ending) (w' : World) : Prop := ∃ (A : Option Addr) (l : Nat) (er : Int), e = .returned (.tuple #[.slice A l l, .int .i64 er]) ∧ RdOk w.heap.size s k off n A l er w' ∧ Vw vb db mb w w' (r + 1)
set_option maxHeartbeats 4000000 in
set_option maxRecDepth 100000 in
theorem vread_any (h : V2 w vb db mb r) (hM : Mach w mb fb s) (hr : 0 ≤ r) (k off n : Int) : Calls Try.prog 51 #[.pointer (some ⟨vb, 0, none⟩), .int .i64 k, .int .i64 off, .int .i64 n] w (VrOut w vb db mb r s k off n) := by
  have C0 := fun i => blk_cell h.blk i
  have F0 := fun i => blk_frozen h.blk i
  have L0 := blk_lt h.blk
  have hn := GvA.none_calls h
  have hci := cr_in r
  have hcs := cr_step r
  have hlk := (h.due.block (W' := w.drew) rfl).look Try.underlying82 (zeroF w.drew) (cr r) (by omega) (by omega)
  simp only [Option.getD_none] at hlk
  have hc1 : Chg (fun x => x = vb) w (w.setCell ⟨vb, 2, none⟩ (.int .i64 (cr (r + 1)))).drew := Chg.drew (Chg.set (F := fun x => x = vb) (p := ⟨vb, 2, none⟩) (Chg.refl _ w) (.inl rfl) _)
  have hrd := read_any (hM.chg hc1 (fun e => (h.ne_m hM).1 e.symm) (fun e => (h.ne_m hM).2 e.symm)) k off n
  have hsz : (w.setCell ⟨vb, 2, none⟩ (.int .i64 (cr (r + 1)))).drew.heap.size = w.heap.size := size_set _ _ _
  have hdb : db ≠ vb := fun e => bnm h.blk h.due e.symm
  have hV1 : Vw vb db mb w (w.setCell ⟨vb, 2, none⟩ (.int .i64 (cr (r + 1)))).drew (r + 1) := ⟨⟨blk_put h.blk 2 _ (by simp), h.due.chg hc1 hdb⟩, hc1, L0, h.due.lt⟩
  unfold RdOut at hrd
  rw [hsz] at hrd
  have HH := Base.Aside.mk (And.intro hV1 hsz)
  clear h hM hc1 hV1 hsz
  go_enter Try.func51, Try.ntmps51
  go_wp2_with (first
    | (go_at_call 78; refine hn.mono ?_; rintro z w1 ⟨rfl, hw1⟩; obtain rfl := hw1.symm)
    | go_in)
  go_region
  go_wp2
  refine wp_loop_once ?_
  go_wp2_with (first
    | (go_at_call 12; refine hrd.mono ?_; rintro z w1 ⟨A, l, er, rfl, hw1, hw2⟩; have E1 := Base.Aside.mk (And.intro hw1 hw2); clear hw1 hw2)
    | go_in)
  go_ret2
  refine ⟨A, l, er, by first | rfl | (simp; done), E1.out.1, HH.out.1.below ?_⟩
  rw [HH.out.2]
  exact E1.out.2
end
/-- An entry as it is read. -/
structure Gr where
  kd : Int
  ro : Bool
  sb : Bool
  dom : Int
  gp : Int
  of : Int
  le : Int
def aggv (g : Gr) : Value := .agg #[.int .i64 g.kd, .bool g.ro, .bool g.sb, .int .i64 g.dom, .int .i64 g.gp, .int .i64 g.of, .int .i64 g.le]
def entG (l : List Int) : Gr := if GuA.bad l then ⟨0, false, false, 0, 0, 0, 0⟩ else ⟨GuA.kd l, GuA.ro l, GuA.sb l, GuA.rd l 2 + 256 * GuA.rd l 3, GuA.rd l 4 + 256 * GuA.rd l 5, GuA.of l, GuA.le l⟩
def entE (l : List Int) : Int := if GuA.bad l then 60 else 0
def permE (l : List Int) (caller : Int) : Int := if entE l = 0 ∧ ((entG l).kd ≠ 1 ∨ (entG l).dom ≠ caller) then 60 else entE l
section
variable {w w' : World} {gb mm hm mb fb : Nat} {f : Int → Option (Int × Nat)} {c : Nat} {s : MS} {vb db r : Nat}
theorem ent_any (h : G2 w gb mm hm mb f c) (hM : Mach w mb fb s) (hV : V2 w vb db mb r) (hr : 0 ≤ r) (d : Int) (d0 : 0 ≤ d) (d8 : d < 8) (k pb : Nat) (hd : f d = some ((k : Int), pb)) (hk : k < s.n) (ref : Nat) (h32 : ref < 32) :
    Calls Try.prog 68 #[.pointer (some ⟨gb, 0, none⟩), .pointer (some ⟨vb, 0, none⟩), .int .i64 d, .int .i64 ref] w fun e w' => e = .returned (.tuple #[aggv (entG (ent s k ref)), .int .i64 (entE (ent s k ref))]) ∧ Vw vb db mb w w' (r + 1) :=
  (entry_calls h hM hV hr (hV.ne_m hM).1 (hV.ne_m hM).2 d d0 d8 k pb hd hk ref h32).mono fun e w' ⟨h1, h2, h3⟩ => by
    refine ⟨?_, h2, h3, blk_lt hV.blk, hV.due.lt⟩
    rw [h1]
    unfold entG entE
    by_cases hb : GuA.bad (ent s k ref)
    · simp only [if_pos hb]; rfl
    · simp only [if_neg hb]; rfl
set_option maxHeartbeats 4000000 in
set_option maxRecDepth 100000 in
theorem permit_any (h : G2 w gb mm hm mb f c) (hM : Mach w mb fb s) (hV : V2 w vb db mb r) (hr : 0 ≤ r) (d : Int) (d0 : 0 ≤ d) (d8 : d < 8) (k pb : Nat) (hd : f d = some ((k : Int), pb)) (hk : k < s.n) (ref : Nat) (h32 : ref < 32) (caller : Int) :
    Calls Try.prog 58 #[.pointer (some ⟨gb, 0, none⟩), .pointer (some ⟨vb, 0, none⟩), .int .i64 caller, .int .i64 d, .int .i64 ref] w fun e w' => e = .returned (.tuple #[aggv (entG (ent s k ref)), .int .i64 (permE (ent s k ref) caller)]) ∧ Vw vb db mb w w' (r + 1) := by
  have hb1 := below_alloc (Below.refl w.heap.size w) (.cells #[.int .i64 0, .bool false, .bool false, .int .i64 0, .int .i64 0, .int .i64 0, .int .i64 0] 53)
  have hen := ent_any (h.below hb1) (hM.below hb1) (hV.below hb1) hr d d0 d8 k pb hd hk ref h32
  obtain ⟨g, hg⟩ : ∃ g, g = entG (ent s k ref) := ⟨_, rfl⟩
  obtain ⟨er, her⟩ : ∃ er, er = entE (ent s k ref) := ⟨_, rfl⟩
  obtain ⟨pe, hpe⟩ : ∃ pe, pe = permE (ent s k ref) caller := ⟨_, rfl⟩
  have hp2 : pe = if er = 0 ∧ (g.kd ≠ 1 ∨ g.dom ≠ caller) then 60 else er := by rw [hpe, hg, her]; rfl
  rw [← hg, ← her] at hen
  rw [← hg, ← hpe]
  unfold aggv at hen ⊢
  have hVlt := blk_lt hV.blk
  have hDlt := hV.due.lt
  have HA := Base.Aside.mk hp2
  have HR := fun (w1 : World) (hc : Vw vb db mb (w.alloc (.cells #[.int .i64 0, .bool false, .bool false, .int .i64 0, .int .i64 0, .int .i64 0, .int .i64 0] 53)) w1 (r + 1)) => hc.blk (blk_new w _) (Nat.ne_of_gt hVlt)
  have HP := Base.Aside.mk hb1
  clear h hM hV hb1 hg her hpe hp2 hd
  go_enter Try.func58, Try.ntmps58
  go_wp2_with (first
    | (go_at_call 68; refine hen.mono ?_; rintro z w1 ⟨rfl, hw2⟩; have hres := HR w1 hw2; have C2 := fun i => blk_cell hres i; have F2 := fun i => blk_frozen hres i; have L2 := blk_lt hres; have E1 := Base.Aside.mk hw2; clear hw2 hres)
    | go_in)
  all_goals
    refine bodyPost_ret (v := .tuple #[.agg #[.int .i64 g.kd, .bool g.ro, .bool g.sb, .int .i64 g.dom, .int .i64 g.gp, .int .i64 g.of, .int .i64 g.le], .int .i64 pe]) ?_ rfl ⟨rfl, ?_⟩
    · simp only [results, Try.results58]
      go_simp
      all_goals
        go_light
        have hr := HA.out
        clear HA HR hen E1 C2 F2
        simp_all
    · have hw := Vw.pre HP.out hVlt hDlt E1.out
      exact ((((((((hw.set (Nat.le_refl _) _ _).set (Nat.le_refl _) _ _).set (Nat.le_refl _) _ _).set (Nat.le_refl _) _ _).set (Nat.le_refl _) _ _).set (Nat.le_refl _) _ _).set (Nat.le_refl _) _ _).alloc _)
end
end Go.Proofs.Ytjeobbhaoahdcaa.GfC
