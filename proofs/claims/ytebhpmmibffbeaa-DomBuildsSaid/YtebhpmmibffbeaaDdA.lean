/- Proved: take, the first reference to a table, whose entries are each taken (a contract for the laws of the domains). -/
import Derived.Test.YtebhpmmibffbeaaDcC
import Derived.Defers
import Derived.Deep.RegionWith
import Derived.Outline
import Derived.Deep.CutRange
namespace Go.Proofs.Ytebhpmmibffbeaa.DdA
open Go.RowKit Go.Maps Go.Proofs.Ytebhpmmibffbeaa.Base Go.Proofs.Ytebhpmmibffbeaa.GaA Go.Proofs.Ytebhpmmibffbeaa.GaB Go.Proofs.Ytebhpmmibffbeaa.GaC Go.Proofs.Ytebhpmmibffbeaa.GfB Go.Proofs.Ytebhpmmibffbeaa.DbB Go.Proofs.Ytebhpmmibffbeaa.DbC Go.Proofs.Ytebhpmmibffbeaa.DcB Go.Proofs.Ytebhpmmibffbeaa.DcC
set_option linter.unusedVariables false
set_option linter.unusedSimpArgs false

set_option maxHeartbeats 2000000 in
set_option maxRecDepth 100000 in
theorem take1_idle (a8 a4 a6 a7 a12 a9 : Addr) (u : FrameMode) (w : World) (hc : w.cell? a8 = some (.int .i64 0)) :
    CallsD Try.prog 57 #[.pointer (some a8), .pointer (some a4), .pointer (some a6), .pointer (some a7), .pointer (some a12), .pointer (some a9)] u w fun e u' w' => u' = u ∧ (e = .returned (.tuple #[]) ∧ w' = w) := by
  go_enter_d Try.func57, Try.ntmps57
  go_wp2
  go_end0
  exact ⟨rfl, rfl⟩
theorem ty_ne {W : World} {g k : Nat} {cs ds : Array Value} {t u : TypeId} (h : W.heap[g]? = some (.cells cs t (0, 0))) (h2 : W.heap[k]? = some (.cells ds u (0, 0))) (hn : t ≠ u) : g ≠ k := by
  rintro rfl
  rw [h] at h2
  have e := Option.some.inj h2
  injection e with e1 e2 e3
  exact hn e2
/-- What take holds: its boxes, the keeper, the machine. -/
structure Tk (w W : World) (xb mb fb t1 t5 t3 : Nat) (rt : Nat → Int) (g4 g6 g7 g8 t : Nat) (n er : Int) (s : MS) : Prop where
  b4 : W.heap[g4]? = some (.cells #[.pointer (some ⟨xb, 0, none⟩)] 40 (0, 0))
  b6 : W.heap[g6]? = some (.cells #[.int .i64 t] 3 (0, 0))
  b7 : W.heap[g7]? = some (.cells #[.int .i64 n] 3 (0, 0))
  b8 : W.heap[g8]? = some (.cells #[.int .i64 er] 24 (0, 0))
  x : Mmu W xb mb t1 t5 t3 rt
  m : Mach W mb fb s
  c : Chg (fun x => x = fb) w W
  lo : xb < w.heap.size ∧ t1 < w.heap.size ∧ t5 < w.heap.size ∧ t3 < w.heap.size ∧ mb < w.heap.size ∧ fb < w.heap.size
  hi : w.heap.size ≤ g4 ∧ w.heap.size ≤ g6 ∧ w.heap.size ≤ g7 ∧ w.heap.size ≤ g8
section
variable {w W W' : World} {xb mb fb t1 t5 t3 g4 g6 g7 g8 t : Nat} {rt : Nat → Int} {n er : Int} {s s' : MS}
/-- A change of blocks that are none of take's. -/
theorem Tk.far (h : Tk w W xb mb fb t1 t5 t3 rt g4 g6 g7 g8 t n er s) {F : Nat → Prop} (hc : Chg F W W') (hF : ∀ x, F x → w.heap.size ≤ x ∧ x ≠ g4 ∧ x ≠ g6 ∧ x ≠ g7 ∧ x ≠ g8) : Tk w W' xb mb fb t1 t5 t3 rt g4 g6 g7 g8 t n er s := by
  have lo := h.lo
  refine ⟨hc.blk h.b4 (fun e => (hF _ e).2.1 rfl), hc.blk h.b6 (fun e => (hF _ e).2.2.1 rfl), hc.blk h.b7 (fun e => (hF _ e).2.2.2.1 rfl), hc.blk h.b8 (fun e => (hF _ e).2.2.2.2 rfl), h.x.chg hc ?_ ?_ ?_ ?_, h.m.chg hc ?_ ?_, ⟨hc.os.trans h.c.os, hc.tape.trans h.c.tape, hc.output.trans h.c.output, Nat.le_trans h.c.size hc.size, fun k hk hf => (hc.block k (Nat.lt_of_lt_of_le hk h.c.size) (fun e => by have := (hF k e).1; omega)).trans (h.c.block k hk hf)⟩, lo, h.hi⟩
  all_goals (intro e; have := (hF _ e).1; omega)
theorem Tk.below (h : Tk w W xb mb fb t1 t5 t3 rt g4 g6 g7 g8 t n er s) (hb : Below W.heap.size W W') : Tk w W' xb mb fb t1 t5 t3 rt g4 g6 g7 g8 t n er s :=
  h.far (Chg.below (fun _ => False) hb) (fun _ h => h.elim)
/-- The machine turns. -/
theorem Tk.mach (h : Tk w W xb mb fb t1 t5 t3 rt g4 g6 g7 g8 t n er s) (hM : Mach W' mb fb s') (hc : Chg (fun x => x = fb) W W') : Tk w W' xb mb fb t1 t5 t3 rt g4 g6 g7 g8 t n er s' := by
  have lo := h.lo
  have hi := h.hi
  exact ⟨hc.blk h.b4 (by omega), hc.blk h.b6 (by omega), hc.blk h.b7 (by omega), hc.blk h.b8 (by omega), h.x.mach h.m hc, hM, h.c.trans hc, lo, hi⟩
/-- The error's cell is laid. -/
theorem Tk.err (h : Tk w W xb mb fb t1 t5 t3 rt g4 g6 g7 g8 t n er s) (er' : Int) : Tk w (W.setCell ⟨g8, 0, none⟩ (.int .i64 er')) xb mb fb t1 t5 t3 rt g4 g6 g7 g8 t n er' s := by
  have lo := h.lo
  have hi := h.hi
  have hc : Chg (fun x => x = g8) W (W.setCell ⟨g8, 0, none⟩ (.int .i64 er')) := Chg.set (F := fun x => x = g8) (p := ⟨g8, 0, none⟩) (Chg.refl _ W) (.inl rfl) _
  refine ⟨hc.blk h.b4 (ty_ne h.b4 h.b8 (by decide)), hc.blk h.b6 (ty_ne h.b6 h.b8 (by decide)), hc.blk h.b7 (ty_ne h.b7 h.b8 (by decide)), blk_put h.b8 0 _ rfl, h.x.chg hc (by omega) (by omega) (by omega) (by omega), h.m.chg hc (by omega) (by omega), ?_, lo, hi⟩
  exact Chg.set (p := ⟨g8, 0, none⟩) h.c (.inr hi.2.2.2) _
end
/-- What taking a table wants of its entries: each in its turn. -/
structure TkSeq (xb mb fb t1 t5 t3 : Nat) (rt : Nat → Int) (d n : Int) (t : Nat) (S : Nat → MS) (X : Nat → Option Nat) : Prop where
  nn : ∀ k, k ≤ 64 → t < (S k).n ∧ 1 ≤ (S k).n
  xx : ∀ k, k < 64 → ∀ m, X k = some m → m < 256
  zz : ∀ k, k < 64 → MS.rd (S k) t (4 * k) 4 = entZ (X k)
  get : ∀ k, k < 64 → ∀ W', Mmu W' xb mb t1 t5 t3 rt → Mach W' mb fb (S k) → Calls Try.prog 60 #[.pointer (some ⟨xb, 0, none⟩), .int .i64 d, .int .i64 n, .int .u32 (entW (X k))] W' fun e w' => e = .returned (.int .i64 0) ∧ Mach w' mb fb (S (k + 1)) ∧ Chg (fun x => x = fb) W' w'
theorem z_new {W W' w4 : World} {o : Obj} (h : W' = W.alloc o ∨ W' = W.drew.alloc o ∨ W' = (W.alloc o).drew) (hB : Below W'.heap.size W' w4) : w4.heap[W.heap.size]? = some o := by
  have h1 : W'.heap[W.heap.size]? = some o := by
    rcases h with rfl | rfl | rfl
    · exact blk_new W o
    · exact blk_new W.drew o
    · exact blk_new W o
  exact blk_below h1 (blk_lt h1) hB
def cellN (w : World) (g : Nat) : Nat := match w.cell? ⟨g, 0, none⟩ with | some (.int _ x) => x.toNat | _ => 0
section
variable {w W W' : World} {xb mb fb t1 t5 t3 : Nat} {rt : Nat → Int} {s : MS}
theorem kget_ok (hM : Mach W mb fb s) (m : Nat) (hm : m < s.n) (d kd : Int) (h0 : 0 ≤ kd) (h3 : kd ≤ 3) (hg : getE (s.fr m) d kd = 0) (hf : Fr.few (s.fr m)) : Calls Try.prog 36 #[.pointer (some ⟨mb, 0, none⟩), .int .i64 m, .int .i64 d, .int .i64 kd] W fun e w' => e = .returned (.int .i64 0) ∧ Mach w' mb fb (MS.put1 s m (getF (s.fr m) kd)) ∧ Chg (fun x => x = fb) W w' :=
  (GaB.get_calls hM m hm d kd h0 h3 hf).mono fun e w' ⟨q1, q2, q3⟩ => ⟨by rw [q1, hg], by unfold getS at q2; rw [if_pos hg] at q2; exact q2, q3⟩
/-- What take's loop holds. -/
structure Tr (w W : World) (xb mb fb t1 t5 t3 : Nat) (rt : Nat → Int) (g4 g6 g7 g8 g9 g12 t : Nat) (n kd : Int) (k : Nat) (s : MS) : Prop where
  tk : Tk w W xb mb fb t1 t5 t3 rt g4 g6 g7 g8 t n 0 s
  b9 : W.heap[g9]? = some (.cells #[.int .i64 kd] 3 (0, 0))
  b12 : W.heap[g12]? = some (.cells #[.int .i64 k] 3 (0, 0))
  ge : w.heap.size ≤ g9 ∧ w.heap.size ≤ g12
  ne : g12 ≠ g4 ∧ g12 ≠ g6 ∧ g12 ≠ g7 ∧ g12 ≠ g8 ∧ g12 ≠ g9
end
section
variable {w W W' : World} {xb mb fb t1 t5 t3 g4 g6 g7 g8 g9 g12 t : Nat} {rt : Nat → Int} {n kd : Int} {k : Nat} {s s' : MS}
theorem Tr.below (h : Tr w W xb mb fb t1 t5 t3 rt g4 g6 g7 g8 g9 g12 t n kd k s) (hb : Below W.heap.size W W') : Tr w W' xb mb fb t1 t5 t3 rt g4 g6 g7 g8 g9 g12 t n kd k s :=
  ⟨h.tk.below hb, blk_below h.b9 (blk_lt h.b9) hb, blk_below h.b12 (blk_lt h.b12) hb, h.ge, h.ne⟩
theorem Tr.mach (h : Tr w W xb mb fb t1 t5 t3 rt g4 g6 g7 g8 g9 g12 t n kd k s) (hM : Mach W' mb fb s') (hc : Chg (fun x => x = fb) W W') : Tr w W' xb mb fb t1 t5 t3 rt g4 g6 g7 g8 g9 g12 t n kd k s' := by
  have lo := h.tk.lo
  have ge := h.ge
  exact ⟨h.tk.mach hM hc, hc.blk h.b9 (by omega), hc.blk h.b12 (by omega), ge, h.ne⟩
theorem Tr.err (h : Tr w W xb mb fb t1 t5 t3 rt g4 g6 g7 g8 g9 g12 t n kd k s) : Tr w (W.setCell ⟨g8, 0, none⟩ (.int .i64 0)) xb mb fb t1 t5 t3 rt g4 g6 g7 g8 g9 g12 t n kd k s :=
  ⟨h.tk.err 0, blk_far h.b9 (ty_ne h.b9 h.tk.b8 (by decide)) _, blk_far h.b12 h.ne.2.2.2.1 _, h.ge, h.ne⟩
theorem Tr.inc (h : Tr w W xb mb fb t1 t5 t3 rt g4 g6 g7 g8 g9 g12 t n kd k s) : Tr w (W.setCell ⟨g12, 0, none⟩ (.int .i64 ((k + 1 : Nat) : Int))) xb mb fb t1 t5 t3 rt g4 g6 g7 g8 g9 g12 t n kd (k + 1) s := by
  have hc : Chg (fun x => x = g12) W (W.setCell ⟨g12, 0, none⟩ (.int .i64 ((k + 1 : Nat) : Int))) := Chg.set (F := fun x => x = g12) (p := ⟨g12, 0, none⟩) (Chg.refl _ W) (.inl rfl) _
  have ne := h.ne
  exact ⟨h.tk.far hc (by rintro x rfl; exact ⟨h.ge.2, ne.1, ne.2.1, ne.2.2.1, ne.2.2.2.1⟩), hc.blk h.b9 (fun e => ne.2.2.2.2 e.symm), blk_put h.b12 0 _ rfl, h.ge, ne⟩
theorem cell_n (h : W.heap[g12]? = some (.cells #[.int .i64 k] 3 (0, 0))) : cellN W g12 = k := by
  have : W.cell? ⟨g12, 0, none⟩ = some (.int .i64 k) := blk_cell h 0
  unfold cellN
  rw [this]
  simp
set_option maxHeartbeats 16000000 in
set_option maxRecDepth 100000 in
theorem take1_calls (hX : Mmu w xb mb t1 t5 t3 rt) (hM : Mach w mb fb s) (d : Int) (t : Nat) (ht : t < s.n) (hg : getE (s.fr t) d 2 = 0) (hf : Fr.few (s.fr t)) (h0 : (s.fr t).cnt = 0) (S : Nat → MS) (X : Nat → Option Nat) (hS : S 0 = MS.put1 s t (getF (s.fr t) 2)) (hq : TkSeq xb mb fb t1 t5 t3 rt d 1 t S X) :
    Calls Try.prog 40 #[.pointer (some ⟨xb, 0, none⟩), .int .i64 d, .int .i64 t, .int .i64 1] w fun e w' => e = .returned (.int .i64 0) ∧ Mach w' mb fb (S 64) ∧ Chg (fun x => x = fb) w w' := by
  have hmf : ∀ (fn : Fn) (first cap : Array Value) (w : World), (Instr.makeFunc fn first cap).run Try.prog w = .ok (.func fn first cap) w := fun _ _ _ _ => rfl
  have lo : xb < w.heap.size ∧ t1 < w.heap.size ∧ t5 < w.heap.size ∧ t3 < w.heap.size ∧ mb < w.heap.size ∧ fb < w.heap.size := ⟨blk_lt hX.blk, blk_lt hX.c1, blk_lt hX.c5, blk_lt hX.c3, hM.lt.1, hM.lt.2⟩
  have hb4 := below_alloc (below_alloc (below_alloc (below_alloc (Below.refl w.heap.size w) (.cells #[.pointer (some ⟨xb, 0, none⟩)] 40)) (.cells #[.int .i64 t] 3)) (.cells #[.int .i64 1] 3)) (.cells #[.int .i64 0] 24)
  have hk0 : Tk w ((((w.alloc (.cells #[.pointer (some ⟨xb, 0, none⟩)] 40)).alloc (.cells #[.int .i64 t] 3)).alloc (.cells #[.int .i64 1] 3)).alloc (.cells #[.int .i64 0] 24)) xb mb fb t1 t5 t3 rt w.heap.size (w.heap.size + 1) (w.heap.size + 1 + 1) (w.heap.size + 1 + 1 + 1) t 1 0 s :=
    ⟨blk_alloc (blk_alloc (blk_alloc (blk_new _ _) _) _) _, blk_alloc (blk_alloc (blk_newest (by simp) _) _) _, blk_alloc (blk_newest (by simp) _) _, blk_newest (by simp) _, hX.below hb4, hM.below hb4, Chg.below _ hb4, lo, by omega⟩
  have HK := Base.Aside.mk hk0
  have HH := Base.Aside.mk (And.intro ht (And.intro hg (And.intro hf (And.intro h0 (And.intro hS hq)))))
  clear hb4 hk0 hX hM ht hg hf h0 hS hq
  go_enter_defers Try.func40, Try.ntmps40
  go_upto_region 1 with fail
  refine wp_world (fun W => Tk w W xb mb fb t1 t5 t3 rt w.heap.size (w.heap.size + 1) (w.heap.size + 1 + 1) (w.heap.size + 1 + 1 + 1) t 1 0 s) HK.out ?_
  intro W1 hk1
  have ng : w.heap.size + 1 ≠ w.heap.size + 1 + 1 ∧ w.heap.size ≠ w.heap.size + 1 := by omega
  obtain ⟨g8, h8⟩ : ∃ g, g = w.heap.size + 1 + 1 + 1 := ⟨_, rfl⟩
  rw [← h8] at hk1 ⊢
  obtain ⟨g7, h7⟩ : ∃ g, g = w.heap.size + 1 + 1 := ⟨_, rfl⟩
  rw [← h7] at hk1 ⊢
  obtain ⟨g6, h6⟩ : ∃ g, g = w.heap.size + 1 := ⟨_, rfl⟩
  rw [← h6] at hk1 ⊢
  obtain ⟨g4, h4⟩ : ∃ g, g = w.heap.size := ⟨_, rfl⟩
  have hk2 : Tk w W1 xb mb fb t1 t5 t3 rt g4 g6 g7 g8 t 1 0 s := by rw [h4]; exact hk1
  rw [← h4]
  have K1 := Base.Aside.mk hk2
  clear hk1 hk2 HK ng h8 h7 h6 h4
  have k4 : W1.cell? ⟨g4, 0, none⟩ = some (.pointer (some ⟨xb, 0, none⟩)) := blk_cell K1.out.b4 0
  have k7 : W1.cell? ⟨g7, 0, none⟩ = some (.int .i64 1) := blk_cell K1.out.b7 0
  have kk : W1.cell? ⟨xb, 4, none⟩ = some (.int .i64 2) := blk_cell K1.out.x.blk 4
  have l4 := blk_lt K1.out.b4
  have l7 := blk_lt K1.out.b7
  have lx := blk_lt K1.out.x.blk
  go_cut [9] from 15 to 21 (fun v wx => ∃ g9, v = .pointer (some ⟨g9, 0, none⟩) ∧ Base.Aside (w.heap.size ≤ g9) ∧ Base.Aside (Tk w wx xb mb fb t1 t5 t3 rt g4 g6 g7 g8 t 1 0 s ∧ wx.heap[g9]? = some (.cells #[.int .i64 2] 3 (0, 0))))
  case first => as_aux_lemma =>
    go_region
    all_goals
      go_wp2_with fail
      go_meet
    case rel =>
      refine ⟨_, rfl, ⟨by have := K1.out.c.size; simp; omega⟩, ⟨K1.out.below ?_, ?_⟩⟩
      · (repeat (with_reducible first | exact Below.refl _ _ | refine below_drewN ?_ _ | refine below_drew ?_ | refine below_alloc ?_ _))
      · first | exact blk_new _ _ | exact blk_newest (by simp) _
  case rest => as_aux_lemma =>
    obtain ⟨g9, rfl, HG9, hA⟩ := hcut
    have K2 := Base.Aside.mk hA.out
    clear hA k4 k7 kk l4 l7 lx K1
    have k4 : wc.cell? ⟨g4, 0, none⟩ = some (.pointer (some ⟨xb, 0, none⟩)) := blk_cell K2.out.1.b4 0
    have k0 : wc.cell? ⟨xb, 0, none⟩ = some (.pointer (some ⟨mb, 0, none⟩)) := blk_cell K2.out.1.x.blk 0
    have k6 : wc.cell? ⟨g6, 0, none⟩ = some (.int .i64 t) := blk_cell K2.out.1.b6 0
    have k9 : wc.cell? ⟨g9, 0, none⟩ = some (.int .i64 2) := blk_cell K2.out.2 0
    have k8 : wc.cell? ⟨g8, 0, none⟩ = some (.int .i64 0) := blk_cell K2.out.1.b8 0
    have f8 : wc.frozen? ⟨g8, 0, none⟩ = false := blk_frozen K2.out.1.b8 0
    have l4 := blk_lt K2.out.1.b4
    have l6 := blk_lt K2.out.1.b6
    have l8 := blk_lt K2.out.1.b8
    have l9 := blk_lt K2.out.2
    have lx := blk_lt K2.out.1.x.blk
    have n4 : g4 ≠ g8 := ty_ne K2.out.1.b4 K2.out.1.b8 (by decide)
    have n6 : g6 ≠ g8 := ty_ne K2.out.1.b6 K2.out.1.b8 (by decide)
    have n9 : g9 ≠ g8 := ty_ne K2.out.2 K2.out.1.b8 (by decide)
    have nx : xb ≠ g8 := ty_ne K2.out.1.x.blk K2.out.1.b8 (by decide)
    have n9f : g9 ≠ fb := by obtain ⟨cs, q1, q2⟩ := K2.out.1.m.lst; exact ty_ne K2.out.2 q1 (by decide)
    have hge := fun W' (hW : Below wc.heap.size wc W') => (kget_ok (K2.out.1.below hW).m t HH.out.1 d 2 (by omega) (by omega) HH.out.2.1 HH.out.2.2.1).mono (R' := fun e w' => e = .returned (.int .i64 0) ∧ Tk w w' xb mb fb t1 t5 t3 rt g4 g6 g7 g8 t 1 0 (S 0) ∧ Chg (fun x => x = fb) wc w') (fun e w' ⟨q1, q2, q3⟩ => ⟨q1, by rw [HH.out.2.2.2.2.1]; exact (K2.out.1.below hW).mach q2 q3, (Chg.below _ hW).trans q3⟩)
    have hto := fun W => told_ok W
    have SC : ∀ w3, Tk w w3 xb mb fb t1 t5 t3 rt g4 g6 g7 g8 t 1 0 (S 0) ∧ Chg (fun x => x = fb) wc w3 → w3.cell? ⟨g4, 0, none⟩ = some (.pointer (some ⟨xb, 0, none⟩)) ∧ w3.cell? ⟨xb, 0, none⟩ = some (.pointer (some ⟨mb, 0, none⟩)) ∧ w3.cell? ⟨g6, 0, none⟩ = some (.int .i64 t) ∧ w3.cell? ⟨g9, 0, none⟩ = some (.int .i64 2) :=
      fun w3 h => ⟨blk_cell h.1.b4 0, blk_cell h.1.x.blk 0, blk_cell h.1.b6 0, blk_cell (h.2.blk K2.out.2 n9f) 0⟩
    have SD : ∀ w3, Tk w w3 xb mb fb t1 t5 t3 rt g4 g6 g7 g8 t 1 0 (S 0) ∧ Chg (fun x => x = fb) wc w3 → (w3.setCell ⟨g8, 0, none⟩ (.int .i64 0)).cell? ⟨g4, 0, none⟩ = some (.pointer (some ⟨xb, 0, none⟩)) ∧ (w3.setCell ⟨g8, 0, none⟩ (.int .i64 0)).cell? ⟨xb, 0, none⟩ = some (.pointer (some ⟨mb, 0, none⟩)) ∧ (w3.setCell ⟨g8, 0, none⟩ (.int .i64 0)).cell? ⟨g6, 0, none⟩ = some (.int .i64 t) ∧ (w3.setCell ⟨g8, 0, none⟩ (.int .i64 0)).cell? ⟨g9, 0, none⟩ = some (.int .i64 2) :=
      fun w3 h => ⟨blk_cell (h.1.err 0).b4 0, blk_cell (h.1.err 0).x.blk 0, blk_cell (h.1.err 0).b6 0, blk_cell (blk_far (h.2.blk K2.out.2 n9f) n9 _) 0⟩
    go_upto_region 2 with fail
    go_cut [] from 22 to 30 (fun wx => Base.Aside (Tk w wx xb mb fb t1 t5 t3 rt g4 g6 g7 g8 t 1 0 (S 0) ∧ wx.heap[g9]? = some (.cells #[.int .i64 2] 3 (0, 0))))
    case first => as_aux_lemma =>
      go_region_held3 (fun Wx => Wx.cell? ⟨g4, 0, none⟩ = some (.pointer (some ⟨xb, 0, none⟩)) ∧ Wx.cell? ⟨xb, 0, none⟩ = some (.pointer (some ⟨mb, 0, none⟩)) ∧ Wx.cell? ⟨g6, 0, none⟩ = some (.int .i64 t) ∧ Wx.cell? ⟨g9, 0, none⟩ = some (.int .i64 2))
        (first
          | go_keep
          | exact ⟨k4, k0, k6, k9⟩
          | exact SC _ E4.out
          | exact SD _ E4.out)
        ((first
          | (go_at_call 36; (with_reducible refine (hge _ ?_).mono ?_); (focus (repeat (with_reducible first | exact Below.refl _ _ | refine below_drew ?_ | refine below_alloc ?_ _))); rintro z w4 ⟨rfl, hK4, hC4⟩; have E4 := Base.Aside.mk (And.intro hK4 hC4); have q8 := blk_cell hK4.b8 0; have fz8 := blk_frozen hK4.b8 0; have lz8 := blk_lt hK4.b8; clear hK4 hC4)
          | (go_at_call 35; (with_reducible refine (hto _).mono ?_); rintro z w5 ⟨rfl, hw5⟩; obtain rfl := hw5.symm)))
      all_goals
        go_wp2_with fail
        go_meet
      case rel => exact ⟨⟨(E4.out.1.err 0).below (by first | exact Below.refl _ _ | exact (Below.refl _ _).drew), by first | exact blk_far (E4.out.2.blk K2.out.2 n9f) n9 _ | exact blk_far (blk_drew (E4.out.2.blk K2.out.2 n9f)) n9 _⟩⟩
    case rest => as_aux_lemma =>
      have K3 := Base.Aside.mk hcut.out
      clear hcut k4 k0 k6 k9 k8 f8 l4 l6 l8 l9 lx n4 n6 n9 nx n9f hge hto SC SD K2
      have k4 : wc.cell? ⟨g4, 0, none⟩ = some (.pointer (some ⟨xb, 0, none⟩)) := blk_cell K3.out.1.b4 0
      have k0 : wc.cell? ⟨xb, 0, none⟩ = some (.pointer (some ⟨mb, 0, none⟩)) := blk_cell K3.out.1.x.blk 0
      have k6 : wc.cell? ⟨g6, 0, none⟩ = some (.int .i64 t) := blk_cell K3.out.1.b6 0
      have k8 : wc.cell? ⟨g8, 0, none⟩ = some (.int .i64 0) := blk_cell K3.out.1.b8 0
      have l4 := blk_lt K3.out.1.b4
      have l6 := blk_lt K3.out.1.b6
      have l8 := blk_lt K3.out.1.b8
      have lx := blk_lt K3.out.1.x.blk
      have hcnt : ((S 0).fr t).cnt = 1 := by
        rw [HH.out.2.2.2.2.1]
        show (if t = t then getF (s.fr t) 2 else s.fr t).cnt = 1
        rw [if_pos rfl]
        unfold getF
        rw [if_neg (by decide)]
        show (s.fr t).cnt + 1 = 1
        rw [HH.out.2.2.2.1]
        rfl
      have hfr := fun W' (hW : Below wc.heap.size wc W') => (GaB.frame_calls (K3.out.1.below hW).m t ((HH.out.2.2.2.2.2.nn 0 (by omega)).1)).mono (R' := fun e w' => e = .returned (.tuple #[.agg #[.int .i64 ((S 0).fr t).own, .int .i64 ((S 0).fr t).typ, .int .i64 1, .int .i64 ((S 0).fr t).tot], .int .i64 0]) ∧ Below wc.heap.size wc w' ∧ Below W'.heap.size W' w') (fun e w' ⟨q1, q2⟩ => ⟨by rw [q1, hcnt], below_step hW q2, q2⟩)
      clear hcnt
      have hfz := fun W' (hz : W'.heap[wc.heap.size]? = some (.cells #[.int .i64 0, .int .i64 0, .int .i64 0, .int .i64 0] 72 (0, 0))) (hW : Below wc.heap.size wc W') => (hfr W' hW).mono (R' := fun e w' => e = .returned (.tuple #[.agg #[.int .i64 ((S 0).fr t).own, .int .i64 ((S 0).fr t).typ, .int .i64 1, .int .i64 ((S 0).fr t).tot], .int .i64 0]) ∧ Below wc.heap.size wc w' ∧ w'.heap[wc.heap.size]? = some (.cells #[.int .i64 0, .int .i64 0, .int .i64 0, .int .i64 0] 72 (0, 0))) (fun e w' ⟨q1, q2, q3⟩ => ⟨q1, q2, blk_below hz (blk_lt hz) q3⟩)
      have SB : ∀ w3, Below wc.heap.size wc w3 → w3.cell? ⟨g4, 0, none⟩ = some (.pointer (some ⟨xb, 0, none⟩)) ∧ w3.cell? ⟨xb, 0, none⟩ = some (.pointer (some ⟨mb, 0, none⟩)) ∧ w3.cell? ⟨g6, 0, none⟩ = some (.int .i64 t) := fun w3 hb => ⟨(hb.cell (p := ⟨g4, 0, none⟩) l4).trans k4, (hb.cell (p := ⟨xb, 0, none⟩) lx).trans k0, (hb.cell (p := ⟨g6, 0, none⟩) l6).trans k6⟩
      have SE : ∀ w3, Below wc.heap.size wc w3 → ∀ v0 v1 v2 v3 : Value, ((((w3.setCell ⟨wc.heap.size, 0, none⟩ v0).setCell ⟨wc.heap.size, 1, none⟩ v1).setCell ⟨wc.heap.size, 2, none⟩ v2).setCell ⟨wc.heap.size, 3, none⟩ v3).cell? ⟨g4, 0, none⟩ = some (.pointer (some ⟨xb, 0, none⟩)) ∧ ((((w3.setCell ⟨wc.heap.size, 0, none⟩ v0).setCell ⟨wc.heap.size, 1, none⟩ v1).setCell ⟨wc.heap.size, 2, none⟩ v2).setCell ⟨wc.heap.size, 3, none⟩ v3).cell? ⟨xb, 0, none⟩ = some (.pointer (some ⟨mb, 0, none⟩)) ∧ ((((w3.setCell ⟨wc.heap.size, 0, none⟩ v0).setCell ⟨wc.heap.size, 1, none⟩ v1).setCell ⟨wc.heap.size, 2, none⟩ v2).setCell ⟨wc.heap.size, 3, none⟩ v3).cell? ⟨g6, 0, none⟩ = some (.int .i64 t) := fun w3 hb v0 v1 v2 v3 => SB _ (below_set (below_set (below_set (below_set hb (Nat.le_refl _) v0) (Nat.le_refl _) v1) (Nat.le_refl _) v2) (Nat.le_refl _) v3)
      have SF : ∀ w3, Below wc.heap.size wc w3 → ∀ v0 v1 v2 v3 : Value, Below wc.heap.size wc ((((w3.setCell ⟨wc.heap.size, 0, none⟩ v0).setCell ⟨wc.heap.size, 1, none⟩ v1).setCell ⟨wc.heap.size, 2, none⟩ v2).setCell ⟨wc.heap.size, 3, none⟩ v3) := fun w3 hb v0 v1 v2 v3 => below_set (below_set (below_set (below_set hb (Nat.le_refl _) v0) (Nat.le_refl _) v1) (Nat.le_refl _) v2) (Nat.le_refl _) v3
      go_upto_region 5 with fail
      go_cut [10] from 34 to 42 (fun v wx => ∃ g10, v = .pointer (some ⟨g10, 0, none⟩) ∧ Base.Aside ((Tk w wx xb mb fb t1 t5 t3 rt g4 g6 g7 g8 t 1 0 (S 0) ∧ wx.heap[g9]? = some (.cells #[.int .i64 2] 3 (0, 0))) ∧ wx.heap[g10]? = some (.cells #[.int .i64 ((S 0).fr t).own, .int .i64 ((S 0).fr t).typ, .int .i64 1, .int .i64 ((S 0).fr t).tot] 72 (0, 0))))
      case first => as_aux_lemma =>
        go_region_held3 (fun Wx => Wx.cell? ⟨g4, 0, none⟩ = some (.pointer (some ⟨xb, 0, none⟩)) ∧ Wx.cell? ⟨xb, 0, none⟩ = some (.pointer (some ⟨mb, 0, none⟩)) ∧ Wx.cell? ⟨g6, 0, none⟩ = some (.int .i64 t))
          (first
            | go_keep
            | exact ⟨k4, k0, k6⟩
            | exact SB _ E5.out
            | exact SB _ (below_alloc E5.out _)
            | exact SB _ E4.out.1
            | exact SE _ E4.out.1 _ _ _ _)
          ((first
            | (go_at_call 56; (with_reducible refine (hfz _ ?_ ?_).mono ?_); (focus (first | exact blk_new _ _ | exact blk_new wc _)); (focus (repeat (with_reducible first | exact Below.refl _ _ | refine below_drew ?_ | refine below_alloc ?_ _))); rintro z w4 ⟨rfl, hB4, z10⟩; have C10 := (fun i => blk_cell z10 i); have F10 := (fun i => blk_frozen z10 i); have L10 := blk_lt z10; have E4 := Base.Aside.mk (And.intro hB4 z10); clear hB4 z10)
            | (go_at_call 56; (with_reducible refine (hfr _ ?_).mono ?_); (focus (repeat (with_reducible first | exact Below.refl _ _ | refine below_drew ?_ | refine below_alloc ?_ _))); rintro z w4 ⟨rfl, hB4, hB5⟩; have E5 := Base.Aside.mk hB4; clear hB4 hB5)))
        all_goals
          go_wp2_with fail
          go_meet
        all_goals
          first
            | exact ⟨w4.heap.size, rfl, ⟨⟨K3.out.1.below (below_alloc E5.out _), blk_below K3.out.2 (blk_lt K3.out.2) (below_alloc E5.out _)⟩, blk_new _ _⟩⟩
            | exact ⟨wc.heap.size, rfl, ⟨⟨K3.out.1.below (SF _ E4.out.1 _ _ _ _), blk_below K3.out.2 (blk_lt K3.out.2) (SF _ E4.out.1 _ _ _ _)⟩, blk_put (blk_put (blk_put (blk_put E4.out.2 0 _ rfl) 1 _ rfl) 2 _ rfl) 3 _ rfl⟩⟩
      case rest => as_aux_lemma =>
        obtain ⟨g10, rfl, hA⟩ := hcut
        have K4 := Base.Aside.mk hA.out.1
        have c10 := fun i => blk_cell hA.out.2 i
        have l10 := blk_lt hA.out.2
        clear hA k4 k0 k6 k8 l4 l6 l8 lx hfr hfz SB SE SF K3
        go_upto_region 9 with fail
        obtain ⟨g12, h12⟩ : ∃ g, g = wc.heap.size := ⟨_, rfl⟩
        have hr0 : Tr w (wc.alloc (.cells #[.int .i64 0] 3)) xb mb fb t1 t5 t3 rt g4 g6 g7 g8 g9 g12 t 1 2 0 (S 0) := by
          have b1 := K4.out.1.below (below_alloc (Below.refl wc.heap.size wc) (.cells #[.int .i64 0] 3))
          have l4 := blk_lt K4.out.1.b4
          have l6 := blk_lt K4.out.1.b6
          have l7 := blk_lt K4.out.1.b7
          have l8 := blk_lt K4.out.1.b8
          have l9 := blk_lt K4.out.2
          have hz := K4.out.1.c.size
          refine ⟨b1, blk_alloc K4.out.2 _, by rw [h12]; exact blk_new _ _, ⟨HG9.out, by omega⟩, by omega⟩
        have R0 := Base.Aside.mk hr0
        refine wp_world (fun W => Tr w W xb mb fb t1 t5 t3 rt g4 g6 g7 g8 g9 g12 t 1 2 0 (S 0)) R0.out ?_
        intro W5 hr5
        rw [← h12]
        have R5 := Base.Aside.mk hr5
        clear h12 hr0 R0 hr5 c10 l10 K4
        go_wp2_with fail
        go_loopw [] (fun wr => ∃ (k : Nat) (W6 : World), k ≤ 64 ∧ wr = W6 ∧ Base.Aside (Tr w W6 xb mb fb t1 t5 t3 rt g4 g6 g7 g8 g9 g12 t 1 2 k (S k))) (fun wr => 64 - cellN wr g12)
        case atStart => exact ⟨0, W5, by omega, rfl, R5⟩
        case round => as_aux_lemma =>
          obtain ⟨k, W6, hk, hwr, hT⟩ := hrel
          obtain rfl := hwr.symm
          have HQ := Base.Aside.mk (cell_n hT.out.b12)
          have c12 : W6.cell? ⟨g12, 0, none⟩ = some (.int .i64 k) := blk_cell hT.out.b12 0
          have c4 : W6.cell? ⟨g4, 0, none⟩ = some (.pointer (some ⟨xb, 0, none⟩)) := blk_cell hT.out.tk.b4 0
          have c0 : W6.cell? ⟨xb, 0, none⟩ = some (.pointer (some ⟨mb, 0, none⟩)) := blk_cell hT.out.tk.x.blk 0
          have c6 : W6.cell? ⟨g6, 0, none⟩ = some (.int .i64 t) := blk_cell hT.out.tk.b6 0
          have c8 : W6.cell? ⟨g8, 0, none⟩ = some (.int .i64 0) := blk_cell hT.out.tk.b8 0
          have f8 : W6.frozen? ⟨g8, 0, none⟩ = false := blk_frozen hT.out.tk.b8 0
          have l12 := blk_lt hT.out.b12
          have l4 := blk_lt hT.out.tk.b4
          have l6 := blk_lt hT.out.tk.b6
          have l8 := blk_lt hT.out.tk.b8
          have lx := blk_lt hT.out.tk.x.blk
          by_cases hlt : k < 64
          · have hat := fun W' (hW : Below W6.heap.size W6 W') => (at_calls (hT.out.tk.below hW).m (HH.out.2.2.2.2.2.nn k hk).2 t k (HH.out.2.2.2.2.2.nn k hk).1 hlt (X k) (HH.out.2.2.2.2.2.xx k hlt) (HH.out.2.2.2.2.2.zz k hlt)).mono (R' := fun e w' => e = .returned (.tuple #[.int .u32 (entW (X k)), .int .i64 0]) ∧ Below W6.heap.size W6 w') (fun e w' ⟨q1, q2⟩ => ⟨q1, below_step hW q2⟩)
            have SB : ∀ w3, Below W6.heap.size W6 w3 → w3.cell? ⟨g4, 0, none⟩ = some (.pointer (some ⟨xb, 0, none⟩)) ∧ w3.cell? ⟨xb, 0, none⟩ = some (.pointer (some ⟨mb, 0, none⟩)) ∧ w3.cell? ⟨g6, 0, none⟩ = some (.int .i64 t) ∧ w3.cell? ⟨g12, 0, none⟩ = some (.int .i64 k) := fun w3 hb => ⟨(hb.cell (p := ⟨g4, 0, none⟩) l4).trans c4, (hb.cell (p := ⟨xb, 0, none⟩) lx).trans c0, (hb.cell (p := ⟨g6, 0, none⟩) l6).trans c6, (hb.cell (p := ⟨g12, 0, none⟩) l12).trans c12⟩
            go_upto_region 12 with fail
            go_cut [13, 14] from 47 to 68 (fun v v2 wx => v = .int .u32 (entW (X k)) ∧ Base.Aside (Tr w wx xb mb fb t1 t5 t3 rt g4 g6 g7 g8 g9 g12 t 1 2 k (S k)))
            case first => as_aux_lemma =>
              go_region_held3 (fun Wx => Wx.cell? ⟨g4, 0, none⟩ = some (.pointer (some ⟨xb, 0, none⟩)) ∧ Wx.cell? ⟨xb, 0, none⟩ = some (.pointer (some ⟨mb, 0, none⟩)) ∧ Wx.cell? ⟨g6, 0, none⟩ = some (.int .i64 t) ∧ Wx.cell? ⟨g12, 0, none⟩ = some (.int .i64 k))
                (first
                  | go_keep
                  | exact ⟨c4, c0, c6, c12⟩
                  | exact SB _ E4.out)
                ((first
                  | (go_at_call 59; (with_reducible refine (hat _ ?_).mono ?_); (focus (repeat (with_reducible first | exact Below.refl _ _ | refine below_drew ?_ | refine below_alloc ?_ _))); rintro z w4 ⟨rfl, hB4⟩; have E4 := Base.Aside.mk hB4; clear hB4)))
              all_goals
                go_wp2_with fail
                go_meet
              case rel => exact ⟨rfl, ⟨hT.out.below (by first | exact E4.out | exact below_drew E4.out)⟩⟩
            case rest => as_aux_lemma =>
              obtain ⟨rfl, hA⟩ := hcut
              clear hat SB c12 c4 c0 c6 c8 f8 l12 l4 l6 l8 lx hT
              have hget := HH.out.2.2.2.2.2.get k hlt wc hA.out.tk.x hA.out.tk.m
              have c4 : wc.cell? ⟨g4, 0, none⟩ = some (.pointer (some ⟨xb, 0, none⟩)) := blk_cell hA.out.tk.b4 0
              have c7 : wc.cell? ⟨g7, 0, none⟩ = some (.int .i64 1) := blk_cell hA.out.tk.b7 0
              have l4 := blk_lt hA.out.tk.b4
              have l7 := blk_lt hA.out.tk.b7
              have nz : g12 ≠ g8 ∧ g8 ≠ g12 := ⟨hA.out.ne.2.2.2.1, fun e => hA.out.ne.2.2.2.1 e.symm⟩
              obtain ⟨nz1, nz2⟩ := nz
              go_wp2_with (first
                | (go_at_call 60; (with_reducible refine hget.mono ?_); rintro z w7 ⟨rfl, hM7, hC7⟩; have h7 := hA.out.mach hM7 hC7; have d8 := blk_cell h7.tk.b8 0; have z8 := blk_frozen h7.tk.b8 0; have m8 := blk_lt h7.tk.b8; have d12 := blk_cell h7.b12 0; have z12 := blk_frozen h7.b12 0; have m12 := blk_lt h7.b12; have E7 := Base.Aside.mk h7; clear h7 hM7 hC7)
                | go_in)
              go_roundw
              case rel => exact ⟨k + 1, _, by omega, rfl, ⟨E7.out.err.inc⟩⟩
              case measure =>
                have q2 := cell_n (E7.out.err.inc).b12
                have e1 : ((k + 1 : Nat) : Int) = (k : Int) + 1 := by omega
                rw [e1] at q2
                rw [HQ.out, q2]
                omega
          · obtain rfl : k = 64 := by omega
            clear hlt
            go_wp2
            refine leaves_cons (f := 57) (args := #[.pointer (some ⟨g8, 0, none⟩), .pointer (some ⟨g4, 0, none⟩), .pointer (some ⟨g6, 0, none⟩), .pointer (some ⟨g7, 0, none⟩), .pointer (some ⟨g12, 0, none⟩), .pointer (some ⟨g9, 0, none⟩)]) (by simp) (by simp [go_sem]) ?_
            refine (take1_idle ⟨g8, 0, none⟩ _ _ _ _ _ .returning _ ?_).mono ?_
            · exact blk_cell hT.out.err.tk.b8 0
            rintro e u' w'' ⟨rfl, rfl, rfl⟩
            have h9 := hT.out.err
            have q8 : (W6.setCell ⟨g8, 0, none⟩ (.int .i64 0)).cell? ⟨g8, 0, none⟩ = some (.int .i64 0) := blk_cell h9.tk.b8 0
            refine ⟨.int .i64 0, ?_, rfl, h9.tk.m, h9.tk.c⟩
            simp [results, Try.f40, Try.results40, go_sem, q8]
set_option maxHeartbeats 16000000 in
set_option maxRecDepth 100000 in
theorem take2_calls (hX : Mmu w xb mb t1 t5 t3 rt) (hM : Mach w mb fb s) (d : Int) (t : Nat) (ht : t < s.n) (hg : getE (s.fr t) d 3 = 0) (hf : Fr.few (s.fr t)) (h0 : (s.fr t).cnt = 0) (S : Nat → MS) (X : Nat → Option Nat) (hS : S 0 = MS.put1 s t (getF (s.fr t) 3)) (hq : TkSeq xb mb fb t1 t5 t3 rt d 2 t S X) :
    Calls Try.prog 40 #[.pointer (some ⟨xb, 0, none⟩), .int .i64 d, .int .i64 t, .int .i64 2] w fun e w' => e = .returned (.int .i64 0) ∧ Mach w' mb fb (S 64) ∧ Chg (fun x => x = fb) w w' := by
  have hmf : ∀ (fn : Fn) (first cap : Array Value) (w : World), (Instr.makeFunc fn first cap).run Try.prog w = .ok (.func fn first cap) w := fun _ _ _ _ => rfl
  have lo : xb < w.heap.size ∧ t1 < w.heap.size ∧ t5 < w.heap.size ∧ t3 < w.heap.size ∧ mb < w.heap.size ∧ fb < w.heap.size := ⟨blk_lt hX.blk, blk_lt hX.c1, blk_lt hX.c5, blk_lt hX.c3, hM.lt.1, hM.lt.2⟩
  have hb4 := below_alloc (below_alloc (below_alloc (below_alloc (Below.refl w.heap.size w) (.cells #[.pointer (some ⟨xb, 0, none⟩)] 40)) (.cells #[.int .i64 t] 3)) (.cells #[.int .i64 2] 3)) (.cells #[.int .i64 0] 24)
  have hk0 : Tk w ((((w.alloc (.cells #[.pointer (some ⟨xb, 0, none⟩)] 40)).alloc (.cells #[.int .i64 t] 3)).alloc (.cells #[.int .i64 2] 3)).alloc (.cells #[.int .i64 0] 24)) xb mb fb t1 t5 t3 rt w.heap.size (w.heap.size + 1) (w.heap.size + 1 + 1) (w.heap.size + 1 + 1 + 1) t 2 0 s :=
    ⟨blk_alloc (blk_alloc (blk_alloc (blk_new _ _) _) _) _, blk_alloc (blk_alloc (blk_newest (by simp) _) _) _, blk_alloc (blk_newest (by simp) _) _, blk_newest (by simp) _, hX.below hb4, hM.below hb4, Chg.below _ hb4, lo, by omega⟩
  have HK := Base.Aside.mk hk0
  have HH := Base.Aside.mk (And.intro ht (And.intro hg (And.intro hf (And.intro h0 (And.intro hS hq)))))
  clear hb4 hk0 hX hM ht hg hf h0 hS hq
  go_enter_defers Try.func40, Try.ntmps40
  go_upto_region 1 with fail
  refine wp_world (fun W => Tk w W xb mb fb t1 t5 t3 rt w.heap.size (w.heap.size + 1) (w.heap.size + 1 + 1) (w.heap.size + 1 + 1 + 1) t 2 0 s) HK.out ?_
  intro W1 hk1
  have ng : w.heap.size + 1 ≠ w.heap.size + 1 + 1 ∧ w.heap.size ≠ w.heap.size + 1 := by omega
  obtain ⟨g8, h8⟩ : ∃ g, g = w.heap.size + 1 + 1 + 1 := ⟨_, rfl⟩
  rw [← h8] at hk1 ⊢
  obtain ⟨g7, h7⟩ : ∃ g, g = w.heap.size + 1 + 1 := ⟨_, rfl⟩
  rw [← h7] at hk1 ⊢
  obtain ⟨g6, h6⟩ : ∃ g, g = w.heap.size + 1 := ⟨_, rfl⟩
  rw [← h6] at hk1 ⊢
  obtain ⟨g4, h4⟩ : ∃ g, g = w.heap.size := ⟨_, rfl⟩
  have hk2 : Tk w W1 xb mb fb t1 t5 t3 rt g4 g6 g7 g8 t 2 0 s := by rw [h4]; exact hk1
  rw [← h4]
  have K1 := Base.Aside.mk hk2
  clear hk1 hk2 HK ng h8 h7 h6 h4
  have k4 : W1.cell? ⟨g4, 0, none⟩ = some (.pointer (some ⟨xb, 0, none⟩)) := blk_cell K1.out.b4 0
  have k7 : W1.cell? ⟨g7, 0, none⟩ = some (.int .i64 2) := blk_cell K1.out.b7 0
  have kk : W1.cell? ⟨xb, 7, none⟩ = some (.int .i64 3) := blk_cell K1.out.x.blk 7
  have l4 := blk_lt K1.out.b4
  have l7 := blk_lt K1.out.b7
  have lx := blk_lt K1.out.x.blk
  go_cut [9] from 15 to 21 (fun v wx => ∃ g9, v = .pointer (some ⟨g9, 0, none⟩) ∧ Base.Aside (w.heap.size ≤ g9) ∧ Base.Aside (Tk w wx xb mb fb t1 t5 t3 rt g4 g6 g7 g8 t 2 0 s ∧ wx.heap[g9]? = some (.cells #[.int .i64 3] 3 (0, 0))))
  case first => as_aux_lemma =>
    go_region
    all_goals
      go_wp2_with fail
      go_meet
    case rel =>
      refine ⟨_, rfl, ⟨by have := K1.out.c.size; simp; omega⟩, ⟨K1.out.below ?_, ?_⟩⟩
      · (repeat (with_reducible first | exact Below.refl _ _ | refine below_drewN ?_ _ | refine below_drew ?_ | refine below_alloc ?_ _))
      · first | exact blk_new _ _ | exact blk_newest (by simp) _
  case rest => as_aux_lemma =>
    obtain ⟨g9, rfl, HG9, hA⟩ := hcut
    have K2 := Base.Aside.mk hA.out
    clear hA k4 k7 kk l4 l7 lx K1
    have k4 : wc.cell? ⟨g4, 0, none⟩ = some (.pointer (some ⟨xb, 0, none⟩)) := blk_cell K2.out.1.b4 0
    have k0 : wc.cell? ⟨xb, 0, none⟩ = some (.pointer (some ⟨mb, 0, none⟩)) := blk_cell K2.out.1.x.blk 0
    have k6 : wc.cell? ⟨g6, 0, none⟩ = some (.int .i64 t) := blk_cell K2.out.1.b6 0
    have k9 : wc.cell? ⟨g9, 0, none⟩ = some (.int .i64 3) := blk_cell K2.out.2 0
    have k8 : wc.cell? ⟨g8, 0, none⟩ = some (.int .i64 0) := blk_cell K2.out.1.b8 0
    have f8 : wc.frozen? ⟨g8, 0, none⟩ = false := blk_frozen K2.out.1.b8 0
    have l4 := blk_lt K2.out.1.b4
    have l6 := blk_lt K2.out.1.b6
    have l8 := blk_lt K2.out.1.b8
    have l9 := blk_lt K2.out.2
    have lx := blk_lt K2.out.1.x.blk
    have n4 : g4 ≠ g8 := ty_ne K2.out.1.b4 K2.out.1.b8 (by decide)
    have n6 : g6 ≠ g8 := ty_ne K2.out.1.b6 K2.out.1.b8 (by decide)
    have n9 : g9 ≠ g8 := ty_ne K2.out.2 K2.out.1.b8 (by decide)
    have nx : xb ≠ g8 := ty_ne K2.out.1.x.blk K2.out.1.b8 (by decide)
    have n9f : g9 ≠ fb := by obtain ⟨cs, q1, q2⟩ := K2.out.1.m.lst; exact ty_ne K2.out.2 q1 (by decide)
    have hge := fun W' (hW : Below wc.heap.size wc W') => (kget_ok (K2.out.1.below hW).m t HH.out.1 d 3 (by omega) (by omega) HH.out.2.1 HH.out.2.2.1).mono (R' := fun e w' => e = .returned (.int .i64 0) ∧ Tk w w' xb mb fb t1 t5 t3 rt g4 g6 g7 g8 t 2 0 (S 0) ∧ Chg (fun x => x = fb) wc w') (fun e w' ⟨q1, q2, q3⟩ => ⟨q1, by rw [HH.out.2.2.2.2.1]; exact (K2.out.1.below hW).mach q2 q3, (Chg.below _ hW).trans q3⟩)
    have hto := fun W => told_ok W
    have SC : ∀ w3, Tk w w3 xb mb fb t1 t5 t3 rt g4 g6 g7 g8 t 2 0 (S 0) ∧ Chg (fun x => x = fb) wc w3 → w3.cell? ⟨g4, 0, none⟩ = some (.pointer (some ⟨xb, 0, none⟩)) ∧ w3.cell? ⟨xb, 0, none⟩ = some (.pointer (some ⟨mb, 0, none⟩)) ∧ w3.cell? ⟨g6, 0, none⟩ = some (.int .i64 t) ∧ w3.cell? ⟨g9, 0, none⟩ = some (.int .i64 3) :=
      fun w3 h => ⟨blk_cell h.1.b4 0, blk_cell h.1.x.blk 0, blk_cell h.1.b6 0, blk_cell (h.2.blk K2.out.2 n9f) 0⟩
    have SD : ∀ w3, Tk w w3 xb mb fb t1 t5 t3 rt g4 g6 g7 g8 t 2 0 (S 0) ∧ Chg (fun x => x = fb) wc w3 → (w3.setCell ⟨g8, 0, none⟩ (.int .i64 0)).cell? ⟨g4, 0, none⟩ = some (.pointer (some ⟨xb, 0, none⟩)) ∧ (w3.setCell ⟨g8, 0, none⟩ (.int .i64 0)).cell? ⟨xb, 0, none⟩ = some (.pointer (some ⟨mb, 0, none⟩)) ∧ (w3.setCell ⟨g8, 0, none⟩ (.int .i64 0)).cell? ⟨g6, 0, none⟩ = some (.int .i64 t) ∧ (w3.setCell ⟨g8, 0, none⟩ (.int .i64 0)).cell? ⟨g9, 0, none⟩ = some (.int .i64 3) :=
      fun w3 h => ⟨blk_cell (h.1.err 0).b4 0, blk_cell (h.1.err 0).x.blk 0, blk_cell (h.1.err 0).b6 0, blk_cell (blk_far (h.2.blk K2.out.2 n9f) n9 _) 0⟩
    go_upto_region 2 with fail
    go_cut [] from 22 to 30 (fun wx => Base.Aside (Tk w wx xb mb fb t1 t5 t3 rt g4 g6 g7 g8 t 2 0 (S 0) ∧ wx.heap[g9]? = some (.cells #[.int .i64 3] 3 (0, 0))))
    case first => as_aux_lemma =>
      go_region_held3 (fun Wx => Wx.cell? ⟨g4, 0, none⟩ = some (.pointer (some ⟨xb, 0, none⟩)) ∧ Wx.cell? ⟨xb, 0, none⟩ = some (.pointer (some ⟨mb, 0, none⟩)) ∧ Wx.cell? ⟨g6, 0, none⟩ = some (.int .i64 t) ∧ Wx.cell? ⟨g9, 0, none⟩ = some (.int .i64 3))
        (first
          | go_keep
          | exact ⟨k4, k0, k6, k9⟩
          | exact SC _ E4.out
          | exact SD _ E4.out)
        ((first
          | (go_at_call 36; (with_reducible refine (hge _ ?_).mono ?_); (focus (repeat (with_reducible first | exact Below.refl _ _ | refine below_drew ?_ | refine below_alloc ?_ _))); rintro z w4 ⟨rfl, hK4, hC4⟩; have E4 := Base.Aside.mk (And.intro hK4 hC4); have q8 := blk_cell hK4.b8 0; have fz8 := blk_frozen hK4.b8 0; have lz8 := blk_lt hK4.b8; clear hK4 hC4)
          | (go_at_call 35; (with_reducible refine (hto _).mono ?_); rintro z w5 ⟨rfl, hw5⟩; obtain rfl := hw5.symm)))
      all_goals
        go_wp2_with fail
        go_meet
      case rel => exact ⟨⟨(E4.out.1.err 0).below (by first | exact Below.refl _ _ | exact (Below.refl _ _).drew), by first | exact blk_far (E4.out.2.blk K2.out.2 n9f) n9 _ | exact blk_far (blk_drew (E4.out.2.blk K2.out.2 n9f)) n9 _⟩⟩
    case rest => as_aux_lemma =>
      have K3 := Base.Aside.mk hcut.out
      clear hcut k4 k0 k6 k9 k8 f8 l4 l6 l8 l9 lx n4 n6 n9 nx n9f hge hto SC SD K2
      have k4 : wc.cell? ⟨g4, 0, none⟩ = some (.pointer (some ⟨xb, 0, none⟩)) := blk_cell K3.out.1.b4 0
      have k0 : wc.cell? ⟨xb, 0, none⟩ = some (.pointer (some ⟨mb, 0, none⟩)) := blk_cell K3.out.1.x.blk 0
      have k6 : wc.cell? ⟨g6, 0, none⟩ = some (.int .i64 t) := blk_cell K3.out.1.b6 0
      have k8 : wc.cell? ⟨g8, 0, none⟩ = some (.int .i64 0) := blk_cell K3.out.1.b8 0
      have l4 := blk_lt K3.out.1.b4
      have l6 := blk_lt K3.out.1.b6
      have l8 := blk_lt K3.out.1.b8
      have lx := blk_lt K3.out.1.x.blk
      have hcnt : ((S 0).fr t).cnt = 1 := by
        rw [HH.out.2.2.2.2.1]
        show (if t = t then getF (s.fr t) 3 else s.fr t).cnt = 1
        rw [if_pos rfl]
        unfold getF
        rw [if_neg (by decide)]
        show (s.fr t).cnt + 1 = 1
        rw [HH.out.2.2.2.1]
        rfl
      have hfr := fun W' (hW : Below wc.heap.size wc W') => (GaB.frame_calls (K3.out.1.below hW).m t ((HH.out.2.2.2.2.2.nn 0 (by omega)).1)).mono (R' := fun e w' => e = .returned (.tuple #[.agg #[.int .i64 ((S 0).fr t).own, .int .i64 ((S 0).fr t).typ, .int .i64 1, .int .i64 ((S 0).fr t).tot], .int .i64 0]) ∧ Below wc.heap.size wc w' ∧ Below W'.heap.size W' w') (fun e w' ⟨q1, q2⟩ => ⟨by rw [q1, hcnt], below_step hW q2, q2⟩)
      clear hcnt
      have hfz := fun W' (hz : W'.heap[wc.heap.size]? = some (.cells #[.int .i64 0, .int .i64 0, .int .i64 0, .int .i64 0] 72 (0, 0))) (hW : Below wc.heap.size wc W') => (hfr W' hW).mono (R' := fun e w' => e = .returned (.tuple #[.agg #[.int .i64 ((S 0).fr t).own, .int .i64 ((S 0).fr t).typ, .int .i64 1, .int .i64 ((S 0).fr t).tot], .int .i64 0]) ∧ Below wc.heap.size wc w' ∧ w'.heap[wc.heap.size]? = some (.cells #[.int .i64 0, .int .i64 0, .int .i64 0, .int .i64 0] 72 (0, 0))) (fun e w' ⟨q1, q2, q3⟩ => ⟨q1, q2, blk_below hz (blk_lt hz) q3⟩)
      have SB : ∀ w3, Below wc.heap.size wc w3 → w3.cell? ⟨g4, 0, none⟩ = some (.pointer (some ⟨xb, 0, none⟩)) ∧ w3.cell? ⟨xb, 0, none⟩ = some (.pointer (some ⟨mb, 0, none⟩)) ∧ w3.cell? ⟨g6, 0, none⟩ = some (.int .i64 t) := fun w3 hb => ⟨(hb.cell (p := ⟨g4, 0, none⟩) l4).trans k4, (hb.cell (p := ⟨xb, 0, none⟩) lx).trans k0, (hb.cell (p := ⟨g6, 0, none⟩) l6).trans k6⟩
      have SE : ∀ w3, Below wc.heap.size wc w3 → ∀ v0 v1 v2 v3 : Value, ((((w3.setCell ⟨wc.heap.size, 0, none⟩ v0).setCell ⟨wc.heap.size, 1, none⟩ v1).setCell ⟨wc.heap.size, 2, none⟩ v2).setCell ⟨wc.heap.size, 3, none⟩ v3).cell? ⟨g4, 0, none⟩ = some (.pointer (some ⟨xb, 0, none⟩)) ∧ ((((w3.setCell ⟨wc.heap.size, 0, none⟩ v0).setCell ⟨wc.heap.size, 1, none⟩ v1).setCell ⟨wc.heap.size, 2, none⟩ v2).setCell ⟨wc.heap.size, 3, none⟩ v3).cell? ⟨xb, 0, none⟩ = some (.pointer (some ⟨mb, 0, none⟩)) ∧ ((((w3.setCell ⟨wc.heap.size, 0, none⟩ v0).setCell ⟨wc.heap.size, 1, none⟩ v1).setCell ⟨wc.heap.size, 2, none⟩ v2).setCell ⟨wc.heap.size, 3, none⟩ v3).cell? ⟨g6, 0, none⟩ = some (.int .i64 t) := fun w3 hb v0 v1 v2 v3 => SB _ (below_set (below_set (below_set (below_set hb (Nat.le_refl _) v0) (Nat.le_refl _) v1) (Nat.le_refl _) v2) (Nat.le_refl _) v3)
      have SF : ∀ w3, Below wc.heap.size wc w3 → ∀ v0 v1 v2 v3 : Value, Below wc.heap.size wc ((((w3.setCell ⟨wc.heap.size, 0, none⟩ v0).setCell ⟨wc.heap.size, 1, none⟩ v1).setCell ⟨wc.heap.size, 2, none⟩ v2).setCell ⟨wc.heap.size, 3, none⟩ v3) := fun w3 hb v0 v1 v2 v3 => below_set (below_set (below_set (below_set hb (Nat.le_refl _) v0) (Nat.le_refl _) v1) (Nat.le_refl _) v2) (Nat.le_refl _) v3
      go_upto_region 5 with fail
      go_cut [10] from 34 to 42 (fun v wx => ∃ g10, v = .pointer (some ⟨g10, 0, none⟩) ∧ Base.Aside ((Tk w wx xb mb fb t1 t5 t3 rt g4 g6 g7 g8 t 2 0 (S 0) ∧ wx.heap[g9]? = some (.cells #[.int .i64 3] 3 (0, 0))) ∧ wx.heap[g10]? = some (.cells #[.int .i64 ((S 0).fr t).own, .int .i64 ((S 0).fr t).typ, .int .i64 1, .int .i64 ((S 0).fr t).tot] 72 (0, 0))))
      case first => as_aux_lemma =>
        go_region_held3 (fun Wx => Wx.cell? ⟨g4, 0, none⟩ = some (.pointer (some ⟨xb, 0, none⟩)) ∧ Wx.cell? ⟨xb, 0, none⟩ = some (.pointer (some ⟨mb, 0, none⟩)) ∧ Wx.cell? ⟨g6, 0, none⟩ = some (.int .i64 t))
          (first
            | go_keep
            | exact ⟨k4, k0, k6⟩
            | exact SB _ E5.out
            | exact SB _ (below_alloc E5.out _)
            | exact SB _ E4.out.1
            | exact SE _ E4.out.1 _ _ _ _)
          ((first
            | (go_at_call 56; (with_reducible refine (hfz _ ?_ ?_).mono ?_); (focus (first | exact blk_new _ _ | exact blk_new wc _)); (focus (repeat (with_reducible first | exact Below.refl _ _ | refine below_drew ?_ | refine below_alloc ?_ _))); rintro z w4 ⟨rfl, hB4, z10⟩; have C10 := (fun i => blk_cell z10 i); have F10 := (fun i => blk_frozen z10 i); have L10 := blk_lt z10; have E4 := Base.Aside.mk (And.intro hB4 z10); clear hB4 z10)
            | (go_at_call 56; (with_reducible refine (hfr _ ?_).mono ?_); (focus (repeat (with_reducible first | exact Below.refl _ _ | refine below_drew ?_ | refine below_alloc ?_ _))); rintro z w4 ⟨rfl, hB4, hB5⟩; have E5 := Base.Aside.mk hB4; clear hB4 hB5)))
        all_goals
          go_wp2_with fail
          go_meet
        all_goals
          first
            | exact ⟨w4.heap.size, rfl, ⟨⟨K3.out.1.below (below_alloc E5.out _), blk_below K3.out.2 (blk_lt K3.out.2) (below_alloc E5.out _)⟩, blk_new _ _⟩⟩
            | exact ⟨wc.heap.size, rfl, ⟨⟨K3.out.1.below (SF _ E4.out.1 _ _ _ _), blk_below K3.out.2 (blk_lt K3.out.2) (SF _ E4.out.1 _ _ _ _)⟩, blk_put (blk_put (blk_put (blk_put E4.out.2 0 _ rfl) 1 _ rfl) 2 _ rfl) 3 _ rfl⟩⟩
      case rest => as_aux_lemma =>
        obtain ⟨g10, rfl, hA⟩ := hcut
        have K4 := Base.Aside.mk hA.out.1
        have c10 := fun i => blk_cell hA.out.2 i
        have l10 := blk_lt hA.out.2
        clear hA k4 k0 k6 k8 l4 l6 l8 lx hfr hfz SB SE SF K3
        go_upto_region 9 with fail
        obtain ⟨g12, h12⟩ : ∃ g, g = wc.heap.size := ⟨_, rfl⟩
        have hr0 : Tr w (wc.alloc (.cells #[.int .i64 0] 3)) xb mb fb t1 t5 t3 rt g4 g6 g7 g8 g9 g12 t 2 3 0 (S 0) := by
          have b1 := K4.out.1.below (below_alloc (Below.refl wc.heap.size wc) (.cells #[.int .i64 0] 3))
          have l4 := blk_lt K4.out.1.b4
          have l6 := blk_lt K4.out.1.b6
          have l7 := blk_lt K4.out.1.b7
          have l8 := blk_lt K4.out.1.b8
          have l9 := blk_lt K4.out.2
          have hz := K4.out.1.c.size
          refine ⟨b1, blk_alloc K4.out.2 _, by rw [h12]; exact blk_new _ _, ⟨HG9.out, by omega⟩, by omega⟩
        have R0 := Base.Aside.mk hr0
        refine wp_world (fun W => Tr w W xb mb fb t1 t5 t3 rt g4 g6 g7 g8 g9 g12 t 2 3 0 (S 0)) R0.out ?_
        intro W5 hr5
        rw [← h12]
        have R5 := Base.Aside.mk hr5
        clear h12 hr0 R0 hr5 c10 l10 K4
        go_wp2_with fail
        go_loopw [] (fun wr => ∃ (k : Nat) (W6 : World), k ≤ 64 ∧ wr = W6 ∧ Base.Aside (Tr w W6 xb mb fb t1 t5 t3 rt g4 g6 g7 g8 g9 g12 t 2 3 k (S k))) (fun wr => 64 - cellN wr g12)
        case atStart => exact ⟨0, W5, by omega, rfl, R5⟩
        case round => as_aux_lemma =>
          obtain ⟨k, W6, hk, hwr, hT⟩ := hrel
          obtain rfl := hwr.symm
          have HQ := Base.Aside.mk (cell_n hT.out.b12)
          have c12 : W6.cell? ⟨g12, 0, none⟩ = some (.int .i64 k) := blk_cell hT.out.b12 0
          have c4 : W6.cell? ⟨g4, 0, none⟩ = some (.pointer (some ⟨xb, 0, none⟩)) := blk_cell hT.out.tk.b4 0
          have c0 : W6.cell? ⟨xb, 0, none⟩ = some (.pointer (some ⟨mb, 0, none⟩)) := blk_cell hT.out.tk.x.blk 0
          have c6 : W6.cell? ⟨g6, 0, none⟩ = some (.int .i64 t) := blk_cell hT.out.tk.b6 0
          have c8 : W6.cell? ⟨g8, 0, none⟩ = some (.int .i64 0) := blk_cell hT.out.tk.b8 0
          have f8 : W6.frozen? ⟨g8, 0, none⟩ = false := blk_frozen hT.out.tk.b8 0
          have l12 := blk_lt hT.out.b12
          have l4 := blk_lt hT.out.tk.b4
          have l6 := blk_lt hT.out.tk.b6
          have l8 := blk_lt hT.out.tk.b8
          have lx := blk_lt hT.out.tk.x.blk
          by_cases hlt : k < 64
          · have hat := fun W' (hW : Below W6.heap.size W6 W') => (at_calls (hT.out.tk.below hW).m (HH.out.2.2.2.2.2.nn k hk).2 t k (HH.out.2.2.2.2.2.nn k hk).1 hlt (X k) (HH.out.2.2.2.2.2.xx k hlt) (HH.out.2.2.2.2.2.zz k hlt)).mono (R' := fun e w' => e = .returned (.tuple #[.int .u32 (entW (X k)), .int .i64 0]) ∧ Below W6.heap.size W6 w') (fun e w' ⟨q1, q2⟩ => ⟨q1, below_step hW q2⟩)
            have SB : ∀ w3, Below W6.heap.size W6 w3 → w3.cell? ⟨g4, 0, none⟩ = some (.pointer (some ⟨xb, 0, none⟩)) ∧ w3.cell? ⟨xb, 0, none⟩ = some (.pointer (some ⟨mb, 0, none⟩)) ∧ w3.cell? ⟨g6, 0, none⟩ = some (.int .i64 t) ∧ w3.cell? ⟨g12, 0, none⟩ = some (.int .i64 k) := fun w3 hb => ⟨(hb.cell (p := ⟨g4, 0, none⟩) l4).trans c4, (hb.cell (p := ⟨xb, 0, none⟩) lx).trans c0, (hb.cell (p := ⟨g6, 0, none⟩) l6).trans c6, (hb.cell (p := ⟨g12, 0, none⟩) l12).trans c12⟩
            go_upto_region 12 with fail
            go_cut [13, 14] from 47 to 68 (fun v v2 wx => v = .int .u32 (entW (X k)) ∧ Base.Aside (Tr w wx xb mb fb t1 t5 t3 rt g4 g6 g7 g8 g9 g12 t 2 3 k (S k)))
            case first => as_aux_lemma =>
              go_region_held3 (fun Wx => Wx.cell? ⟨g4, 0, none⟩ = some (.pointer (some ⟨xb, 0, none⟩)) ∧ Wx.cell? ⟨xb, 0, none⟩ = some (.pointer (some ⟨mb, 0, none⟩)) ∧ Wx.cell? ⟨g6, 0, none⟩ = some (.int .i64 t) ∧ Wx.cell? ⟨g12, 0, none⟩ = some (.int .i64 k))
                (first
                  | go_keep
                  | exact ⟨c4, c0, c6, c12⟩
                  | exact SB _ E4.out)
                ((first
                  | (go_at_call 59; (with_reducible refine (hat _ ?_).mono ?_); (focus (repeat (with_reducible first | exact Below.refl _ _ | refine below_drew ?_ | refine below_alloc ?_ _))); rintro z w4 ⟨rfl, hB4⟩; have E4 := Base.Aside.mk hB4; clear hB4)))
              all_goals
                go_wp2_with fail
                go_meet
              case rel => exact ⟨rfl, ⟨hT.out.below (by first | exact E4.out | exact below_drew E4.out)⟩⟩
            case rest => as_aux_lemma =>
              obtain ⟨rfl, hA⟩ := hcut
              clear hat SB c12 c4 c0 c6 c8 f8 l12 l4 l6 l8 lx hT
              have hget := HH.out.2.2.2.2.2.get k hlt wc hA.out.tk.x hA.out.tk.m
              have c4 : wc.cell? ⟨g4, 0, none⟩ = some (.pointer (some ⟨xb, 0, none⟩)) := blk_cell hA.out.tk.b4 0
              have c7 : wc.cell? ⟨g7, 0, none⟩ = some (.int .i64 2) := blk_cell hA.out.tk.b7 0
              have l4 := blk_lt hA.out.tk.b4
              have l7 := blk_lt hA.out.tk.b7
              have nz : g12 ≠ g8 ∧ g8 ≠ g12 := ⟨hA.out.ne.2.2.2.1, fun e => hA.out.ne.2.2.2.1 e.symm⟩
              obtain ⟨nz1, nz2⟩ := nz
              go_wp2_with (first
                | (go_at_call 60; (with_reducible refine hget.mono ?_); rintro z w7 ⟨rfl, hM7, hC7⟩; have h7 := hA.out.mach hM7 hC7; have d8 := blk_cell h7.tk.b8 0; have z8 := blk_frozen h7.tk.b8 0; have m8 := blk_lt h7.tk.b8; have d12 := blk_cell h7.b12 0; have z12 := blk_frozen h7.b12 0; have m12 := blk_lt h7.b12; have E7 := Base.Aside.mk h7; clear h7 hM7 hC7)
                | go_in)
              go_roundw
              case rel => exact ⟨k + 1, _, by omega, rfl, ⟨E7.out.err.inc⟩⟩
              case measure =>
                have q2 := cell_n (E7.out.err.inc).b12
                have e1 : ((k + 1 : Nat) : Int) = (k : Int) + 1 := by omega
                rw [e1] at q2
                rw [HQ.out, q2]
                omega
          · obtain rfl : k = 64 := by omega
            clear hlt
            go_wp2
            refine leaves_cons (f := 57) (args := #[.pointer (some ⟨g8, 0, none⟩), .pointer (some ⟨g4, 0, none⟩), .pointer (some ⟨g6, 0, none⟩), .pointer (some ⟨g7, 0, none⟩), .pointer (some ⟨g12, 0, none⟩), .pointer (some ⟨g9, 0, none⟩)]) (by simp) (by simp [go_sem]) ?_
            refine (take1_idle ⟨g8, 0, none⟩ _ _ _ _ _ .returning _ ?_).mono ?_
            · exact blk_cell hT.out.err.tk.b8 0
            rintro e u' w'' ⟨rfl, rfl, rfl⟩
            have h9 := hT.out.err
            have q8 : (W6.setCell ⟨g8, 0, none⟩ (.int .i64 0)).cell? ⟨g8, 0, none⟩ = some (.int .i64 0) := blk_cell h9.tk.b8 0
            refine ⟨.int .i64 0, ?_, rfl, h9.tk.m, h9.tk.c⟩
            simp [results, Try.f40, Try.results40, go_sem, q8]
end
end Go.Proofs.Ytebhpmmibffbeaa.DdA
