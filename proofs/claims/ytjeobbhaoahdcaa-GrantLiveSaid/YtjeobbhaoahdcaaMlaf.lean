/- Proved: what a machine's Read, Write, Get, Put, Free do, at every argument (contracts for the laws of the grants). Proved: an entry and what it permits, at every entry; the ends of a copy (contracts for the laws of the grants). Proved: a map whose keys are pairs of ints, as a function of the pair (lemmas for the walks of the grants). Proved: the live maps in memory: a map from pairs of ints to what is mapped (lemmas for the walks of the grants). -/
import Derived.Test.YtjeobbhaoahdcaaMlae
import Derived.Maps.RangeWalk
import Derived.DeepKeys5
namespace Go.Proofs.Ytjeobbhaoahdcaa.GfB
open Go.RowKit Go.Maps Go.Proofs.Ytjeobbhaoahdcaa.Base Go.Proofs.Ytjeobbhaoahdcaa.GaA Go.Proofs.Ytjeobbhaoahdcaa.GaB Go.Proofs.Ytjeobbhaoahdcaa.GaC Go.Proofs.Ytjeobbhaoahdcaa.GfA
set_option linter.unusedVariables false
set_option linter.unusedSimpArgs false

/-- Does a part lie in a frame? -/
def inR (s : MS) (k off n : Int) : Prop := 0 ≤ k ∧ k < s.n ∧ 0 ≤ off ∧ 0 ≤ n ∧ off ≤ 256 ∧ n ≤ 256 - off
instance (s : MS) (k off n : Int) : Decidable (inR s k off n) := by unfold inR; infer_instance
section
variable {w w' : World} {mb fb : Nat} {s : MS}
theorem at_any (h : Mach w mb fb s) (k : Int) : Calls Try.prog 48 #[.pointer (some ⟨mb, 0, none⟩), .int .i64 k] w fun e w' =>
    e = .returned (.tuple #[.pointer (if 0 ≤ k ∧ k < s.n then some ⟨fb, k.toNat * 260, none⟩ else none), .int .i64 (if 0 ≤ k ∧ k < s.n then 0 else 1)]) ∧ w' = w := by
  by_cases hk : 0 ≤ k ∧ k < s.n
  · rw [if_pos hk, if_pos hk]
    obtain ⟨j, rfl⟩ : ∃ j : Nat, k = j := ⟨k.toNat, by omega⟩
    exact at_calls h j (by omega)
  · rw [if_neg hk, if_neg hk]
    exact at_out h k (by omega)
set_option maxHeartbeats 4000000 in
set_option maxRecDepth 100000 in
theorem part_bad (h : Mach w mb fb s) (k off n : Int) (hb : ¬ inR s k off n) : Calls Try.prog 47 #[.pointer (some ⟨mb, 0, none⟩), .int .i64 k, .int .i64 off, .int .i64 n] w fun e w' => (∃ a, e = .returned (.tuple #[.pointer a, .int .i64 1])) ∧ w' = w := by
  have ha := at_any h k
  obtain ⟨A, hA⟩ : ∃ A, A = (if 0 ≤ k ∧ k < s.n then some (⟨fb, k.toNat * 260, none⟩ : Addr) else none) := ⟨_, rfl⟩
  obtain ⟨er, her⟩ : ∃ er : Int, er = (if 0 ≤ k ∧ k < s.n then 0 else 1) := ⟨_, rfl⟩
  rw [← hA, ← her] at ha
  have HB := Base.Aside.mk (And.intro her hb)
  have he1 : er = 0 ∨ er = 1 := by rw [her]; split <;> simp
  clear h hA her hb
  rcases he1 with rfl | rfl
  · have hin := HB.out.2
    have hk : 0 ≤ k ∧ k < s.n := by
      have := HB.out.1
      split at this
      · assumption
      · cases this
    unfold inR at hin
    clear HB
    by_cases o0 : off < 0
    · have d0 : decide (off < 0) = true := decide_eq_true o0
      clear hin hk o0
      go_enter Try.func47, Try.ntmps47
      go_wp2_with (first
        | (go_at_call 48; refine ha.mono ?_; rintro z w1 ⟨rfl, hw1⟩; obtain rfl := hw1.symm)
        | go_in)
      go_ret2
      exact ⟨⟨A, by first | rfl | (simp; done)⟩, rfl⟩
    · have d0 : decide (off < 0) = false := decide_eq_false o0
      by_cases n0 : n < 0
      · have d1 : decide (n < 0) = true := decide_eq_true n0
        clear hin hk n0 o0
        go_enter Try.func47, Try.ntmps47
        go_wp2_with (first
          | (go_at_call 48; refine ha.mono ?_; rintro z w1 ⟨rfl, hw1⟩; obtain rfl := hw1.symm)
          | go_in)
        go_ret2
        exact ⟨⟨A, by first | rfl | (simp; done)⟩, rfl⟩
      · have d1 : decide (n < 0) = false := decide_eq_false n0
        by_cases o1 : (256 : Int) < off
        · have d2 : decide ((256 : Int) < off) = true := decide_eq_true o1
          clear hin hk n0 o0 o1
          go_enter Try.func47, Try.ntmps47
          go_wp2_with (first
            | (go_at_call 48; refine ha.mono ?_; rintro z w1 ⟨rfl, hw1⟩; obtain rfl := hw1.symm)
            | go_in)
          go_ret2
          exact ⟨⟨A, by first | rfl | (simp; done)⟩, rfl⟩
        · have d2 : decide ((256 : Int) < off) = false := decide_eq_false o1
          have d3 : decide ((256 : Int) - off < n) = true := decide_eq_true (by omega)
          have o2 : 0 ≤ off := by omega
          have o3 : off ≤ 256 := by omega
          clear hin hk n0 o0 o1
          go_enter Try.func47, Try.ntmps47
          go_wp2_with (first
            | (go_at_call 48; refine ha.mono ?_; rintro z w1 ⟨rfl, hw1⟩; obtain rfl := hw1.symm)
            | go_in)
          go_ret2
          exact ⟨⟨A, by first | rfl | (simp; done)⟩, rfl⟩
  · clear HB
    go_enter Try.func47, Try.ntmps47
    go_wp2_with (first
      | (go_at_call 48; refine ha.mono ?_; rintro z w1 ⟨rfl, hw1⟩; obtain rfl := hw1.symm)
      | go_in)
    go_ret2
    exact ⟨⟨A, by first | rfl | (simp; done)⟩, rfl⟩
/-- What Read comes to, at every argument. -/
structure RdOk (N : Nat) (s : MS) (k off n : Int) (A : Option Addr) (l : Nat) (er : Int) (w' : World) : Prop where
  res : (inR s k off n ∧ er = 0 ∧ l = n.toNat ∧ A = some ⟨N, 0, none⟩ ∧ w'.heap[N]? = some (.cells (u8s (MS.rd s k.toNat off.toNat n.toNat)).toArray 5 (0, 0))) ∨ (¬ inR s k off n ∧ er = 1 ∧ A = none ∧ l = 0)
def RdOut (w : World) (s : MS) (k off n : Int) (e : Ending) (w' : World) : Prop := ∃ (A : Option Addr) (l : Nat) (er : Int), e = .returned (.tuple #[.slice A l l, .int .i64 er]) ∧ RdOk w.heap.size s k off n A l er w' ∧ Below w.heap.size w w'
set_option maxHeartbeats 4000000 in
set_option maxRecDepth 100000 in
theorem read_bad (h : Mach w mb fb s) (k off n : Int) (hb : ¬ inR s k off n) : Calls Try.prog 12 #[.pointer (some ⟨mb, 0, none⟩), .int .i64 k, .int .i64 off, .int .i64 n] w fun e w' => e = .returned (.tuple #[.slice none 0 0, .int .i64 1]) ∧ w' = w := by
  have hp := part_bad h k off n hb
  clear h hb
  go_enter Try.func12, Try.ntmps12
  go_wp2_with (first
    | (go_at_call 47; refine hp.mono ?_; rintro z w1 ⟨⟨a, rfl⟩, hw1⟩; obtain rfl := hw1.symm)
    | go_in)
  go_ret2
  exact ⟨by first | rfl | (simp; done), rfl⟩
theorem read_any (h : Mach w mb fb s) (k off n : Int) : Calls Try.prog 12 #[.pointer (some ⟨mb, 0, none⟩), .int .i64 k, .int .i64 off, .int .i64 n] w (RdOut w s k off n) := by
  by_cases hb : inR s k off n
  · have hb' := hb
    unfold inR at hb'
    obtain ⟨k', rfl⟩ : ∃ k' : Nat, k = k' := ⟨k.toNat, by omega⟩
    obtain ⟨o', rfl⟩ : ∃ o' : Nat, off = o' := ⟨off.toNat, by omega⟩
    obtain ⟨n', rfl⟩ : ∃ n' : Nat, n = n' := ⟨n.toNat, by omega⟩
    exact (read_calls h k' (by omega) o' n' (by omega)).mono fun e w' ⟨h1, h2, h3⟩ => ⟨_, _, _, h1, ⟨.inl ⟨hb, rfl, rfl, rfl, h2⟩⟩, h3⟩
  · exact (read_bad h k off n hb).mono fun e w' ⟨h1, h2⟩ => ⟨_, _, _, h1, ⟨.inr ⟨hb, rfl, rfl, rfl⟩⟩, by rw [h2]; exact Below.refl _ _⟩
set_option maxHeartbeats 4000000 in
set_option maxRecDepth 100000 in
theorem write_bad (h : Mach w mb fb s) (k off : Int) (A : Option Addr) (l c : Nat) (hb : ¬ inR s k off l) : Calls Try.prog 18 #[.pointer (some ⟨mb, 0, none⟩), .int .i64 k, .int .i64 off, .slice A l c] w fun e w' => e = .returned (.int .i64 1) ∧ w' = w := by
  have hp := part_bad h k off l hb
  clear h hb
  go_enter Try.func18, Try.ntmps18
  go_wp2_with (first
    | (go_at_call 47; refine hp.mono ?_; rintro z w1 ⟨⟨a, rfl⟩, hw1⟩; obtain rfl := hw1.symm)
    | go_in)
  go_ret
  exact ⟨by first | rfl | (simp; done), rfl⟩
set_option maxHeartbeats 4000000 in
set_option maxRecDepth 100000 in
theorem write_free (h : Mach w mb fb s) (k : Nat) (hk : k < s.n) (off : Nat) (A : Option Addr) (l c : Nat) (ho : off + l ≤ 256) (hown : (s.fr k).own = -1) : Calls Try.prog 18 #[.pointer (some ⟨mb, 0, none⟩), .int .i64 k, .int .i64 off, .slice A l c] w fun e w' => e = .returned (.int .i64 11) ∧ w' = w := by
  have hp := part_calls h k hk off l ho
  have c0 := h.own k hk
  rw [hown] at c0
  have L1 := h.lt.2
  clear h hown
  go_enter Try.func18, Try.ntmps18
  go_wp2_with (first
    | (go_at_call 47; refine hp.mono ?_; rintro z w1 ⟨rfl, hw1⟩; obtain rfl := hw1.symm)
    | go_in)
  go_ret
  exact ⟨by first | rfl | (simp; done), rfl⟩
/-- What Write comes to. -/
def wrE (s : MS) (k off : Int) (l : Nat) : Int := if inR s k off l then (if (s.fr k.toNat).own = -1 then 11 else 0) else 1
def wrS (s : MS) (k off : Int) (zs : List UInt8) : MS := if wrE s k off zs.length = 0 then MS.wr s k.toNat off.toNat zs else s
theorem write_any (h : Mach w mb fb s) (k off : Int) (A : Option Addr) (l c : Nat) (zs : List UInt8) (hl : l = zs.length) (hz : Bytes w A zs) : Calls Try.prog 18 #[.pointer (some ⟨mb, 0, none⟩), .int .i64 k, .int .i64 off, .slice A l c] w fun e w' =>
    e = .returned (.int .i64 (wrE s k off zs.length)) ∧ Mach w' mb fb (wrS s k off zs) ∧ Chg (fun x => x = fb) w w' := by
  by_cases hb : inR s k off zs.length
  · have hb' := hb
    unfold inR at hb'
    have hE : wrE s k off zs.length = if (s.fr k.toNat).own = -1 then 11 else 0 := if_pos hb
    obtain ⟨k', rfl⟩ : ∃ k' : Nat, k = k' := ⟨k.toNat, by omega⟩
    obtain ⟨o', rfl⟩ : ∃ o' : Nat, off = o' := ⟨off.toNat, by omega⟩
    by_cases ho : (s.fr k').own = -1
    · have hE2 : wrE s k' o' zs.length = 11 := by rw [hE]; exact if_pos ho
      unfold wrS
      rw [hE2, if_neg (by decide)]
      subst hl
      exact (write_free h k' (by omega) o' A zs.length c (by omega) ho).mono fun e w' ⟨h1, h2⟩ => ⟨h1, by rw [h2]; exact h, Chg.of_eq _ h2⟩
    · have hE2 : wrE s k' o' zs.length = 0 := by rw [hE]; exact if_neg ho
      unfold wrS
      rw [hE2, if_pos rfl]
      exact write_calls h k' (by omega) o' A l c zs hl hz (by omega) ho
  · have hE : wrE s k off zs.length = 1 := if_neg hb
    unfold wrS
    rw [hE, if_neg (by decide)]
    subst hl
    exact (write_bad h k off A zs.length c hb).mono fun e w' ⟨h1, h2⟩ => ⟨h1, by rw [h2]; exact h, Chg.of_eq _ h2⟩
end
end Go.Proofs.Ytjeobbhaoahdcaa.GfB
namespace Go.Proofs.Ytjeobbhaoahdcaa.GfC
open Go.RowKit Go.Maps Go.Proofs.Ytjeobbhaoahdcaa.Base Go.Proofs.Ytjeobbhaoahdcaa.GaA Go.Proofs.Ytjeobbhaoahdcaa.GaB Go.Proofs.Ytjeobbhaoahdcaa.GaC Go.Proofs.Ytjeobbhaoahdcaa.GmA Go.Proofs.Ytjeobbhaoahdcaa.GpA Go.Proofs.Ytjeobbhaoahdcaa.GgA Go.Proofs.Ytjeobbhaoahdcaa.GeA Go.Proofs.Ytjeobbhaoahdcaa.GeB Go.Proofs.Ytjeobbhaoahdcaa.GfA Go.Proofs.Ytjeobbhaoahdcaa.GfB Go.Proofs.Ytjeobbhaoahdcaa.GvA
set_option linter.unusedVariables false
set_option linter.unusedSimpArgs false

theorem bne {w : World} {g k : Nat} {t u : TypeId} {cs ds : Array Value} (h : w.heap[g]? = some (.cells cs t (0, 0))) (h2 : w.heap[k]? = some (.cells ds u (0, 0))) (hn : t ≠ u) : g ≠ k := by
  rintro rfl
  rw [h] at h2
  have e := Option.some.inj h2
  injection e with e1 e2 e3
  exact hn e2
theorem bnm {w : World} {g k c : Nat} {t : TypeId} {cs : Array Value} {f : Int → Option Value} (h : w.heap[g]? = some (.cells cs t (0, 0))) (h2 : IMap w k f c) : g ≠ k := by
  rintro rfl
  obtain ⟨es, clock, h1⟩ := h2.is
  rw [h] at h1
  cases h1
theorem _root_.Go.Proofs.Ytjeobbhaoahdcaa.GvA.V2.ne_m {w : World} {vb db mb mb' fb r : Nat} {s : MS} (h : V2 w vb db mb' r) (hM : Mach w mb fb s) : vb ≠ mb ∧ vb ≠ fb := by
  obtain ⟨cs, h1, h2⟩ := hM.lst
  exact ⟨bne h.blk hM.blk (by decide), bne h.blk h1 (by decide)⟩
theorem _root_.Go.Proofs.Ytjeobbhaoahdcaa.GvA.V2.ne_g {w : World} {vb db mb mb' r gb mm hm c : Nat} {f : Int → Option (Int × Nat)} (h : V2 w vb db mb' r) (hG : G2 w gb mm hm mb f c) : vb ≠ gb ∧ vb ≠ mm := ⟨bne h.blk hG.blk (by decide), bnm h.blk hG.mem⟩
theorem _root_.Go.Proofs.Ytjeobbhaoahdcaa.GvA.V2.ne_p {w : World} {vb db mb' r pb fm pm size c : Nat} {fr pl : Int → Option Int} (h : V2 w vb db mb' r) (hP : P2 w pb fm pm size fr pl c) : vb ≠ pb ∧ vb ≠ fm ∧ vb ≠ pm := ⟨bne h.blk hP.blk (by decide), bnm h.blk hP.mf, bnm h.blk hP.mp⟩
/-- A view behind so many reads; nothing else has turned. -/
structure Vw (vb db mb : Nat) (w W : World) (r : Nat) : Prop where
  v : V2 W vb db mb r
  c : Chg (fun x => x = vb) w W
  lv : vb < w.heap.size
  ld : db < w.heap.size
section
variable {vb db mb r : Nat} {w w' W W' : World}
theorem Vw.refl (h : V2 w vb db mb r) : Vw vb db mb w w r := ⟨h, Chg.refl _ _, blk_lt h.blk, h.due.lt⟩
theorem Vw.set (h : Vw vb db mb w W r) {g : Nat} (hg : w.heap.size ≤ g) (i : Nat) (u : Value) : Vw vb db mb w (W.setCell ⟨g, i, none⟩ u) r := by
  have h1 := h.lv
  have h2 := h.ld
  exact ⟨h.v.chg (Chg.set (F := fun x => x = g) (p := ⟨g, i, none⟩) (Chg.refl _ W) (.inl rfl) u) (by omega) (by omega), Chg.set (p := ⟨g, i, none⟩) h.c (.inr hg) u, h1, h2⟩
theorem Vw.below (h : Vw vb db mb w W r) (hb : Below W.heap.size W W') : Vw vb db mb w W' r := ⟨h.v.below hb, h.c.trans (Chg.below _ hb), h.lv, h.ld⟩
theorem Vw.alloc (h : Vw vb db mb w W r) (o : Obj) : Vw vb db mb w (W.alloc o) r := h.below (below_alloc (Below.refl _ _) o)
theorem Vw.drew (h : Vw vb db mb w W r) : Vw vb db mb w W.drew r := h.below (Below.refl _ _).drew
theorem Vw.drewN (h : Vw vb db mb w W r) (n : Nat) : Vw vb db mb w (W.drewN n) r := h.below ⟨rfl, rfl, rfl, Nat.le_refl _, fun _ _ => rfl⟩
theorem Vw.trans {r' : Nat} (h : Vw vb db mb w W r) (k : Vw vb db mb W W' r') : Vw vb db mb w W' r' := ⟨k.v, h.c.trans k.c, h.lv, h.ld⟩
theorem Vw.pre {r' : Nat} (hb : Below w.heap.size w W) (hv : vb < w.heap.size) (hd : db < w.heap.size) (k : Vw vb db mb W W' r') : Vw vb db mb w W' r' := ⟨k.v, (Chg.below _ hb).trans k.c, hv, hd⟩
theorem Vw.blk (h : Vw vb db mb w W r) {g : Nat} {o : Obj} (hg : w.heap[g]? = some o) (hn : g ≠ vb) : W.heap[g]? = some o := h.c.blk hg hn
end
section
variable {w w' : World} {vb db mb fb r : Nat} {s : MS}
def VrOut (w : World) (vb db mb r : Nat) (s : MS) (k off n : Int) (e : Ending) (w' : World) : Prop := ∃ (A : Option Addr) (l : Nat) (er : Int), e = .returned (.tuple #[.slice A l l, .int .i64 er]) ∧ RdOk w.heap.size s k off n A l er w' ∧ Vw vb db mb w w' (r + 1)
set_option maxHeartbeats 4000000 in
set_option maxRecDepth 100000 in
theorem vread_any (h : V2 w vb db mb r) (hM : Mach w mb fb s) (hr : 0 ≤ r) (k off n : Int) : Calls Try.prog 51 #[.pointer (some ⟨vb, 0, none⟩), .int .i64 k, .int .i64 off, .int .i64 n] w (VrOut w vb db mb r s k off n) := by
  have C0 := fun i => blk_cell h.blk i
  have F0 := fun i => blk_frozen h.blk i
  have L0 := blk_lt h.blk
  have hn := GvA.none_calls h
  have hci := cr_in r
  have hcs := cr_step r
  have hlk := (h.due.block (W' := w.drew) rfl).look Try.underlying82 (zeroF w.drew) (cr r) (by omega) (by omega)
  simp only [Option.getD_none] at hlk
  have hc1 : Chg (fun x => x = vb) w (w.setCell ⟨vb, 2, none⟩ (.int .i64 (cr (r + 1)))).drew := Chg.drew (Chg.set (F := fun x => x = vb) (p := ⟨vb, 2, none⟩) (Chg.refl _ w) (.inl rfl) _)
  have hrd := read_any (hM.chg hc1 (fun e => (h.ne_m hM).1 e.symm) (fun e => (h.ne_m hM).2 e.symm)) k off n
  have hsz : (w.setCell ⟨vb, 2, none⟩ (.int .i64 (cr (r + 1)))).drew.heap.size = w.heap.size := size_set _ _ _
  have hdb : db ≠ vb := fun e => bnm h.blk h.due e.symm
  have hV1 : Vw vb db mb w (w.setCell ⟨vb, 2, none⟩ (.int .i64 (cr (r + 1)))).drew (r + 1) := ⟨⟨blk_put h.blk 2 _ (by simp), h.due.chg hc1 hdb⟩, hc1, L0, h.due.lt⟩
  unfold RdOut at hrd
  rw [hsz] at hrd
  have HH := Base.Aside.mk (And.intro hV1 hsz)
  clear h hM hc1 hV1 hsz
  go_enter Try.func51, Try.ntmps51
  go_wp2_with (first
    | (go_at_call 78; refine hn.mono ?_; rintro z w1 ⟨rfl, hw1⟩; obtain rfl := hw1.symm)
    | go_in)
  go_region
  go_wp2
  refine wp_loop_once ?_
  go_wp2_with (first
    | (go_at_call 12; refine hrd.mono ?_; rintro z w1 ⟨A, l, er, rfl, hw1, hw2⟩; have E1 := Base.Aside.mk (And.intro hw1 hw2); clear hw1 hw2)
    | go_in)
  go_ret2
  refine ⟨A, l, er, by first | rfl | (simp; done), E1.out.1, HH.out.1.below ?_⟩
  rw [HH.out.2]
  exact E1.out.2
end
/-- An entry as it is read. -/
structure Gr where
  kd : Int
  ro : Bool
  sb : Bool
  dom : Int
  gp : Int
  of : Int
  le : Int
def aggv (g : Gr) : Value := .agg #[.int .i64 g.kd, .bool g.ro, .bool g.sb, .int .i64 g.dom, .int .i64 g.gp, .int .i64 g.of, .int .i64 g.le]
def entG (l : List Int) : Gr := if GuA.bad l then ⟨0, false, false, 0, 0, 0, 0⟩ else ⟨GuA.kd l, GuA.ro l, GuA.sb l, GuA.rd l 2 + 256 * GuA.rd l 3, GuA.rd l 4 + 256 * GuA.rd l 5, GuA.of l, GuA.le l⟩
def entE (l : List Int) : Int := if GuA.bad l then 60 else 0
def permE (l : List Int) (caller : Int) : Int := if entE l = 0 ∧ ((entG l).kd ≠ 1 ∨ (entG l).dom ≠ caller) then 60 else entE l
section
variable {w w' : World} {gb mm hm mb fb : Nat} {f : Int → Option (Int × Nat)} {c : Nat} {s : MS} {vb db r : Nat}
theorem ent_any (h : G2 w gb mm hm mb f c) (hM : Mach w mb fb s) (hV : V2 w vb db mb r) (hr : 0 ≤ r) (d : Int) (d0 : 0 ≤ d) (d8 : d < 8) (k pb : Nat) (hd : f d = some ((k : Int), pb)) (hk : k < s.n) (ref : Nat) (h32 : ref < 32) :
    Calls Try.prog 68 #[.pointer (some ⟨gb, 0, none⟩), .pointer (some ⟨vb, 0, none⟩), .int .i64 d, .int .i64 ref] w fun e w' => e = .returned (.tuple #[aggv (entG (ent s k ref)), .int .i64 (entE (ent s k ref))]) ∧ Vw vb db mb w w' (r + 1) :=
  (entry_calls h hM hV hr (hV.ne_m hM).1 (hV.ne_m hM).2 d d0 d8 k pb hd hk ref h32).mono fun e w' ⟨h1, h2, h3⟩ => by
    refine ⟨?_, h2, h3, blk_lt hV.blk, hV.due.lt⟩
    rw [h1]
    unfold entG entE
    by_cases hb : GuA.bad (ent s k ref)
    · simp only [if_pos hb]; rfl
    · simp only [if_neg hb]; rfl
set_option maxHeartbeats 4000000 in
set_option maxRecDepth 100000 in
theorem permit_any (h : G2 w gb mm hm mb f c) (hM : Mach w mb fb s) (hV : V2 w vb db mb r) (hr : 0 ≤ r) (d : Int) (d0 : 0 ≤ d) (d8 : d < 8) (k pb : Nat) (hd : f d = some ((k : Int), pb)) (hk : k < s.n) (ref : Nat) (h32 : ref < 32) (caller : Int) :
    Calls Try.prog 58 #[.pointer (some ⟨gb, 0, none⟩), .pointer (some ⟨vb, 0, none⟩), .int .i64 caller, .int .i64 d, .int .i64 ref] w fun e w' => e = .returned (.tuple #[aggv (entG (ent s k ref)), .int .i64 (permE (ent s k ref) caller)]) ∧ Vw vb db mb w w' (r + 1) := by
  have hb1 := below_alloc (Below.refl w.heap.size w) (.cells #[.int .i64 0, .bool false, .bool false, .int .i64 0, .int .i64 0, .int .i64 0, .int .i64 0] 53)
  have hen := ent_any (h.below hb1) (hM.below hb1) (hV.below hb1) hr d d0 d8 k pb hd hk ref h32
  obtain ⟨g, hg⟩ : ∃ g, g = entG (ent s k ref) := ⟨_, rfl⟩
  obtain ⟨er, her⟩ : ∃ er, er = entE (ent s k ref) := ⟨_, rfl⟩
  obtain ⟨pe, hpe⟩ : ∃ pe, pe = permE (ent s k ref) caller := ⟨_, rfl⟩
  have hp2 : pe = if er = 0 ∧ (g.kd ≠ 1 ∨ g.dom ≠ caller) then 60 else er := by rw [hpe, hg, her]; rfl
  rw [← hg, ← her] at hen
  rw [← hg, ← hpe]
  unfold aggv at hen ⊢
  have hVlt := blk_lt hV.blk
  have hDlt := hV.due.lt
  have HA := Base.Aside.mk hp2
  have HR := fun (w1 : World) (hc : Vw vb db mb (w.alloc (.cells #[.int .i64 0, .bool false, .bool false, .int .i64 0, .int .i64 0, .int .i64 0, .int .i64 0] 53)) w1 (r + 1)) => hc.blk (blk_new w _) (Nat.ne_of_gt hVlt)
  have HP := Base.Aside.mk hb1
  clear h hM hV hb1 hg her hpe hp2 hd
  go_enter Try.func58, Try.ntmps58
  go_wp2_with (first
    | (go_at_call 68; refine hen.mono ?_; rintro z w1 ⟨rfl, hw2⟩; have hres := HR w1 hw2; have C2 := fun i => blk_cell hres i; have F2 := fun i => blk_frozen hres i; have L2 := blk_lt hres; have E1 := Base.Aside.mk hw2; clear hw2 hres)
    | go_in)
  all_goals
    refine bodyPost_ret (v := .tuple #[.agg #[.int .i64 g.kd, .bool g.ro, .bool g.sb, .int .i64 g.dom, .int .i64 g.gp, .int .i64 g.of, .int .i64 g.le], .int .i64 pe]) ?_ rfl ⟨rfl, ?_⟩
    · simp only [results, Try.results58]
      go_simp
      all_goals
        go_light
        have hr := HA.out
        clear HA HR hen E1 C2 F2
        simp_all
    · have hw := Vw.pre HP.out hVlt hDlt E1.out
      exact ((((((((hw.set (Nat.le_refl _) _ _).set (Nat.le_refl _) _ _).set (Nat.le_refl _) _ _).set (Nat.le_refl _) _ _).set (Nat.le_refl _) _ _).set (Nat.le_refl _) _ _).set (Nat.le_refl _) _ _).alloc _)
end
end Go.Proofs.Ytjeobbhaoahdcaa.GfC
namespace Go.Proofs.Ytjeobbhaoahdcaa.GmB
open Go.RowKit Go.Maps Go.WideElems Go.Proofs.Ytjeobbhaoahdcaa.Base Go.Proofs.Ytjeobbhaoahdcaa.GaA Go.Proofs.Ytjeobbhaoahdcaa.GmA
set_option linter.unusedVariables false
set_option linter.unusedSimpArgs false

set_option maxRecDepth 1000000 in
theorem laidOutP : laidOutB Try.prog = true := by kernel_rfl
theorem rowK : (137 : TypeId) < Try.prog.types.size := of_decide_eq_true (by kernel_rfl)
theorem wideK : (match Try.prog.underlying 137 with | some (.array _ _) | some (.struct _) => true | _ => false) = true := by rw [Try.underlying137]
set_option maxRecDepth 1000000 in
theorem keyed : Keyed Try.prog 137 := Keyed.of_law (deep_law_laid laidOutP (m := 3) (by omega) rowK (by kernel_rfl) wideK)
def kv (p : Int × Int) : Value := .agg #[.int .i64 p.1, .int .i64 p.2]
theorem kv_inj {p q : Int × Int} (h : kv p = kv q) : p = q := by
  unfold kv at h
  injection h with h
  simp at h
  exact Prod.ext h.1 h.2
def okI (x : Int) : Prop := -9223372036854775808 ≤ x ∧ x ≤ 9223372036854775807
def ok (p : Int × Int) : Prop := okI p.1 ∧ okI p.2
theorem sizeT : ∃ n, Try.prog.types.size = n + 2 := ⟨Try.prog.types.size - 2, by have h : (137 : Nat) < Try.prog.types.size := rowK; omega⟩
theorem cellsK : Try.prog.cellsOf 137 = 2 := by kernel_rfl
theorem cellsI : Try.prog.cellsOf 3 = 1 := by kernel_rfl
theorem cutK : (Try.prog.cutTypes.any (·.2 == 137)) = false := by kernel_rfl
theorem stoodK : Try.prog.stoodInHeld 137 = false := by kernel_rfl
theorem typeK : Try.prog.keyType 137 = true := by
  obtain ⟨n, hn⟩ := sizeT
  unfold Program.keyType
  rw [hn]
  have hc := cutK
  simp at hc
  simp [Program.keyTypeAt, Try.underlying137, Try.underlying3, stoodK]
  exact hc
theorem lits (n : Nat) (a b : Int) (w1 : (Lit.int .i64 a).wf = true) (w2 : (Lit.int .i64 b).wf = true) : Try.prog.keyLits (n + 1 + 1) 137 [.int .i64 a, .int .i64 b] = some [.int .i64 a, .int .i64 b] := by
  simp [Program.keyLits, Try.underlying137, Try.underlying3, cellsK, cellsI, w1, w2]
theorem formedK (a b : Value) : (Value.agg #[a, b]).formed Try.prog 137 = true := by simp [Value.formed, Try.underlying137, cellsK]
theorem key_is (p : Int × Int) (h : ok p) : ∃ l, keyOf Try.prog 137 (kv p) = some l := by
  obtain ⟨n, hn⟩ := sizeT
  have hl := lits (n + 1) p.1 p.2 (wf64 h.1.1 h.1.2) (wf64 h.2.1 h.2.2)
  have hc : (kv p).cells.toList = [.int .i64 p.1, .int .i64 p.2] := rfl
  have hf : (kv p).formed Try.prog 137 = true := formedK _ _
  unfold keyOf
  rw [Try.underlying137]
  simp only [typeK, hf, Bool.and_self, if_true, hn, hc]
  rw [hl]
  exact ⟨_, rfl⟩
set_option maxRecDepth 100000 in
theorem lit1 (n : Nat) (a : Value) (L : List Lit) (h : Try.prog.keyLits (n + 1) 3 [a] = some L) : ∃ x, a = .int .i64 x ∧ okI x := by
  simp only [Program.keyLits, Try.underlying3] at h
  cases a <;> simp at h
  rename_i q x
  obtain ⟨⟨rfl, hw⟩, _⟩ := h
  refine ⟨x, rfl, ?_⟩
  have h1 : IntKind.i64.min = -9223372036854775808 := rfl
  have h2 : IntKind.i64.max = 9223372036854775807 := rfl
  simp [Lit.wf] at hw
  unfold okI
  omega
set_option maxRecDepth 100000 in
theorem lit2 (n : Nat) (a b : Value) (L : List Lit) (h : Try.prog.keyLits (n + 1 + 1) 137 [a, b] = some L) : (∃ x, a = .int .i64 x ∧ okI x) ∧ ∃ y, b = .int .i64 y ∧ okI y := by
  rw [Program.keyLits.eq_def] at h
  simp only [Try.underlying137] at h
  simp [cellsK, cellsI] at h
  cases h1 : Try.prog.keyLits (n + 1) 3 [a] with
  | none => simp [h1] at h
  | some L1 =>
    cases h2 : Try.prog.keyLits (n + 1) 3 [b] with
    | none => simp [h1, h2] at h
    | some L2 => exact ⟨lit1 n a L1 h1, lit1 n b L2 h2⟩
theorem two_cells {xs : Array Value} (h : xs.size = 2) : ∃ a b, xs = #[a, b] := by
  obtain ⟨l⟩ := xs
  match l, h with
  | [a, b], _ => exact ⟨a, b, rfl⟩
set_option maxRecDepth 100000 in
theorem formed_inv {v : Value} (h : v.formed Try.prog 137 = true) : ∃ a b, v = .agg #[a, b] := by
  cases v <;> simp [Value.formed, Try.underlying137, cellsK] at h
  obtain ⟨a, b, rfl⟩ := two_cells h
  exact ⟨a, b, rfl⟩
set_option maxRecDepth 100000 in
theorem key_inv {key : Value} {l : Lit} (h : keyOf Try.prog 137 key = some l) : ∃ p, ok p ∧ key = kv p := by
  obtain ⟨n, hn⟩ := sizeT
  simp only [keyOf, Try.underlying137, typeK, Bool.true_and] at h
  split at h
  · rename_i hf
    obtain ⟨a, b, rfl⟩ := formed_inv hf
    have hc : (Value.agg #[a, b]).cells.toList = [a, b] := rfl
    rw [hn, hc] at h
    cases hk : Try.prog.keyLits (n + 2 + 1) 137 [a, b] with
    | none => rw [hk] at h; simp at h
    | some L =>
      obtain ⟨⟨x, rfl, hx⟩, y, rfl, hy⟩ := lit2 (n + 1) a b L hk
      exact ⟨(x, y), ⟨hx, hy⟩, rfl⟩
  · cases h
end Go.Proofs.Ytjeobbhaoahdcaa.GmB
namespace Go.Proofs.Ytjeobbhaoahdcaa.GmC
open Go.RowKit Go.Maps Go.WideElems Go.Proofs.Ytjeobbhaoahdcaa.Base Go.Proofs.Ytjeobbhaoahdcaa.GaA Go.Proofs.Ytjeobbhaoahdcaa.GmA Go.Proofs.Ytjeobbhaoahdcaa.GmB
set_option linter.unusedVariables false
set_option linter.unusedSimpArgs false

/-- A live map. -/
structure Mp where
  h : Int
  caller : Int
  owner : Int
  ref : Int
  mfn : Int
  wr : Bool
def mpv (m : Mp) : Value := .agg #[.int .i64 m.h, .int .i64 m.caller, .int .i64 m.owner, .int .i64 m.ref, .int .i64 m.mfn, .bool m.wr]
theorem mpv_inj {m n : Mp} (h : mpv m = mpv n) : m = n := by
  obtain ⟨a, b, c, d, e, f⟩ := m
  obtain ⟨a', b', c', d', e', f'⟩ := n
  unfold mpv at h
  injection h with h
  simp at h
  obtain ⟨rfl, rfl, rfl, rfl, rfl, rfl⟩ := h
  rfl
open Classical in
noncomputable def hmv : Value → Option (DataW Value × List MemPlace) := fun v => if ∃ m, v = mpv m then some (.held v, []) else none
theorem hmv_mk (m : Mp) : hmv (mpv m) = some (.held (mpv m), []) := if_pos ⟨m, rfl⟩
theorem hmv_inv {v : Value} {y : DataW Value × List MemPlace} (h : hmv v = some y) : ∃ m, v = mpv m ∧ y = (.held (mpv m), []) := by
  unfold hmv at h
  split at h
  · rename_i hm
    obtain ⟨m, rfl⟩ := hm
    exact ⟨m, rfl, (Option.some.inj h).symm⟩
  · cases h
theorem kl_ex (p : Int × Int) : ∃ l, ok p → keyOf Try.prog 137 (kv p) = some l := by
  by_cases h : ok p
  · obtain ⟨l, hl⟩ := key_is p h
    exact ⟨l, fun _ => hl⟩
  · exact ⟨.bool true, fun h2 => absurd h2 h⟩
noncomputable def kl (p : Int × Int) : Lit := Classical.choose (kl_ex p)
theorem kl_is {p : Int × Int} (h : ok p) : keyOf Try.prog 137 (kv p) = some (kl p) := Classical.choose_spec (kl_ex p) h
theorem kl_ne {p q : Int × Int} (hp : ok p) (hq : ok q) (h : p ≠ q) : kl p ≠ kl q := fun e => h (kv_inj (keyed.inj (kl_is hp) (by rw [e]; exact kl_is hq)))
theorem kl_key {p : Int × Int} (hp : ok p) : WideAt.IsKeyLit (kl p) := by
  have h := kl_is hp
  generalize kl p = l at h
  exact keyed.key (v := kv p) h
theorem kl_of {p : Int × Int} {l : Lit} (hp : ok p) (h : keyOf Try.prog 137 (kv p) = some l) : l = kl p := Option.some.inj (h.symm.trans (kl_is hp))
/-- The map in block M holds (f p) at the pair p, and nothing else; it has c entries. -/
def KMap (W : World) (M : Nat) (f : Int × Int → Option Mp) (c : Nat) : Prop :=
  ∃ D : DataW Value, W.ownsMap Try.prog 137 hmv M c D ∧ Maps.size D = c ∧ (∀ p, ok p → Maps.has D (kl p) = (f p).isSome) ∧ ∀ p (z : DataW Value), ok p → D.atKey (kl p) z = got ((f p).map mpv) z
def kput (f : Int × Int → Option Mp) (k : Int × Int) (v : Mp) : Int × Int → Option Mp := fun x => if x = k then some v else f x
def kdel (f : Int × Int → Option Mp) (k : Int × Int) : Int × Int → Option Mp := fun x => if x = k then none else f x
section
variable {W W' : World} {M c : Nat} {f : Int × Int → Option Mp}
theorem KMap.lt (h : KMap W M f c) : M < W.heap.size := by
  obtain ⟨D, h1, _⟩ := h
  exact h1.lt
theorem KMap.block (h : KMap W M f c) (hb : W'.heap[M]? = W.heap[M]?) : KMap W' M f c := by
  obtain ⟨D, h1, h2⟩ := h
  exact ⟨D, ownsMap_block h1 hb, h2⟩
theorem KMap.chg {F : Nat → Prop} (h : KMap W M f c) (hc : Chg F W W') (hf : ¬ F M) : KMap W' M f c := h.block (hc.block _ h.lt hf)
theorem KMap.below (h : KMap W M f c) (hb : Below W.heap.size W W') : KMap W' M f c := h.block (hb.block _ h.lt)
theorem KMap.is (h : KMap W M f c) : ∃ es clock, W.heap[M]? = some (.map es clock) := by
  obtain ⟨D, ⟨es, clock, h1, _⟩, _⟩ := h
  exact ⟨es, clock, h1⟩
theorem KMap.made_at {w : World} {M : Nat} (h : w.heap[M]? = some (.map #[] 0)) : KMap w M (fun _ => none) 0 := by
  obtain ⟨es, clock, h1, h2, h3, h4⟩ := World.ownsMap_made (H := Value) (⟨#[], w.tape, w.drawn, w.os, w.output⟩ : World) Try.prog 137 hmv
  have h1' : some (Obj.map #[] 0) = some (Obj.map es clock) := h1
  injection h1' with h1'
  injection h1' with ha hb
  subst ha hb
  exact ⟨.map [], ⟨#[], 0, h, h2, h3, h4⟩, rfl, fun x _ => rfl, fun x z _ => rfl⟩
/-- What a look-up without an entry gives. -/
def mp0 : Mp := ⟨0, 0, 0, 0, 0, false⟩
theorem zeroMp (w : World) : (zeroValue 135).run Try.prog w = .ok (mpv mp0) w := Try.zeroValue135 w
theorem KMap.look_ok (h : KMap W M f c) (p : Int × Int) (hp : ok p) :
    (Instr.lookup 76 (.map (some M)) (kv p) true).run Try.prog W = .ok (.tuple #[mpv ((f p).getD mp0), .bool (f p).isSome]) W := by
  obtain ⟨D, h2, h3, h4, h5⟩ := h
  obtain ⟨v, ps, hrun, hvv⟩ := h2.look_ok keyed Try.underlying76 (zeroMp W) (hmv_mk mp0) (kl_is hp)
  obtain ⟨m, rfl, hy⟩ := hmv_inv hvv
  have hd := congrArg Prod.fst hy
  simp only at hd
  rw [h5 p _ hp] at hd
  have e : mpv m = mpv ((f p).getD mp0) := by
    cases hf : f p with
    | none => rw [hf] at hd; exact (DataW.held.inj hd).symm
    | some u => rw [hf] at hd; exact (DataW.held.inj hd).symm
  rw [hrun, e, h4 p hp]
theorem KMap.store (h : KMap W M f c) (p : Int × Int) (hp : ok p) (v : Mp) (hc : c < 1000000) (hn : f p = none) :
    ∃ W', (Instr.mapUpdate 76 (.map (some M)) (kv p) (mpv v)).run Try.prog W = .ok () W' ∧ KMap W' M (kput f p v) (c + 1) ∧ Chg (fun k => k = M) W W' := by
  obtain ⟨D, h2, h3, h4, h5⟩ := h
  have hkk := kl_key hp
  obtain ⟨W', hrun, ho, hg⟩ := h2.update keyed Try.underlying76 (by unfold maxLen; omega) (kl_is hp) (hmv_mk v)
  have hsz : Maps.size (D.put (kl p) (.held (mpv v))) = c + 1 := by
    rw [size_put (h2.tidy keyed), h4 p hp, hn, h3]
    rfl
  refine ⟨W', hrun, ⟨D.put (kl p) (.held (mpv v)), ?_, hsz, fun y hy => ?_, fun y z hy => ?_⟩, ⟨hg.os, hg.tape, hg.output, hg.size, fun k hk hf => hg.block k hk (fun e => hf (Option.some.inj e))⟩⟩
  · have := ownsMap_tight ho
    rw [hsz] at this
    exact this
  · unfold kput
    by_cases e : y = p
    · subst e
      rw [if_pos rfl, has_put_same (k := kl y) h2.isMap hkk]
      rfl
    · rw [if_neg e, has_put_other (kl_ne hy hp e), h4 y hy]
  · unfold kput
    by_cases e : y = p
    · subst e
      rw [if_pos rfl, atKey_put_same (k := kl y) h2.isMap hkk]
      rfl
    · rw [if_neg e, atKey_put_other (kl_ne hy hp e), h5 y z hy]
theorem KMap.drop (h : KMap W M f c) (p : Int × Int) (hp : ok p) (hn : (f p).isSome = true) (ty : TypeId) :
    ∃ W', (Builtin.delete_ #[76, 137] ty #[.map (some M), kv p]).run Try.prog W = .ok (.tuple #[]) W' ∧ KMap W' M (kdel f p) (c - 1) ∧ Chg (fun k => k = M) W W' := by
  obtain ⟨D, h2, h3, h4, h5⟩ := h
  obtain ⟨W', hrun, ho, ht'⟩ := h2.drop keyed Try.underlying76 (kl_is hp) ty
  have hg := ht'.grown
  have hsz : Maps.size (D.del (kl p)) = c - 1 := by
    have := size_del (k := kl p) (h2.tidy keyed)
    rw [h4 p hp, hn, h3] at this
    simp at this
    omega
  refine ⟨W', hrun, ⟨D.del (kl p), ?_, hsz, fun y hy => ?_, fun y z hy => ?_⟩, ⟨hg.os, hg.tape, hg.output, hg.size, fun k hk hf => hg.block k hk (fun e => hf (Option.some.inj e))⟩⟩
  · have := ownsMap_tight ho
    rw [hsz] at this
    exact this
  · unfold kdel
    by_cases e : y = p
    · subst e
      rw [if_pos rfl, has_del_same]
      rfl
    · rw [if_neg e, has_del_other (kl_ne hy hp e), h4 y hy]
  · unfold kdel
    by_cases e : y = p
    · subst e
      rw [if_pos rfl, atKey_del_same]
      rfl
    · rw [if_neg e, atKey_del_other (kl_ne hy hp e), h5 y z hy]
end
end Go.Proofs.Ytjeobbhaoahdcaa.GmC
