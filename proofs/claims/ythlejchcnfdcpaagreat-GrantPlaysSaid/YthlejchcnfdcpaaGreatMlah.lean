/- Proved: an entry, read once through the view (a contract for the laws of the grants). Proved: the frame that an entry names, whatever it names (a contract for the laws of the grants). Proved: what a machine's Read, Write, Get, Put, Free do, at every argument (contracts for the laws of the grants). Proved: an entry and what it permits, at every entry; the ends of a copy (contracts for the laws of the grants). Proved: the document's machine is written (contracts for the laws of the grants). -/
import Derived.Test.YthlejchcnfdcpaaGreatMlad
import Derived.Test.YthlejchcnfdcpaaGreatMlag
import Derived.Deep.Light
namespace Go.Proofs.YthlejchcnfdcpaaGreat.GeB
open Go.RowKit Go.Maps Base GaA GaB GaC GmA GpA GgA GeA
set_option linter.unusedVariables false
set_option linter.unusedSimpArgs false

/-- The bytes of an entry. -/
def ent (s : MS) (k ref : Nat) : List Int := (MS.rd s k (8 * ref) 8).map fun b => (b.toNat : Int)
theorem ent_bytes {w : World} {g : Nat} {zs : List UInt8} (hl : zs.length = 8) (h : w.heap[g]? = some (.cells (u8s zs).toArray 5 (0, 0))) : GuA.Bytes w ⟨g, 0, none⟩ 8 (zs.map fun b => (b.toNat : Int)) := by
  intro i h0 h1
  have hi : i.toNat < zs.length := by omega
  have e : GuA.rd (zs.map fun b => (b.toNat : Int)) i = ((zs[i.toNat]).toNat : Int) := by
    unfold GuA.rd
    rw [List.getD_eq_getElem?_getD, List.getElem?_map, List.getElem?_eq_getElem hi]
    rfl
  have hb := (zs[i.toNat]).toNat_lt
  refine ⟨?_, by rw [e]; omega, by rw [e]; omega⟩
  rw [e, show ((⟨g, 0, none⟩ : Addr).add i.toNat) = ⟨g, i.toNat, none⟩ by unfold Addr.add; split <;> simp_all, blk_cell h]
  simp [u8s, hi]
theorem unpack_bad (ad : Addr) (cp : Nat) (l : List Int) (w : World) (hb : GuA.Bytes w ad 8 l) (h : GuA.bad l) : Calls Tryz.prog 111 #[.slice (some ad) 8 cp] w fun e w' => e = .returned (.tuple #[.agg #[.int .i64 0, .bool false, .bool false, .int .i64 0, .int .i64 0, .int .i64 0, .int .i64 0], .int .i64 60]) ∧ Below w.heap.size w w' :=
  (unpack_calls ad cp l w hb).mono fun e w' ⟨h1, h2⟩ => ⟨by rw [h1, if_pos h, if_pos h]; rfl, h2⟩
theorem unpack_good (ad : Addr) (cp : Nat) (l : List Int) (w : World) (hb : GuA.Bytes w ad 8 l) (h : ¬ GuA.bad l) : Calls Tryz.prog 111 #[.slice (some ad) 8 cp] w fun e w' => e = .returned (.tuple #[.agg #[.int .i64 (GuA.kd l), .bool (GuA.ro l), .bool (GuA.sb l), .int .i64 (GuA.rd l 2 + 256 * GuA.rd l 3), .int .i64 (GuA.rd l 4 + 256 * GuA.rd l 5), .int .i64 (GuA.of l), .int .i64 (GuA.le l)], .int .i64 0]) ∧ Below w.heap.size w w' :=
  (unpack_calls ad cp l w hb).mono fun e w' ⟨h1, h2⟩ => ⟨by rw [h1, if_neg h, if_neg h]; rfl, h2⟩
theorem seven {w2 : World} {g : Nat} (a0 a1 a2 a3 a4 a5 a6 : Value) (o : Obj) : Chg (fun x => x = g) w2 ((((((((w2.setCell ⟨g, 0, none⟩ a0).setCell ⟨g, 1, none⟩ a1).setCell ⟨g, 2, none⟩ a2).setCell ⟨g, 3, none⟩ a3).setCell ⟨g, 4, none⟩ a4).setCell ⟨g, 5, none⟩ a5).setCell ⟨g, 6, none⟩ a6).alloc o) :=
  (chg_fb (chg_fb (chg_fb (chg_fb (chg_fb (chg_fb (chg_fb (Chg.refl _ w2) 0 a0) 1 a1) 2 a2) 3 a3) 4 a4) 5 a5) 6 a6).alloc o
theorem ent_end {w w1 w2 W : World} {o : Obj} {vb db mb r : Nat} (hv : vb < w.heap.size) (hd : db < w.heap.size) (h1 : GvA.V2 w1 vb db mb (r + 1)) (h2 : Chg (fun x => x = vb) (w.alloc o) w1) (h3 : Below w1.heap.size w1 w2) (h4 : Chg (fun x => x = w.heap.size) w2 W) : GvA.V2 W vb db mb (r + 1) ∧ Chg (fun x => x = vb) w W := by
  refine ⟨(h1.below h3).chg h4 (by omega) (by omega), ?_⟩
  have a := (((Chg.refl (fun x => x = vb) w).alloc o).trans h2).trans (Chg.below _ h3)
  exact ⟨h4.os.trans a.os, h4.tape.trans a.tape, h4.output.trans a.output, Nat.le_trans a.size h4.size, fun k hk hf => (h4.block k (Nat.lt_of_lt_of_le hk a.size) (by omega)).trans (a.block k hk hf)⟩
def EntOut (w : World) (l : List Int) (vb db mb r : Nat) (e : Ending) (w' : World) : Prop :=
  e = .returned (.tuple #[if GuA.bad l then GuA.zero else GuA.agg l, .int .i64 (if GuA.bad l then 60 else 0)]) ∧ GvA.V2 w' vb db mb (r + 1) ∧ Chg (fun x => x = vb) w w'
section
variable {w w' : World} {gb mm hm mb fb : Nat} {f : Int → Option (Int × Nat)} {c : Nat} {s : MS}
set_option maxHeartbeats 4000000 in
set_option maxRecDepth 100000 in
theorem entry_calls (h : G2 w gb mm hm mb f c) (hM : Mach w mb fb s) {vb db r : Nat} (hV : GvA.V2 w vb db mb r) (hr : 0 ≤ r) (hvm : vb ≠ mb) (hvf : vb ≠ fb) (d : Int) (d0 : 0 ≤ d) (d8 : d < 8) (k pb : Nat) (hd : f d = some ((k : Int), pb)) (hk : k < s.n) (ref : Nat) (h32 : ref < 32) :
    Calls Tryz.prog 99 #[.pointer (some ⟨gb, 0, none⟩), .pointer (some ⟨vb, 0, none⟩), .int .i64 d, .int .i64 ref] w (EntOut w (ent s k ref) vb db mb r) := by
  have C0 := fun i => blk_cell h.blk i
  have L0 := blk_lt h.blk
  have e1 : mvs f d = some (.agg #[.int .i64 k, .pointer (some ⟨pb, 0, none⟩)]) := by unfold mvs; rw [hd]; rfl
  have hb1 := below_alloc (Below.refl w.heap.size w) (.cells #[.int .i64 0, .bool false, .bool false, .int .i64 0, .int .i64 0, .int .i64 0, .int .i64 0] 32)
  have hlk := (h.mem.below hb1).look Tryz.underlying114 (zeroM _) d (by omega) (by omega)
  rw [e1] at hlk
  simp only [Option.getD_some] at hlk
  have hrd := GvA.read_calls (hV.below hb1) (hM.below hb1) hr hvm hvf k hk (8 * ref) 8 (by omega)
  have HB := Base.Aside.mk hb1
  have hfd : ∀ (W : World) (a b : Value), (Instr.field 135 (.agg #[a, b]) 0).run Tryz.prog W = .ok a W := fun _ _ _ => by kernel_rfl
  rw [show ((8 * ref : Nat) : Int) = 8 * (ref : Int) by omega] at hrd
  simp only [World.size_alloc] at hrd
  have hVlt := blk_lt hV.blk
  have hDlt := hV.due.lt
  clear h e1 hb1 hM hV
  have hlv := hVlt
  by_cases hbad : GuA.bad (ent s k ref)
  · have HU := fun (w1 : World) (H : Nat) (hh : w1.heap[H]? = some (.cells (u8s (MS.rd s k (8 * ref) 8)).toArray 5 (0, 0))) => unpack_bad ⟨H, 0, none⟩ 8 (ent s k ref) w1 (ent_bytes (rd_len _ _ _ _) hh) hbad
    have HR := fun (w1 : World) (hc : Chg (fun x => x = vb) (w.alloc (.cells #[.int .i64 0, .bool false, .bool false, .int .i64 0, .int .i64 0, .int .i64 0, .int .i64 0] 32)) w1) => hc.blk (blk_new w _) (Nat.ne_of_gt hlv)
    go_enter Tryz.func99, Tryz.ntmps99
    go_wp2_with (first
      | (go_at_call 78; refine hrd.mono ?_; rintro z w1 ⟨rfl, hw1, hw2, hw3⟩; have hsz := hw3.size; have hun := HU w1 _ hw1; have hres := HR w1 hw3; have E1 := Base.Aside.mk (And.intro hw2 hw3); clear hw1 hw2 hw3)
      | (go_at_call 111; refine hun.mono ?_; rintro z w2 ⟨rfl, hB2⟩; have hres2 := blk_below hres (blk_lt hres) hB2; have C2 := fun i => blk_cell hres2 i; have F2 := fun i => blk_frozen hres2 i; have L2 := blk_lt hres2; have E2 := Base.Aside.mk hB2; clear hB2)
      | go_in)
    refine bodyPost_ret (v := .tuple #[.agg #[.int .i64 0, .bool false, .bool false, .int .i64 0, .int .i64 0, .int .i64 0, .int .i64 0], .int .i64 60]) ?_ rfl ⟨by rw [if_pos hbad, if_pos hbad]; rfl, ent_end hVlt hDlt E1.out.1 E1.out.2 E2.out (seven _ _ _ _ _ _ _ _)⟩
    simp only [results, Tryz.results99]; first | (go_simp; done) | (go_simp; rfl)
  · have HU := fun (w1 : World) (H : Nat) (hh : w1.heap[H]? = some (.cells (u8s (MS.rd s k (8 * ref) 8)).toArray 5 (0, 0))) => unpack_good ⟨H, 0, none⟩ 8 (ent s k ref) w1 (ent_bytes (rd_len _ _ _ _) hh) hbad
    have HR := fun (w1 : World) (hc : Chg (fun x => x = vb) (w.alloc (.cells #[.int .i64 0, .bool false, .bool false, .int .i64 0, .int .i64 0, .int .i64 0, .int .i64 0] 32)) w1) => hc.blk (blk_new w _) (Nat.ne_of_gt hlv)
    go_enter Tryz.func99, Tryz.ntmps99
    go_wp2_with (first
      | (go_at_call 78; refine hrd.mono ?_; rintro z w1 ⟨rfl, hw1, hw2, hw3⟩; have hsz := hw3.size; have hun := HU w1 _ hw1; have hres := HR w1 hw3; have E1 := Base.Aside.mk (And.intro hw2 hw3); clear hw1 hw2 hw3)
      | (go_at_call 111; refine hun.mono ?_; rintro z w2 ⟨rfl, hB2⟩; have hres2 := blk_below hres (blk_lt hres) hB2; have C2 := fun i => blk_cell hres2 i; have F2 := fun i => blk_frozen hres2 i; have L2 := blk_lt hres2; have E2 := Base.Aside.mk hB2; clear hB2)
      | go_in)
    refine bodyPost_ret (v := .tuple #[.agg #[.int .i64 (GuA.kd (ent s k ref)), .bool (GuA.ro (ent s k ref)), .bool (GuA.sb (ent s k ref)), .int .i64 (GuA.rd (ent s k ref) 2 + 256 * GuA.rd (ent s k ref) 3), .int .i64 (GuA.rd (ent s k ref) 4 + 256 * GuA.rd (ent s k ref) 5), .int .i64 (GuA.of (ent s k ref)), .int .i64 (GuA.le (ent s k ref))], .int .i64 0]) ?_ rfl ⟨by rw [if_neg hbad, if_neg hbad]; rfl, ent_end hVlt hDlt E1.out.1 E1.out.2 E2.out (seven _ _ _ _ _ _ _ _)⟩
    simp only [results, Tryz.results99]; first | (go_simp; done) | (go_simp; rfl)
end
end Go.Proofs.YthlejchcnfdcpaaGreat.GeB
namespace Go.Proofs.YthlejchcnfdcpaaGreat.GfA
open Go.RowKit Go.Maps Base GaA GaB GaC GmA GpA GgA GeA GeB
set_option linter.unusedVariables false
set_option linter.unusedSimpArgs false

/-- Frame's answer. -/
def frV (s : MS) (k : Int) : Fr × Int := if 0 ≤ k ∧ k < s.n then (s.fr k.toNat, 0) else (⟨0, 0, 0, 0⟩, 1)
section
variable {w w' : World} {gb mm hm mb fb : Nat} {f : Int → Option (Int × Nat)} {c : Nat} {s : MS}
theorem frame_any (h : Mach w mb fb s) (k : Int) : Calls Tryz.prog 36 #[.pointer (some ⟨mb, 0, none⟩), .int .i64 k] w fun e w' =>
    e = .returned (.tuple #[.agg #[.int .i64 (frV s k).1.own, .int .i64 (frV s k).1.typ, .int .i64 (frV s k).1.cnt, .int .i64 (frV s k).1.tot], .int .i64 (frV s k).2]) ∧ Below w.heap.size w w' := by
  by_cases hk : 0 ≤ k ∧ k < s.n
  · have hv : frV s k = (s.fr k.toNat, 0) := if_pos hk
    rw [hv]
    obtain ⟨j, rfl⟩ : ∃ j : Nat, k = j := ⟨k.toNat, by omega⟩
    exact frame_calls h j (by omega)
  · have hv : frV s k = (⟨0, 0, 0, 0⟩, 1) := if_neg hk
    rw [hv]
    exact frame_out h k (by omega)
/-- The frame that a place of a member's names. -/
def frameR (s : MS) (size : Nat) (fr : Int → Option Int) (d g : Int) : Int × Int :=
  if (getV size fr g).2 ≠ 0 then (0, 60) else if (frV s (getV size fr g).1).2 ≠ 0 ∨ (frV s (getV size fr g).1).1.own ≠ d then (0, 60) else ((getV size fr g).1, 0)
set_option maxHeartbeats 4000000 in
set_option maxRecDepth 100000 in
theorem frame_calls (h : G2 w gb mm hm mb f c) (hM : Mach w mb fb s) {pb fm pm size c2 : Nat} {fr pl : Int → Option Int} (hP : P2 w pb fm pm size fr pl c2) (hs : size ≤ 48) (d : Int) (d0 : 0 ≤ d) (d8 : d < 8) (k : Int) (hd : f d = some (k, pb)) (g : Int) :
    Calls Tryz.prog 66 #[.pointer (some ⟨gb, 0, none⟩), .int .i64 d, .int .i64 g] w fun e w' => e = .returned (.tuple #[.int .i64 (frameR s size fr d g).1, .int .i64 (frameR s size fr d g).2]) ∧ Below w.heap.size w w' := by
  have C0 := fun i => blk_cell h.blk i
  have L0 := blk_lt h.blk
  have e1 : mvs f d = some (.agg #[.int .i64 k, .pointer (some ⟨pb, 0, none⟩)]) := by unfold mvs; rw [hd]; rfl
  have hlk := h.mem.look Tryz.underlying114 (zeroM _) d (by omega) (by omega)
  rw [e1] at hlk
  simp only [Option.getD_some] at hlk
  have hfd : ∀ (W : World) (a b : Value), (Instr.field 135 (.agg #[a, b]) 1).run Tryz.prog W = .ok b W := fun _ _ _ => by kernel_rfl
  have hge := GpA.get_calls hP g hs
  obtain ⟨r, hr⟩ : ∃ r, r = frameR s size fr d g := ⟨_, rfl⟩
  obtain ⟨x, hx⟩ : ∃ x, x = getV size fr g := ⟨_, rfl⟩
  have hfr := frame_any hM x.1
  obtain ⟨y, hy⟩ : ∃ y, y = frV s x.1 := ⟨_, rfl⟩
  have hr2 : r = if x.2 ≠ 0 then (0, 60) else if y.2 ≠ 0 ∨ y.1.own ≠ d then (0, 60) else (x.1, 0) := by rw [hr, hy, hx]; rfl
  rw [← hr]
  rw [← hy] at hfr
  rw [← hx] at hge
  clear h e1 hM hP hr hx hy
  have HR := Base.Aside.mk hr2
  clear hr2
  go_enter Tryz.func66, Tryz.ntmps66
  go_wp2_with (first
    | (go_at_call 100; refine hge.mono ?_; rintro z w1 ⟨rfl, hw1⟩; obtain rfl := hw1.symm)
    | (go_at_call 36; refine hfr.mono ?_; rintro z w1 ⟨rfl, hw1⟩; have E1 := Base.Aside.mk hw1; clear hw1)
    | go_in)
  all_goals
    go_ret2
    refine ⟨?_, by first | exact Below.refl _ _ | exact below_alloc E1.out _⟩
    go_light
    have hr := HR.out
    clear HR hge hfr hlk hfd C0
    simp_all
end
end Go.Proofs.YthlejchcnfdcpaaGreat.GfA
namespace Go.Proofs.YthlejchcnfdcpaaGreat.GfB
open Go.RowKit Go.Maps Base GaA GaB GaC GfA
set_option linter.unusedVariables false
set_option linter.unusedSimpArgs false

/-- Does a part lie in a frame? -/
def inR (s : MS) (k off n : Int) : Prop := 0 ≤ k ∧ k < s.n ∧ 0 ≤ off ∧ 0 ≤ n ∧ off ≤ 256 ∧ n ≤ 256 - off
instance (s : MS) (k off n : Int) : Decidable (inR s k off n) := by unfold inR; infer_instance
section
variable {w w' : World} {mb fb : Nat} {s : MS}
theorem at_any (h : Mach w mb fb s) (k : Int) : Calls Tryz.prog 90 #[.pointer (some ⟨mb, 0, none⟩), .int .i64 k] w fun e w' =>
    e = .returned (.tuple #[.pointer (if 0 ≤ k ∧ k < s.n then some ⟨fb, k.toNat * 260, none⟩ else none), .int .i64 (if 0 ≤ k ∧ k < s.n then 0 else 1)]) ∧ w' = w := by
  by_cases hk : 0 ≤ k ∧ k < s.n
  · rw [if_pos hk, if_pos hk]
    obtain ⟨j, rfl⟩ : ∃ j : Nat, k = j := ⟨k.toNat, by omega⟩
    exact at_calls h j (by omega)
  · rw [if_neg hk, if_neg hk]
    exact at_out h k (by omega)
set_option maxHeartbeats 4000000 in
set_option maxRecDepth 100000 in
theorem part_bad (h : Mach w mb fb s) (k off n : Int) (hb : ¬ inR s k off n) : Calls Tryz.prog 91 #[.pointer (some ⟨mb, 0, none⟩), .int .i64 k, .int .i64 off, .int .i64 n] w fun e w' => (∃ a, e = .returned (.tuple #[.pointer a, .int .i64 1])) ∧ w' = w := by
  have ha := at_any h k
  obtain ⟨A, hA⟩ : ∃ A, A = (if 0 ≤ k ∧ k < s.n then some (⟨fb, k.toNat * 260, none⟩ : Addr) else none) := ⟨_, rfl⟩
  obtain ⟨er, her⟩ : ∃ er : Int, er = (if 0 ≤ k ∧ k < s.n then 0 else 1) := ⟨_, rfl⟩
  rw [← hA, ← her] at ha
  have HB := Base.Aside.mk (And.intro her hb)
  have he1 : er = 0 ∨ er = 1 := by rw [her]; split <;> simp
  clear h hA her hb
  rcases he1 with rfl | rfl
  · have hin := HB.out.2
    have hk : 0 ≤ k ∧ k < s.n := by
      have := HB.out.1
      split at this
      · assumption
      · cases this
    unfold inR at hin
    clear HB
    by_cases o0 : off < 0
    · have d0 : decide (off < 0) = true := decide_eq_true o0
      clear hin hk o0
      go_enter Tryz.func91, Tryz.ntmps91
      go_wp2_with (first
        | (go_at_call 90; refine ha.mono ?_; rintro z w1 ⟨rfl, hw1⟩; obtain rfl := hw1.symm)
        | go_in)
      go_ret2
      exact ⟨⟨A, by first | rfl | (simp; done)⟩, rfl⟩
    · have d0 : decide (off < 0) = false := decide_eq_false o0
      by_cases n0 : n < 0
      · have d1 : decide (n < 0) = true := decide_eq_true n0
        clear hin hk n0 o0
        go_enter Tryz.func91, Tryz.ntmps91
        go_wp2_with (first
          | (go_at_call 90; refine ha.mono ?_; rintro z w1 ⟨rfl, hw1⟩; obtain rfl := hw1.symm)
          | go_in)
        go_ret2
        exact ⟨⟨A, by first | rfl | (simp; done)⟩, rfl⟩
      · have d1 : decide (n < 0) = false := decide_eq_false n0
        by_cases o1 : (256 : Int) < off
        · have d2 : decide ((256 : Int) < off) = true := decide_eq_true o1
          clear hin hk n0 o0 o1
          go_enter Tryz.func91, Tryz.ntmps91
          go_wp2_with (first
            | (go_at_call 90; refine ha.mono ?_; rintro z w1 ⟨rfl, hw1⟩; obtain rfl := hw1.symm)
            | go_in)
          go_ret2
          exact ⟨⟨A, by first | rfl | (simp; done)⟩, rfl⟩
        · have d2 : decide ((256 : Int) < off) = false := decide_eq_false o1
          have d3 : decide ((256 : Int) - off < n) = true := decide_eq_true (by omega)
          have o2 : 0 ≤ off := by omega
          have o3 : off ≤ 256 := by omega
          clear hin hk n0 o0 o1
          go_enter Tryz.func91, Tryz.ntmps91
          go_wp2_with (first
            | (go_at_call 90; refine ha.mono ?_; rintro z w1 ⟨rfl, hw1⟩; obtain rfl := hw1.symm)
            | go_in)
          go_ret2
          exact ⟨⟨A, by first | rfl | (simp; done)⟩, rfl⟩
  · clear HB
    go_enter Tryz.func91, Tryz.ntmps91
    go_wp2_with (first
      | (go_at_call 90; refine ha.mono ?_; rintro z w1 ⟨rfl, hw1⟩; obtain rfl := hw1.symm)
      | go_in)
    go_ret2
    exact ⟨⟨A, by first | rfl | (simp; done)⟩, rfl⟩
/-- What Read comes to, at every argument. -/
structure RdOk (N : Nat) (s : MS) (k off n : Int) (A : Option Addr) (l : Nat) (er : Int) (w' : World) : Prop where
  res : (inR s k off n ∧ er = 0 ∧ l = n.toNat ∧ A = some ⟨N, 0, none⟩ ∧ w'.heap[N]? = some (.cells (u8s (MS.rd s k.toNat off.toNat n.toNat)).toArray 5 (0, 0))) ∨ (¬ inR s k off n ∧ er = 1 ∧ A = none ∧ l = 0)
def RdOut (w : World) (s : MS) (k off n : Int) (e : Ending) (w' : World) : Prop := ∃ (A : Option Addr) (l : Nat) (er : Int), e = .returned (.tuple #[.slice A l l, .int .i64 er]) ∧ RdOk w.heap.size s k off n A l er w' ∧ Below w.heap.size w w'
set_option maxHeartbeats 4000000 in
set_option maxRecDepth 100000 in
theorem read_bad (h : Mach w mb fb s) (k off n : Int) (hb : ¬ inR s k off n) : Calls Tryz.prog 37 #[.pointer (some ⟨mb, 0, none⟩), .int .i64 k, .int .i64 off, .int .i64 n] w fun e w' => e = .returned (.tuple #[.slice none 0 0, .int .i64 1]) ∧ w' = w := by
  have hp := part_bad h k off n hb
  clear h hb
  go_enter Tryz.func37, Tryz.ntmps37
  go_wp2_with (first
    | (go_at_call 91; refine hp.mono ?_; rintro z w1 ⟨⟨a, rfl⟩, hw1⟩; obtain rfl := hw1.symm)
    | go_in)
  go_ret2
  exact ⟨by first | rfl | (simp; done), rfl⟩
theorem read_any (h : Mach w mb fb s) (k off n : Int) : Calls Tryz.prog 37 #[.pointer (some ⟨mb, 0, none⟩), .int .i64 k, .int .i64 off, .int .i64 n] w (RdOut w s k off n) := by
  by_cases hb : inR s k off n
  · have hb' := hb
    unfold inR at hb'
    obtain ⟨k', rfl⟩ : ∃ k' : Nat, k = k' := ⟨k.toNat, by omega⟩
    obtain ⟨o', rfl⟩ : ∃ o' : Nat, off = o' := ⟨off.toNat, by omega⟩
    obtain ⟨n', rfl⟩ : ∃ n' : Nat, n = n' := ⟨n.toNat, by omega⟩
    exact (read_calls h k' (by omega) o' n' (by omega)).mono fun e w' ⟨h1, h2, h3⟩ => ⟨_, _, _, h1, ⟨.inl ⟨hb, rfl, rfl, rfl, h2⟩⟩, h3⟩
  · exact (read_bad h k off n hb).mono fun e w' ⟨h1, h2⟩ => ⟨_, _, _, h1, ⟨.inr ⟨hb, rfl, rfl, rfl⟩⟩, by rw [h2]; exact Below.refl _ _⟩
set_option maxHeartbeats 4000000 in
set_option maxRecDepth 100000 in
theorem write_bad (h : Mach w mb fb s) (k off : Int) (A : Option Addr) (l c : Nat) (hb : ¬ inR s k off l) : Calls Tryz.prog 58 #[.pointer (some ⟨mb, 0, none⟩), .int .i64 k, .int .i64 off, .slice A l c] w fun e w' => e = .returned (.int .i64 1) ∧ w' = w := by
  have hp := part_bad h k off l hb
  clear h hb
  go_enter Tryz.func58, Tryz.ntmps58
  go_wp2_with (first
    | (go_at_call 91; refine hp.mono ?_; rintro z w1 ⟨⟨a, rfl⟩, hw1⟩; obtain rfl := hw1.symm)
    | go_in)
  go_ret
  exact ⟨by first | rfl | (simp; done), rfl⟩
set_option maxHeartbeats 4000000 in
set_option maxRecDepth 100000 in
theorem write_free (h : Mach w mb fb s) (k : Nat) (hk : k < s.n) (off : Nat) (A : Option Addr) (l c : Nat) (ho : off + l ≤ 256) (hown : (s.fr k).own = -1) : Calls Tryz.prog 58 #[.pointer (some ⟨mb, 0, none⟩), .int .i64 k, .int .i64 off, .slice A l c] w fun e w' => e = .returned (.int .i64 11) ∧ w' = w := by
  have hp := part_calls h k hk off l ho
  have c0 := h.own k hk
  rw [hown] at c0
  have L1 := h.lt.2
  clear h hown
  go_enter Tryz.func58, Tryz.ntmps58
  go_wp2_with (first
    | (go_at_call 91; refine hp.mono ?_; rintro z w1 ⟨rfl, hw1⟩; obtain rfl := hw1.symm)
    | go_in)
  go_ret
  exact ⟨by first | rfl | (simp; done), rfl⟩
/-- What Write comes to. -/
def wrE (s : MS) (k off : Int) (l : Nat) : Int := if inR s k off l then (if (s.fr k.toNat).own = -1 then 11 else 0) else 1
def wrS (s : MS) (k off : Int) (zs : List UInt8) : MS := if wrE s k off zs.length = 0 then MS.wr s k.toNat off.toNat zs else s
theorem write_any (h : Mach w mb fb s) (k off : Int) (A : Option Addr) (l c : Nat) (zs : List UInt8) (hl : l = zs.length) (hz : Bytes w A zs) : Calls Tryz.prog 58 #[.pointer (some ⟨mb, 0, none⟩), .int .i64 k, .int .i64 off, .slice A l c] w fun e w' =>
    e = .returned (.int .i64 (wrE s k off zs.length)) ∧ Mach w' mb fb (wrS s k off zs) ∧ Chg (fun x => x = fb) w w' := by
  by_cases hb : inR s k off zs.length
  · have hb' := hb
    unfold inR at hb'
    have hE : wrE s k off zs.length = if (s.fr k.toNat).own = -1 then 11 else 0 := if_pos hb
    obtain ⟨k', rfl⟩ : ∃ k' : Nat, k = k' := ⟨k.toNat, by omega⟩
    obtain ⟨o', rfl⟩ : ∃ o' : Nat, off = o' := ⟨off.toNat, by omega⟩
    by_cases ho : (s.fr k').own = -1
    · have hE2 : wrE s k' o' zs.length = 11 := by rw [hE]; exact if_pos ho
      unfold wrS
      rw [hE2, if_neg (by decide)]
      subst hl
      exact (write_free h k' (by omega) o' A zs.length c (by omega) ho).mono fun e w' ⟨h1, h2⟩ => ⟨h1, by rw [h2]; exact h, Chg.of_eq _ h2⟩
    · have hE2 : wrE s k' o' zs.length = 0 := by rw [hE]; exact if_neg ho
      unfold wrS
      rw [hE2, if_pos rfl]
      exact write_calls h k' (by omega) o' A l c zs hl hz (by omega) ho
  · have hE : wrE s k off zs.length = 1 := if_neg hb
    unfold wrS
    rw [hE, if_neg (by decide)]
    subst hl
    exact (write_bad h k off A zs.length c hb).mono fun e w' ⟨h1, h2⟩ => ⟨h1, by rw [h2]; exact h, Chg.of_eq _ h2⟩
end
end Go.Proofs.YthlejchcnfdcpaaGreat.GfB
namespace Go.Proofs.YthlejchcnfdcpaaGreat.GfC
open Go.RowKit Go.Maps Base GaA GaB GaC GmA GpA GgA GeA GeB GfA GfB GvA
set_option linter.unusedVariables false
set_option linter.unusedSimpArgs false

theorem bne {w : World} {g k : Nat} {t u : TypeId} {cs ds : Array Value} (h : w.heap[g]? = some (.cells cs t (0, 0))) (h2 : w.heap[k]? = some (.cells ds u (0, 0))) (hn : t ≠ u) : g ≠ k := by
  rintro rfl
  rw [h] at h2
  have e := Option.some.inj h2
  injection e with e1 e2 e3
  exact hn e2
theorem bnm {w : World} {g k c : Nat} {t : TypeId} {cs : Array Value} {f : Int → Option Value} (h : w.heap[g]? = some (.cells cs t (0, 0))) (h2 : IMap w k f c) : g ≠ k := by
  rintro rfl
  obtain ⟨es, clock, h1⟩ := h2.is
  rw [h] at h1
  cases h1
theorem _root_.Go.Proofs.YthlejchcnfdcpaaGreat.GvA.V2.ne_m {w : World} {vb db mb mb' fb r : Nat} {s : MS} (h : V2 w vb db mb' r) (hM : Mach w mb fb s) : vb ≠ mb ∧ vb ≠ fb := by
  obtain ⟨cs, h1, h2⟩ := hM.lst
  exact ⟨bne h.blk hM.blk (by decide), bne h.blk h1 (by decide)⟩
theorem _root_.Go.Proofs.YthlejchcnfdcpaaGreat.GvA.V2.ne_g {w : World} {vb db mb mb' r gb mm hm c : Nat} {f : Int → Option (Int × Nat)} (h : V2 w vb db mb' r) (hG : G2 w gb mm hm mb f c) : vb ≠ gb ∧ vb ≠ mm := ⟨bne h.blk hG.blk (by decide), bnm h.blk hG.mem⟩
theorem _root_.Go.Proofs.YthlejchcnfdcpaaGreat.GvA.V2.ne_p {w : World} {vb db mb' r pb fm pm size c : Nat} {fr pl : Int → Option Int} (h : V2 w vb db mb' r) (hP : P2 w pb fm pm size fr pl c) : vb ≠ pb ∧ vb ≠ fm ∧ vb ≠ pm := ⟨bne h.blk hP.blk (by decide), bnm h.blk hP.mf, bnm h.blk hP.mp⟩
/-- A view behind so many reads; nothing else has turned. -/
structure Vw (vb db mb : Nat) (w W : World) (r : Nat) : Prop where
  v : V2 W vb db mb r
  c : Chg (fun x => x = vb) w W
  lv : vb < w.heap.size
  ld : db < w.heap.size
section
variable {vb db mb r : Nat} {w w' W W' : World}
theorem Vw.refl (h : V2 w vb db mb r) : Vw vb db mb w w r := ⟨h, Chg.refl _ _, blk_lt h.blk, h.due.lt⟩
theorem Vw.set (h : Vw vb db mb w W r) {g : Nat} (hg : w.heap.size ≤ g) (i : Nat) (u : Value) : Vw vb db mb w (W.setCell ⟨g, i, none⟩ u) r := by
  have h1 := h.lv
  have h2 := h.ld
  exact ⟨h.v.chg (Chg.set (F := fun x => x = g) (p := ⟨g, i, none⟩) (Chg.refl _ W) (.inl rfl) u) (by omega) (by omega), Chg.set (p := ⟨g, i, none⟩) h.c (.inr hg) u, h1, h2⟩
theorem Vw.below (h : Vw vb db mb w W r) (hb : Below W.heap.size W W') : Vw vb db mb w W' r := ⟨h.v.below hb, h.c.trans (Chg.below _ hb), h.lv, h.ld⟩
theorem Vw.alloc (h : Vw vb db mb w W r) (o : Obj) : Vw vb db mb w (W.alloc o) r := h.below (below_alloc (Below.refl _ _) o)
theorem Vw.drew (h : Vw vb db mb w W r) : Vw vb db mb w W.drew r := h.below (Below.refl _ _).drew
theorem Vw.drewN (h : Vw vb db mb w W r) (n : Nat) : Vw vb db mb w (W.drewN n) r := h.below ⟨rfl, rfl, rfl, Nat.le_refl _, fun _ _ => rfl⟩
theorem Vw.trans {r' : Nat} (h : Vw vb db mb w W r) (k : Vw vb db mb W W' r') : Vw vb db mb w W' r' := ⟨k.v, h.c.trans k.c, h.lv, h.ld⟩
theorem Vw.pre {r' : Nat} (hb : Below w.heap.size w W) (hv : vb < w.heap.size) (hd : db < w.heap.size) (k : Vw vb db mb W W' r') : Vw vb db mb w W' r' := ⟨k.v, (Chg.below _ hb).trans k.c, hv, hd⟩
theorem Vw.blk (h : Vw vb db mb w W r) {g : Nat} {o : Obj} (hg : w.heap[g]? = some o) (hn : g ≠ vb) : W.heap[g]? = some o := h.c.blk hg hn
end
section
variable {w w' : World} {vb db mb fb r : Nat} {s : MS}
def VrOut (w : World) (vb db mb r : Nat) (s : MS) (k off n : Int) (e : Ending) (w' : World) : Prop := ∃ (A : Option Addr) (l : Nat) (er : Int), e = .returned (.tuple #[.slice A l l, .int .i64 er]) ∧ RdOk w.heap.size s k off n A l er w' ∧ Vw vb db mb w w' (r + 1)
set_option maxHeartbeats 4000000 in
set_option maxRecDepth 100000 in
theorem vread_any (h : V2 w vb db mb r) (hM : Mach w mb fb s) (hr : 0 ≤ r) (k off n : Int) : Calls Tryz.prog 78 #[.pointer (some ⟨vb, 0, none⟩), .int .i64 k, .int .i64 off, .int .i64 n] w (VrOut w vb db mb r s k off n) := by
  have C0 := fun i => blk_cell h.blk i
  have F0 := fun i => blk_frozen h.blk i
  have L0 := blk_lt h.blk
  have hn := GvA.none_calls h
  have hci := cr_in r
  have hcs := cr_step r
  have hlk := (h.due.block (W' := w.drew) rfl).look Tryz.underlying142 (zeroF w.drew) (cr r) (by omega) (by omega)
  simp only [Option.getD_none] at hlk
  have hc1 : Chg (fun x => x = vb) w (w.setCell ⟨vb, 2, none⟩ (.int .i64 (cr (r + 1)))).drew := Chg.drew (Chg.set (F := fun x => x = vb) (p := ⟨vb, 2, none⟩) (Chg.refl _ w) (.inl rfl) _)
  have hrd := read_any (hM.chg hc1 (fun e => (h.ne_m hM).1 e.symm) (fun e => (h.ne_m hM).2 e.symm)) k off n
  have hsz : (w.setCell ⟨vb, 2, none⟩ (.int .i64 (cr (r + 1)))).drew.heap.size = w.heap.size := size_set _ _ _
  have hdb : db ≠ vb := fun e => bnm h.blk h.due e.symm
  have hV1 : Vw vb db mb w (w.setCell ⟨vb, 2, none⟩ (.int .i64 (cr (r + 1)))).drew (r + 1) := ⟨⟨blk_put h.blk 2 _ (by simp), h.due.chg hc1 hdb⟩, hc1, L0, h.due.lt⟩
  unfold RdOut at hrd
  rw [hsz] at hrd
  have HH := Base.Aside.mk (And.intro hV1 hsz)
  clear h hM hc1 hV1 hsz
  go_enter Tryz.func78, Tryz.ntmps78
  go_wp2_with (first
    | (go_at_call 73; refine hn.mono ?_; rintro z w1 ⟨rfl, hw1⟩; obtain rfl := hw1.symm)
    | go_in)
  go_region
  go_wp2
  refine wp_loop_once ?_
  go_wp2_with (first
    | (go_at_call 37; refine hrd.mono ?_; rintro z w1 ⟨A, l, er, rfl, hw1, hw2⟩; have E1 := Base.Aside.mk (And.intro hw1 hw2); clear hw1 hw2)
    | go_in)
  go_ret2
  refine ⟨A, l, er, by first | rfl | (simp; done), E1.out.1, HH.out.1.below ?_⟩
  rw [HH.out.2]
  exact E1.out.2
end
/-- An entry as it is read. -/
structure Gr where
  kd : Int
  ro : Bool
  sb : Bool
  dom : Int
  gp : Int
  of : Int
  le : Int
def aggv (g : Gr) : Value := .agg #[.int .i64 g.kd, .bool g.ro, .bool g.sb, .int .i64 g.dom, .int .i64 g.gp, .int .i64 g.of, .int .i64 g.le]
def entG (l : List Int) : Gr := if GuA.bad l then ⟨0, false, false, 0, 0, 0, 0⟩ else ⟨GuA.kd l, GuA.ro l, GuA.sb l, GuA.rd l 2 + 256 * GuA.rd l 3, GuA.rd l 4 + 256 * GuA.rd l 5, GuA.of l, GuA.le l⟩
def entE (l : List Int) : Int := if GuA.bad l then 60 else 0
def permE (l : List Int) (caller : Int) : Int := if entE l = 0 ∧ ((entG l).kd ≠ 1 ∨ (entG l).dom ≠ caller) then 60 else entE l
section
variable {w w' : World} {gb mm hm mb fb : Nat} {f : Int → Option (Int × Nat)} {c : Nat} {s : MS} {vb db r : Nat}
theorem ent_any (h : G2 w gb mm hm mb f c) (hM : Mach w mb fb s) (hV : V2 w vb db mb r) (hr : 0 ≤ r) (d : Int) (d0 : 0 ≤ d) (d8 : d < 8) (k pb : Nat) (hd : f d = some ((k : Int), pb)) (hk : k < s.n) (ref : Nat) (h32 : ref < 32) :
    Calls Tryz.prog 99 #[.pointer (some ⟨gb, 0, none⟩), .pointer (some ⟨vb, 0, none⟩), .int .i64 d, .int .i64 ref] w fun e w' => e = .returned (.tuple #[aggv (entG (ent s k ref)), .int .i64 (entE (ent s k ref))]) ∧ Vw vb db mb w w' (r + 1) :=
  (entry_calls h hM hV hr (hV.ne_m hM).1 (hV.ne_m hM).2 d d0 d8 k pb hd hk ref h32).mono fun e w' ⟨h1, h2, h3⟩ => by
    refine ⟨?_, h2, h3, blk_lt hV.blk, hV.due.lt⟩
    rw [h1]
    unfold entG entE
    by_cases hb : GuA.bad (ent s k ref)
    · simp only [if_pos hb]; rfl
    · simp only [if_neg hb]; rfl
set_option maxHeartbeats 4000000 in
set_option maxRecDepth 100000 in
theorem permit_any (h : G2 w gb mm hm mb f c) (hM : Mach w mb fb s) (hV : V2 w vb db mb r) (hr : 0 ≤ r) (d : Int) (d0 : 0 ≤ d) (d8 : d < 8) (k pb : Nat) (hd : f d = some ((k : Int), pb)) (hk : k < s.n) (ref : Nat) (h32 : ref < 32) (caller : Int) :
    Calls Tryz.prog 65 #[.pointer (some ⟨gb, 0, none⟩), .pointer (some ⟨vb, 0, none⟩), .int .i64 caller, .int .i64 d, .int .i64 ref] w fun e w' => e = .returned (.tuple #[aggv (entG (ent s k ref)), .int .i64 (permE (ent s k ref) caller)]) ∧ Vw vb db mb w w' (r + 1) := by
  have hb1 := below_alloc (Below.refl w.heap.size w) (.cells #[.int .i64 0, .bool false, .bool false, .int .i64 0, .int .i64 0, .int .i64 0, .int .i64 0] 32)
  have hen := ent_any (h.below hb1) (hM.below hb1) (hV.below hb1) hr d d0 d8 k pb hd hk ref h32
  obtain ⟨g, hg⟩ : ∃ g, g = entG (ent s k ref) := ⟨_, rfl⟩
  obtain ⟨er, her⟩ : ∃ er, er = entE (ent s k ref) := ⟨_, rfl⟩
  obtain ⟨pe, hpe⟩ : ∃ pe, pe = permE (ent s k ref) caller := ⟨_, rfl⟩
  have hp2 : pe = if er = 0 ∧ (g.kd ≠ 1 ∨ g.dom ≠ caller) then 60 else er := by rw [hpe, hg, her]; rfl
  rw [← hg, ← her] at hen
  rw [← hg, ← hpe]
  unfold aggv at hen ⊢
  have hVlt := blk_lt hV.blk
  have hDlt := hV.due.lt
  have HA := Base.Aside.mk hp2
  have HR := fun (w1 : World) (hc : Vw vb db mb (w.alloc (.cells #[.int .i64 0, .bool false, .bool false, .int .i64 0, .int .i64 0, .int .i64 0, .int .i64 0] 32)) w1 (r + 1)) => hc.blk (blk_new w _) (Nat.ne_of_gt hVlt)
  have HP := Base.Aside.mk hb1
  clear h hM hV hb1 hg her hpe hp2 hd
  go_enter Tryz.func65, Tryz.ntmps65
  go_wp2_with (first
    | (go_at_call 99; refine hen.mono ?_; rintro z w1 ⟨rfl, hw2⟩; have hres := HR w1 hw2; have C2 := fun i => blk_cell hres i; have F2 := fun i => blk_frozen hres i; have L2 := blk_lt hres; have E1 := Base.Aside.mk hw2; clear hw2 hres)
    | go_in)
  all_goals
    refine bodyPost_ret (v := .tuple #[.agg #[.int .i64 g.kd, .bool g.ro, .bool g.sb, .int .i64 g.dom, .int .i64 g.gp, .int .i64 g.of, .int .i64 g.le], .int .i64 pe]) ?_ rfl ⟨rfl, ?_⟩
    · simp only [results, Tryz.results65]
      go_simp
      all_goals
        go_light
        have hr := HA.out
        clear HA HR hen E1 C2 F2
        simp_all
    · have hw := Vw.pre HP.out hVlt hDlt E1.out
      exact ((((((((hw.set (Nat.le_refl _) _ _).set (Nat.le_refl _) _ _).set (Nat.le_refl _) _ _).set (Nat.le_refl _) _ _).set (Nat.le_refl _) _ _).set (Nat.le_refl _) _ _).set (Nat.le_refl _) _ _).alloc _)
end
end Go.Proofs.YthlejchcnfdcpaaGreat.GfC
namespace Go.Proofs.YthlejchcnfdcpaaGreat.GoA
open Go.RowKit Go.Maps Base GaA GaB GaC GaD RpA RmA RmB RmC
set_option linter.unusedVariables false
set_option linter.unusedSimpArgs false

/-- One byte is another. -/
def byS (s : MS) (k j : Nat) (b : UInt8) : MS := { s with byt := fun i l => if i = k ∧ l = j then b else s.byt i l }
theorem wr_take (s : MS) (k off : Nat) (zs : List UInt8) (i : Nat) (hi : i < zs.length) : byS (MS.wr s k off (zs.take i)) k (off + i) (zs.getD i 0) = MS.wr s k off (zs.take (i + 1)) := by
  unfold byS MS.wr
  congr 1
  funext a l
  simp only [List.length_take]
  by_cases h : a = k ∧ l = off + i
  · obtain ⟨rfl, rfl⟩ := h
    rw [if_pos ⟨rfl, rfl⟩, if_pos (by omega)]
    rw [show off + i - off = i by omega, List.getD_eq_getElem?_getD, List.getD_eq_getElem?_getD, List.getElem?_take, if_pos (by omega)]
  · rw [if_neg h]
    by_cases h2 : a = k ∧ off ≤ l ∧ l < off + min i zs.length
    · rw [if_pos h2, if_pos (by omega), List.getD_eq_getElem?_getD, List.getD_eq_getElem?_getD, List.getElem?_take, List.getElem?_take, if_pos (by omega), if_pos (by omega)]
    · rw [if_neg h2, if_neg (by omega)]
section
variable {w w' : World} {rb Fb Bb cF cB : Nat} {bs : List Nat} {s : MS}
theorem RMach.slot (h : RMach w rb Fb Bb cF cB bs s) (k : Nat) (hk : k < s.n) : w.cell? ⟨Bb, k, none⟩ = some (.slice (some ⟨bs.getD k 0, 0, none⟩) 256 256) := by
  obtain ⟨cs, g1, g2⟩ := h.rows
  rw [blk_cell g1, g2 k hk]
theorem RMach.byte (h : RMach w rb Fb Bb cF cB bs s) (k j : Nat) (hk : k < s.n) (hj : j < 256) : w.cell? ⟨bs.getD k 0, j, none⟩ = some (.int .u8 ((s.byt k j).toNat : Int)) := by
  rw [blk_cell (h.page k hk)]
  simp only [u8s, MS.rd, List.getElem?_toArray, List.getElem?_map]
  rw [List.getElem?_range hj]
  simp
theorem RMach.mem (h : RMach w rb Fb Bb cF cB bs s) (k : Nat) (hk : k < s.n) : bs.getD k 0 ∈ bs := by
  rw [List.getD_eq_getElem?_getD, List.getElem?_eq_getElem (by rw [h.len]; exact hk)]
  exact List.getElem_mem _
theorem rd_set (s : MS) (k j : Nat) (b : UInt8) (hj : j < 256) : (u8s (MS.rd s k 0 256)).toArray.setIfInBounds j (.int .u8 (b.toNat : Int)) = (u8s (MS.rd (byS s k j b) k 0 256)).toArray := by
  apply Array.ext_getElem?
  intro i
  rw [Array.getElem?_setIfInBounds]
  simp only [u8s, MS.rd, List.size_toArray, List.length_map, List.length_range, List.getElem?_toArray, List.getElem?_map]
  by_cases hi : i < 256
  · rw [List.getElem?_range hi]
    simp only [Option.map_some]
    by_cases h : j = i
    · subst h
      rw [if_pos rfl, if_pos hj]
      simp [byS]
    · rw [if_neg h]
      have : ¬ (0 + i = j) := by omega
      simp [byS, show ¬ i = j by omega]
  · rw [List.getElem?_eq_none (by simp; omega)]
    rw [if_neg (by omega)]
    simp
theorem rd_other (s : MS) (k j i : Nat) (b : UInt8) (h : i ≠ k) : MS.rd (byS s k j b) i 0 256 = MS.rd s i 0 256 := by
  unfold MS.rd byS
  simp [h]
theorem rmach_byte (h : RMach w rb Fb Bb cF cB bs s) (k : Nat) (hk : k < s.n) (j : Nat) (hj : j < 256) (b : UInt8) : RMach (w.setCell ⟨bs.getD k 0, j, none⟩ (.int .u8 (b.toNat : Int))) rb Fb Bb cF cB bs (byS s k j b) ∧ Chg (fun x => x = bs.getD k 0) w (w.setCell ⟨bs.getD k 0, j, none⟩ (.int .u8 (b.toNat : Int))) := by
  obtain ⟨cs, g1, g2⟩ := h.frs
  obtain ⟨cs2, g3, g4⟩ := h.rows
  have hp := h.page k hk
  have hc := chg_fb (Chg.refl (fun x => x = bs.getD k 0) w) j (.int .u8 (b.toNat : Int))
  refine ⟨⟨hc.blk h.blk (blk_ne h.blk hp (by decide)), ⟨cs, hc.blk g1 (blk_ne g1 hp (by decide)), fun i l hi hl => by rw [g2 i l hi hl]; match l, hl with | 0, _ => rfl | 1, _ => rfl | 2, _ => rfl | 3, _ => rfl⟩, ⟨cs2, hc.blk g3 (blk_ne g3 hp (by decide)), g4⟩, h.len, h.nodup, fun i hi => ?_, h.few⟩, hc⟩
  by_cases hik : i = k
  · subst hik
    exact blk_put hp j _ (rd_set s i j b hj)
  · rw [rd_other s k j i b hik]
    have hi2 : i < bs.length := by rw [h.len]; exact hi
    have hk2 : k < bs.length := by rw [h.len]; exact hk
    refine hc.blk (h.page i hi) (fun e => hik ?_)
    rw [List.getD_eq_getElem?_getD, List.getD_eq_getElem?_getD, List.getElem?_eq_getElem hi2, List.getElem?_eq_getElem hk2] at e
    exact (List.getElem_inj h.nodup).1 e
set_option maxHeartbeats 4000000 in
set_option maxRecDepth 100000 in
theorem in_ok (h : RMach w rb Fb Bb cF cB bs s) (k off n : Nat) (hk : k < s.n) (ho : off + n ≤ 256) : Calls Tryz.prog 97 #[.pointer (some ⟨rb, 0, none⟩), .int .i64 k, .int .i64 off, .int .i64 n] w fun e w' => e = .returned (.bool true) ∧ w' = w := by
  have hi := is_calls h k hk
  have d0 : decide ((0 : Int) ≤ (off : Int)) = true := decide_eq_true (by omega)
  have d1 : decide ((0 : Int) ≤ (n : Int)) = true := decide_eq_true (by omega)
  have d2 : decide ((off : Int) ≤ 256) = true := decide_eq_true (by omega)
  have d3 : decide ((n : Int) ≤ 256 - (off : Int)) = true := decide_eq_true (by omega)
  clear h
  go_enter Tryz.func97, Tryz.ntmps97
  go_wp2_with (first
    | (go_at_call 96; refine hi.mono ?_; rintro z w1 ⟨rfl, hw1⟩; obtain rfl := hw1.symm)
    | go_in)
  go_ret
  exact ⟨by first | rfl | (simp; done), rfl⟩
set_option maxHeartbeats 600000 in
set_option maxRecDepth 100000 in
theorem rwrite (h : RMach w rb Fb Bb cF cB bs s) (k off : Nat) (hk : k < s.n) (hown : (s.fr k).own ≠ -1) (x : Addr) (c : Nat) (zs : List UInt8) (hz : Holds w x zs) (ho : off + zs.length ≤ 256) (hx : x.block ≠ bs.getD k 0) :
    Calls Tryz.prog 59 #[.pointer (some ⟨rb, 0, none⟩), .int .i64 k, .int .i64 off, .slice (some x) zs.length c] w fun e w' => e = .returned (.int .i64 0) ∧ RMach w' rb Fb Bb cF cB bs (MS.wr s k off zs) ∧ Chg (fun y => y = bs.getD k 0) w w' := by
  have hin := in_ok h k off zs.length hk ho
  have C0 := fun i => blk_cell h.blk i
  have L0 := blk_lt h.blk
  have LF := h.lt.2.1
  have c0 := h.own k hk
  have e2 : (0 : Int) ≤ (k : Int) := Int.natCast_nonneg _
  have e3 : (k : Int) < (s.n : Int) := by omega
  have d0 : ((s.fr k).own == -1) = false := by simp [hown]
  obtain ⟨n, hn⟩ : ∃ n, n = zs.length := ⟨_, rfl⟩
  rw [← hn] at hin ho ⊢
  have hst : RMach w rb Fb Bb cF cB bs (MS.wr s k off (zs.take 0)) := by rw [List.take_zero, wr_none]; exact h
  have HS := Base.Aside.mk (And.intro hst (And.intro hz h))
  have HN := Base.Aside.mk hn
  have HX := Base.Aside.mk hx
  clear h hz hst hown hn hx
  go_enter Tryz.func59, Tryz.ntmps59
  go_wp2_with (first
    | (go_at_call 97; refine hin.mono ?_; rintro z w1 ⟨rfl, hw1⟩; obtain rfl := hw1.symm)
    | go_in)
  clear C0 L0 LF c0
  go_loopw [9] (fun v wr => ∃ (i : Nat) (W2 : World), i ≤ n ∧ v = .int .i64 i ∧ wr = W2 ∧ Base.Aside (RMach W2 rb Fb Bb cF cB bs (MS.wr s k off (zs.take i)) ∧ Chg (fun y => y = bs.getD k 0) w W2)) (fun v _ => n - (intOf v).toNat)
  case atStart => exact ⟨0, w, by omega, rfl, rfl, ⟨HS.out.1, Chg.refl _ _⟩⟩
  case round =>
    obtain ⟨i, W2, hi, rfl, hwr, hA⟩ := hrel
    obtain rfl := hwr.symm
    by_cases hlt : i < n
    · have h2 := hA.out.1
      have C2 := fun i => blk_cell h2.blk i
      have L2 := blk_lt h2.blk
      have hn := HN.out
      have hs2 := RMach.slot h2 k hk
      have LB := h2.lt.2.2
      have hb2 := RMach.byte h2 k (off + i) hk (by omega)
      have hpg := h2.page k hk
      have f2 := fun j => blk_frozen hpg j
      have hz2 := HS.out.2.1.chg hA.out.2 HX.out
      have c3 := hz2.cell i (by omega)
      have LX := hz2.lt
      have LP := blk_lt hpg
      have hd : zs.getD i 0 = zs[i]'(by omega) := by rw [List.getD_eq_getElem?_getD, List.getElem?_eq_getElem (by omega)]; rfl
      have hnx := rmach_byte h2 k hk (off + i) (by omega) (zs.getD i 0)
      rw [wr_take s k off zs i (by omega)] at hnx
      rw [← hd] at c3
      generalize zs.getD i 0 = z at c3 hnx
      generalize (MS.wr s k off (zs.take i)).byt k (off + i) = ob at hb2
      have hn2 : (MS.wr s k off (zs.take i)).n = s.n := rfl
      rw [hn2] at C2
      have b1 : (0 : Int) ≤ (off : Int) + i := by omega
      have b2 : (off : Int) + i < 256 := by omega
      have b3 : (0 : Int) ≤ (i : Int) := by omega
      have b4 : (i : Int) < (n : Int) := by omega
      have HNX := Base.Aside.mk (And.intro hnx.1 (hA.out.2.trans hnx.2))
      obtain ⟨pk, hpk⟩ : ∃ pk, pk = bs.getD k 0 := ⟨_, rfl⟩
      rw [← hpk] at hs2 hb2 f2 LP
      have HPK := Base.Aside.mk hpk
      clear h2 hpg hz2 hnx hd hn2 hn hpk
      go_wp2
      go_region
      all_goals
        go_wp2
        refine ⟨⟨i + 1, _, by omega, by simp, rfl, ⟨?_, ?_⟩⟩, by simp [intOf]; omega⟩
        · have h9 := HNX.out.1
          rw [← HPK.out] at h9
          exact h9.below (Below.refl _ _).drew
        · have h9 := HNX.out.2
          rw [← HPK.out] at h9 ⊢
          exact h9.drew
    · obtain rfl : i = n := by omega
      go_wp2
      go_ret
      have ht : zs.take i = zs := List.take_of_length_le (by have := HN.out; omega)
      have h3 := hA.out
      rw [ht] at h3
      exact ⟨by first | rfl | (simp; done), h3.1, h3.2⟩
end
end Go.Proofs.YthlejchcnfdcpaaGreat.GoA
