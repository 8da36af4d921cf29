/- Proved: an entry, read once through the view (a contract for the laws of the grants). -/
import Derived.Test.YtjeobbhaoahdcaaGeA
namespace Go.Proofs.Ytjeobbhaoahdcaa.GeB
open Go.RowKit Go.Maps Go.Proofs.Ytjeobbhaoahdcaa.Base Go.Proofs.Ytjeobbhaoahdcaa.GaA Go.Proofs.Ytjeobbhaoahdcaa.GaB Go.Proofs.Ytjeobbhaoahdcaa.GaC Go.Proofs.Ytjeobbhaoahdcaa.GmA Go.Proofs.Ytjeobbhaoahdcaa.GpA Go.Proofs.Ytjeobbhaoahdcaa.GgA Go.Proofs.Ytjeobbhaoahdcaa.GeA
set_option linter.unusedVariables false
set_option linter.unusedSimpArgs false

/-- The bytes of an entry. -/
def ent (s : MS) (k ref : Nat) : List Int := (MS.rd s k (8 * ref) 8).map fun b => (b.toNat : Int)
theorem ent_bytes {w : World} {g : Nat} {zs : List UInt8} (hl : zs.length = 8) (h : w.heap[g]? = some (.cells (u8s zs).toArray 5 (0, 0))) : GuA.Bytes w ⟨g, 0, none⟩ 8 (zs.map fun b => (b.toNat : Int)) := by
  intro i h0 h1
  have hi : i.toNat < zs.length := by omega
  have e : GuA.rd (zs.map fun b => (b.toNat : Int)) i = ((zs[i.toNat]).toNat : Int) := by
    unfold GuA.rd
    rw [List.getD_eq_getElem?_getD, List.getElem?_map, List.getElem?_eq_getElem hi]
    rfl
  have hb := (zs[i.toNat]).toNat_lt
  refine ⟨?_, by rw [e]; omega, by rw [e]; omega⟩
  rw [e, show ((⟨g, 0, none⟩ : Addr).add i.toNat) = ⟨g, i.toNat, none⟩ by unfold Addr.add; split <;> simp_all, blk_cell h]
  simp [u8s, hi]
theorem unpack_bad (ad : Addr) (cp : Nat) (l : List Int) (w : World) (hb : GuA.Bytes w ad 8 l) (h : GuA.bad l) : Calls Try.prog 83 #[.slice (some ad) 8 cp] w fun e w' => e = .returned (.tuple #[.agg #[.int .i64 0, .bool false, .bool false, .int .i64 0, .int .i64 0, .int .i64 0, .int .i64 0], .int .i64 60]) ∧ Below w.heap.size w w' :=
  (unpack_calls ad cp l w hb).mono fun e w' ⟨h1, h2⟩ => ⟨by rw [h1, if_pos h, if_pos h]; rfl, h2⟩
theorem unpack_good (ad : Addr) (cp : Nat) (l : List Int) (w : World) (hb : GuA.Bytes w ad 8 l) (h : ¬ GuA.bad l) : Calls Try.prog 83 #[.slice (some ad) 8 cp] w fun e w' => e = .returned (.tuple #[.agg #[.int .i64 (GuA.kd l), .bool (GuA.ro l), .bool (GuA.sb l), .int .i64 (GuA.rd l 2 + 256 * GuA.rd l 3), .int .i64 (GuA.rd l 4 + 256 * GuA.rd l 5), .int .i64 (GuA.of l), .int .i64 (GuA.le l)], .int .i64 0]) ∧ Below w.heap.size w w' :=
  (unpack_calls ad cp l w hb).mono fun e w' ⟨h1, h2⟩ => ⟨by rw [h1, if_neg h, if_neg h]; rfl, h2⟩
theorem seven {w2 : World} {g : Nat} (a0 a1 a2 a3 a4 a5 a6 : Value) (o : Obj) : Chg (fun x => x = g) w2 ((((((((w2.setCell ⟨g, 0, none⟩ a0).setCell ⟨g, 1, none⟩ a1).setCell ⟨g, 2, none⟩ a2).setCell ⟨g, 3, none⟩ a3).setCell ⟨g, 4, none⟩ a4).setCell ⟨g, 5, none⟩ a5).setCell ⟨g, 6, none⟩ a6).alloc o) :=
  (chg_fb (chg_fb (chg_fb (chg_fb (chg_fb (chg_fb (chg_fb (Chg.refl _ w2) 0 a0) 1 a1) 2 a2) 3 a3) 4 a4) 5 a5) 6 a6).alloc o
theorem ent_end {w w1 w2 W : World} {o : Obj} {vb db mb r : Nat} (hv : vb < w.heap.size) (hd : db < w.heap.size) (h1 : GvA.V2 w1 vb db mb (r + 1)) (h2 : Chg (fun x => x = vb) (w.alloc o) w1) (h3 : Below w1.heap.size w1 w2) (h4 : Chg (fun x => x = w.heap.size) w2 W) : GvA.V2 W vb db mb (r + 1) ∧ Chg (fun x => x = vb) w W := by
  refine ⟨(h1.below h3).chg h4 (by omega) (by omega), ?_⟩
  have a := (((Chg.refl (fun x => x = vb) w).alloc o).trans h2).trans (Chg.below _ h3)
  exact ⟨h4.os.trans a.os, h4.tape.trans a.tape, h4.output.trans a.output, Nat.le_trans a.size h4.size, fun k hk hf => (h4.block k (Nat.lt_of_lt_of_le hk a.size) (by omega)).trans (a.block k hk hf)⟩
def EntOut (w : World) (l : List Int) (vb db mb r : Nat) (e : Ending) (w' : World) : Prop :=
  e = .returned (.tuple #[if GuA.bad l then GuA.zero else GuA.agg l, .int .i64 (if GuA.bad l then 60 else 0)]) ∧ GvA.V2 w' vb db mb (r + 1) ∧ Chg (fun x => x = vb) w w'
section
variable {w w' : World} {gb mm hm mb fb : Nat} {f : Int → Option (Int × Nat)} {c : Nat} {s : MS}
set_option maxHeartbeats 4000000 in
set_option maxRecDepth 100000 in
theorem entry_calls (h : G2 w gb mm hm mb f c) (hM : Mach w mb fb s) {vb db r : Nat} (hV : GvA.V2 w vb db mb r) (hr : 0 ≤ r) (hvm : vb ≠ mb) (hvf : vb ≠ fb) (d : Int) (d0 : 0 ≤ d) (d8 : d < 8) (k pb : Nat) (hd : f d = some ((k : Int), pb)) (hk : k < s.n) (ref : Nat) (h32 : ref < 32) :
    Calls Try.prog 68 #[.pointer (some ⟨gb, 0, none⟩), .pointer (some ⟨vb, 0, none⟩), .int .i64 d, .int .i64 ref] w (EntOut w (ent s k ref) vb db mb r) := by
  have C0 := fun i => blk_cell h.blk i
  have L0 := blk_lt h.blk
  have e1 : mvs f d = some (.agg #[.int .i64 k, .pointer (some ⟨pb, 0, none⟩)]) := by unfold mvs; rw [hd]; rfl
  have hb1 := below_alloc (Below.refl w.heap.size w) (.cells #[.int .i64 0, .bool false, .bool false, .int .i64 0, .int .i64 0, .int .i64 0, .int .i64 0] 53)
  have hlk := (h.mem.below hb1).look Try.underlying75 (zeroM _) d (by omega) (by omega)
  rw [e1] at hlk
  simp only [Option.getD_some] at hlk
  have hrd := GvA.read_calls (hV.below hb1) (hM.below hb1) hr hvm hvf k hk (8 * ref) 8 (by omega)
  have HB := Base.Aside.mk hb1
  have hfd : ∀ (W : World) (a b : Value), (Instr.field 142 (.agg #[a, b]) 0).run Try.prog W = .ok a W := fun _ _ _ => by kernel_rfl
  rw [show ((8 * ref : Nat) : Int) = 8 * (ref : Int) by omega] at hrd
  simp only [World.size_alloc] at hrd
  have hVlt := blk_lt hV.blk
  have hDlt := hV.due.lt
  clear h e1 hb1 hM hV
  have hlv := hVlt
  by_cases hbad : GuA.bad (ent s k ref)
  · have HU := fun (w1 : World) (H : Nat) (hh : w1.heap[H]? = some (.cells (u8s (MS.rd s k (8 * ref) 8)).toArray 5 (0, 0))) => unpack_bad ⟨H, 0, none⟩ 8 (ent s k ref) w1 (ent_bytes (rd_len _ _ _ _) hh) hbad
    have HR := fun (w1 : World) (hc : Chg (fun x => x = vb) (w.alloc (.cells #[.int .i64 0, .bool false, .bool false, .int .i64 0, .int .i64 0, .int .i64 0, .int .i64 0] 53)) w1) => hc.blk (blk_new w _) (Nat.ne_of_gt hlv)
    go_enter Try.func68, Try.ntmps68
    go_wp2_with (first
      | (go_at_call 51; refine hrd.mono ?_; rintro z w1 ⟨rfl, hw1, hw2, hw3⟩; have hsz := hw3.size; have hun := HU w1 _ hw1; have hres := HR w1 hw3; have E1 := Base.Aside.mk (And.intro hw2 hw3); clear hw1 hw2 hw3)
      | (go_at_call 83; refine hun.mono ?_; rintro z w2 ⟨rfl, hB2⟩; have hres2 := blk_below hres (blk_lt hres) hB2; have C2 := fun i => blk_cell hres2 i; have F2 := fun i => blk_frozen hres2 i; have L2 := blk_lt hres2; have E2 := Base.Aside.mk hB2; clear hB2)
      | go_in)
    refine bodyPost_ret (v := .tuple #[.agg #[.int .i64 0, .bool false, .bool false, .int .i64 0, .int .i64 0, .int .i64 0, .int .i64 0], .int .i64 60]) ?_ rfl ⟨by rw [if_pos hbad, if_pos hbad]; rfl, ent_end hVlt hDlt E1.out.1 E1.out.2 E2.out (seven _ _ _ _ _ _ _ _)⟩
    simp only [results, Try.results68]; first | (go_simp; done) | (go_simp; rfl)
  · have HU := fun (w1 : World) (H : Nat) (hh : w1.heap[H]? = some (.cells (u8s (MS.rd s k (8 * ref) 8)).toArray 5 (0, 0))) => unpack_good ⟨H, 0, none⟩ 8 (ent s k ref) w1 (ent_bytes (rd_len _ _ _ _) hh) hbad
    have HR := fun (w1 : World) (hc : Chg (fun x => x = vb) (w.alloc (.cells #[.int .i64 0, .bool false, .bool false, .int .i64 0, .int .i64 0, .int .i64 0, .int .i64 0] 53)) w1) => hc.blk (blk_new w _) (Nat.ne_of_gt hlv)
    go_enter Try.func68, Try.ntmps68
    go_wp2_with (first
      | (go_at_call 51; refine hrd.mono ?_; rintro z w1 ⟨rfl, hw1, hw2, hw3⟩; have hsz := hw3.size; have hun := HU w1 _ hw1; have hres := HR w1 hw3; have E1 := Base.Aside.mk (And.intro hw2 hw3); clear hw1 hw2 hw3)
      | (go_at_call 83; refine hun.mono ?_; rintro z w2 ⟨rfl, hB2⟩; have hres2 := blk_below hres (blk_lt hres) hB2; have C2 := fun i => blk_cell hres2 i; have F2 := fun i => blk_frozen hres2 i; have L2 := blk_lt hres2; have E2 := Base.Aside.mk hB2; clear hB2)
      | go_in)
    refine bodyPost_ret (v := .tuple #[.agg #[.int .i64 (GuA.kd (ent s k ref)), .bool (GuA.ro (ent s k ref)), .bool (GuA.sb (ent s k ref)), .int .i64 (GuA.rd (ent s k ref) 2 + 256 * GuA.rd (ent s k ref) 3), .int .i64 (GuA.rd (ent s k ref) 4 + 256 * GuA.rd (ent s k ref) 5), .int .i64 (GuA.of (ent s k ref)), .int .i64 (GuA.le (ent s k ref))], .int .i64 0]) ?_ rfl ⟨by rw [if_neg hbad, if_neg hbad]; rfl, ent_end hVlt hDlt E1.out.1 E1.out.2 E2.out (seven _ _ _ _ _ _ _ _)⟩
    simp only [results, Try.results68]; first | (go_simp; done) | (go_simp; rfl)
end
end Go.Proofs.Ytjeobbhaoahdcaa.GeB
