/- Proved: Push, at every argument (a contract for the laws of the grants). -/
import Derived.Test.YtjeobbhaoahdcaaGfG
namespace Go.Proofs.Ytjeobbhaoahdcaa.GfH
open Go.RowKit Go.Maps Go.Proofs.Ytjeobbhaoahdcaa.Base Go.Proofs.Ytjeobbhaoahdcaa.GaA Go.Proofs.Ytjeobbhaoahdcaa.GaB Go.Proofs.Ytjeobbhaoahdcaa.GaC Go.Proofs.Ytjeobbhaoahdcaa.GmA Go.Proofs.Ytjeobbhaoahdcaa.GmB Go.Proofs.Ytjeobbhaoahdcaa.GpA Go.Proofs.Ytjeobbhaoahdcaa.GgA Go.Proofs.Ytjeobbhaoahdcaa.GeA Go.Proofs.Ytjeobbhaoahdcaa.GeB Go.Proofs.Ytjeobbhaoahdcaa.GfA Go.Proofs.Ytjeobbhaoahdcaa.GfB Go.Proofs.Ytjeobbhaoahdcaa.GfC Go.Proofs.Ytjeobbhaoahdcaa.GfD Go.Proofs.Ytjeobbhaoahdcaa.GfE Go.Proofs.Ytjeobbhaoahdcaa.GfF Go.Proofs.Ytjeobbhaoahdcaa.GfG Go.Proofs.Ytjeobbhaoahdcaa.GvA
set_option linter.unusedVariables false
set_option linter.unusedSimpArgs false

def isTab (y : Fr) : Prop := y.typ = 2 ∨ y.typ = 3
instance (y : Fr) : Decidable (isTab y) := by unfold isTab; infer_instance
/-- What Push comes to: q is the place. -/
def pushE (s : MS) (q : (Int × Int) × Int) (l : Nat) : Int := if q.2 ≠ 0 then q.2 else if isTab (frV s q.1.1).1 then 13 else wrE s q.1.1 q.1.2 l
def pushS (s : MS) (q : (Int × Int) × Int) (zs : List UInt8) : MS := if q.2 ≠ 0 then s else if isTab (frV s q.1.1).1 then s else wrS s q.1.1 q.1.2 zs
theorem wrS_n (s : MS) (k off : Int) (zs : List UInt8) : (wrS s k off zs).n = s.n := by unfold wrS; split <;> rfl
theorem wrS_fr (s : MS) (k off : Int) (zs : List UInt8) : (wrS s k off zs).fr = s.fr := by unfold wrS; split <;> rfl
theorem pushS_n (s : MS) (q : (Int × Int) × Int) (zs : List UInt8) : (pushS s q zs).n = s.n := by
  unfold pushS
  split
  · rfl
  · split
    · rfl
    · exact wrS_n _ _ _ _
theorem Holds.ne {w : World} {x : Addr} {zs : List UInt8} (h : Holds w x zs) (h0 : zs ≠ []) {g : Nat} {cs : Array Value} {t : TypeId} (hg : w.heap[g]? = some (.cells cs t (0, 0))) (hc : ∀ (i : Nat) (b : Int), cs[i]? ≠ some (Value.int .u8 b)) : x.block ≠ g := by
  rintro rfl
  have hl : 0 < zs.length := List.length_pos_iff.2 h0
  have := h.cell 0 hl
  have e : (x.add 0).block = x.block := add_block x 0
  unfold World.cell? at this
  rw [e, hg] at this
  simp at this
  exact hc _ _ this.2
theorem u8_view (x y : Value) (r : Int) (h1 : ∀ b : Int, x ≠ Value.int .u8 b) (h2 : ∀ b : Int, y ≠ Value.int .u8 b) : ∀ (i : Nat) (b : Int), (#[x, y, Value.int .i64 r] : Array Value)[i]? ≠ some (Value.int .u8 b) := by
  intro i b h
  match i with
  | 0 => exact h1 b (Option.some.inj h)
  | 1 => exact h2 b (Option.some.inj h)
  | 2 => have := Option.some.inj h; injection this with h3; cases h3
  | n + 3 => simp at h
section
variable {w w' W : World} {gb mm hm mb fb : Nat} {f : Int → Option (Int × Nat)} {c : Nat} {s : MS} {pi : Nat → PI} {vb db r r' : Nat}
theorem bytes_vw {A : Option Addr} {zs : List UInt8} {mb' : Nat} (h : Bytes w A zs) (hV : V2 w vb db mb' r) (k : Vw vb db mb' w W r') : Bytes W A zs := by
  rcases h with h | ⟨x, h1, h2⟩
  · exact .inl h
  · by_cases h0 : zs = []
    · exact .inl h0
    · exact .inr ⟨x, h1, h2.chg k.c (Holds.ne h2 h0 hV.blk (u8_view _ _ _ (fun b e => by cases e) (fun b e => by cases e)))⟩
/-- A machine's frames turn, nothing else. -/
theorem gw_fb {s' : MS} (h : GW w gb mm hm mb fb s f c pi) (hM : Mach w' mb fb s') (hn : s'.n = s.n) (hc : Chg (fun x => x = fb) w w') : GW w' gb mm hm mb fb s' f c pi := by
  obtain ⟨cs, h1, h2⟩ := h.m.lst
  exact ⟨h.g.chg hc (bne h.g.blk h1 (by decide)) (fun e => bnm h1 h.g.mem e.symm), hM,
    fun d x hd => ⟨(h.p d x hd).1.chg hc (bne (h.p d x hd).1.blk h1 (by decide)) (fun e => bnm h1 (h.p d x hd).1.mf e.symm) (fun e => bnm h1 (h.p d x hd).1.mp e.symm), (h.p d x hd).2⟩, fun d x hd => ⟨(h.d d x hd).1, by rw [hn]; exact (h.d d x hd).2⟩⟩
theorem v2_fb {mb' : Nat} (h : V2 w vb db mb' r) (hM : Mach w mb fb s) (hc : Chg (fun x => x = fb) w w') : V2 w' vb db mb' r := by
  obtain ⟨cs, h1, h2⟩ := hM.lst
  exact h.chg hc (bne h.blk h1 (by decide)) (fun e => bnm h1 h.due e.symm)
def PushOut (w : World) (gb mm hm mb fb : Nat) (s : MS) (f : Int → Option (Int × Nat)) (c : Nat) (pi : Nat → PI) (q : (Int × Int) × Int) (zs : List UInt8) (vb db r1 : Nat) (e : Ending) (w' : World) : Prop :=
  e = .returned (.int .i64 (pushE s q zs.length)) ∧ GW w' gb mm hm mb fb (pushS s q zs) f c pi ∧ V2 w' vb db mb r1 ∧ Chg (fun x => x = vb ∨ x = fb) w w'
set_option maxHeartbeats 8000000 in
set_option maxRecDepth 100000 in
theorem push_any (h : GW w gb mm hm mb fb s f c pi) (hV : V2 w vb db mb r) (hr : 0 ≤ r) (caller : Int) (t : En) (hd : okI t.dom) (A : Option Addr) (cap : Nat) (zs : List UInt8) (hz : Bytes w A zs) (hl : zs.length ≤ 9223372036854775807) :
    Calls Try.prog 20 #[.pointer (some ⟨gb, 0, none⟩), .pointer (some ⟨vb, 0, none⟩), .int .i64 caller, .agg #[.bool t.gr, .int .i64 t.dom, .int .i64 t.ref, .int .i64 t.gpfn, .int .i64 t.off], .slice A zs.length cap] w (PushOut w gb mm hm mb fb s f c pi (findR s f pi caller t zs.length true) zs vb db (r + findN f caller t zs.length)) := by
  have hVlt := blk_lt hV.blk
  have hDlt := hV.due.lt
  have hb2 : Below w.heap.size w (w.alloc (.cells #[.bool t.gr, .int .i64 t.dom, .int .i64 t.ref, .int .i64 t.gpfn, .int .i64 t.off] 24)) := below_alloc (Below.refl _ _) _
  have hf1 := find_any (h.below hb2) (hV.below hb2) (by omega) caller zs.length t hd true
  generalize findR s f pi caller t zs.length true = q at hf1 ⊢
  generalize r + findN f caller t zs.length = r1 at hf1 ⊢
  have HW := fun W (hW : Vw vb db mb w W r1) => And.intro (h.vw hV hW) (bytes_vw hz hV hW)
  have HB := Base.Aside.mk hb2
  have hgl := blk_lt h.g.blk
  clear h hV hb2 hz
  by_cases hq : q.2 = 0
  · have HQ := Base.Aside.mk hq
    rw [hq] at hf1
    go_enter Try.func20, Try.ntmps20
    go_wp2_with (first
      | (go_at_call 50; refine hf1.mono ?_; rintro z w1 ⟨rfl, hv1⟩; have hv2 := (Vw.pre HB.out hVlt hDlt hv1); have hsz := hv2.c.size; have E1 := Base.Aside.mk hv2; clear hv1 hv2)
      | go_in)
    refine wp_world (fun W => Vw vb db mb w W r1 ∧ W.heap[w1.heap.size]? = some (.cells #[.int .i64 q.1.1, .int .i64 q.1.2] 123 (0, 0))) ⟨E1.out.alloc _, blk_new _ _⟩ ?_
    intro W2 ⟨hv2, hx⟩
    have hw2 := HW _ hv2
    have S0 : ∀ W', Below W2.heap.size W2 W' → W'.cell? ⟨gb, 0, none⟩ = some (.pointer (some ⟨mb, 0, none⟩)) ∧ W'.cell? ⟨w1.heap.size, 0, none⟩ = some (.int .i64 q.1.1) ∧ W'.cell? ⟨w1.heap.size, 1, none⟩ = some (.int .i64 q.1.2) := fun W' hW' =>
      ⟨blk_cell (blk_below hw2.1.g.blk (blk_lt hw2.1.g.blk) hW') 0, blk_cell (blk_below hx (blk_lt hx) hW') 0, blk_cell (blk_below hx (blk_lt hx) hW') 1⟩
    have hfr := fun W' hW' => (frame_any (hw2.1.m.below (w' := W') hW') q.1.1).mono (R' := fun e w' => e = .returned (.tuple #[.agg #[.int .i64 (frV s q.1.1).1.own, .int .i64 (frV s q.1.1).1.typ, .int .i64 (frV s q.1.1).1.cnt, .int .i64 (frV s q.1.1).1.tot], .int .i64 (frV s q.1.1).2]) ∧ Below W2.heap.size W2 w' ∧ ∀ k o, W'.heap[k]? = some o → w'.heap[k]? = some o) (fun e w' h => ⟨h.1, Below.trans hW' (h.2.mono hW'.size), fun k o ho => blk_below ho (blk_lt ho) h.2⟩)
    have hsz2 := hv2.c.size
    have L5 := blk_lt hx
    have L6 := blk_lt hw2.1.g.blk
    obtain ⟨y, hy⟩ : ∃ y, y = frV s q.1.1 := ⟨_, rfl⟩
    rw [← hy] at hfr
    have E2 := Base.Aside.mk (And.intro hv2 (And.intro hw2 hy))
    have C0 := (S0 W2 (Below.refl _ _))
    obtain ⟨k0, k1, k2⟩ := C0
    have HWA := Base.Aside.mk HW
    clear hv2 hw2 hy HW
    go_cut [13, 14] from 28 to 37 (fun v v2 wx => ∃ N : Nat, v = .pointer (some ⟨N, 0, none⟩) ∧ v2 = .int .i64 y.2 ∧ Base.Aside (Below W2.heap.size W2 wx ∧ wx.heap[N]? = some (.cells #[.int .i64 y.1.own, .int .i64 y.1.typ, .int .i64 y.1.cnt, .int .i64 y.1.tot] 46 (0, 0)) ∧ W2.heap.size ≤ N))
    case first =>
      go_region_with (first
        | (go_at_call 13; (with_reducible refine (hfr _ ?_).mono ?_); (focus (repeat (with_reducible first | exact Below.refl _ _ | refine below_drew ?_ | refine below_alloc ?_ _))); rintro z w3 ⟨rfl, hB3, hkeep⟩; have E3 := Base.Aside.mk hB3; have k3 := S0 _ hB3; obtain ⟨k30, k31, k32⟩ := k3; have s3 := hB3.size; (first | (have z3 := hkeep _ _ (blk_drew (blk_new W2 _)); have C3 := (fun i => blk_cell z3 i); have F3 := (fun i => blk_frozen z3 i); have L3 := blk_lt z3) | skip); clear hB3 hkeep))
      all_goals
        go_wp2_with fail
        go_meet
        case rel =>
          first
          | exact ⟨_, rfl, rfl, ⟨below_alloc E3.out _, blk_new _ _, s3⟩⟩
          | exact ⟨_, rfl, rfl, ⟨GuA.below_setN (GuA.below_setN (GuA.below_setN (GuA.below_setN E3.out (Nat.le_refl _)) (Nat.le_refl _)) (Nat.le_refl _)) (Nat.le_refl _), blk_put (blk_put (blk_put (blk_put z3 0 _ rfl) 1 _ rfl) 2 _ rfl) 3 _ rfl, Nat.le_refl _⟩⟩
    case rest =>
      obtain ⟨N, rfl, rfl, hA⟩ := hcut
      have E4 := Base.Aside.mk hA.out
      have C4 := fun i => blk_cell hA.out.2.1 i
      have L4 := blk_lt hA.out.2.1
      have k4 := S0 _ hA.out.1
      have hx4 := blk_below hx (blk_lt hx) hA.out.1
      have X4 := fun i => blk_cell hx4 i
      have LX := blk_lt hx4
      have hv4 := E2.out.1.below hA.out.1
      have hw4 := (HWA.out _ hv4).1
      have G4 := fun i => blk_cell hw4.g.blk i
      have LG := blk_lt hw4.g.blk
      have hwr := fun W' hW' => write_any (hw4.m.below (w' := W') hW') q.1.1 q.1.2 A zs.length cap zs rfl ((HWA.out _ hv4).2.below hW')
      have E5 := Base.Aside.mk (And.intro hv4 hw4)
      have hy := E2.out.2.2
      have HY := Base.Aside.mk hy
      clear hA k4 hx hfr S0 k0 k1 k2 hv4 hy
      by_cases ht : isTab y.1
      · have htt : (y.1.typ == 2) = true ∨ ((y.1.typ == 2) = false ∧ (y.1.typ == 3) = true) := by
          unfold isTab at ht
          by_cases h2 : y.1.typ = 2
          · exact .inl (by simp [h2])
          · exact .inr ⟨by simp [h2], by simp; omega⟩
        have HT := Base.Aside.mk ht
        clear ht hwr
        rcases htt with h2 | ⟨h2, h3⟩
        all_goals
          go_wp2
          go_ret
          have e1 : pushE s q zs.length = 13 := by unfold pushE; rw [if_neg (by simp [HQ.out]), ← HY.out, if_pos HT.out]
          have e2 : pushS s q zs = s := by unfold pushS; rw [if_neg (by simp [HQ.out]), ← HY.out, if_pos HT.out]
          refine ⟨by rw [e1]; first | rfl | (simp; done), by rw [e2]; exact E5.out.2, E5.out.1.v, E5.out.1.c.mono fun k hk => .inl hk⟩
      · have h2 : (y.1.typ == 2) = false := by simp; exact fun h => ht (.inl h)
        have h3 : (y.1.typ == 3) = false := by simp; exact fun h => ht (.inr h)
        have HT := Base.Aside.mk ht
        clear ht
        obtain ⟨cs, hl1, hl2⟩ := hw4.m.lst
        have ng : gb ≠ fb := bne hw4.g.blk hl1 (by decide)
        clear hl1 hl2 cs
        go_wp2
        go_region_with (first
          | (go_at_call 18; (with_reducible refine (hwr _ ?_).mono ?_); (focus (repeat (with_reducible first | exact Below.refl _ _ | refine below_drew ?_ | refine below_alloc ?_ _))); rintro z w5 ⟨rfl, hM5, hC5⟩; have E6 := Base.Aside.mk (And.intro hM5 hC5); clear hM5 hC5))
        all_goals
          go_wp2
          go_ret
          have e1 : pushE s q zs.length = wrE s q.1.1 q.1.2 zs.length := by unfold pushE; rw [if_neg (by simp [HQ.out]), ← HY.out, if_neg HT.out]
          have e2 : pushS s q zs = wrS s q.1.1 q.1.2 zs := by unfold pushS; rw [if_neg (by simp [HQ.out]), ← HY.out, if_neg HT.out]
          have hd := (Below.refl wc.heap.size wc).drew
          refine ⟨by rw [e1]; first | rfl | (simp; done), by rw [e2]; exact gw_fb (E5.out.2.below hd) E6.out.1 (wrS_n _ _ _ _) E6.out.2, v2_fb (E5.out.1.v.below hd) (E5.out.2.below hd).m E6.out.2, ((E5.out.1.c.trans (Chg.below _ hd)).mono fun k hk => .inl hk).trans (E6.out.2.mono fun k hk => .inr hk)⟩
  · have hb1 : (q.2 != 0) = true := by simp [hq]
    have HQ := Base.Aside.mk hq
    have HWA := Base.Aside.mk HW
    clear hq HW
    go_enter Try.func20, Try.ntmps20
    go_wp2_with (first
      | (go_at_call 50; refine hf1.mono ?_; rintro z w1 ⟨rfl, hv1⟩; have hv2 := (Vw.pre HB.out hVlt hDlt hv1); have hsz := hv2.c.size; have E1 := Base.Aside.mk hv2; clear hv1 hv2)
      | go_in)
    go_ret
    have e1 : pushE s q zs.length = q.2 := by unfold pushE; rw [if_pos HQ.out]
    have e2 : pushS s q zs = s := by unfold pushS; rw [if_pos HQ.out]
    have hv := E1.out.alloc (.cells #[.int .i64 q.1.1, .int .i64 q.1.2] 123)
    exact ⟨by rw [e1]; first | rfl | (simp; done), by rw [e2]; exact (HWA.out _ hv).1, hv.v, hv.c.mono fun k hk => .inl hk⟩
end
end Go.Proofs.Ytjeobbhaoahdcaa.GfH
