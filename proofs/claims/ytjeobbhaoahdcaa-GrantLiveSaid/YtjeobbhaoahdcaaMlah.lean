/- Proved: Push, at every argument (a contract for the laws of the grants). Proved: Copy, at every argument (a contract for the laws of the grants). Proved: the document's map of places as it lies in memory; its New, Find and Set (contracts for the laws of the grants). -/
import Derived.Test.YtjeobbhaoahdcaaMlag
import Derived.Maps.AppendAt
namespace Go.Proofs.Ytjeobbhaoahdcaa.GfH
open Go.RowKit Go.Maps Go.Proofs.Ytjeobbhaoahdcaa.Base Go.Proofs.Ytjeobbhaoahdcaa.GaA Go.Proofs.Ytjeobbhaoahdcaa.GaB Go.Proofs.Ytjeobbhaoahdcaa.GaC Go.Proofs.Ytjeobbhaoahdcaa.GmA Go.Proofs.Ytjeobbhaoahdcaa.GmB Go.Proofs.Ytjeobbhaoahdcaa.GpA Go.Proofs.Ytjeobbhaoahdcaa.GgA Go.Proofs.Ytjeobbhaoahdcaa.GeA Go.Proofs.Ytjeobbhaoahdcaa.GeB Go.Proofs.Ytjeobbhaoahdcaa.GfA Go.Proofs.Ytjeobbhaoahdcaa.GfB Go.Proofs.Ytjeobbhaoahdcaa.GfC Go.Proofs.Ytjeobbhaoahdcaa.GfD Go.Proofs.Ytjeobbhaoahdcaa.GfE Go.Proofs.Ytjeobbhaoahdcaa.GfF Go.Proofs.Ytjeobbhaoahdcaa.GfG Go.Proofs.Ytjeobbhaoahdcaa.GvA
set_option linter.unusedVariables false
set_option linter.unusedSimpArgs false

def isTab (y : Fr) : Prop := y.typ = 2 ∨ y.typ = 3
instance (y : Fr) : Decidable (isTab y) := by unfold isTab; infer_instance
/-- What Push comes to: q is the place. -/
def pushE (s : MS) (q : (Int × Int) × Int) (l : Nat) : Int := if q.2 ≠ 0 then q.2 else if isTab (frV s q.1.1).1 then 13 else wrE s q.1.1 q.1.2 l
def pushS (s : MS) (q : (Int × Int) × Int) (zs : List UInt8) : MS := if q.2 ≠ 0 then s else if isTab (frV s q.1.1).1 then s else wrS s q.1.1 q.1.2 zs
theorem wrS_n (s : MS) (k off : Int) (zs : List UInt8) : (wrS s k off zs).n = s.n := by unfold wrS; split <;> rfl
theorem wrS_fr (s : MS) (k off : Int) (zs : List UInt8) : (wrS s k off zs).fr = s.fr := by unfold wrS; split <;> rfl
theorem pushS_n (s : MS) (q : (Int × Int) × Int) (zs : List UInt8) : (pushS s q zs).n = s.n := by
  unfold pushS
  split
  · rfl
  · split
    · rfl
    · exact wrS_n _ _ _ _
theorem Holds.ne {w : World} {x : Addr} {zs : List UInt8} (h : Holds w x zs) (h0 : zs ≠ []) {g : Nat} {cs : Array Value} {t : TypeId} (hg : w.heap[g]? = some (.cells cs t (0, 0))) (hc : ∀ (i : Nat) (b : Int), cs[i]? ≠ some (Value.int .u8 b)) : x.block ≠ g := by
  rintro rfl
  have hl : 0 < zs.length := List.length_pos_iff.2 h0
  have := h.cell 0 hl
  have e : (x.add 0).block = x.block := add_block x 0
  unfold World.cell? at this
  rw [e, hg] at this
  simp at this
  exact hc _ _ this.2
theorem u8_view (x y : Value) (r : Int) (h1 : ∀ b : Int, x ≠ Value.int .u8 b) (h2 : ∀ b : Int, y ≠ Value.int .u8 b) : ∀ (i : Nat) (b : Int), (#[x, y, Value.int .i64 r] : Array Value)[i]? ≠ some (Value.int .u8 b) := by
  intro i b h
  match i with
  | 0 => exact h1 b (Option.some.inj h)
  | 1 => exact h2 b (Option.some.inj h)
  | 2 => have := Option.some.inj h; injection this with h3; cases h3
  | n + 3 => simp at h
section
variable {w w' W : World} {gb mm hm mb fb : Nat} {f : Int → Option (Int × Nat)} {c : Nat} {s : MS} {pi : Nat → PI} {vb db r r' : Nat}
theorem bytes_vw {A : Option Addr} {zs : List UInt8} {mb' : Nat} (h : Bytes w A zs) (hV : V2 w vb db mb' r) (k : Vw vb db mb' w W r') : Bytes W A zs := by
  rcases h with h | ⟨x, h1, h2⟩
  · exact .inl h
  · by_cases h0 : zs = []
    · exact .inl h0
    · exact .inr ⟨x, h1, h2.chg k.c (Holds.ne h2 h0 hV.blk (u8_view _ _ _ (fun b e => by cases e) (fun b e => by cases e)))⟩
/-- A machine's frames turn, nothing else. -/
theorem gw_fb {s' : MS} (h : GW w gb mm hm mb fb s f c pi) (hM : Mach w' mb fb s') (hn : s'.n = s.n) (hc : Chg (fun x => x = fb) w w') : GW w' gb mm hm mb fb s' f c pi := by
  obtain ⟨cs, h1, h2⟩ := h.m.lst
  exact ⟨h.g.chg hc (bne h.g.blk h1 (by decide)) (fun e => bnm h1 h.g.mem e.symm), hM,
    fun d x hd => ⟨(h.p d x hd).1.chg hc (bne (h.p d x hd).1.blk h1 (by decide)) (fun e => bnm h1 (h.p d x hd).1.mf e.symm) (fun e => bnm h1 (h.p d x hd).1.mp e.symm), (h.p d x hd).2⟩, fun d x hd => ⟨(h.d d x hd).1, by rw [hn]; exact (h.d d x hd).2⟩⟩
theorem v2_fb {mb' : Nat} (h : V2 w vb db mb' r) (hM : Mach w mb fb s) (hc : Chg (fun x => x = fb) w w') : V2 w' vb db mb' r := by
  obtain ⟨cs, h1, h2⟩ := hM.lst
  exact h.chg hc (bne h.blk h1 (by decide)) (fun e => bnm h1 h.due e.symm)
def PushOut (w : World) (gb mm hm mb fb : Nat) (s : MS) (f : Int → Option (Int × Nat)) (c : Nat) (pi : Nat → PI) (q : (Int × Int) × Int) (zs : List UInt8) (vb db r1 : Nat) (e : Ending) (w' : World) : Prop :=
  e = .returned (.int .i64 (pushE s q zs.length)) ∧ GW w' gb mm hm mb fb (pushS s q zs) f c pi ∧ V2 w' vb db mb r1 ∧ Chg (fun x => x = vb ∨ x = fb) w w'
set_option maxHeartbeats 8000000 in
set_option maxRecDepth 100000 in
theorem push_any (h : GW w gb mm hm mb fb s f c pi) (hV : V2 w vb db mb r) (hr : 0 ≤ r) (caller : Int) (t : En) (hd : okI t.dom) (A : Option Addr) (cap : Nat) (zs : List UInt8) (hz : Bytes w A zs) (hl : zs.length ≤ 9223372036854775807) :
    Calls Try.prog 20 #[.pointer (some ⟨gb, 0, none⟩), .pointer (some ⟨vb, 0, none⟩), .int .i64 caller, .agg #[.bool t.gr, .int .i64 t.dom, .int .i64 t.ref, .int .i64 t.gpfn, .int .i64 t.off], .slice A zs.length cap] w (PushOut w gb mm hm mb fb s f c pi (findR s f pi caller t zs.length true) zs vb db (r + findN f caller t zs.length)) := by
  have hVlt := blk_lt hV.blk
  have hDlt := hV.due.lt
  have hb2 : Below w.heap.size w (w.alloc (.cells #[.bool t.gr, .int .i64 t.dom, .int .i64 t.ref, .int .i64 t.gpfn, .int .i64 t.off] 24)) := below_alloc (Below.refl _ _) _
  have hf1 := find_any (h.below hb2) (hV.below hb2) (by omega) caller zs.length t hd true
  generalize findR s f pi caller t zs.length true = q at hf1 ⊢
  generalize r + findN f caller t zs.length = r1 at hf1 ⊢
  have HW := fun W (hW : Vw vb db mb w W r1) => And.intro (h.vw hV hW) (bytes_vw hz hV hW)
  have HB := Base.Aside.mk hb2
  have hgl := blk_lt h.g.blk
  clear h hV hb2 hz
  by_cases hq : q.2 = 0
  · have HQ := Base.Aside.mk hq
    rw [hq] at hf1
    go_enter Try.func20, Try.ntmps20
    go_wp2_with (first
      | (go_at_call 50; refine hf1.mono ?_; rintro z w1 ⟨rfl, hv1⟩; have hv2 := (Vw.pre HB.out hVlt hDlt hv1); have hsz := hv2.c.size; have E1 := Base.Aside.mk hv2; clear hv1 hv2)
      | go_in)
    refine wp_world (fun W => Vw vb db mb w W r1 ∧ W.heap[w1.heap.size]? = some (.cells #[.int .i64 q.1.1, .int .i64 q.1.2] 123 (0, 0))) ⟨E1.out.alloc _, blk_new _ _⟩ ?_
    intro W2 ⟨hv2, hx⟩
    have hw2 := HW _ hv2
    have S0 : ∀ W', Below W2.heap.size W2 W' → W'.cell? ⟨gb, 0, none⟩ = some (.pointer (some ⟨mb, 0, none⟩)) ∧ W'.cell? ⟨w1.heap.size, 0, none⟩ = some (.int .i64 q.1.1) ∧ W'.cell? ⟨w1.heap.size, 1, none⟩ = some (.int .i64 q.1.2) := fun W' hW' =>
      ⟨blk_cell (blk_below hw2.1.g.blk (blk_lt hw2.1.g.blk) hW') 0, blk_cell (blk_below hx (blk_lt hx) hW') 0, blk_cell (blk_below hx (blk_lt hx) hW') 1⟩
    have hfr := fun W' hW' => (frame_any (hw2.1.m.below (w' := W') hW') q.1.1).mono (R' := fun e w' => e = .returned (.tuple #[.agg #[.int .i64 (frV s q.1.1).1.own, .int .i64 (frV s q.1.1).1.typ, .int .i64 (frV s q.1.1).1.cnt, .int .i64 (frV s q.1.1).1.tot], .int .i64 (frV s q.1.1).2]) ∧ Below W2.heap.size W2 w' ∧ ∀ k o, W'.heap[k]? = some o → w'.heap[k]? = some o) (fun e w' h => ⟨h.1, Below.trans hW' (h.2.mono hW'.size), fun k o ho => blk_below ho (blk_lt ho) h.2⟩)
    have hsz2 := hv2.c.size
    have L5 := blk_lt hx
    have L6 := blk_lt hw2.1.g.blk
    obtain ⟨y, hy⟩ : ∃ y, y = frV s q.1.1 := ⟨_, rfl⟩
    rw [← hy] at hfr
    have E2 := Base.Aside.mk (And.intro hv2 (And.intro hw2 hy))
    have C0 := (S0 W2 (Below.refl _ _))
    obtain ⟨k0, k1, k2⟩ := C0
    have HWA := Base.Aside.mk HW
    clear hv2 hw2 hy HW
    go_cut [13, 14] from 28 to 37 (fun v v2 wx => ∃ N : Nat, v = .pointer (some ⟨N, 0, none⟩) ∧ v2 = .int .i64 y.2 ∧ Base.Aside (Below W2.heap.size W2 wx ∧ wx.heap[N]? = some (.cells #[.int .i64 y.1.own, .int .i64 y.1.typ, .int .i64 y.1.cnt, .int .i64 y.1.tot] 46 (0, 0)) ∧ W2.heap.size ≤ N))
    case first =>
      go_region_with (first
        | (go_at_call 13; (with_reducible refine (hfr _ ?_).mono ?_); (focus (repeat (with_reducible first | exact Below.refl _ _ | refine below_drew ?_ | refine below_alloc ?_ _))); rintro z w3 ⟨rfl, hB3, hkeep⟩; have E3 := Base.Aside.mk hB3; have k3 := S0 _ hB3; obtain ⟨k30, k31, k32⟩ := k3; have s3 := hB3.size; (first | (have z3 := hkeep _ _ (blk_drew (blk_new W2 _)); have C3 := (fun i => blk_cell z3 i); have F3 := (fun i => blk_frozen z3 i); have L3 := blk_lt z3) | skip); clear hB3 hkeep))
      all_goals
        go_wp2_with fail
        go_meet
        case rel =>
          first
          | exact ⟨_, rfl, rfl, ⟨below_alloc E3.out _, blk_new _ _, s3⟩⟩
          | exact ⟨_, rfl, rfl, ⟨GuA.below_setN (GuA.below_setN (GuA.below_setN (GuA.below_setN E3.out (Nat.le_refl _)) (Nat.le_refl _)) (Nat.le_refl _)) (Nat.le_refl _), blk_put (blk_put (blk_put (blk_put z3 0 _ rfl) 1 _ rfl) 2 _ rfl) 3 _ rfl, Nat.le_refl _⟩⟩
    case rest =>
      obtain ⟨N, rfl, rfl, hA⟩ := hcut
      have E4 := Base.Aside.mk hA.out
      have C4 := fun i => blk_cell hA.out.2.1 i
      have L4 := blk_lt hA.out.2.1
      have k4 := S0 _ hA.out.1
      have hx4 := blk_below hx (blk_lt hx) hA.out.1
      have X4 := fun i => blk_cell hx4 i
      have LX := blk_lt hx4
      have hv4 := E2.out.1.below hA.out.1
      have hw4 := (HWA.out _ hv4).1
      have G4 := fun i => blk_cell hw4.g.blk i
      have LG := blk_lt hw4.g.blk
      have hwr := fun W' hW' => write_any (hw4.m.below (w' := W') hW') q.1.1 q.1.2 A zs.length cap zs rfl ((HWA.out _ hv4).2.below hW')
      have E5 := Base.Aside.mk (And.intro hv4 hw4)
      have hy := E2.out.2.2
      have HY := Base.Aside.mk hy
      clear hA k4 hx hfr S0 k0 k1 k2 hv4 hy
      by_cases ht : isTab y.1
      · have htt : (y.1.typ == 2) = true ∨ ((y.1.typ == 2) = false ∧ (y.1.typ == 3) = true) := by
          unfold isTab at ht
          by_cases h2 : y.1.typ = 2
          · exact .inl (by simp [h2])
          · exact .inr ⟨by simp [h2], by simp; omega⟩
        have HT := Base.Aside.mk ht
        clear ht hwr
        rcases htt with h2 | ⟨h2, h3⟩
        all_goals
          go_wp2
          go_ret
          have e1 : pushE s q zs.length = 13 := by unfold pushE; rw [if_neg (by simp [HQ.out]), ← HY.out, if_pos HT.out]
          have e2 : pushS s q zs = s := by unfold pushS; rw [if_neg (by simp [HQ.out]), ← HY.out, if_pos HT.out]
          refine ⟨by rw [e1]; first | rfl | (simp; done), by rw [e2]; exact E5.out.2, E5.out.1.v, E5.out.1.c.mono fun k hk => .inl hk⟩
      · have h2 : (y.1.typ == 2) = false := by simp; exact fun h => ht (.inl h)
        have h3 : (y.1.typ == 3) = false := by simp; exact fun h => ht (.inr h)
        have HT := Base.Aside.mk ht
        clear ht
        obtain ⟨cs, hl1, hl2⟩ := hw4.m.lst
        have ng : gb ≠ fb := bne hw4.g.blk hl1 (by decide)
        clear hl1 hl2 cs
        go_wp2
        go_region_with (first
          | (go_at_call 18; (with_reducible refine (hwr _ ?_).mono ?_); (focus (repeat (with_reducible first | exact Below.refl _ _ | refine below_drew ?_ | refine below_alloc ?_ _))); rintro z w5 ⟨rfl, hM5, hC5⟩; have E6 := Base.Aside.mk (And.intro hM5 hC5); clear hM5 hC5))
        all_goals
          go_wp2
          go_ret
          have e1 : pushE s q zs.length = wrE s q.1.1 q.1.2 zs.length := by unfold pushE; rw [if_neg (by simp [HQ.out]), ← HY.out, if_neg HT.out]
          have e2 : pushS s q zs = wrS s q.1.1 q.1.2 zs := by unfold pushS; rw [if_neg (by simp [HQ.out]), ← HY.out, if_neg HT.out]
          have hd := (Below.refl wc.heap.size wc).drew
          refine ⟨by rw [e1]; first | rfl | (simp; done), by rw [e2]; exact gw_fb (E5.out.2.below hd) E6.out.1 (wrS_n _ _ _ _) E6.out.2, v2_fb (E5.out.1.v.below hd) (E5.out.2.below hd).m E6.out.2, ((E5.out.1.c.trans (Chg.below _ hd)).mono fun k hk => .inl hk).trans (E6.out.2.mono fun k hk => .inr hk)⟩
  · have hb1 : (q.2 != 0) = true := by simp [hq]
    have HQ := Base.Aside.mk hq
    have HWA := Base.Aside.mk HW
    clear hq HW
    go_enter Try.func20, Try.ntmps20
    go_wp2_with (first
      | (go_at_call 50; refine hf1.mono ?_; rintro z w1 ⟨rfl, hv1⟩; have hv2 := (Vw.pre HB.out hVlt hDlt hv1); have hsz := hv2.c.size; have E1 := Base.Aside.mk hv2; clear hv1 hv2)
      | go_in)
    go_ret
    have e1 : pushE s q zs.length = q.2 := by unfold pushE; rw [if_pos HQ.out]
    have e2 : pushS s q zs = s := by unfold pushS; rw [if_pos HQ.out]
    have hv := E1.out.alloc (.cells #[.int .i64 q.1.1, .int .i64 q.1.2] 123)
    exact ⟨by rw [e1]; first | rfl | (simp; done), by rw [e2]; exact (HWA.out _ hv).1, hv.v, hv.c.mono fun k hk => .inl hk⟩
end
end Go.Proofs.Ytjeobbhaoahdcaa.GfH
namespace Go.Proofs.Ytjeobbhaoahdcaa.GfI
open Go.RowKit Go.Maps Go.Proofs.Ytjeobbhaoahdcaa.Base Go.Proofs.Ytjeobbhaoahdcaa.GaA Go.Proofs.Ytjeobbhaoahdcaa.GaB Go.Proofs.Ytjeobbhaoahdcaa.GaC Go.Proofs.Ytjeobbhaoahdcaa.GmA Go.Proofs.Ytjeobbhaoahdcaa.GmB Go.Proofs.Ytjeobbhaoahdcaa.GpA Go.Proofs.Ytjeobbhaoahdcaa.GgA Go.Proofs.Ytjeobbhaoahdcaa.GeA Go.Proofs.Ytjeobbhaoahdcaa.GeB Go.Proofs.Ytjeobbhaoahdcaa.GfA Go.Proofs.Ytjeobbhaoahdcaa.GfB Go.Proofs.Ytjeobbhaoahdcaa.GfC Go.Proofs.Ytjeobbhaoahdcaa.GfD Go.Proofs.Ytjeobbhaoahdcaa.GfE Go.Proofs.Ytjeobbhaoahdcaa.GfF Go.Proofs.Ytjeobbhaoahdcaa.GfG Go.Proofs.Ytjeobbhaoahdcaa.GfH Go.Proofs.Ytjeobbhaoahdcaa.GvA
set_option linter.unusedVariables false
set_option linter.unusedSimpArgs false

/-- What Copy comes to: its answer, the machine behind it, and how many reads there were. -/
def copyR (s : MS) (f : Int → Option (Int × Nat)) (pi : Nat → PI) (caller : Int) (t u : En) (n : Int) (r : Nat) : Int × MS × Nat :=
  if (findR s f pi caller t n false).2 ≠ 0 then ((findR s f pi caller t n false).2, s, pullN (findR s f pi caller t n false) (r + findN f caller t n))
  else if ¬ inR s (findR s f pi caller t n false).1.1 (findR s f pi caller t n false).1.2 n then (1, s, pullN (findR s f pi caller t n false) (r + findN f caller t n))
  else (pushE s (findR s f pi caller u n true) n.toNat, pushS s (findR s f pi caller u n true) (MS.rd s (findR s f pi caller t n false).1.1.toNat (findR s f pi caller t n false).1.2.toNat n.toNat), pullN (findR s f pi caller t n false) (r + findN f caller t n) + findN f caller u n)
section
variable {w w' W : World} {gb mm hm mb fb : Nat} {f : Int → Option (Int × Nat)} {c : Nat} {s : MS} {pi : Nat → PI} {vb db r r' : Nat}
def CopyOut (w : World) (gb mm hm mb fb : Nat) (f : Int → Option (Int × Nat)) (c : Nat) (pi : Nat → PI) (R : Int × MS × Nat) (vb db : Nat) (e : Ending) (w' : World) : Prop :=
  e = .returned (.int .i64 R.1) ∧ GW w' gb mm hm mb fb R.2.1 f c pi ∧ V2 w' vb db mb R.2.2 ∧ Chg (fun x => x = vb ∨ x = fb) w w'
theorem box2 (w : World) (t u : En) : Below w.heap.size w ((w.alloc (.cells #[.bool t.gr, .int .i64 t.dom, .int .i64 t.ref, .int .i64 t.gpfn, .int .i64 t.off] 24)).alloc (.cells #[.bool u.gr, .int .i64 u.dom, .int .i64 u.ref, .int .i64 u.gpfn, .int .i64 u.off] 24)) := below_alloc (below_alloc (Below.refl _ _) _) _
theorem pullN_le (q : (Int × Int) × Int) (r : Nat) : pullN q r ≤ r + 1 := by unfold pullN; split <;> omega
set_option maxHeartbeats 8000000 in
set_option maxRecDepth 100000 in
theorem copy_any (h : GW w gb mm hm mb fb s f c pi) (hV : V2 w vb db mb r) (hr : 0 ≤ r) (caller n : Int) (t u : En) (hd : okI t.dom) (hu : okI u.dom) :
    Calls Try.prog 11 #[.pointer (some ⟨gb, 0, none⟩), .pointer (some ⟨vb, 0, none⟩), .int .i64 caller, .agg #[.bool t.gr, .int .i64 t.dom, .int .i64 t.ref, .int .i64 t.gpfn, .int .i64 t.off], .agg #[.bool u.gr, .int .i64 u.dom, .int .i64 u.ref, .int .i64 u.gpfn, .int .i64 u.off], .int .i64 n] w (CopyOut w gb mm hm mb fb f c pi (copyR s f pi caller t u n r) vb db) := by
  have hVlt := blk_lt hV.blk
  have hDlt := hV.due.lt
  have hb2 := box2 w t u
  have hx1 := blk_alloc (blk_new w (.cells #[.bool t.gr, .int .i64 t.dom, .int .i64 t.ref, .int .i64 t.gpfn, .int .i64 t.off] 24)) (.cells #[.bool u.gr, .int .i64 u.dom, .int .i64 u.ref, .int .i64 u.gpfn, .int .i64 u.off] 24)
  have hx2 := blk_new (w.alloc (.cells #[.bool t.gr, .int .i64 t.dom, .int .i64 t.ref, .int .i64 t.gpfn, .int .i64 t.off] 24)) (.cells #[.bool u.gr, .int .i64 u.dom, .int .i64 u.ref, .int .i64 u.gpfn, .int .i64 u.off] 24)
  rw [World.size_alloc] at hx2
  have hp1 := pull_any (h.below hb2) (hV.below hb2) (by omega) caller n t hd
  unfold PullOut at hp1
  have hr1 := pullN_le (findR s f pi caller t n false) (r + findN f caller t n)
  have hr2 := findN_le f caller t n
  obtain ⟨R, hR⟩ : ∃ R, R = copyR s f pi caller t u n r := ⟨_, rfl⟩
  rw [← hR]
  unfold copyR at hR
  generalize findR s f pi caller t n false = q at hp1 hR hr1
  generalize pullN q (r + findN f caller t n) = r1 at hp1 hR hr1
  have HV := fun W (hW : Vw vb db mb w W r1) => h.vw hV hW
  have HB := Base.Aside.mk hb2
  have nv : w.heap.size ≠ vb ∧ w.heap.size + 1 ≠ vb := by omega
  have HX := Base.Aside.mk (And.intro hx1 hx2)
  by_cases hok : q.2 = 0 ∧ inR s q.1.1 q.1.2 n
  · have hR3 : R = (pushE s (findR s f pi caller u n true) n.toNat, pushS s (findR s f pi caller u n true) (MS.rd s q.1.1.toNat q.1.2.toNat n.toNat), r1 + findN f caller u n) := by
      rw [hR, if_neg (by simp [hok.1]), if_neg (by simp [hok.2])]
    generalize hzs : MS.rd s q.1.1.toNat q.1.2.toNat n.toNat = zs at hR3
    have hzl : zs.length = n.toNat := by rw [← hzs, rd_len]
    have hin := hok.2
    unfold inR at hin
    have hzl2 : (zs.length : Int) = n := by omega
    have hp2 := hp1.mono (R' := fun e w' => ∃ N, e = .returned (.tuple #[.slice (some ⟨N, 0, none⟩) zs.length zs.length, .int .i64 0]) ∧ w'.heap[N]? = some (.cells (u8s zs).toArray 5 (0, 0)) ∧ Vw vb db mb ((w.alloc (.cells #[.bool t.gr, .int .i64 t.dom, .int .i64 t.ref, .int .i64 t.gpfn, .int .i64 t.off] 24)).alloc (.cells #[.bool u.gr, .int .i64 u.dom, .int .i64 u.ref, .int .i64 u.gpfn, .int .i64 u.off] 24)) w' r1) (by
      rintro e w' ⟨A, l, er, he, hpo, hv⟩
      rcases hpo with ⟨h1, _⟩ | ⟨_, N, _, hrd⟩
      · exact absurd hok.1 h1
      · rcases hrd.res with ⟨_, rfl, rfl, rfl, hb⟩ | ⟨h2, _⟩
        · exact ⟨N, by rw [he, hzl], by rw [← hzs]; exact hb, hv⟩
        · exact absurd hok.2 h2)
    have hps := fun W (hW : Vw vb db mb w W r1) (A : Option Addr) (hz : Bytes W A zs) => push_any (h.vw hV hW) hW.v (by omega) caller u hu A zs.length zs hz (by omega)
    rw [hzl2, hzl] at hps
    rw [hzl] at hp2
    have HR := Base.Aside.mk (And.intro hR3 hzl)
    clear h hV hb2 hR HV hx1 hx2 hp1 hR3 hok hzs hin
    go_enter Try.func11, Try.ntmps11
    go_wp2_with (first
      | (go_at_call 19; refine hp2.mono ?_; rintro z w1 ⟨N, rfl, hbk, hv1⟩; have hv2 := Vw.pre HB.out hVlt hDlt hv1; have hx3 := hv1.blk HX.out.2 nv.2; have C1 := (fun i => blk_cell hx3 i); have L1 := blk_lt hx3; have hpp := hps _ hv2 (some ⟨N, 0, none⟩) (.inr ⟨_, rfl, Holds.of_block hbk⟩); have E1 := Base.Aside.mk hv2; clear hv1 hv2 hbk hx3)
      | (go_at_call 20; refine hpp.mono ?_; rintro z w2 ⟨rfl, hg2, hv2, hc2⟩; have E2 := Base.Aside.mk (And.intro hg2 (And.intro hv2 hc2)); clear hg2 hv2 hc2)
      | go_in)
    go_ret
    rw [HR.out.1]
    exact ⟨by simp only [HR.out.2]; first | rfl | (simp; done), E2.out.1, E2.out.2.1, (E1.out.c.mono fun k hk => .inl hk).trans E2.out.2.2⟩
  · obtain ⟨er, hp2, hR3, h0⟩ : ∃ er : Int, (Calls Try.prog 19 #[.pointer (some ⟨gb, 0, none⟩), .pointer (some ⟨vb, 0, none⟩), .int .i64 caller, .agg #[.bool t.gr, .int .i64 t.dom, .int .i64 t.ref, .int .i64 t.gpfn, .int .i64 t.off], .int .i64 n] ((w.alloc (.cells #[.bool t.gr, .int .i64 t.dom, .int .i64 t.ref, .int .i64 t.gpfn, .int .i64 t.off] 24)).alloc (.cells #[.bool u.gr, .int .i64 u.dom, .int .i64 u.ref, .int .i64 u.gpfn, .int .i64 u.off] 24)) fun e w' => e = .returned (.tuple #[.slice none 0 0, .int .i64 er]) ∧ Vw vb db mb ((w.alloc (.cells #[.bool t.gr, .int .i64 t.dom, .int .i64 t.ref, .int .i64 t.gpfn, .int .i64 t.off] 24)).alloc (.cells #[.bool u.gr, .int .i64 u.dom, .int .i64 u.ref, .int .i64 u.gpfn, .int .i64 u.off] 24)) w' r1) ∧ R = (er, s, r1) ∧ er ≠ 0 := by
      by_cases hq : q.2 = 0
      · have hn : ¬ inR s q.1.1 q.1.2 n := fun h => hok ⟨hq, h⟩
        refine ⟨1, hp1.mono ?_, by rw [hR, if_neg (by simp [hq]), if_pos hn], by decide⟩
        rintro e w' ⟨A, l, er, he, hpo, hv⟩
        rcases hpo with ⟨h1, _⟩ | ⟨_, N, _, hrd⟩
        · exact absurd hq h1
        · rcases hrd.res with ⟨h2, _⟩ | ⟨h2, rfl, rfl, rfl⟩
          · exact absurd h2 hn
          · exact ⟨he, hv⟩
      · refine ⟨q.2, hp1.mono ?_, by rw [hR, if_pos hq], hq⟩
        rintro e w' ⟨A, l, er, he, hpo, hv⟩
        rcases hpo with ⟨h1, rfl, rfl, rfl⟩ | ⟨h1, _⟩
        · exact ⟨he, hv⟩
        · exact absurd h1 hq
    have hb1 : (er != 0) = true := by simp [h0]
    have HR := Base.Aside.mk (And.intro hR3 HV)
    clear h hV hb2 hR HV hx1 hx2 hp1 hR3 hok h0
    go_enter Try.func11, Try.ntmps11
    go_wp2_with (first
      | (go_at_call 19; refine hp2.mono ?_; rintro z w1 ⟨rfl, hv1⟩; have hv2 := Vw.pre HB.out hVlt hDlt hv1; have E1 := Base.Aside.mk hv2; clear hv1 hv2)
      | go_in)
    go_ret
    rw [HR.out.1]
    exact ⟨by first | rfl | (simp; done), HR.out.2 _ E1.out, E1.out.v, E1.out.c.mono fun k hk => .inl hk⟩
end
end Go.Proofs.Ytjeobbhaoahdcaa.GfI
namespace Go.Proofs.Ytjeobbhaoahdcaa.RpA
open Go.RowKit Go.Maps Go.Proofs.Ytjeobbhaoahdcaa.Base Go.Proofs.Ytjeobbhaoahdcaa.GaA Go.Proofs.Ytjeobbhaoahdcaa.GaB Go.Proofs.Ytjeobbhaoahdcaa.GaC
set_option linter.unusedVariables false
set_option linter.unusedSimpArgs false

theorem info3 : (Try.prog.info? 3).map (fun i => (i.zero, i.size, i.bytes)) = some (some (.int .i64 0), 1, 8) := by kernel_rfl
theorem row_ne {W : World} {g n e size b : Nat} {t : TypeId} {v : Value} {xs : List Value} {cs : Array Value} (hr : W.ownsRow b e size v n xs) (hg : W.heap[g]? = some (.cells cs t (0, 0))) (ht : t ≠ e) : v.ownBlock ≠ some g := by
  obtain ⟨_, ⟨rfl, h0⟩ | ⟨g', cap', cur', rfl, hbase, hb', _⟩⟩ := hr
  · simp [Value.ownBlock]
  · intro e1
    simp only [Value.ownBlock, Option.some.injEq] at e1
    subst e1
    rw [hg] at hb'
    injection hb' with h1
    injection h1 with h1 h2
    exact ht h2
theorem row_full {W : World} {n e size b : Nat} {v : Value} {xs : List Value} (hr : W.ownsRow b e size v n xs) (hn : 0 < n) : ∃ g cap, v = .slice (some ⟨g, 0, none⟩) n cap ∧ b ≤ g := by
  obtain ⟨_, ⟨rfl, h0⟩ | ⟨g', cap', cur', rfl, hbase, hb', _⟩⟩ := hr
  · omega
  · exact ⟨g', cap', rfl, hbase⟩
theorem row_low {W : World} {b e size n : Nat} {v : Value} {xs : List Value} (h : W.ownsRow b e size v n xs) : W.ownsRow 0 e size v n xs := ⟨h.1, h.2.imp id fun ⟨g, cap, cur, h1, _, h2⟩ => ⟨g, cap, cur, h1, Nat.zero_le _, h2⟩⟩
/-- The document's map of places in memory: what stands at each place, or -1. -/
structure R3 (w : World) (qb qr cap : Nat) (L : List Int) : Prop where
  blk : w.heap[qb]? = some (.cells #[.slice (some ⟨qr, 0, none⟩) L.length cap] 160 (0, 0))
  row : w.ownsRow 0 3 1 (.slice (some ⟨qr, 0, none⟩) L.length cap) L.length (L.map (Value.int .i64))
section
variable {w w' : World} {qb qr cap : Nat} {L : List Int}
theorem R3.lt (h : R3 w qb qr cap L) : qb < w.heap.size ∧ qr < w.heap.size := ⟨blk_lt h.blk, (h.row.lt qr rfl).2⟩
theorem R3.ne (h : R3 w qb qr cap L) : qr ≠ qb := fun e => row_ne h.row h.blk (by decide) (by rw [e]; rfl)
theorem row_chg {F : Nat → Prop} {b e size n : Nat} {v : Value} {xs : List Value} (h : w.ownsRow b e size v n xs) (hc : Chg F w w') (h1 : ∀ g, v.ownBlock = some g → ¬ F g) : w'.ownsRow b e size v n xs := by
  obtain ⟨h0, h2 | ⟨g, c, cur, rfl, hb, hg, hr⟩⟩ := h
  · exact ⟨h0, .inl h2⟩
  · exact ⟨h0, .inr ⟨g, c, cur, rfl, hb, hc.blk hg (h1 g rfl), hr⟩⟩
theorem R3.chg {F : Nat → Prop} (h : R3 w qb qr cap L) (hc : Chg F w w') (h1 : ¬ F qb) (h2 : ¬ F qr) : R3 w' qb qr cap L :=
  ⟨hc.blk h.blk h1, row_chg h.row hc (by intro g hg; simp only [Value.ownBlock, Option.some.injEq] at hg; subst hg; exact h2)⟩
theorem R3.below (h : R3 w qb qr cap L) (hb : Below w.heap.size w w') : R3 w' qb qr cap L := h.chg (Chg.below (fun _ => False) hb) (fun h => h) (fun h => h)
theorem R3.cell (h : R3 w qb qr cap L) (j : Nat) (hj : j < L.length) : w.cell? ⟨qr, j, none⟩ = some (.int .i64 (L.getD j 0)) := by
  rw [World.ownsRow.cellAt h.row j (by omega), List.getElem?_map, List.getElem?_eq_getElem hj, List.getD_eq_getElem?_getD, List.getElem?_eq_getElem hj]
  rfl
theorem R3.set (h : R3 w qb qr cap L) (j : Nat) (hj : j < L.length) (x : Int) : R3 (w.setCell ⟨qr, j, none⟩ (.int .i64 x)) qb qr cap (L.set j x) := by
  have hs := World.ownsRow.stored h.row j (.int .i64 x)
  refine ⟨?_, ?_⟩
  · rw [List.length_set]
    exact blk_far h.blk (fun e => h.ne e.symm) _
  · rw [List.length_set, List.map_set]
    exact hs.1
def NewOut (w : World) (n : Nat) (e : Ending) (w' : World) : Prop := ∃ qb qr cap, e = .returned (.tuple #[.pointer (some ⟨qb, 0, none⟩), .int .i64 0]) ∧ w.heap.size ≤ qb ∧ w.heap.size ≤ qr ∧ R3 w' qb qr cap (List.replicate n (-1)) ∧ Below w.heap.size w w'
set_option maxHeartbeats 4000000 in
set_option maxRecDepth 100000 in
theorem new_calls (w : World) (n : Nat) (h0 : 0 < n) (hn : n ≤ 48) : Calls Try.prog 38 #[.int .i64 n] w (NewOut w n) := by
  obtain ⟨i0, hi, hz0, hz1, hz2⟩ := info_parts info3
  have k1 : decide ((n : Int) < 0) = false := decide_eq_false (by omega)
  have k2 : decide ((48 : Int) < (n : Int)) = false := decide_eq_false (by omega)
  go_enter Try.func38, Try.ntmps38
  go_wp2
  go_loopw [5] (fun i wr => ∃ (k : Nat) (v : Value) (W2 : World), k ≤ n ∧ i = .int .i64 k ∧ wr = W2 ∧ Base.Aside (W2.heap[w.heap.size]? = some (.cells #[v] 160 (0, 0)) ∧ W2.ownsRow w.heap.size 3 1 v k (List.replicate k (.int .i64 (-1))) ∧ Below w.heap.size w W2)) (fun i _ => n - (intOf i).toNat)
  case atStart => exact ⟨0, _, _, Nat.zero_le _, rfl, rfl, ⟨blk_new _ _, World.ownsRow_nil _ _ _ _, below_alloc (Below.refl _ _) _⟩⟩
  case round =>
    obtain ⟨k, v, W2, hk, rfl, hwr, hA⟩ := hrel
    obtain rfl := hwr.symm
    have C2 := fun i => blk_cell hA.out.1 i
    have F2 := fun i => blk_frozen hA.out.1 i
    have L2 := blk_lt hA.out.1
    by_cases hlt : k < n
    · go_wp2_with (first
        | (at_builtin; refine wpList_append_own_at _ rfl _ _ 158 rfl w.heap.size 3 i0 (.int .i64 0) 1 8 Try.underlying158 hi hz0 hz1 hz2 rfl (by decide) _ k _ rfl (hA.out.2.1.alloc _) ⟨W2.heap.size, 0, none⟩ 1 1 [.int .i64 (-1)] rfl rfl (cell_one_new _ _ _) (ints_oneCell .i64 [-1]) (by unfold maxLen; omega) (by omega) (by have := hA.out.2.2.size; simp; omega) ?_)
        | go_in)
      intro v' w3 hown hg hnil hloc
      obtain ⟨g2, cap2, rfl, hg2⟩ := row_full hown (by omega)
      have hne := row_ne (hA.out.2.1) hA.out.1 (by decide)
      have hb3 : w3.heap[w.heap.size]? = some (.cells #[v] 160 (0, 0)) := (hg.block _ (by simp; omega) (fun e => hne e.symm)).trans (blk_alloc hA.out.1 _)
      have hB3 : Below w.heap.size w w3 := (below_alloc hA.out.2.2 _).grown hg (by have := hA.out.2.2.size; simp; omega) (fun j hj => (hA.out.2.1.lt j hj).1)
      have C3 := fun i => blk_cell hb3 i
      have F3 := fun i => blk_frozen hb3 i
      have L3 := blk_lt hb3
      have H3 := Base.Aside.mk (And.intro hb3 (And.intro hown hB3))
      clear hb3 hown hB3 hg hnil hloc hne
      go_wp2
      have hne3 := row_ne H3.out.2.1 H3.out.1 (by decide)
      refine ⟨⟨k + 1, .slice (some ⟨g2, 0, none⟩) ((k + 1 : Nat)) cap2, _, by omega, by simp, rfl, ⟨blk_put H3.out.1 0 _ (by simp), ?_, ?_⟩⟩, by simp [intOf]; omega⟩
      · rw [List.replicate_succ']
        exact row_chg H3.out.2.1 (Chg.set (F := fun x => x = w.heap.size) (p := ⟨w.heap.size, 0, none⟩) (Chg.refl _ w3) (.inl rfl) _) (by rintro g hg rfl; exact hne3 hg)
      · exact below_set H3.out.2.2 (Nat.le_refl _) _
    · obtain rfl : k = n := by omega
      go_wp2
      go_ret2
      obtain ⟨hh, ⟨_, h2⟩ | ⟨g, c, cur, rfl, hb, hg, hr⟩⟩ := hA.out.2.1
      · omega
      · have hrow := hA.out.2.1
        refine ⟨_, g, c, rfl, Nat.le_refl _, hb, ⟨?_, ?_⟩, hA.out.2.2⟩
        · rw [List.length_replicate]; exact hA.out.1
        · rw [List.length_replicate, List.map_replicate]; exact row_low hrow
set_option maxHeartbeats 4000000 in
set_option maxRecDepth 100000 in
theorem find_none (h : R3 w qb qr cap L) (hl : L.length ≤ 48) (m : Int) (hm : ∀ j, j < L.length → L.getD j 0 ≠ m) : Calls Try.prog 76 #[.pointer (some ⟨qb, 0, none⟩), .int .i64 m] w fun e w' => e = .returned (.tuple #[.int .i64 0, .int .i64 6]) ∧ w' = w := by
  have C0 := fun i => blk_cell h.blk i
  have L0 := blk_lt h.blk
  have L1 := h.lt.2
  obtain ⟨f, hfe⟩ : ∃ f : Nat → Int, ∀ j, f j = L.getD j 0 := ⟨_, fun _ => rfl⟩
  have hc : ∀ j, j < L.length → w.cell? ⟨qr, j, none⟩ = some (.int .i64 (f j)) := fun j hj => by rw [hfe]; exact h.cell j hj
  have hm' : ∀ j, j < L.length → f j ≠ m := fun j hj => by rw [hfe]; exact hm j hj
  obtain ⟨n, hn⟩ : ∃ n, n = L.length := ⟨_, rfl⟩
  rw [← hn] at C0 hl hc hm'
  have HM := Base.Aside.mk hm'
  clear h hm hm' hfe hn
  go_enter Try.func76, Try.ntmps76
  go_wp2
  go_loopw [6] (fun i wr => ∃ k : Nat, k ≤ n ∧ i = .int .i64 k ∧ wr = w) (fun i _ => n - (intOf i).toNat)
  case atStart => exact ⟨0, Nat.zero_le _, rfl, rfl⟩
  case round =>
    obtain ⟨k, hk, rfl, hwr⟩ := hrel
    obtain rfl := hwr.symm
    by_cases hlt : k < n
    · have hcell := hc k hlt
      have hx := HM.out k hlt
      obtain ⟨x, hxe⟩ : ∃ x, x = f k := ⟨_, rfl⟩
      rw [← hxe] at hcell hx
      have hb1 : (x == m) = false := beq_eq_false_iff_ne.2 hx
      by_cases hp : 0 ≤ x
      · have d1 : decide (0 ≤ x) = true := decide_eq_true hp
        go_wp2
        exact ⟨⟨k + 1, by omega, by simp, trivial⟩, by simp [intOf]; omega⟩
      · have d1 : decide (0 ≤ x) = false := decide_eq_false hp
        go_wp2
        exact ⟨⟨k + 1, by omega, by simp, trivial⟩, by simp [intOf]; omega⟩
    · go_wp2
      go_ret2
      exact ⟨by first | rfl | (simp; done), rfl⟩
set_option maxHeartbeats 4000000 in
set_option maxRecDepth 100000 in
theorem set_calls (h : R3 w qb qr cap L) (hl : L.length ≤ 48) (k : Nat) (hk : k < L.length) (hfree : L.getD k 0 < 0) (m : Nat) (hm : m < 256) (hno : ∀ j, j < L.length → L.getD j 0 ≠ (m : Int)) : Calls Try.prog 42 #[.pointer (some ⟨qb, 0, none⟩), .int .i64 k, .int .i64 m] w fun e w' => e = .returned (.int .i64 0) ∧ R3 w' qb qr cap (L.set k m) ∧ Chg (fun x => x = qr) w w' := by
  have C0 := fun i => blk_cell h.blk i
  have L0 := blk_lt h.blk
  have L1 := h.lt.2
  have c1 := h.cell k hk
  have f1 := World.ownsRow.frozenAt h.row k
  have hf := find_none h hl m hno
  have HS := Base.Aside.mk (And.intro (h.set k hk m) (Chg.set (F := fun x => x = qr) (p := ⟨qr, k, none⟩) (Chg.refl _ w) (.inl rfl) (.int .i64 m)))
  obtain ⟨x, hxe⟩ : ∃ x, x = L.getD k 0 := ⟨_, rfl⟩
  rw [← hxe] at c1 hfree
  obtain ⟨n, hn⟩ : ∃ n, n = L.length := ⟨_, rfl⟩
  rw [← hn] at C0 hl hk
  have d1 : decide ((k : Int) < 0) = false := decide_eq_false (by omega)
  have d2 : decide ((n : Int) ≤ (k : Int)) = false := decide_eq_false (by omega)
  have d3 : decide ((m : Int) < 0) = false := decide_eq_false (by omega)
  have d4 : decide ((256 : Int) ≤ (m : Int)) = false := decide_eq_false (by omega)
  have d5 : decide (0 ≤ x) = false := decide_eq_false (by omega)
  clear h hno hn hxe
  go_enter Try.func42, Try.ntmps42
  go_wp2_with (first
    | (go_at_call 76; refine hf.mono ?_; rintro z w1 ⟨rfl, hw1⟩; obtain rfl := hw1.symm)
    | go_in)
  go_ret
  exact ⟨by first | rfl | (simp; done), HS.out.1, HS.out.2⟩
end
end Go.Proofs.Ytjeobbhaoahdcaa.RpA
