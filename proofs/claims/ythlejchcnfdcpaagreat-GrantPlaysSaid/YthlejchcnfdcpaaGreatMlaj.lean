/- Proved: Pull, at every argument (a contract for the laws of the grants). Proved: Push, at every argument (a contract for the laws of the grants). Proved: Copy, at every argument (a contract for the laws of the grants). Proved: the document's Pack of an entry (a contract for the laws of the grants). Proved: what is packed is read as itself (a plain law for the laws of the grants). -/
import Derived.Test.YthlejchcnfdcpaaGreatMlai
namespace Go.Proofs.YthlejchcnfdcpaaGreat.GfG
open Go.RowKit Go.Maps Base GaA GaB GaC GmA GmB GpA GgA GeA GeB GfA GfB GfC GfD GfE GfF GvA
set_option linter.unusedVariables false
set_option linter.unusedSimpArgs false

/-- What Pull comes to: q is the place. -/
def PullOk (B : Nat) (s : MS) (q : (Int × Int) × Int) (n : Int) (A : Option Addr) (l : Nat) (er : Int) (w' : World) : Prop :=
  (q.2 ≠ 0 ∧ er = q.2 ∧ A = none ∧ l = 0) ∨ (q.2 = 0 ∧ ∃ N, B ≤ N ∧ RdOk N s q.1.1 q.1.2 n A l er w')
theorem findN_le (f : Int → Option (Int × Nat)) (caller : Int) (t : En) (n : Int) : findN f caller t n ≤ 1 := by
  unfold findN lentN
  by_cases h1 : endBad caller n t
  · rw [if_pos h1]; omega
  · rw [if_neg h1]
    cases t.gr
    · simp
    · cases ((f t.dom).isSome && slotB t.ref) <;> simp
def pullN (q : (Int × Int) × Int) (r1 : Nat) : Nat := if q.2 = 0 then r1 + 1 else r1
def PullOut (w : World) (s : MS) (q : (Int × Int) × Int) (n : Int) (vb db mb r1 : Nat) (e : Ending) (w' : World) : Prop :=
  ∃ (A : Option Addr) (l : Nat) (er : Int), e = .returned (.tuple #[.slice A l l, .int .i64 er]) ∧ PullOk w.heap.size s q n A l er w' ∧ Vw vb db mb w w' (pullN q r1)
section
variable {w w' W : World} {gb mm hm mb fb : Nat} {f : Int → Option (Int × Nat)} {c : Nat} {s : MS} {pi : Nat → PI} {vb db r r' : Nat}
set_option maxHeartbeats 8000000 in
set_option maxRecDepth 100000 in
theorem pull_any (h : GW w gb mm hm mb fb s f c pi) (hV : V2 w vb db mb r) (hr : 0 ≤ r) (caller n : Int) (t : En) (hd : okI t.dom) :
    Calls Tryz.prog 86 #[.pointer (some ⟨gb, 0, none⟩), .pointer (some ⟨vb, 0, none⟩), .int .i64 caller, .agg #[.bool t.gr, .int .i64 t.dom, .int .i64 t.ref, .int .i64 t.gpfn, .int .i64 t.off], .int .i64 n] w (PullOut w s (findR s f pi caller t n false) n vb db mb (r + findN f caller t n)) := by
  have hVlt := blk_lt hV.blk
  have hDlt := hV.due.lt
  have hb2 : Below w.heap.size w (w.alloc (.cells #[.bool t.gr, .int .i64 t.dom, .int .i64 t.ref, .int .i64 t.gpfn, .int .i64 t.off] 29)) := below_alloc (Below.refl _ _) _
  have hf1 := find_any (h.below hb2) (hV.below hb2) (by omega) caller n t hd false
  have hrd : ∀ W, Vw vb db mb w W (r + findN f caller t n) → ∀ k o, Calls Tryz.prog 78 #[.pointer (some ⟨vb, 0, none⟩), .int .i64 k, .int .i64 o, .int .i64 n] W (VrOut W vb db mb (r + findN f caller t n) s k o n) := fun W hW k o =>
    vread_any hW.v (h.vw hV hW).m (by have := findN_le f caller t n; omega) k o n
  generalize findR s f pi caller t n false = q at hf1 ⊢
  generalize r + findN f caller t n = r1 at hf1 hrd ⊢
  have HB := Base.Aside.mk hb2
  clear h hV hb2
  by_cases hq : q.2 = 0
  · have HQ := Base.Aside.mk hq
    rw [hq] at hf1
    go_enter Tryz.func86, Tryz.ntmps86
    go_wp2_with (first
      | (go_at_call 109; refine hf1.mono ?_; rintro z w1 ⟨rfl, hv1⟩; have hv2 := (Vw.pre HB.out hVlt hDlt hv1); have hsz := hv2.c.size; have hrd2 := fun cs => hrd _ (hv2.alloc (.cells cs 184)); have E1 := Base.Aside.mk hv2; clear hv1 hv2)
      | (go_at_call 78; refine (hrd2 _ _ _).mono ?_; rintro z w2 ⟨A, l, er, rfl, ho, hv3⟩; have E2 := Base.Aside.mk (And.intro ho hv3); clear ho hv3)
      | go_in)
    go_ret2
    refine ⟨A, l, er, by first | rfl | (simp; done), .inr ⟨HQ.out, _, ?_, E2.out.1⟩, ?_⟩
    · rw [World.size_alloc]; omega
    · have e1 : pullN q r1 = r1 + 1 := if_pos HQ.out
      rw [e1]
      exact (E1.out.alloc _).trans E2.out.2
  · have hb1 : (q.2 != 0) = true := by simp [hq]
    have HQ := Base.Aside.mk hq
    clear hq
    go_enter Tryz.func86, Tryz.ntmps86
    go_wp2_with (first
      | (go_at_call 109; refine hf1.mono ?_; rintro z w1 ⟨rfl, hv1⟩; have E1 := Base.Aside.mk (Vw.pre HB.out hVlt hDlt hv1); clear hv1)
      | go_in)
    go_ret2
    refine ⟨none, 0, q.2, by first | rfl | (simp; done), .inl ⟨HQ.out, rfl, rfl, rfl⟩, ?_⟩
    have e1 : pullN q r1 = r1 := if_neg HQ.out
    rw [e1]
    exact E1.out.alloc _
end
end Go.Proofs.YthlejchcnfdcpaaGreat.GfG
namespace Go.Proofs.YthlejchcnfdcpaaGreat.GfH
open Go.RowKit Go.Maps Base GaA GaB GaC GmA GmB GpA GgA GeA GeB GfA GfB GfC GfD GfE GfF GfG GvA
set_option linter.unusedVariables false
set_option linter.unusedSimpArgs false

def isTab (y : Fr) : Prop := y.typ = 2 ∨ y.typ = 3
instance (y : Fr) : Decidable (isTab y) := by unfold isTab; infer_instance
/-- What Push comes to: q is the place. -/
def pushE (s : MS) (q : (Int × Int) × Int) (l : Nat) : Int := if q.2 ≠ 0 then q.2 else if isTab (frV s q.1.1).1 then 13 else wrE s q.1.1 q.1.2 l
def pushS (s : MS) (q : (Int × Int) × Int) (zs : List UInt8) : MS := if q.2 ≠ 0 then s else if isTab (frV s q.1.1).1 then s else wrS s q.1.1 q.1.2 zs
theorem wrS_n (s : MS) (k off : Int) (zs : List UInt8) : (wrS s k off zs).n = s.n := by unfold wrS; split <;> rfl
theorem wrS_fr (s : MS) (k off : Int) (zs : List UInt8) : (wrS s k off zs).fr = s.fr := by unfold wrS; split <;> rfl
theorem pushS_n (s : MS) (q : (Int × Int) × Int) (zs : List UInt8) : (pushS s q zs).n = s.n := by
  unfold pushS
  split
  · rfl
  · split
    · rfl
    · exact wrS_n _ _ _ _
theorem Holds.ne {w : World} {x : Addr} {zs : List UInt8} (h : Holds w x zs) (h0 : zs ≠ []) {g : Nat} {cs : Array Value} {t : TypeId} (hg : w.heap[g]? = some (.cells cs t (0, 0))) (hc : ∀ (i : Nat) (b : Int), cs[i]? ≠ some (Value.int .u8 b)) : x.block ≠ g := by
  rintro rfl
  have hl : 0 < zs.length := List.length_pos_iff.2 h0
  have := h.cell 0 hl
  have e : (x.add 0).block = x.block := add_block x 0
  unfold World.cell? at this
  rw [e, hg] at this
  simp at this
  exact hc _ _ this.2
theorem u8_view (x y : Value) (r : Int) (h1 : ∀ b : Int, x ≠ Value.int .u8 b) (h2 : ∀ b : Int, y ≠ Value.int .u8 b) : ∀ (i : Nat) (b : Int), (#[x, y, Value.int .i64 r] : Array Value)[i]? ≠ some (Value.int .u8 b) := by
  intro i b h
  match i with
  | 0 => exact h1 b (Option.some.inj h)
  | 1 => exact h2 b (Option.some.inj h)
  | 2 => have := Option.some.inj h; injection this with h3; cases h3
  | n + 3 => simp at h
section
variable {w w' W : World} {gb mm hm mb fb : Nat} {f : Int → Option (Int × Nat)} {c : Nat} {s : MS} {pi : Nat → PI} {vb db r r' : Nat}
theorem bytes_vw {A : Option Addr} {zs : List UInt8} {mb' : Nat} (h : Bytes w A zs) (hV : V2 w vb db mb' r) (k : Vw vb db mb' w W r') : Bytes W A zs := by
  rcases h with h | ⟨x, h1, h2⟩
  · exact .inl h
  · by_cases h0 : zs = []
    · exact .inl h0
    · exact .inr ⟨x, h1, h2.chg k.c (Holds.ne h2 h0 hV.blk (u8_view _ _ _ (fun b e => by cases e) (fun b e => by cases e)))⟩
/-- A machine's frames turn, nothing else. -/
theorem gw_fb {s' : MS} (h : GW w gb mm hm mb fb s f c pi) (hM : Mach w' mb fb s') (hn : s'.n = s.n) (hc : Chg (fun x => x = fb) w w') : GW w' gb mm hm mb fb s' f c pi := by
  obtain ⟨cs, h1, h2⟩ := h.m.lst
  exact ⟨h.g.chg hc (bne h.g.blk h1 (by decide)) (fun e => bnm h1 h.g.mem e.symm), hM,
    fun d x hd => ⟨(h.p d x hd).1.chg hc (bne (h.p d x hd).1.blk h1 (by decide)) (fun e => bnm h1 (h.p d x hd).1.mf e.symm) (fun e => bnm h1 (h.p d x hd).1.mp e.symm), (h.p d x hd).2⟩, fun d x hd => ⟨(h.d d x hd).1, by rw [hn]; exact (h.d d x hd).2⟩⟩
theorem v2_fb {mb' : Nat} (h : V2 w vb db mb' r) (hM : Mach w mb fb s) (hc : Chg (fun x => x = fb) w w') : V2 w' vb db mb' r := by
  obtain ⟨cs, h1, h2⟩ := hM.lst
  exact h.chg hc (bne h.blk h1 (by decide)) (fun e => bnm h1 h.due e.symm)
def PushOut (w : World) (gb mm hm mb fb : Nat) (s : MS) (f : Int → Option (Int × Nat)) (c : Nat) (pi : Nat → PI) (q : (Int × Int) × Int) (zs : List UInt8) (vb db r1 : Nat) (e : Ending) (w' : World) : Prop :=
  e = .returned (.int .i64 (pushE s q zs.length)) ∧ GW w' gb mm hm mb fb (pushS s q zs) f c pi ∧ V2 w' vb db mb r1 ∧ Chg (fun x => x = vb ∨ x = fb) w w'
set_option maxHeartbeats 8000000 in
set_option maxRecDepth 100000 in
theorem push_any (h : GW w gb mm hm mb fb s f c pi) (hV : V2 w vb db mb r) (hr : 0 ≤ r) (caller : Int) (t : En) (hd : okI t.dom) (A : Option Addr) (cap : Nat) (zs : List UInt8) (hz : Bytes w A zs) (hl : zs.length ≤ 9223372036854775807) :
    Calls Tryz.prog 88 #[.pointer (some ⟨gb, 0, none⟩), .pointer (some ⟨vb, 0, none⟩), .int .i64 caller, .agg #[.bool t.gr, .int .i64 t.dom, .int .i64 t.ref, .int .i64 t.gpfn, .int .i64 t.off], .slice A zs.length cap] w (PushOut w gb mm hm mb fb s f c pi (findR s f pi caller t zs.length true) zs vb db (r + findN f caller t zs.length)) := by
  have hVlt := blk_lt hV.blk
  have hDlt := hV.due.lt
  have hb2 : Below w.heap.size w (w.alloc (.cells #[.bool t.gr, .int .i64 t.dom, .int .i64 t.ref, .int .i64 t.gpfn, .int .i64 t.off] 29)) := below_alloc (Below.refl _ _) _
  have hf1 := find_any (h.below hb2) (hV.below hb2) (by omega) caller zs.length t hd true
  generalize findR s f pi caller t zs.length true = q at hf1 ⊢
  generalize r + findN f caller t zs.length = r1 at hf1 ⊢
  have HW := fun W (hW : Vw vb db mb w W r1) => And.intro (h.vw hV hW) (bytes_vw hz hV hW)
  have HB := Base.Aside.mk hb2
  have hgl := blk_lt h.g.blk
  clear h hV hb2 hz
  by_cases hq : q.2 = 0
  · have HQ := Base.Aside.mk hq
    rw [hq] at hf1
    go_enter Tryz.func88, Tryz.ntmps88
    go_wp2_with (first
      | (go_at_call 109; refine hf1.mono ?_; rintro z w1 ⟨rfl, hv1⟩; have hv2 := (Vw.pre HB.out hVlt hDlt hv1); have hsz := hv2.c.size; have E1 := Base.Aside.mk hv2; clear hv1 hv2)
      | go_in)
    refine wp_world (fun W => Vw vb db mb w W r1 ∧ W.heap[w1.heap.size]? = some (.cells #[.int .i64 q.1.1, .int .i64 q.1.2] 184 (0, 0))) ⟨E1.out.alloc _, blk_new _ _⟩ ?_
    intro W2 ⟨hv2, hx⟩
    have hw2 := HW _ hv2
    have S0 : ∀ W', Below W2.heap.size W2 W' → W'.cell? ⟨gb, 0, none⟩ = some (.pointer (some ⟨mb, 0, none⟩)) ∧ W'.cell? ⟨w1.heap.size, 0, none⟩ = some (.int .i64 q.1.1) ∧ W'.cell? ⟨w1.heap.size, 1, none⟩ = some (.int .i64 q.1.2) := fun W' hW' =>
      ⟨blk_cell (blk_below hw2.1.g.blk (blk_lt hw2.1.g.blk) hW') 0, blk_cell (blk_below hx (blk_lt hx) hW') 0, blk_cell (blk_below hx (blk_lt hx) hW') 1⟩
    have hfr := fun W' hW' => (frame_any (hw2.1.m.below (w' := W') hW') q.1.1).mono (R' := fun e w' => e = .returned (.tuple #[.agg #[.int .i64 (frV s q.1.1).1.own, .int .i64 (frV s q.1.1).1.typ, .int .i64 (frV s q.1.1).1.cnt, .int .i64 (frV s q.1.1).1.tot], .int .i64 (frV s q.1.1).2]) ∧ Below W2.heap.size W2 w' ∧ ∀ k o, W'.heap[k]? = some o → w'.heap[k]? = some o) (fun e w' h => ⟨h.1, Below.trans hW' (h.2.mono hW'.size), fun k o ho => blk_below ho (blk_lt ho) h.2⟩)
    have hsz2 := hv2.c.size
    have L5 := blk_lt hx
    have L6 := blk_lt hw2.1.g.blk
    obtain ⟨y, hy⟩ : ∃ y, y = frV s q.1.1 := ⟨_, rfl⟩
    rw [← hy] at hfr
    have E2 := Base.Aside.mk (And.intro hv2 (And.intro hw2 hy))
    have C0 := (S0 W2 (Below.refl _ _))
    obtain ⟨k0, k1, k2⟩ := C0
    have HWA := Base.Aside.mk HW
    clear hv2 hw2 hy HW
    go_cut [13, 14] from 28 to 37 (fun v v2 wx => ∃ N : Nat, v = .pointer (some ⟨N, 0, none⟩) ∧ v2 = .int .i64 y.2 ∧ Base.Aside (Below W2.heap.size W2 wx ∧ wx.heap[N]? = some (.cells #[.int .i64 y.1.own, .int .i64 y.1.typ, .int .i64 y.1.cnt, .int .i64 y.1.tot] 95 (0, 0)) ∧ W2.heap.size ≤ N))
    case first =>
      go_region_with (first
        | (go_at_call 36; (with_reducible refine (hfr _ ?_).mono ?_); (focus (repeat (with_reducible first | exact Below.refl _ _ | refine below_drew ?_ | refine below_alloc ?_ _))); rintro z w3 ⟨rfl, hB3, hkeep⟩; have E3 := Base.Aside.mk hB3; have k3 := S0 _ hB3; obtain ⟨k30, k31, k32⟩ := k3; have s3 := hB3.size; (first | (have z3 := hkeep _ _ (blk_drew (blk_new W2 _)); have C3 := (fun i => blk_cell z3 i); have F3 := (fun i => blk_frozen z3 i); have L3 := blk_lt z3) | skip); clear hB3 hkeep))
      all_goals
        go_wp2_with fail
        go_meet
        case rel =>
          first
          | exact ⟨_, rfl, rfl, ⟨below_alloc E3.out _, blk_new _ _, s3⟩⟩
          | exact ⟨_, rfl, rfl, ⟨GuA.below_setN (GuA.below_setN (GuA.below_setN (GuA.below_setN E3.out (Nat.le_refl _)) (Nat.le_refl _)) (Nat.le_refl _)) (Nat.le_refl _), blk_put (blk_put (blk_put (blk_put z3 0 _ rfl) 1 _ rfl) 2 _ rfl) 3 _ rfl, Nat.le_refl _⟩⟩
    case rest =>
      obtain ⟨N, rfl, rfl, hA⟩ := hcut
      have E4 := Base.Aside.mk hA.out
      have C4 := fun i => blk_cell hA.out.2.1 i
      have L4 := blk_lt hA.out.2.1
      have k4 := S0 _ hA.out.1
      have hx4 := blk_below hx (blk_lt hx) hA.out.1
      have X4 := fun i => blk_cell hx4 i
      have LX := blk_lt hx4
      have hv4 := E2.out.1.below hA.out.1
      have hw4 := (HWA.out _ hv4).1
      have G4 := fun i => blk_cell hw4.g.blk i
      have LG := blk_lt hw4.g.blk
      have hwr := fun W' hW' => write_any (hw4.m.below (w' := W') hW') q.1.1 q.1.2 A zs.length cap zs rfl ((HWA.out _ hv4).2.below hW')
      have E5 := Base.Aside.mk (And.intro hv4 hw4)
      have hy := E2.out.2.2
      have HY := Base.Aside.mk hy
      clear hA k4 hx hfr S0 k0 k1 k2 hv4 hy
      by_cases ht : isTab y.1
      · have htt : (y.1.typ == 2) = true ∨ ((y.1.typ == 2) = false ∧ (y.1.typ == 3) = true) := by
          unfold isTab at ht
          by_cases h2 : y.1.typ = 2
          · exact .inl (by simp [h2])
          · exact .inr ⟨by simp [h2], by simp; omega⟩
        have HT := Base.Aside.mk ht
        clear ht hwr
        rcases htt with h2 | ⟨h2, h3⟩
        all_goals
          go_wp2
          go_ret
          have e1 : pushE s q zs.length = 13 := by unfold pushE; rw [if_neg (by simp [HQ.out]), ← HY.out, if_pos HT.out]
          have e2 : pushS s q zs = s := by unfold pushS; rw [if_neg (by simp [HQ.out]), ← HY.out, if_pos HT.out]
          refine ⟨by rw [e1]; first | rfl | (simp; done), by rw [e2]; exact E5.out.2, E5.out.1.v, E5.out.1.c.mono fun k hk => .inl hk⟩
      · have h2 : (y.1.typ == 2) = false := by simp; exact fun h => ht (.inl h)
        have h3 : (y.1.typ == 3) = false := by simp; exact fun h => ht (.inr h)
        have HT := Base.Aside.mk ht
        clear ht
        obtain ⟨cs, hl1, hl2⟩ := hw4.m.lst
        have ng : gb ≠ fb := bne hw4.g.blk hl1 (by decide)
        clear hl1 hl2 cs
        go_wp2
        go_region_with (first
          | (go_at_call 58; (with_reducible refine (hwr _ ?_).mono ?_); (focus (repeat (with_reducible first | exact Below.refl _ _ | refine below_drew ?_ | refine below_alloc ?_ _))); rintro z w5 ⟨rfl, hM5, hC5⟩; have E6 := Base.Aside.mk (And.intro hM5 hC5); clear hM5 hC5))
        all_goals
          go_wp2
          go_ret
          have e1 : pushE s q zs.length = wrE s q.1.1 q.1.2 zs.length := by unfold pushE; rw [if_neg (by simp [HQ.out]), ← HY.out, if_neg HT.out]
          have e2 : pushS s q zs = wrS s q.1.1 q.1.2 zs := by unfold pushS; rw [if_neg (by simp [HQ.out]), ← HY.out, if_neg HT.out]
          have hd := (Below.refl wc.heap.size wc).drew
          refine ⟨by rw [e1]; first | rfl | (simp; done), by rw [e2]; exact gw_fb (E5.out.2.below hd) E6.out.1 (wrS_n _ _ _ _) E6.out.2, v2_fb (E5.out.1.v.below hd) (E5.out.2.below hd).m E6.out.2, ((E5.out.1.c.trans (Chg.below _ hd)).mono fun k hk => .inl hk).trans (E6.out.2.mono fun k hk => .inr hk)⟩
  · have hb1 : (q.2 != 0) = true := by simp [hq]
    have HQ := Base.Aside.mk hq
    have HWA := Base.Aside.mk HW
    clear hq HW
    go_enter Tryz.func88, Tryz.ntmps88
    go_wp2_with (first
      | (go_at_call 109; refine hf1.mono ?_; rintro z w1 ⟨rfl, hv1⟩; have hv2 := (Vw.pre HB.out hVlt hDlt hv1); have hsz := hv2.c.size; have E1 := Base.Aside.mk hv2; clear hv1 hv2)
      | go_in)
    go_ret
    have e1 : pushE s q zs.length = q.2 := by unfold pushE; rw [if_pos HQ.out]
    have e2 : pushS s q zs = s := by unfold pushS; rw [if_pos HQ.out]
    have hv := E1.out.alloc (.cells #[.int .i64 q.1.1, .int .i64 q.1.2] 184)
    exact ⟨by rw [e1]; first | rfl | (simp; done), by rw [e2]; exact (HWA.out _ hv).1, hv.v, hv.c.mono fun k hk => .inl hk⟩
end
end Go.Proofs.YthlejchcnfdcpaaGreat.GfH
namespace Go.Proofs.YthlejchcnfdcpaaGreat.GfI
open Go.RowKit Go.Maps Base GaA GaB GaC GmA GmB GpA GgA GeA GeB GfA GfB GfC GfD GfE GfF GfG GfH GvA
set_option linter.unusedVariables false
set_option linter.unusedSimpArgs false

/-- What Copy comes to: its answer, the machine behind it, and how many reads there were. -/
def copyR (s : MS) (f : Int → Option (Int × Nat)) (pi : Nat → PI) (caller : Int) (t u : En) (n : Int) (r : Nat) : Int × MS × Nat :=
  if (findR s f pi caller t n false).2 ≠ 0 then ((findR s f pi caller t n false).2, s, pullN (findR s f pi caller t n false) (r + findN f caller t n))
  else if ¬ inR s (findR s f pi caller t n false).1.1 (findR s f pi caller t n false).1.2 n then (1, s, pullN (findR s f pi caller t n false) (r + findN f caller t n))
  else (pushE s (findR s f pi caller u n true) n.toNat, pushS s (findR s f pi caller u n true) (MS.rd s (findR s f pi caller t n false).1.1.toNat (findR s f pi caller t n false).1.2.toNat n.toNat), pullN (findR s f pi caller t n false) (r + findN f caller t n) + findN f caller u n)
section
variable {w w' W : World} {gb mm hm mb fb : Nat} {f : Int → Option (Int × Nat)} {c : Nat} {s : MS} {pi : Nat → PI} {vb db r r' : Nat}
def CopyOut (w : World) (gb mm hm mb fb : Nat) (f : Int → Option (Int × Nat)) (c : Nat) (pi : Nat → PI) (R : Int × MS × Nat) (vb db : Nat) (e : Ending) (w' : World) : Prop :=
  e = .returned (.int .i64 R.1) ∧ GW w' gb mm hm mb fb R.2.1 f c pi ∧ V2 w' vb db mb R.2.2 ∧ Chg (fun x => x = vb ∨ x = fb) w w'
theorem box2 (w : World) (t u : En) : Below w.heap.size w ((w.alloc (.cells #[.bool t.gr, .int .i64 t.dom, .int .i64 t.ref, .int .i64 t.gpfn, .int .i64 t.off] 29)).alloc (.cells #[.bool u.gr, .int .i64 u.dom, .int .i64 u.ref, .int .i64 u.gpfn, .int .i64 u.off] 29)) := below_alloc (below_alloc (Below.refl _ _) _) _
theorem pullN_le (q : (Int × Int) × Int) (r : Nat) : pullN q r ≤ r + 1 := by unfold pullN; split <;> omega
set_option maxHeartbeats 8000000 in
set_option maxRecDepth 100000 in
theorem copy_any (h : GW w gb mm hm mb fb s f c pi) (hV : V2 w vb db mb r) (hr : 0 ≤ r) (caller n : Int) (t u : En) (hd : okI t.dom) (hu : okI u.dom) :
    Calls Tryz.prog 82 #[.pointer (some ⟨gb, 0, none⟩), .pointer (some ⟨vb, 0, none⟩), .int .i64 caller, .agg #[.bool t.gr, .int .i64 t.dom, .int .i64 t.ref, .int .i64 t.gpfn, .int .i64 t.off], .agg #[.bool u.gr, .int .i64 u.dom, .int .i64 u.ref, .int .i64 u.gpfn, .int .i64 u.off], .int .i64 n] w (CopyOut w gb mm hm mb fb f c pi (copyR s f pi caller t u n r) vb db) := by
  have hVlt := blk_lt hV.blk
  have hDlt := hV.due.lt
  have hb2 := box2 w t u
  have hx1 := blk_alloc (blk_new w (.cells #[.bool t.gr, .int .i64 t.dom, .int .i64 t.ref, .int .i64 t.gpfn, .int .i64 t.off] 29)) (.cells #[.bool u.gr, .int .i64 u.dom, .int .i64 u.ref, .int .i64 u.gpfn, .int .i64 u.off] 29)
  have hx2 := blk_new (w.alloc (.cells #[.bool t.gr, .int .i64 t.dom, .int .i64 t.ref, .int .i64 t.gpfn, .int .i64 t.off] 29)) (.cells #[.bool u.gr, .int .i64 u.dom, .int .i64 u.ref, .int .i64 u.gpfn, .int .i64 u.off] 29)
  rw [World.size_alloc] at hx2
  have hp1 := pull_any (h.below hb2) (hV.below hb2) (by omega) caller n t hd
  unfold PullOut at hp1
  have hr1 := pullN_le (findR s f pi caller t n false) (r + findN f caller t n)
  have hr2 := findN_le f caller t n
  obtain ⟨R, hR⟩ : ∃ R, R = copyR s f pi caller t u n r := ⟨_, rfl⟩
  rw [← hR]
  unfold copyR at hR
  generalize findR s f pi caller t n false = q at hp1 hR hr1
  generalize pullN q (r + findN f caller t n) = r1 at hp1 hR hr1
  have HV := fun W (hW : Vw vb db mb w W r1) => h.vw hV hW
  have HB := Base.Aside.mk hb2
  have nv : w.heap.size ≠ vb ∧ w.heap.size + 1 ≠ vb := by omega
  have HX := Base.Aside.mk (And.intro hx1 hx2)
  by_cases hok : q.2 = 0 ∧ inR s q.1.1 q.1.2 n
  · have hR3 : R = (pushE s (findR s f pi caller u n true) n.toNat, pushS s (findR s f pi caller u n true) (MS.rd s q.1.1.toNat q.1.2.toNat n.toNat), r1 + findN f caller u n) := by
      rw [hR, if_neg (by simp [hok.1]), if_neg (by simp [hok.2])]
    generalize hzs : MS.rd s q.1.1.toNat q.1.2.toNat n.toNat = zs at hR3
    have hzl : zs.length = n.toNat := by rw [← hzs, rd_len]
    have hin := hok.2
    unfold inR at hin
    have hzl2 : (zs.length : Int) = n := by omega
    have hp2 := hp1.mono (R' := fun e w' => ∃ N, e = .returned (.tuple #[.slice (some ⟨N, 0, none⟩) zs.length zs.length, .int .i64 0]) ∧ w'.heap[N]? = some (.cells (u8s zs).toArray 5 (0, 0)) ∧ Vw vb db mb ((w.alloc (.cells #[.bool t.gr, .int .i64 t.dom, .int .i64 t.ref, .int .i64 t.gpfn, .int .i64 t.off] 29)).alloc (.cells #[.bool u.gr, .int .i64 u.dom, .int .i64 u.ref, .int .i64 u.gpfn, .int .i64 u.off] 29)) w' r1) (by
      rintro e w' ⟨A, l, er, he, hpo, hv⟩
      rcases hpo with ⟨h1, _⟩ | ⟨_, N, _, hrd⟩
      · exact absurd hok.1 h1
      · rcases hrd.res with ⟨_, rfl, rfl, rfl, hb⟩ | ⟨h2, _⟩
        · exact ⟨N, by rw [he, hzl], by rw [← hzs]; exact hb, hv⟩
        · exact absurd hok.2 h2)
    have hps := fun W (hW : Vw vb db mb w W r1) (A : Option Addr) (hz : Bytes W A zs) => push_any (h.vw hV hW) hW.v (by omega) caller u hu A zs.length zs hz (by omega)
    rw [hzl2, hzl] at hps
    rw [hzl] at hp2
    have HR := Base.Aside.mk (And.intro hR3 hzl)
    clear h hV hb2 hR HV hx1 hx2 hp1 hR3 hok hzs hin
    go_enter Tryz.func82, Tryz.ntmps82
    go_wp2_with (first
      | (go_at_call 86; refine hp2.mono ?_; rintro z w1 ⟨N, rfl, hbk, hv1⟩; have hv2 := Vw.pre HB.out hVlt hDlt hv1; have hx3 := hv1.blk HX.out.2 nv.2; have C1 := (fun i => blk_cell hx3 i); have L1 := blk_lt hx3; have hpp := hps _ hv2 (some ⟨N, 0, none⟩) (.inr ⟨_, rfl, Holds.of_block hbk⟩); have E1 := Base.Aside.mk hv2; clear hv1 hv2 hbk hx3)
      | (go_at_call 88; refine hpp.mono ?_; rintro z w2 ⟨rfl, hg2, hv2, hc2⟩; have E2 := Base.Aside.mk (And.intro hg2 (And.intro hv2 hc2)); clear hg2 hv2 hc2)
      | go_in)
    go_ret
    rw [HR.out.1]
    exact ⟨by simp only [HR.out.2]; first | rfl | (simp; done), E2.out.1, E2.out.2.1, (E1.out.c.mono fun k hk => .inl hk).trans E2.out.2.2⟩
  · obtain ⟨er, hp2, hR3, h0⟩ : ∃ er : Int, (Calls Tryz.prog 86 #[.pointer (some ⟨gb, 0, none⟩), .pointer (some ⟨vb, 0, none⟩), .int .i64 caller, .agg #[.bool t.gr, .int .i64 t.dom, .int .i64 t.ref, .int .i64 t.gpfn, .int .i64 t.off], .int .i64 n] ((w.alloc (.cells #[.bool t.gr, .int .i64 t.dom, .int .i64 t.ref, .int .i64 t.gpfn, .int .i64 t.off] 29)).alloc (.cells #[.bool u.gr, .int .i64 u.dom, .int .i64 u.ref, .int .i64 u.gpfn, .int .i64 u.off] 29)) fun e w' => e = .returned (.tuple #[.slice none 0 0, .int .i64 er]) ∧ Vw vb db mb ((w.alloc (.cells #[.bool t.gr, .int .i64 t.dom, .int .i64 t.ref, .int .i64 t.gpfn, .int .i64 t.off] 29)).alloc (.cells #[.bool u.gr, .int .i64 u.dom, .int .i64 u.ref, .int .i64 u.gpfn, .int .i64 u.off] 29)) w' r1) ∧ R = (er, s, r1) ∧ er ≠ 0 := by
      by_cases hq : q.2 = 0
      · have hn : ¬ inR s q.1.1 q.1.2 n := fun h => hok ⟨hq, h⟩
        refine ⟨1, hp1.mono ?_, by rw [hR, if_neg (by simp [hq]), if_pos hn], by decide⟩
        rintro e w' ⟨A, l, er, he, hpo, hv⟩
        rcases hpo with ⟨h1, _⟩ | ⟨_, N, _, hrd⟩
        · exact absurd hq h1
        · rcases hrd.res with ⟨h2, _⟩ | ⟨h2, rfl, rfl, rfl⟩
          · exact absurd h2 hn
          · exact ⟨he, hv⟩
      · refine ⟨q.2, hp1.mono ?_, by rw [hR, if_pos hq], hq⟩
        rintro e w' ⟨A, l, er, he, hpo, hv⟩
        rcases hpo with ⟨h1, rfl, rfl, rfl⟩ | ⟨h1, _⟩
        · exact ⟨he, hv⟩
        · exact absurd h1 hq
    have hb1 : (er != 0) = true := by simp [h0]
    have HR := Base.Aside.mk (And.intro hR3 HV)
    clear h hV hb2 hR HV hx1 hx2 hp1 hR3 hok h0
    go_enter Tryz.func82, Tryz.ntmps82
    go_wp2_with (first
      | (go_at_call 86; refine hp2.mono ?_; rintro z w1 ⟨rfl, hv1⟩; have hv2 := Vw.pre HB.out hVlt hDlt hv1; have E1 := Base.Aside.mk hv2; clear hv1 hv2)
      | go_in)
    go_ret
    rw [HR.out.1]
    exact ⟨by first | rfl | (simp; done), HR.out.2 _ E1.out, E1.out.v, E1.out.c.mono fun k hk => .inl hk⟩
end
end Go.Proofs.YthlejchcnfdcpaaGreat.GfI
namespace Go.Proofs.YthlejchcnfdcpaaGreat.GkA
open Go.RowKit Go.Maps Base GaA GaB GaC GfC
set_option linter.unusedVariables false
set_option linter.unusedSimpArgs false

/-- Which entries can't be packed. -/
def packBad (g : Gr) : Prop := g.kd < 0 ∨ 2 < g.kd ∨ g.dom < 0 ∨ 65536 ≤ g.dom ∨ g.gp < 0 ∨ 65536 ≤ g.gp ∨ g.of < 0 ∨ 255 < g.of ∨ g.le < 1 ∨ 256 < g.le ∨ 256 < g.of + g.le
instance (g : Gr) : Decidable (packBad g) := by unfold packBad; infer_instance
set_option maxHeartbeats 8000000 in
set_option maxRecDepth 100000 in
theorem pack_bad (g : Gr) (hb : packBad g) (w : World) : Calls Tryz.prog 57 #[.agg #[.int .i64 g.kd, .bool g.ro, .bool g.sb, .int .i64 g.dom, .int .i64 g.gp, .int .i64 g.of, .int .i64 g.le]] w fun e w' => e = .returned (.tuple #[.slice none 0 0, .int .i64 1]) ∧ Below w.heap.size w w' := by
  obtain ⟨kd, ro, sb, dom, gp, of, le⟩ := g
  unfold packBad at hb
  simp only at hb ⊢
  by_cases b0 : kd < 0
  · have c0 : decide (kd < 0) = true := decide_eq_true b0
    clear hb b0
    go_enter Tryz.func57, Tryz.ntmps57
    go_wp2
    go_ret2
    exact ⟨by first | rfl | (simp; done), below_alloc (Below.refl _ _) _⟩
  have c0 : decide (kd < 0) = false := decide_eq_false b0
  by_cases b1 : 2 < kd
  · have c1 : decide (2 < kd) = true := decide_eq_true b1
    clear hb b0 b1
    go_enter Tryz.func57, Tryz.ntmps57
    go_wp2
    go_ret2
    exact ⟨by first | rfl | (simp; done), below_alloc (Below.refl _ _) _⟩
  have c1 : decide (2 < kd) = false := decide_eq_false b1
  by_cases b2 : dom < 0
  · have c2 : decide (dom < 0) = true := decide_eq_true b2
    clear hb b0 b1 b2
    go_enter Tryz.func57, Tryz.ntmps57
    go_wp2
    go_ret2
    exact ⟨by first | rfl | (simp; done), below_alloc (Below.refl _ _) _⟩
  have c2 : decide (dom < 0) = false := decide_eq_false b2
  by_cases b3 : 65536 ≤ dom
  · have c3 : decide (65536 ≤ dom) = true := decide_eq_true b3
    clear hb b0 b1 b2 b3
    go_enter Tryz.func57, Tryz.ntmps57
    go_wp2
    go_ret2
    exact ⟨by first | rfl | (simp; done), below_alloc (Below.refl _ _) _⟩
  have c3 : decide (65536 ≤ dom) = false := decide_eq_false b3
  by_cases b4 : gp < 0
  · have c4 : decide (gp < 0) = true := decide_eq_true b4
    clear hb b0 b1 b2 b3 b4
    go_enter Tryz.func57, Tryz.ntmps57
    go_wp2
    go_ret2
    exact ⟨by first | rfl | (simp; done), below_alloc (Below.refl _ _) _⟩
  have c4 : decide (gp < 0) = false := decide_eq_false b4
  by_cases b5 : 65536 ≤ gp
  · have c5 : decide (65536 ≤ gp) = true := decide_eq_true b5
    clear hb b0 b1 b2 b3 b4 b5
    go_enter Tryz.func57, Tryz.ntmps57
    go_wp2
    go_ret2
    exact ⟨by first | rfl | (simp; done), below_alloc (Below.refl _ _) _⟩
  have c5 : decide (65536 ≤ gp) = false := decide_eq_false b5
  by_cases b6 : of < 0
  · have c6 : decide (of < 0) = true := decide_eq_true b6
    clear hb b0 b1 b2 b3 b4 b5 b6
    go_enter Tryz.func57, Tryz.ntmps57
    go_wp2
    go_ret2
    exact ⟨by first | rfl | (simp; done), below_alloc (Below.refl _ _) _⟩
  have c6 : decide (of < 0) = false := decide_eq_false b6
  by_cases b7 : 255 < of
  · have c7 : decide (255 < of) = true := decide_eq_true b7
    clear hb b0 b1 b2 b3 b4 b5 b6 b7
    go_enter Tryz.func57, Tryz.ntmps57
    go_wp2
    go_ret2
    exact ⟨by first | rfl | (simp; done), below_alloc (Below.refl _ _) _⟩
  have c7 : decide (255 < of) = false := decide_eq_false b7
  by_cases b8 : le < 1
  · have c8 : decide (le < 1) = true := decide_eq_true b8
    clear hb b0 b1 b2 b3 b4 b5 b6 b7 b8
    go_enter Tryz.func57, Tryz.ntmps57
    go_wp2
    go_ret2
    exact ⟨by first | rfl | (simp; done), below_alloc (Below.refl _ _) _⟩
  have c8 : decide (le < 1) = false := decide_eq_false b8
  by_cases b9 : 256 < le
  · have c9 : decide (256 < le) = true := decide_eq_true b9
    clear hb b0 b1 b2 b3 b4 b5 b6 b7 b8 b9
    go_enter Tryz.func57, Tryz.ntmps57
    go_wp2
    go_ret2
    exact ⟨by first | rfl | (simp; done), below_alloc (Below.refl _ _) _⟩
  have c9 : decide (256 < le) = false := decide_eq_false b9
  have ca : decide (256 < of + le) = true := decide_eq_true (by omega)
  have k0 : 0 ≤ of := by omega
  have k1 : of ≤ 255 := by omega
  have k2 : 1 ≤ le := by omega
  have k3 : le ≤ 256 := by omega
  clear hb b0 b1 b2 b3 b4 b5 b6 b7 b8 b9
  go_enter Tryz.func57, Tryz.ntmps57
  go_wp2
  go_ret2
  exact ⟨by first | rfl | (simp; done), below_alloc (Below.refl _ _) _⟩
def ofI (x : Int) : UInt8 := UInt8.ofNat x.toNat
theorem ofI_toNat (x : Int) (h0 : 0 ≤ x) (h1 : x < 256) : ((ofI x).toNat : Int) = x := by
  unfold ofI
  rw [UInt8.toNat_ofNat']
  omega
def packN (g : Gr) : Int := g.kd + (if g.ro then 4 else 0) + (if g.sb then 8 else 0)
/-- An entry's bytes. -/
def packZ (g : Gr) : List UInt8 := [ofI (packN g), 0, ofI (g.dom % 256), ofI (g.dom / 256), ofI (g.gp % 256), ofI (g.gp / 256), ofI (if g.sb then g.of else 0), ofI ((if g.sb then g.le else 256) - 1)]
theorem packZ_vals (g : Gr) (hb : ¬ packBad g) : u8s (packZ g) = [.int .u8 (packN g), .int .u8 0, .int .u8 (g.dom % 256), .int .u8 (g.dom / 256), .int .u8 (g.gp % 256), .int .u8 (g.gp / 256), .int .u8 (if g.sb then g.of else 0), .int .u8 ((if g.sb then g.le else 256) - 1)] := by
  unfold packBad at hb
  have hn : 0 ≤ packN g ∧ packN g < 256 := by unfold packN; split <;> split <;> omega
  have h1 : 0 ≤ (if g.sb then g.of else 0) ∧ (if g.sb then g.of else 0) < 256 := by split <;> omega
  have h2 : 0 ≤ ((if g.sb then g.le else 256) - 1) ∧ ((if g.sb then g.le else 256) - 1) < 256 := by split <;> omega
  simp only [u8s, packZ, List.map_cons, List.map_nil]
  rw [ofI_toNat _ hn.1 hn.2, ofI_toNat (g.dom % 256) (by omega) (by omega), ofI_toNat (g.dom / 256) (by omega) (by omega), ofI_toNat (g.gp % 256) (by omega) (by omega), ofI_toNat (g.gp / 256) (by omega) (by omega), ofI_toNat _ h1.1 h1.2, ofI_toNat _ h2.1 h2.2]
  rfl
set_option maxHeartbeats 8000000 in
set_option maxRecDepth 100000 in
theorem pack_good (g : Gr) (hb : ¬ packBad g) (w : World) : Calls Tryz.prog 57 #[.agg #[.int .i64 g.kd, .bool g.ro, .bool g.sb, .int .i64 g.dom, .int .i64 g.gp, .int .i64 g.of, .int .i64 g.le]] w fun e w' => ∃ N, w.heap.size ≤ N ∧ e = .returned (.tuple #[.slice (some ⟨N, 0, none⟩) 8 8, .int .i64 0]) ∧ w'.heap[N]? = some (.cells (u8s (packZ g)).toArray 5 (0, 0)) ∧ Below w.heap.size w w' := by
  have hv := packZ_vals g hb
  obtain ⟨kd, ro, sb, dom, gp, of, le⟩ := g
  unfold packBad at hb
  simp only at hb hv ⊢
  rw [hv]
  have c0 : decide (kd < 0) = false := decide_eq_false (by omega)
  have c1 : decide (2 < kd) = false := decide_eq_false (by omega)
  have c2 : decide (dom < 0) = false := decide_eq_false (by omega)
  have c3 : decide (65536 ≤ dom) = false := decide_eq_false (by omega)
  have c4 : decide (gp < 0) = false := decide_eq_false (by omega)
  have c5 : decide (65536 ≤ gp) = false := decide_eq_false (by omega)
  have c6 : decide (of < 0) = false := decide_eq_false (by omega)
  have c7 : decide (255 < of) = false := decide_eq_false (by omega)
  have c8 : decide (le < 1) = false := decide_eq_false (by omega)
  have c9 : decide (256 < le) = false := decide_eq_false (by omega)
  have ca : decide (256 < of + le) = false := decide_eq_false (by omega)
  have k0 : 0 ≤ of := by omega
  have k1 : of ≤ 255 := by omega
  have k2 : 1 ≤ le := by omega
  have k3 : le ≤ 256 := by omega
  have k4 : 0 ≤ kd := by omega
  have k5 : kd ≤ 2 := by omega
  have k6 : 0 ≤ dom := by omega
  have k7 : dom < 65536 := by omega
  have k8 : 0 ≤ gp := by omega
  have k9 : gp < 65536 := by omega
  clear hb
  cases ro <;> cases sb
  all_goals
    go_enter Tryz.func57, Tryz.ntmps57
    go_wp2
    go_ret2
    go_light
    refine ⟨w.heap.size + 1, by omega, by first | rfl | (simp; done), ?_, below_alloc (below_alloc (Below.refl _ _) _) _⟩
    refine (blk_newest (by simp) _).trans ?_
    simp [packN]
    try omega
end Go.Proofs.YthlejchcnfdcpaaGreat.GkA
namespace Go.Proofs.YthlejchcnfdcpaaGreat.GkB
open Go.RowKit Go.Maps Base GaA GaB GaC GeB GfC GkA
set_option linter.unusedVariables false
set_option linter.unusedSimpArgs false

def ints (zs : List UInt8) : List Int := zs.map fun b => (b.toNat : Int)
/-- What an entry's parts outside a part of a page come to. -/
def whole (g : Gr) : Gr := { g with of := if g.sb then g.of else 0, le := if g.sb then g.le else 256 }
theorem pack_rd (g : Gr) (hb : ¬ packBad g) : GuA.rd (ints (packZ g)) 0 = packN g ∧ GuA.rd (ints (packZ g)) 1 = 0 ∧ GuA.rd (ints (packZ g)) 2 = g.dom % 256 ∧ GuA.rd (ints (packZ g)) 3 = g.dom / 256 ∧ GuA.rd (ints (packZ g)) 4 = g.gp % 256 ∧ GuA.rd (ints (packZ g)) 5 = g.gp / 256 ∧ GuA.rd (ints (packZ g)) 6 = (if g.sb then g.of else 0) ∧ GuA.rd (ints (packZ g)) 7 = (if g.sb then g.le else 256) - 1 := by
  unfold packBad at hb
  have hn : 0 ≤ packN g ∧ packN g < 256 := by unfold packN; split <;> split <;> omega
  have h1 : 0 ≤ (if g.sb then g.of else 0) ∧ (if g.sb then g.of else 0) < 256 := by split <;> omega
  have h2 : 0 ≤ ((if g.sb then g.le else 256) - 1) ∧ ((if g.sb then g.le else 256) - 1) < 256 := by split <;> omega
  exact ⟨ofI_toNat _ hn.1 hn.2, rfl, ofI_toNat _ (by omega) (by omega), ofI_toNat _ (by omega) (by omega), ofI_toNat _ (by omega) (by omega), ofI_toNat _ (by omega) (by omega), ofI_toNat _ h1.1 h1.2, ofI_toNat _ h2.1 h2.2⟩
theorem flags (kd : Int) (ro sb : Bool) (h0 : 0 ≤ kd) (h2 : kd ≤ 2) : bits .and .i64 (kd + (if ro then 4 else 0) + (if sb then 8 else 0)) 3 = kd ∧ (bits .and .i64 (kd + (if ro then 4 else 0) + (if sb then 8 else 0)) 4 != 0) = ro ∧ (bits .and .i64 (kd + (if ro then 4 else 0) + (if sb then 8 else 0)) 8 != 0) = sb ∧ kd + (if ro then 4 else 0) + (if sb then 8 else 0) < 16 := by
  have h : kd = 0 ∨ kd = 1 ∨ kd = 2 := by omega
  rcases h with rfl | rfl | rfl <;> cases ro <;> cases sb <;> decide
theorem pack_ent (g : Gr) (hb : ¬ packBad g) : entE (ints (packZ g)) = 0 ∧ entG (ints (packZ g)) = whole g := by
  obtain ⟨r0, r1, r2, r3, r4, r5, r6, r7⟩ := pack_rd g hb
  unfold packBad at hb
  obtain ⟨f1, f2, f3, f4⟩ := flags g.kd g.ro g.sb (by omega) (by omega)
  have hfl : GuA.fl (ints (packZ g)) = g.kd + (if g.ro then 4 else 0) + (if g.sb then 8 else 0) := by
    unfold GuA.fl
    rw [r0, r1]
    unfold packN
    omega
  have hkd : GuA.kd (ints (packZ g)) = g.kd := by unfold GuA.kd; rw [hfl, f1]
  have hro : GuA.ro (ints (packZ g)) = g.ro := by unfold GuA.ro; rw [hfl, f2]
  have hsb : GuA.sb (ints (packZ g)) = g.sb := by unfold GuA.sb; rw [hfl, f3]
  have hof : GuA.of (ints (packZ g)) = if g.sb then g.of else 0 := by unfold GuA.of; rw [hsb, r6]; split <;> rfl
  have hle : GuA.le (ints (packZ g)) = if g.sb then g.le else 256 := by
    unfold GuA.le
    rw [hsb, r7]
    split <;> omega
  have hnb : ¬ GuA.bad (ints (packZ g)) := by
    unfold GuA.bad
    rw [hfl, hkd, hof, hle]
    rintro (h | h | h)
    · omega
    · omega
    · revert h
      cases g.sb <;> simp <;> omega
  unfold entE entG
  rw [if_neg hnb, if_neg hnb]
  refine ⟨rfl, ?_⟩
  rw [hkd, hro, hsb, hof, hle, r2, r3, r4, r5]
  unfold whole
  congr 1 <;> omega
theorem ent_is (S : MS) (k ref : Nat) (zs : List UInt8) (hl : zs.length = 8) (h : ∀ j, j < 8 → S.byt k (8 * ref + j) = zs.getD j 0) : ent S k ref = ints zs := by
  unfold ent ints MS.rd
  congr 1
  apply List.ext_getElem
  · simp [hl]
  · intro j h1 h2
    have hj : j < 8 := by simpa using h1
    rw [List.getElem_map, List.getElem_range, h j hj, List.getD_eq_getElem?_getD, List.getElem?_eq_getElem h2]
    rfl
end Go.Proofs.YthlejchcnfdcpaaGreat.GkB
