/- Proved: what a machine's Alloc does (a contract for the laws of the grants). Proved: grants as they lie in memory; what Join does (contracts for the laws of the grants). Proved: small functions of the grants: slot, within, joined, unmade, Unpack (contracts for the laws of the grants). -/
import Derived.Test.YthlejchcnfdcpaaGreatMlaa
import Derived.Test.YthlejchcnfdcpaaGreatMlab
import Derived.Test.YthlejchcnfdcpaaGreatMlac
import Derived.RangeFuncNested
import Derived.RangeFuncBound
import Derived.RangeFuncCalls
import Derived.RangeFuncLeaves
import Derived.RangeFuncFrom
import Derived.Shelf.Abstract
import Derived.WalkKit
import Derived.OwnWalkIn
import Derived.TacticsInMore
import Derived.LoopNIn
import Derived.LoopIn
import Derived.Stop.RegionWithIn
import Derived.Sort.QuietIn
namespace Go.Proofs.YthlejchcnfdcpaaGreat.GaD
open Go.RowKit Go.Shelf Base GaA GaB GaC
attribute [local go_sem] Oper.semAt_some
set_option linter.unusedVariables false
set_option linter.unusedSimpArgs false

def owners (s : MS) : Nat → Int := fun i => (s.fr i).own
theorem _root_.Go.Proofs.YthlejchcnfdcpaaGreat.GaA.Mach.belowB {w w' : World} {mb fb : Nat} {s : MS} {B : Nat} (h : Mach w mb fb s) (hm : mb < B) (hf : fb < B) (hb : Below B w w') : Mach w' mb fb s := by
  obtain ⟨cs, h1, h2⟩ := h.lst
  exact ⟨blk_below h.blk hm hb, ⟨cs, blk_below h1 hf hb, h2⟩, h.few⟩
set_option maxHeartbeats 2000000 in
set_option maxRecDepth 100000 in
theorem of_calls (mb : Nat) (owner : Int) (w : World) : Calls Tryz.prog 47 #[.pointer (some ⟨mb, 0, none⟩), .int .i64 owner] w fun e w' =>
    e = .returned (.func (.func 93) #[] #[.pointer (some ⟨w.heap.size, 0, none⟩), .pointer (some ⟨w.heap.size + 1, 0, none⟩)]) ∧ w' = (w.alloc (.cells #[.pointer (some ⟨mb, 0, none⟩)] 40)).alloc (.cells #[.int .i64 owner] 3) := by
  have hmf : ∀ (fn : Fn) (first cap : Array Value) (w : World), (Instr.makeFunc fn first cap).run Tryz.prog w = .ok (.func fn first cap) w := fun _ _ _ _ => rfl
  go_enter Tryz.func47, Tryz.ntmps47
  go_wp2
  go_ret
  exact ⟨by first | rfl | (simp; done), by first | rfl | (simp; done)⟩
/-- The numbers of the first k frames that are an owner's. -/
def mine (o : Nat → Int) (owner : Int) (k : Nat) : List Int := ((List.range k).filter (fun i => o i == owner)).map (fun i : Nat => (i : Int))
theorem mine_hit {o : Nat → Int} {owner : Int} {k : Nat} (h : (o k == owner) = true) : mine o owner (k + 1) = mine o owner k ++ [(k : Int)] := by
  unfold mine
  rw [List.range_succ, List.filter_append]
  simp [h]
theorem mine_miss {o : Nat → Int} {owner : Int} {k : Nat} (h : (o k == owner) = false) : mine o owner (k + 1) = mine o owner k := by
  unfold mine
  rw [List.range_succ, List.filter_append]
  simp [h]
theorem mine_len (o : Nat → Int) (owner : Int) (k : Nat) : (mine o owner k).length ≤ k := by
  unfold mine
  rw [List.length_map]
  have := List.length_filter_le (fun i => o i == owner) (List.range k)
  rwa [List.length_range] at this

set_option maxRecDepth 100000 in
set_option maxHeartbeats 4000000 in
/-- The iterator, for every loop body that keeps what lay below. -/
theorem of1_in (m : Nat) (hm : 1 ≤ m) (l B1 B2 mb fb n n₀ : Nat) (s : MS) (hsn : s.n = n) (o : Nat → Int) (hso : owners s = o) (owner : Int) (hn : n ≤ 1000) (hmb : mb < n₀) (hfb : fb < n₀) (hB1 : B1 < n₀) (hB2 : B2 < n₀) (J Jx : List Int → World → Prop) (W : World) (hJ : AbidesFrom W.heap.size J)
    (hY : ∀ pre (x : Nat) W, x < n → o x = owner → J pre W → pre.length < n → YieldAt Fence.wide (m - 1) Tryz.prog l #[.int .i64 x] W fun e W' =>
      (e = .returned (.bool true) ∧ J (pre ++ [(x : Int)]) W' ∧ Below n₀ W W') ∨ (e = .returned (.bool false) ∧ Jx (pre ++ [(x : Int)]) W'))
    (hb1 : W.cell? ⟨B1, 0, none⟩ = some (.pointer (some ⟨mb, 0, none⟩))) (hb2 : W.cell? ⟨B2, 0, none⟩ = some (.int .i64 owner)) (hM : Mach W mb fb s) (h0 : J [] W) :
    CallsIn Fence.wide m Tryz.prog 93 #[.func (.yield l) #[] #[], .pointer (some ⟨B1, 0, none⟩), .pointer (some ⟨B2, 0, none⟩)] W fun e W' => (∃ v, e = .returned v) ∧
      ((∃ ys, ys = mine o owner n ∧ J ys W') ∨ (∃ pre, (∃ k, k < n ∧ o k = owner ∧ pre = mine o owner k ++ [(k : Int)]) ∧ Jx pre W')) := by
  subst hsn
  subst hso
  have hfn : ∀ f, Fence.wide.fn f := fun _ => trivial
  have hro : Fence.wide.round = none := rfl
  have hsz := fun n => callsIn_wide (n := n).2 (size_calls hM)
  refine callsIn_of_wp Tryz.func93 rfl trivial ?_ rfl
  simp only [Tryz.ntmps93, List.size_toArray, List.length_cons, List.length_nil, Nat.reduceAdd, Nat.reduceSub, Array.replicate_succ, Array.replicate_zero, List.push_toArray, List.append_toArray, List.nil_append, List.cons_append]
  gi_wp2_with (first
    | (gi_at_call 44; refine (hsz _).mono ?_; rintro z w1 ⟨rfl, hw1⟩; obtain rfl := hw1.symm)
    | gi_in)
  gi_loopw [7] (fun i wr => ∃ k : Nat, k ≤ s.n ∧ i = .int .i64 k ∧ J (mine (owners s) owner k) wr ∧ Below n₀ W wr) (fun i _ => s.n - (intOf i).toNat)
  case atStart => exact ⟨0, Nat.zero_le _, rfl, h0, Below.refl _ _⟩
  case round =>
    obtain ⟨k, hk, rfl, hJs, hnx⟩ := hrel
    have hM2 := hM.belowB hmb hfb hnx
    have D1 := (hnx.cell (p := ⟨B1, 0, none⟩) hB1).trans hb1
    have D2 := (hnx.cell (p := ⟨B2, 0, none⟩) hB2).trans hb2
    have C0 := fun i => blk_cell hM2.blk i
    have L0 := hM2.lt
    by_cases hlt : k < s.n
    · have CO : wr.cell? ⟨fb, k * 260, none⟩ = some (.int .i64 (owners s k)) := hM2.own k hlt
      have hdJ : J (mine (owners s) owner k) wr.drew := hJ _ wr wr.drew none hJs ⟨rfl, rfl, rfl, Nat.le_refl _, fun _ _ _ => rfl⟩ (fun r e => by cases e)
      have hdB : Below n₀ W wr.drew := ⟨hnx.os, hnx.tape, hnx.output, hnx.size, hnx.block⟩
      by_cases ho : owners s k = owner
      · have hb : (owners s k == owner) = true := by simpa using ho
        obtain ⟨fn, tmps, assign, body, hy, hR⟩ := hY _ k wr.drew hlt ho hdJ (by have := mine_len (owners s) owner k; omega)
        have hR2 := hR.mono (R' := fun e W' => ∃ bb, e = .returned (.bool bb) ∧ ((bb = true ∧ J (mine (owners s) owner k ++ [(k : Int)]) W' ∧ Below n₀ wr.drew W') ∨ (bb = false ∧ Jx (mine (owners s) owner k ++ [(k : Int)]) W'))) (fun e W' h => h.elim (fun h => ⟨true, h.1, .inl ⟨rfl, h.2⟩⟩) (fun h => ⟨false, h.1, .inr ⟨rfl, h.2⟩⟩))
        clear hR
        gi_wp2
        gi_region_with (refine hR2.mono ?_; rintro e W3 ⟨bb, rfl, hbb⟩)
        all_goals
          rcases hbb with ⟨rfl, hJ3, hk3⟩ | ⟨rfl, hJx3⟩
          · gi_wp2
            go_roundw
            case rel => exact ⟨k + 1, by omega, by simp, by rw [mine_hit hb]; exact hJ3, hdB.trans hk3⟩
            case measure => simp [intOf]; omega
          · gi_wp2
            refine bodyPost_ret (results_none rfl _ _ _) rfl ?_
            exact ⟨⟨_, rfl⟩, .inr ⟨_, ⟨k, hlt, ho, rfl⟩, hJx3⟩⟩
      · have hb : (owners s k == owner) = false := beq_eq_false_iff_ne.2 ho
        gi_wp2
        gi_quiet (fail)
        gi_wp2
        go_roundw
        case rel => exact ⟨k + 1, by omega, by simp, by rw [mine_miss hb]; exact hJ _ wr _ none hJs ⟨rfl, rfl, rfl, Nat.le_refl _, fun _ _ _ => rfl⟩ (fun r e => by cases e), ⟨hnx.os, hnx.tape, hnx.output, hnx.size, hnx.block⟩⟩
        case measure => simp [intOf]; omega
    · obtain rfl : k = s.n := by omega
      gi_wp2
      go_end0
      exact ⟨⟨_, rfl⟩, .inl ⟨_, rfl, hJs⟩⟩
/-- A frame of an owner's. -/
def Own1 (o : Nat → Int) (owner : Int) (n : Nat) : Type := { k : Nat // k < n ∧ o k = owner }
def ints {o : Nat → Int} {owner : Int} {n : Nat} (l : List (Own1 o owner n)) : List Int := l.map (fun a => (a.1 : Int))
theorem ints_snoc {o : Nat → Int} {owner : Int} {n : Nat} (l : List (Own1 o owner n)) (a : Own1 o owner n) : ints (l ++ [a]) = ints l ++ [(a.1 : Int)] := List.map_append
theorem of_stops (m : Nat) (hm : 1 ≤ m) (B1 B2 mb fb n n₀ : Nat) (s : MS) (hsn : s.n = n) (o : Nat → Int) (hso : owners s = o) (owner : Int) (hn : n ≤ 1000) (hmb : mb < n₀) (hfb : fb < n₀) (hB1 : B1 < n₀) (hB2 : B2 < n₀) (w0 : World) (h0 : n₀ ≤ w0.heap.size)
    (hb1 : w0.cell? ⟨B1, 0, none⟩ = some (.pointer (some ⟨mb, 0, none⟩))) (hb2 : w0.cell? ⟨B2, 0, none⟩ = some (.int .i64 owner)) (hM : Mach w0 mb fb s) :
    SeqStopsK Fence.wide m Tryz.prog 93 #[.pointer (some ⟨B1, 0, none⟩), .pointer (some ⟨B2, 0, none⟩)] (fun x : Own1 o owner n => #[.int .i64 x.1]) (Below n₀)
      (fun ys => ints ys = mine o owner n) (fun pre => ∃ k, k < n ∧ o k = owner ∧ ints pre = mine o owner k ++ [(k : Int)]) n w0 := by
  intro l J Jx W hW hJ hJx hY hJ0
  have hW' : Below n₀ w0 W := hW.mono h0
  refine (of1_in m hm l B1 B2 mb fb n n₀ s hsn o hso owner hn hmb hfb hB1 hB2 (fun t W => ∃ la, ints la = t ∧ J la W) (fun t W => ∃ la, ints la = t ∧ Jx la W) W (fun t A B row ⟨la, h1, h2⟩ hg hr => ⟨la, h1, hJ la A B row h2 hg hr⟩) ?_
    ((hW'.cell (p := ⟨B1, 0, none⟩) hB1).trans hb1) ((hW'.cell (p := ⟨B2, 0, none⟩) hB2).trans hb2) (hM.belowB hmb hfb hW') ⟨[], rfl, hJ0⟩).mono ?_
  · rintro pre x W1 hx ho ⟨la, rfl, hla⟩ hlen
    have hy := hY la ⟨x, hx, ho⟩ W1 hla (by simpa [ints] using hlen)
    obtain ⟨fn, tmps, assign, body, h1, h2⟩ := hy
    refine ⟨fn, tmps, assign, body, h1, h2.mono ?_⟩
    rintro e W' (⟨he, hj, hk⟩ | ⟨he, hj⟩)
    · exact .inl ⟨he, ⟨_, ints_snoc la ⟨x, hx, ho⟩, hj⟩, hk⟩
    · exact .inr ⟨he, ⟨_, ints_snoc la ⟨x, hx, ho⟩, hj⟩⟩
  · rintro e W' ⟨hv, ⟨ys, rfl, la, h1, h2⟩ | ⟨pre, ⟨k, hk, ho, rfl⟩, la, h1, h2⟩⟩
    · exact ⟨hv, .inl ⟨la, h1, h2⟩⟩
    · exact ⟨hv, .inr ⟨la, ⟨k, hk, ho, h1⟩, h2⟩⟩

set_option maxHeartbeats 2000000 in
set_option maxRecDepth 100000 in
theorem domain_calls (n : Int) (w : World) : Calls Tryz.prog 46 #[.int .i64 n] w fun e w' => e = .returned (.bool (decide (0 ≤ n) && decide (n < 8))) ∧ w' = w := by
  by_cases h : 0 ≤ n
  · have h1 : decide (0 ≤ n) = true := decide_eq_true h
    go_enter Tryz.func46, Tryz.ntmps46
    go_wp2
    go_ret
    exact ⟨by first | rfl | (rw [h1]; first | rfl | (simp; done)) | (simp [h1]; done), rfl⟩
  · have h1 : decide (0 ≤ n) = false := decide_eq_false h
    go_enter Tryz.func46, Tryz.ntmps46
    go_wp2
    go_ret
    exact ⟨by first | rfl | (rw [h1]; first | rfl | (simp; done)) | (simp [h1]; done), rfl⟩
theorem domain_in (d : Int) (d0 : 0 ≤ d) (d8 : d < 8) (w : World) : Calls Tryz.prog 46 #[.int .i64 d] w fun e w' => e = .returned (.bool true) ∧ w' = w := by
  have h := domain_calls d w
  rw [decide_eq_true d0, decide_eq_true d8] at h
  exact h
/-- One frame gets an owner. -/
def give (s : MS) (k : Nat) (owner : Int) : MS := MS.put1 s k ⟨owner, (s.fr k).typ, (s.fr k).cnt, (s.fr k).tot⟩
theorem Mach.give {w : World} {mb fb : Nat} {s : MS} (h : Mach w mb fb s) (k : Nat) (hk : k < s.n) (owner : Int) : Mach (w.setCell ⟨fb, k * 260, none⟩ (.int .i64 owner)) mb fb (give s k owner) := by
  obtain ⟨cs, h1, h2⟩ := h.lst
  refine ⟨blk_far h.blk h.ne _, ⟨_, blk_put h1 _ _ rfl, ?_⟩, h.few⟩
  have hset := h2.set k 0 hk (by decide) (.int .i64 owner)
  rw [Nat.add_zero] at hset
  refine hset.of fun i j hi hj => ?_
  unfold cellM GaD.give MS.put1
  by_cases hik : i = k
  · subst hik
    by_cases j0 : j = 0
    · subst j0
      simp
    · simp [j0]
  · simp [hik]
theorem keep_blk {B : Nat} {W W' : World} {row : Option Nat} {k : Nat} {o : Obj} (h : W.heap[k]? = some o) (hk : k < B) (hg : W.grownBy W' row) (hr : ∀ r, row = some r → B ≤ r ∧ ∃ o : Obj, W.heap[r]? = some o ∧ o.isCells = false) : W'.heap[k]? = some o :=
  (hg.block k (blk_lt h) (fun e => by have := (hr k e.symm).1; omega)).trans h
/-- What lies behind Alloc, or at its start. -/
structure AllocAt (w W : World) (mb fb : Nat) (s : MS) (owner : Int) (r e : Int) : Prop where
  mach : Mach W mb fb s
  b0 : W.heap[w.heap.size]? = some (.cells #[.pointer (some ⟨mb, 0, none⟩)] 40 (0, 0))
  b1 : W.heap[w.heap.size + 1]? = some (.cells #[.int .i64 owner] 3 (0, 0))
  b2 : W.heap[w.heap.size + 1 + 1]? = some (.cells #[.int .i64 r] 3 (0, 0))
  b3 : W.heap[w.heap.size + 1 + 1 + 1]? = some (.cells #[.int .i64 e] 48 (0, 0))
  size : w.heap.size ≤ W.heap.size
  os : W.os = w.os
  tape : W.tape = w.tape
  output : W.output = w.output
  block : ∀ k, k < w.heap.size → k ≠ fb → W.heap[k]? = w.heap[k]?
theorem AllocAt.own {w : World} {mb fb : Nat} {st : MS} {owner r e : Int} {B : Nat} (hm : mb < w.heap.size) (hf : fb < w.heap.size) (hB : w.heap.size + 4 ≤ B) {β : Type} : OwnFrom B (fun (_ : β) W => AllocAt w W mb fb st owner r e) := by
  intro s A C row h hg hr
  have low : ∀ k, k < B → k < A.heap.size → C.heap[k]? = A.heap[k]? := fun k hk hs => hg.block k hs (fun e => by have := (hr k e.symm).1; omega)
  obtain ⟨cs, h1, h2⟩ := h.mach.lst
  exact ⟨⟨keep_blk h.mach.blk (by omega) hg hr, ⟨cs, keep_blk h1 (by omega) hg hr, h2⟩, h.mach.few⟩, keep_blk h.b0 (by omega) hg hr, keep_blk h.b1 (by omega) hg hr, keep_blk h.b2 (by omega) hg hr, keep_blk h.b3 (by omega) hg hr, Nat.le_trans h.size hg.size, hg.os.trans h.os, hg.tape.trans h.tape, hg.output.trans h.output, fun k hk hn => (low k (by omega) (by have := h.size; omega)).trans (h.block k hk hn)⟩

theorem Mach.far {w : World} {mb fb : Nat} {s : MS} (h : Mach w mb fb s) {p : Addr} (h1 : mb ≠ p.block) (h2 : fb ≠ p.block) (u : Value) : Mach (w.setCell p u) mb fb s := by
  obtain ⟨cs, h3, h4⟩ := h.lst
  exact ⟨blk_far h.blk h1 _, ⟨cs, blk_far h3 h2 _, h4⟩, h.few⟩
theorem Mach.drew {w : World} {mb fb : Nat} {s : MS} (h : Mach w mb fb s) : Mach w.drew mb fb s := ⟨h.blk, h.lst, h.few⟩
theorem AllocAt.step {w W : World} {mb fb : Nat} {s : MS} {d : Int} (h : AllocAt w W mb fb s d 0 0) (hm : mb < w.heap.size) (hf : fb < w.heap.size) (x : Nat) (hx : x < s.n) :
    AllocAt w (((W.drew.setCell ⟨fb, x * 260, none⟩ (.int .i64 d)).setCell ⟨w.heap.size + 1 + 1, 0, none⟩ (.int .i64 x)).setCell ⟨w.heap.size + 1 + 1 + 1, 0, none⟩ (.int .i64 0)) mb fb (give s x d) d x 0 := by
  have e0 : ∀ {g : Nat} {ob : Obj}, W.heap[g]? = some ob → g ≠ fb → (W.drew.setCell ⟨fb, x * 260, none⟩ (.int .i64 d)).heap[g]? = some ob := fun h hg => blk_far (blk_drew h) hg _
  refine ⟨Mach.far (Mach.far (Mach.give (Mach.drew h.mach) x hx d) (p := ⟨w.heap.size + 1 + 1, 0, none⟩) (by show mb ≠ w.heap.size + 1 + 1; omega) (by show fb ≠ w.heap.size + 1 + 1; omega) _) (p := ⟨w.heap.size + 1 + 1 + 1, 0, none⟩) (by show mb ≠ w.heap.size + 1 + 1 + 1; omega) (by show fb ≠ w.heap.size + 1 + 1 + 1; omega) _, blk_far (blk_far (e0 h.b0 (by omega)) (by show w.heap.size ≠ w.heap.size + 1 + 1; omega) _) (by show w.heap.size ≠ w.heap.size + 1 + 1 + 1; omega) _, blk_far (blk_far (e0 h.b1 (by omega)) (by show w.heap.size + 1 ≠ w.heap.size + 1 + 1; omega) _) (by show w.heap.size + 1 ≠ w.heap.size + 1 + 1 + 1; omega) _, blk_far (blk_put (e0 h.b2 (by omega)) 0 _ rfl) (by show w.heap.size + 1 + 1 ≠ w.heap.size + 1 + 1 + 1; omega) _, blk_put (blk_far (e0 h.b3 (by omega)) (by show w.heap.size + 1 + 1 + 1 ≠ w.heap.size + 1 + 1; omega) _) 0 _ rfl, by simp; exact h.size, h.os, h.tape, h.output, fun k hk hn => ?_⟩
  rw [Below.heap_setCell _ _ _ k (by show k ≠ w.heap.size + 1 + 1 + 1; omega), Below.heap_setCell _ _ _ k (by show k ≠ w.heap.size + 1 + 1; omega), Below.heap_setCell _ _ _ k hn]
  exact h.block k hk hn
theorem mine_nil {o : Nat → Int} {owner : Int} {k : Nat} (h : mine o owner k = []) : ∀ j, j < k → o j ≠ owner := by
  intro j hj ho
  unfold mine at h
  rw [List.map_eq_nil_iff, List.filter_eq_nil_iff] at h
  exact h j (List.mem_range.2 hj) (by simpa using ho)
set_option maxRecDepth 100000 in
set_option maxHeartbeats 8000000 in
/-- A domain takes the least free frame. -/
theorem alloc_in (m : Nat) (hm : 6 ≤ m) (w : World) (mb fb : Nat) (s : MS) (d : Int) (d0 : 0 ≤ d) (d8 : d < 8) (hM : Mach w mb fb s) (k : Nat) (hk : k < s.n) (hok : (s.fr k).own = -1) (hlow : ∀ j, j < k → (s.fr j).own ≠ -1) :
    CallsIn Fence.wide m Tryz.prog 13 #[.pointer (some ⟨mb, 0, none⟩), .int .i64 d] w fun e w' => e = .returned (.tuple #[.int .i64 k, .int .i64 0]) ∧ Mach w' mb fb (give s k d) ∧ (w'.os = w.os ∧ w'.tape = w.tape ∧ w'.output = w.output ∧ w.heap.size ≤ w'.heap.size) ∧ ∀ j, j < w.heap.size → j ≠ fb → w'.heap[j]? = w.heap[j]? := by
  have hfn : ∀ f, Fence.wide.fn f := fun _ => trivial
  have hro : Fence.wide.round = none := rfl
  have hm1 : 1 ≤ m := by omega
  have hm2 : 1 ≤ m - 1 := by omega
  refine callsIn_of_wp_marks Tryz.func13 rfl trivial ?_ rfl
  simp only [Tryz.ntmps13, List.size_toArray, List.length_cons, List.length_nil, Nat.reduceAdd, Nat.reduceSub, Array.replicate_succ, Array.replicate_zero, List.push_toArray, List.append_toArray, List.nil_append, List.cons_append]
  have hbm := hM.lt
  have hb0 : Below w.heap.size w ((((w.alloc (.cells #[.pointer (some ⟨mb, 0, none⟩)] 40)).alloc (.cells #[.int .i64 d] 3)).alloc (.cells #[.int .i64 0] 3)).alloc (.cells #[.int .i64 0] 48)) := below_alloc (below_alloc (below_alloc (below_alloc (Below.refl _ _) _) _) _) _
  have hM4 := hM.below hb0
  have hno := fun m => callsIn_wide (n := m).2 (none_calls hM4)
  have hof := fun m => callsIn_wide (n := m).2 (of_calls mb (-1) ((((w.alloc (.cells #[.pointer (some ⟨mb, 0, none⟩)] 40)).alloc (.cells #[.int .i64 d] 3)).alloc (.cells #[.int .i64 0] 3)).alloc (.cells #[.int .i64 0] 48)))
  have hdm := fun m w => callsIn_wide (n := m).2 (domain_in d d0 d8 w)
  gi_wp2_with (first
    | (gi_at_call 46; refine (hdm _ _).mono ?_; rintro z w1 ⟨rfl, hw1⟩; obtain rfl := hw1.symm)
    | (gi_at_call 45; refine (hno _).mono ?_; rintro z w1 ⟨rfl, hw1⟩; obtain rfl := hw1.symm)
    | (gi_at_call 47; refine (hof _).mono ?_; rintro z w1 ⟨rfl, hw1⟩; obtain rfl := hw1)
    | gi_in)
  have hA : AllocAt w ((((((w.alloc (.cells #[.pointer (some ⟨mb, 0, none⟩)] 40)).alloc (.cells #[.int .i64 d] 3)).alloc (.cells #[.int .i64 0] 3)).alloc (.cells #[.int .i64 0] 48)).alloc (.cells #[.pointer (some ⟨mb, 0, none⟩)] 40)).alloc (.cells #[.int .i64 (-1)] 3)) mb fb s d 0 0 := by
    have hb6 := below_alloc (below_alloc hb0 (.cells #[.pointer (some ⟨mb, 0, none⟩)] 40)) (.cells #[.int .i64 (-1)] 3)
    exact ⟨hM.below hb6, blk_alloc (blk_alloc (blk_alloc (blk_alloc (blk_alloc (blk_new _ _) _) _) _) _) _, blk_alloc (blk_alloc (blk_alloc (blk_alloc (blk_newest (by simp) _) _) _) _) _, blk_alloc (blk_alloc (blk_alloc (blk_newest (by simp) _) _) _) _, blk_alloc (blk_alloc (blk_newest (by simp) _) _) _, hb6.size, hb6.os, hb6.tape, hb6.output, fun j hj _ => hb6.block j hj⟩
  have hc4 : ((((((w.alloc (.cells #[.pointer (some ⟨mb, 0, none⟩)] 40)).alloc (.cells #[.int .i64 d] 3)).alloc (.cells #[.int .i64 0] 3)).alloc (.cells #[.int .i64 0] 48)).alloc (.cells #[.pointer (some ⟨mb, 0, none⟩)] 40)).alloc (.cells #[.int .i64 (-1)] 3)).cell? ⟨w.heap.size + 1 + 1 + 1 + 1, 0, none⟩ = some (.pointer (some ⟨mb, 0, none⟩)) :=
    blk_cell (blk_alloc (blk_newest (by simp) _) _) 0
  have hc5 : ((((((w.alloc (.cells #[.pointer (some ⟨mb, 0, none⟩)] 40)).alloc (.cells #[.int .i64 d] 3)).alloc (.cells #[.int .i64 0] 3)).alloc (.cells #[.int .i64 0] 48)).alloc (.cells #[.pointer (some ⟨mb, 0, none⟩)] 40)).alloc (.cells #[.int .i64 (-1)] 3)).cell? ⟨w.heap.size + 1 + 1 + 1 + 1 + 1, 0, none⟩ = some (.int .i64 (-1)) :=
    blk_cell (blk_newest (by simp) _) 0
  have hsz : ((((((w.alloc (.cells #[.pointer (some ⟨mb, 0, none⟩)] 40)).alloc (.cells #[.int .i64 d] 3)).alloc (.cells #[.int .i64 0] 3)).alloc (.cells #[.int .i64 0] 48)).alloc (.cells #[.pointer (some ⟨mb, 0, none⟩)] 40)).alloc (.cells #[.int .i64 (-1)] 3)).heap.size = w.heap.size + 6 := by simp
  generalize ((((((w.alloc (.cells #[.pointer (some ⟨mb, 0, none⟩)] 40)).alloc (.cells #[.int .i64 d] 3)).alloc (.cells #[.int .i64 0] 3)).alloc (.cells #[.int .i64 0] 48)).alloc (.cells #[.pointer (some ⟨mb, 0, none⟩)] 40)).alloc (.cells #[.int .i64 (-1)] 3)) = W0 at hA hc4 hc5 hsz ⊢
  clear hM4 hno hof hb0
  have hst := of_stops (m - 1) hm2 (w.heap.size + 1 + 1 + 1 + 1) (w.heap.size + 1 + 1 + 1 + 1 + 1) mb fb s.n W0.heap.size s rfl (owners s) rfl (-1) hM.few (by omega) (by omega) (by omega) (by omega) W0 (Nat.le_refl _) hc4 hc5 hA.mach
  refine wpIn_rangeFunc_ownF hro hm1 (gf := 93) (lb := #[.pointer (some ⟨w.heap.size + 1 + 1 + 1 + 1, 0, none⟩), .pointer (some ⟨w.heap.size + 1 + 1 + 1 + 1 + 1, 0, none⟩)]) rfl trivial (enters_of Tryz.func93 (by kernel_rfl) rfl)
    hst belowK_t (belowK_b (Nat.le_refl _)) (Below.refl _ _) (fun _ => rfl)
    (fun pre W => pre = [] ∧ AllocAt w W mb fb s d 0 0)
    (fun c pre W => c = .ret ∧ ∃ j, j < s.n ∧ owners s j = -1 ∧ ints pre = [(j : Int)] ∧ AllocAt w W mb fb (give s j d) d j 0)
    (OwnFrom.and (fun s A B row hs hg hr => hs) (AllocAt.own hbm.1 hbm.2 (by omega)))
    (fun c s A B row hs hg hr => ⟨hs.1, hs.2.choose, hs.2.choose_spec.1, hs.2.choose_spec.2.1, hs.2.choose_spec.2.2.1, AllocAt.own (β := Unit) (B := W0.heap.size) hbm.1 hbm.2 (by omega) () A B row hs.2.choose_spec.2.2.2 hg hr⟩)
    ⟨rfl, hA⟩
    (fun x => { tmps := #[.pointer (some ⟨mb, 0, none⟩), .int .i64 d, .pointer (some ⟨w.heap.size, 0, none⟩), .pointer (some ⟨w.heap.size + 1, 0, none⟩), .pointer (some ⟨w.heap.size + 1 + 1, 0, none⟩), .pointer (some ⟨w.heap.size + 1 + 1 + 1, 0, none⟩), .int .i64 x.1, .bool false, .pointer (some ⟨mb, 0, none⟩), .bool false, .bool false, .int .i64 d, .bool true, .bool false, .bool false, undef, undef, .bool false, .pointer (some ⟨mb, 0, none⟩), .func (.func 93) #[] #[.pointer (some ⟨w.heap.size + 1 + 1 + 1 + 1, 0, none⟩), .pointer (some ⟨w.heap.size + 1 + 1 + 1 + 1 + 1, 0, none⟩)], .int .i64 x.1, undef, undef, undef, undef, undef, undef, undef, undef, undef, undef], defers := [] }) ?assign ?body ?done ?stop
  case assign =>
    intro l x W K hK
    gi_wp2
    exact hK
  case body =>
    rintro l pre x W ⟨rfl, hW⟩ _
    have hx := x.2.1
    have hox := x.2.2
    have C0 := fun i => blk_cell hW.b0 i
    have C1 := fun i => blk_cell hW.b1 i
    have C2 := fun i => blk_cell hW.b2 i
    have C3 := fun i => blk_cell hW.b3 i
    have F2 := fun i => blk_frozen hW.b2 i
    have F3 := fun i => blk_frozen hW.b3 i
    have CM := fun i => blk_cell hW.mach.blk i
    have CO := hW.mach.own x.1 hx
    have FO : ∀ i, W.frozen? ⟨fb, i, none⟩ = false := fun i => by
      obtain ⟨cs, h1, h2⟩ := hW.mach.lst
      exact blk_frozen h1 i
    have hns : w.heap.size + 1 + 1 ≠ fb := by omega
    have hns3 : w.heap.size + 1 + 1 + 1 ≠ fb := by omega
    have hst2 := hW.step hbm.1 hbm.2 x.1 hx
    have HS := Aside.mk (And.intro hW hst2)
    clear hW hst2 hst
    gi_wp2
    gi_region_with (fail)
    all_goals gi_wp2
    all_goals exact ⟨(KeepsOthers.setCell W _ _).trans (((KeepsOthers.drew _).trans (KeepsOthers.setCell _ _ _)).trans (KeepsOthers.setCell _ _ _)), rfl, x.1, hx, hox, rfl, HS.out.2⟩
  case done =>
    rintro D ys W hD hys ⟨rfl, hW⟩ hK
    exact absurd hok (mine_nil hys.symm k hk)
  case stop =>
    rintro D c pre W hD ⟨k', hk', hok', hpre⟩ ⟨rfl, j, hj, hoj, hpj, hW⟩ hK
    rw [hpj] at hpre
    have hlen : (mine (owners s) (-1) k').length = 0 := by
      have := congrArg List.length hpre
      rw [List.length_append] at this
      simp only [List.length_cons, List.length_nil] at this
      omega
    have hmn : mine (owners s) (-1) k' = [] := List.length_eq_zero_iff.1 hlen
    rw [hmn] at hpre
    have hjk : j = k' := by
      have : (j : Int) = (k' : Int) := by simpa using hpre
      omega
    have hkk : j = k := by
      subst hjk
      rcases Nat.lt_trichotomy j k with h | h | h
      · exact absurd hoj (hlow j h)
      · exact h
      · exact absurd hok (mine_nil hmn k h)
    subst hkk
    have hP : AllocAt w (W.putObj D (.deferred none)) mb fb (GaD.give s j d) d j 0 := AllocAt.own (β := Unit) (B := W0.heap.size) hbm.1 hbm.2 (by omega) () W _ (some D) hW (grownBy_putObj' W D _) (fun r e => by cases e; exact ⟨hD, _, hK, rfl⟩)
    have C2 := blk_cell hP.b2 0
    have C3 := blk_cell hP.b3 0
    simp only [List.getElem?_toArray, List.getElem?_cons_zero] at C2 C3
    gi_wp2
    refine ⟨by simp, .inl ⟨_, _, rfl, run_takeDeferred hK, ?_⟩⟩
    refine ⟨.tuple #[.int .i64 j, .int .i64 0], ?_, rfl, hP.mach, ⟨hP.os, hP.tape, hP.output, hP.size⟩, hP.block⟩
    simp [results, Tryz.f13, go_sem, C2, C3]
/-- A domain takes the least free frame. -/
theorem alloc_calls (w : World) (mb fb : Nat) (s : MS) (d : Int) (d0 : 0 ≤ d) (d8 : d < 8) (hM : Mach w mb fb s) (k : Nat) (hk : k < s.n) (hok : (s.fr k).own = -1) (hlow : ∀ j, j < k → (s.fr j).own ≠ -1) :
    Calls Tryz.prog 13 #[.pointer (some ⟨mb, 0, none⟩), .int .i64 d] w fun e w' => e = .returned (.tuple #[.int .i64 k, .int .i64 0]) ∧ Mach w' mb fb (give s k d) ∧ (w'.os = w.os ∧ w'.tape = w.tape ∧ w'.output = w.output ∧ w.heap.size ≤ w'.heap.size) ∧ ∀ j, j < w.heap.size → j ≠ fb → w'.heap[j]? = w.heap[j]? :=
  callsIn_wide.1 (alloc_in 6 (Nat.le_refl _) w mb fb s d d0 d8 hM k hk hok hlow)
end Go.Proofs.YthlejchcnfdcpaaGreat.GaD
namespace Go.Proofs.YthlejchcnfdcpaaGreat.GgA
open Go.RowKit Go.Maps Base GaA GaB GmA GpA
set_option linter.unusedVariables false
set_option linter.unusedSimpArgs false

/-- A member: its grant frame, and the block of its places. -/
def mval (x : Int × Nat) : Value := .agg #[.int .i64 x.1, .pointer (some ⟨x.2, 0, none⟩)]
def mvs (f : Int → Option (Int × Nat)) : Int → Option Value := fun x => (f x).map mval
def mput (f : Int → Option (Int × Nat)) (k : Int) (v : Int × Nat) : Int → Option (Int × Nat) := fun x => if x = k then some v else f x
theorem mvs_put (f : Int → Option (Int × Nat)) (k : Int) (v : Int × Nat) : mvs (mput f k v) = put (mvs f) k (mval v) := by
  funext x
  unfold mvs mput put
  split <;> rfl
theorem zeroM (w : World) : (zeroValue 135).run Tryz.prog w = .ok (.agg #[.int .i64 0, .pointer none]) w := Tryz.zeroValue135 w
structure G2 (w : World) (gb mm hm mb : Nat) (f : Int → Option (Int × Nat)) (c : Nat) : Prop where
  blk : w.heap[gb]? = some (.cells #[.pointer (some ⟨mb, 0, none⟩), .map (some mm), .map (some hm)] 117 (0, 0))
  mem : IMap w mm (mvs f) c
section
variable {w w' : World} {gb mm hm mb : Nat} {f : Int → Option (Int × Nat)} {c : Nat}
theorem G2.chg {F : Nat → Prop} (h : G2 w gb mm hm mb f c) (hc : Chg F w w') (h1 : ¬ F gb) (h2 : ¬ F mm) : G2 w' gb mm hm mb f c := ⟨hc.blk h.blk h1, h.mem.chg hc h2⟩
theorem G2.below (h : G2 w gb mm hm mb f c) (hb : Below w.heap.size w w') : G2 w' gb mm hm mb f c := h.chg (Chg.below (fun _ => False) hb) (fun h => h) (fun h => h)
set_option maxHeartbeats 2000000 in
set_option maxRecDepth 100000 in
theorem none_calls (h : G2 w gb mm hm mb f c) : Calls Tryz.prog 52 #[.pointer (some ⟨gb, 0, none⟩)] w fun e w' => e = .returned (.bool false) ∧ w' = w := by
  have C0 := fun i => blk_cell h.blk i
  have L0 := blk_lt h.blk
  clear h
  go_enter Tryz.func52, Tryz.ntmps52
  go_wp2
  go_ret
  exact ⟨by first | rfl | (simp; done), rfl⟩
set_option maxHeartbeats 2000000 in
set_option maxRecDepth 100000 in
theorem domain_calls (n : Int) (w : World) : Calls Tryz.prog 54 #[.int .i64 n] w fun e w' => e = .returned (.bool (decide (0 ≤ n) && decide (n < 8))) ∧ w' = w := by
  by_cases h : 0 ≤ n
  · have h1 : decide (0 ≤ n) = true := decide_eq_true h
    go_enter Tryz.func54, Tryz.ntmps54
    go_wp2
    go_ret
    exact ⟨by first | rfl | (rw [h1]; first | rfl | (simp; done)) | (simp [h1]; done), rfl⟩
  · have h1 : decide (0 ≤ n) = false := decide_eq_false h
    go_enter Tryz.func54, Tryz.ntmps54
    go_wp2
    go_ret
    exact ⟨by first | rfl | (rw [h1]; first | rfl | (simp; done)) | (simp [h1]; done), rfl⟩
theorem domain_in (d : Int) (d0 : 0 ≤ d) (d8 : d < 8) (w : World) : Calls Tryz.prog 54 #[.int .i64 d] w fun e w' => e = .returned (.bool true) ∧ w' = w := by
  have h := domain_calls d w
  rw [decide_eq_true d0, decide_eq_true d8] at h
  exact h
set_option maxHeartbeats 4000000 in
set_option maxRecDepth 100000 in
/-- A domain joins. -/
theorem join_calls (h : G2 w gb mm hm mb f c) {fb : Nat} {s : MS} (hM : Mach w mb fb s) {pb fm pm size c2 : Nat} {fr pl : Int → Option Int} (hP : P2 w pb fm pm size fr pl c2) (d : Int) (d0 : 0 ≤ d) (d8 : d < 8) (k : Nat) (hk : k < s.n) (hn1 : pl (-1) = none) (hd : f d = none) (hc : c < 1000)
    (hg : getE (s.fr k) d 1 = 0) (hf : Fr.few (s.fr k)) (hgf : gb ≠ fb) (hmf : mm ≠ fb) :
    Calls Tryz.prog 17 #[.pointer (some ⟨gb, 0, none⟩), .int .i64 d, .int .i64 k, .pointer (some ⟨pb, 0, none⟩)] w fun e w' =>
      e = .returned (.int .i64 0) ∧ G2 w' gb mm hm mb (mput f d (k, pb)) (c + 1) ∧ Mach w' mb fb (MS.put1 s k (getF (s.fr k) 1)) ∧ Chg (fun x => x = fb ∨ x = mm) w w' := by
  have C0 := fun i => blk_cell h.blk i
  have L0 := blk_lt h.blk
  have hno := none_calls h
  have hfi := find_none hP (-1) (by omega) (by omega) hn1
  have hdo := fun W => domain_in d d0 d8 W
  have e1 : mvs f d = none := by unfold mvs; rw [hd]; rfl
  have hlk := h.mem.look_ok Tryz.underlying114 (zeroM w) d (by omega) (by omega)
  rw [e1] at hlk
  simp only [Option.getD_none, Option.isSome_none] at hlk
  have hb1 := below_alloc (Below.refl w.heap.size w) (.cells #[.int .i64 0, .pointer none] 135)
  have hge := get_calls (hM.below hb1) k hk d 1 (by omega) (by omega) hf
  have HH := Base.Aside.mk (And.intro h (And.intro hM (And.intro hb1 e1)))
  clear h hM hb1 e1 hd hn1 hP hf
  go_enter Tryz.func17, Tryz.ntmps17
  go_wp2_with (first
    | (go_at_call 52; refine hno.mono ?_; rintro z w1 ⟨rfl, hw1⟩; obtain rfl := hw1.symm)
    | (go_at_call 53; refine hfi.mono ?_; rintro z w1 ⟨rfl, hw1⟩; obtain rfl := hw1.symm)
    | (go_at_call 54; refine (hdo _).mono ?_; rintro z w1 ⟨rfl, hw1⟩; obtain rfl := hw1.symm)
    | (go_at_call 55; refine hge.mono ?_; rintro z w2 ⟨rfl, hM2, hC2⟩; have hG2 := (HH.out.1.below HH.out.2.2.1).chg hC2 hgf hmf; have C2 := (fun i => blk_cell hG2.blk i); have L2 := blk_lt hG2.blk; obtain ⟨W3, hr3, hI3, hC3⟩ := hG2.mem.store Tryz.underlying114 d (Int.le_trans (by decide) d0) (Int.le_trans (Int.le_of_lt d8) (by decide)) (.agg #[.int .i64 k, .pointer (some ⟨pb, 0, none⟩)]) (Nat.lt_of_lt_of_le hc (by decide)) HH.out.2.2.2; have E3 := Base.Aside.mk (And.intro hG2 (And.intro hM2 (And.intro hC2 (And.intro hI3 hC3)))); clear hG2 hM2 hC2 hI3 hC3)
    | go_in)
  go_ret
  have E := E3.out
  have nm : ∀ {g : Nat} {cs : Array Value} {t : TypeId} {z : Nat × Nat}, w2.heap[g]? = some (.cells cs t z) → g ≠ mm := by
    intro g cs t z hg' e
    subst e
    obtain ⟨es, clock, h1⟩ := E.1.mem.is
    rw [h1] at hg'
    cases hg'
  have hM3 : Mach w2 mb fb (MS.put1 s k (getF (s.fr k) 1)) := by
    have := E.2.1
    unfold getS at this
    rwa [if_pos hg] at this
  obtain ⟨cs, hl1, hl2⟩ := hM3.lst
  refine ⟨by first | rfl | (simp; done), ⟨E.2.2.2.2.blk E.1.blk (nm E.1.blk), ?_⟩, hM3.chg E.2.2.2.2 (nm hM3.blk) (nm hl1), ((Chg.below _ HH.out.2.2.1).trans (E.2.2.1.mono fun x hx => .inl hx)).trans (E.2.2.2.2.mono fun x hx => .inr hx)⟩
  rw [mvs_put]
  exact E.2.2.2.1
end
end Go.Proofs.YthlejchcnfdcpaaGreat.GgA
namespace Go.Proofs.YthlejchcnfdcpaaGreat.GeA
open Go.RowKit Go.Maps Base GaA GaB GmA GpA GgA
set_option linter.unusedVariables false
set_option linter.unusedSimpArgs false

section
variable {w w' : World} {gb mm hm mb fb : Nat} {f : Int → Option (Int × Nat)} {c : Nat} {s : MS}
theorem slot_in (k : Nat) (hk : k < 32) (w : World) : Calls Tryz.prog 64 #[.int .i64 k] w fun e w' => e = .returned (.bool true) ∧ w' = w := by
  have k0 : decide ((0 : Int) ≤ (k : Int)) = true := decide_eq_true (by omega)
  have k1 : decide ((k : Int) < 32) = true := decide_eq_true (by omega)
  go_enter Tryz.func64, Tryz.ntmps64
  go_wp2
  go_ret
  exact ⟨by first | rfl | (simp; done), rfl⟩
/-- Does a part lie in so many bytes? -/
def inn (off n size : Int) : Bool := decide (0 ≤ off) && (decide (0 ≤ n) && (decide (off ≤ size) && decide (n ≤ size - off)))
set_option maxHeartbeats 2000000 in
set_option maxRecDepth 100000 in
theorem within_calls (off n size : Int) (s0 : 0 ≤ size) (s1 : size ≤ 256) (w : World) : Calls Tryz.prog 77 #[.int .i64 off, .int .i64 n, .int .i64 size] w fun e w' => e = .returned (.bool (inn off n size)) ∧ w' = w := by
  by_cases h0 : 0 ≤ off
  · have d0 : decide (0 ≤ off) = true := decide_eq_true h0
    by_cases h1 : 0 ≤ n
    · have d1 : decide (0 ≤ n) = true := decide_eq_true h1
      by_cases h2 : off ≤ size
      · have d2 : decide (off ≤ size) = true := decide_eq_true h2
        go_enter Tryz.func77, Tryz.ntmps77
        go_wp2
        go_ret
        exact ⟨by simp [inn, d0, d1, d2], by first | rfl | trivial⟩
      · have d2 : decide (off ≤ size) = false := decide_eq_false h2
        go_enter Tryz.func77, Tryz.ntmps77
        go_wp2
        go_ret
        exact ⟨by simp [inn, d0, d1, d2], by first | rfl | trivial⟩
    · have d1 : decide (0 ≤ n) = false := decide_eq_false h1
      go_enter Tryz.func77, Tryz.ntmps77
      go_wp2
      go_ret
      exact ⟨by simp [inn, d0, d1], by first | rfl | trivial⟩
  · have d0 : decide (0 ≤ off) = false := decide_eq_false h0
    go_enter Tryz.func77, Tryz.ntmps77
    go_wp2
    go_ret
    exact ⟨by simp [inn, d0], by first | rfl | trivial⟩
set_option maxHeartbeats 2000000 in
set_option maxRecDepth 100000 in
theorem joined_in (h : G2 w gb mm hm mb f c) (d : Int) (d0 : 0 ≤ d) (d8 : d < 8) (x : Int × Nat) (hd : f d = some x) : Calls Tryz.prog 63 #[.pointer (some ⟨gb, 0, none⟩), .int .i64 d] w fun e w' => e = .returned (.bool true) ∧ Below w.heap.size w w' := by
  have C0 := fun i => blk_cell h.blk i
  have L0 := blk_lt h.blk
  have e1 : mvs f d = some (.agg #[.int .i64 x.1, .pointer (some ⟨x.2, 0, none⟩)]) := by unfold mvs; rw [hd]; rfl
  have hlk := h.mem.look_ok Tryz.underlying114 (zeroM w) d (by omega) (by omega)
  rw [e1] at hlk
  simp only [Option.getD_some, Option.isSome_some] at hlk
  clear h e1
  go_enter Tryz.func63, Tryz.ntmps63
  go_wp2
  go_ret
  exact ⟨by first | rfl | (simp; done), below_alloc (Below.refl _ _) _⟩
set_option maxHeartbeats 2000000 in
set_option maxRecDepth 100000 in
theorem joined_no (h : G2 w gb mm hm mb f c) (d : Int) (d0 : -1000000 ≤ d) (d8 : d ≤ 1000000) (hd : f d = none) : Calls Tryz.prog 63 #[.pointer (some ⟨gb, 0, none⟩), .int .i64 d] w fun e w' => e = .returned (.bool false) ∧ Below w.heap.size w w' := by
  have C0 := fun i => blk_cell h.blk i
  have L0 := blk_lt h.blk
  have e1 : mvs f d = none := by unfold mvs; rw [hd]; rfl
  have hlk := h.mem.look_ok Tryz.underlying114 (zeroM w) d (by omega) (by omega)
  rw [e1] at hlk
  simp only [Option.getD_none, Option.isSome_none] at hlk
  clear h e1
  go_enter Tryz.func63, Tryz.ntmps63
  go_wp2
  go_ret
  exact ⟨by first | rfl | (simp; done), below_alloc (Below.refl _ _) _⟩
theorem unpack_calls (ad : Addr) (cp : Nat) (l : List Int) (w : World) (hb : GuA.Bytes w ad 8 l) : Calls Tryz.prog 111 #[.slice (some ad) 8 cp] w (GuA.UnpOut w l) := by
  by_cases hs : (bits .and .i64 (GuA.rd l 0 + 256 * GuA.rd l 1) 8 != 0) = true
  · exact GuA.unpack_sub ad cp l w hb hs
  · exact GuA.unpack_whole ad cp l w hb (by simpa using hs)
theorem unmade_calls {vb db r : Nat} (h : GvA.V2 w vb db mb r) : Calls Tryz.prog 62 #[.pointer (some ⟨vb, 0, none⟩)] w fun e w' => e = .returned (.bool false) ∧ w' = w := by
  have hm := GvA.machine_calls h
  clear h
  go_enter Tryz.func62, Tryz.ntmps62
  go_wp2_with (first
    | (go_at_call 98; refine hm.mono ?_; rintro z w1 ⟨rfl, hw1⟩; obtain rfl := hw1.symm)
    | go_in)
  go_ret
  exact ⟨by first | rfl | (simp; done), rfl⟩
end
end Go.Proofs.YthlejchcnfdcpaaGreat.GeA
