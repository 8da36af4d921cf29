/- Proved: the document's held, Foreign, Maps (contracts for the laws of the grants). Proved: the document's grants with a view: an entry read, and the frame that it names (contracts for the laws of the grants). Proved: the document's read of an entry (a contract for the laws of the grants). -/
import Derived.Test.YthlejchcnfdcpaaGreatMlav
import Derived.Test.YthlejchcnfdcpaaGreatMlaw
import Derived.Deep.QuietTactic
import Derived.BigQuiet
namespace Go.Proofs.YthlejchcnfdcpaaGreat.GyC
open Go.RowKit Go.Maps Base GaA GaB GaC GaD GmB GmC GpA GeA GfA GfB GfC GfD GjA GjC RpA RmA RmB RgA GxA GxC GxD GyA GyB
set_option linter.unusedVariables false
set_option linter.unusedSimpArgs false

section
variable {w w' W W' : World} {a : DA} {A : Option Addr} {cap : Nat} {s s' : MS} {f : Int → Option (Int × Nat)} {pi : Nat → PI} {qq : Nat → Nat × Nat × Nat} {L : List Mp} {F : Int × Int → Option Mp}
set_option maxHeartbeats 8000000 in
set_option maxRecDepth 100000 in
theorem rheld (h : DW W a A cap s f pi qq L) (hL : Lk F L) (d k : Int) : Calls Tryz.prog 79 #[.pointer (some ⟨a.hb, 0, none⟩), .int .i64 d, .int .i64 k] W fun e w' =>
    e = .returned (.tuple #[.agg #[.int .i64 (heldR F d k).1.h, .int .i64 (heldR F d k).1.caller, .int .i64 (heldR F d k).1.owner, .int .i64 (heldR F d k).1.ref, .int .i64 (heldR F d k).1.mfn, .bool (heldR F d k).1.wr], .int .i64 (heldR F d k).2]) ∧ Below W.heap.size W w' := by
  have hb1 := below_alloc (Below.refl W.heap.size W) (.cells #[.int .i64 0, .int .i64 0, .int .i64 0, .int .i64 0, .int .i64 0, .bool false] 102)
  have h1 := h.below hb1
  have hdo := fun W => domain_any d W
  have hfi := rfind h1 hL d k
  have C1 := fun i => blk_cell h1.blk i
  have L1 := blk_lt h1.blk
  obtain ⟨R, hR⟩ : ∃ R, R = heldR F d k := ⟨_, rfl⟩
  rw [← hR]
  unfold heldR at hR
  unfold GyB.FindOut at hfi
  obtain ⟨n, hn⟩ : ∃ n, n = L.length := ⟨_, rfl⟩
  rw [← hn] at C1
  have HN := Base.Aside.mk (And.intro hn h1)
  clear h h1 hb1 hn
  by_cases hdm : 0 ≤ d ∧ d < 8
  · rw [if_neg (by simp [hdm])] at hR
    rw [decide_eq_true hdm.1, decide_eq_true hdm.2] at hdo
    cases hf : F (d, k) with
    | none =>
      rw [hf] at hR hfi
      simp only [mp0] at hR
      subst hR
      go_enter Tryz.func79, Tryz.ntmps79
      go_wp2_with (first
        | (go_at_call 48; (with_reducible refine (hdo _).mono ?_); rintro z w1 ⟨rfl, hw1⟩; obtain rfl := hw1.symm)
        | (go_at_call 70; (with_reducible refine hfi.mono ?_); rintro z w1 ⟨⟨i, hi, h3, _⟩ | ⟨_, rfl⟩, hw1⟩; (exact absurd h3 (by simp)); obtain rfl := hw1.symm)
        | go_in)
      refine bodyPost_ret (v := .tuple #[.agg #[.int .i64 0, .int .i64 0, .int .i64 0, .int .i64 0, .int .i64 0, .bool false], .int .i64 6]) ?_ rfl ⟨rfl, ?_⟩
      · simp only [results, Tryz.results79]
        first | (go_simp; done) | (go_simp; rfl)
      · repeat (with_reducible first | exact Below.refl _ _ | refine below_alloc ?_ _ | (refine GuA.below_setN ?_ ?_; rotate_left; omega))
    | some m =>
      rw [hf] at hR hfi
      simp only at hR
      subst hR
      have hfi2 : Calls Tryz.prog 70 #[.pointer (some ⟨a.hb, 0, none⟩), .int .i64 d, .int .i64 k] (W.alloc (.cells #[.int .i64 0, .int .i64 0, .int .i64 0, .int .i64 0, .int .i64 0, .bool false] 102)) fun e w' => (∃ (i : Nat) (g : Nat), A = some ⟨g, 0, none⟩ ∧ i < n ∧ g < (W.alloc (.cells #[.int .i64 0, .int .i64 0, .int .i64 0, .int .i64 0, .int .i64 0, .bool false] 102)).heap.size ∧ e = .returned (.int .i64 i) ∧ (W.alloc (.cells #[.int .i64 0, .int .i64 0, .int .i64 0, .int .i64 0, .int .i64 0, .bool false] 102)).cell? ⟨g, i * 6, none⟩ = some (.int .i64 m.h) ∧ (W.alloc (.cells #[.int .i64 0, .int .i64 0, .int .i64 0, .int .i64 0, .int .i64 0, .bool false] 102)).cell? ⟨g, i * 6 + 1, none⟩ = some (.int .i64 m.caller) ∧ (W.alloc (.cells #[.int .i64 0, .int .i64 0, .int .i64 0, .int .i64 0, .int .i64 0, .bool false] 102)).cell? ⟨g, i * 6 + 2, none⟩ = some (.int .i64 m.owner) ∧ (W.alloc (.cells #[.int .i64 0, .int .i64 0, .int .i64 0, .int .i64 0, .int .i64 0, .bool false] 102)).cell? ⟨g, i * 6 + 3, none⟩ = some (.int .i64 m.ref) ∧ (W.alloc (.cells #[.int .i64 0, .int .i64 0, .int .i64 0, .int .i64 0, .int .i64 0, .bool false] 102)).cell? ⟨g, i * 6 + 4, none⟩ = some (.int .i64 m.mfn) ∧ (W.alloc (.cells #[.int .i64 0, .int .i64 0, .int .i64 0, .int .i64 0, .int .i64 0, .bool false] 102)).cell? ⟨g, i * 6 + 5, none⟩ = some (.bool m.wr)) ∧ w' = (W.alloc (.cells #[.int .i64 0, .int .i64 0, .int .i64 0, .int .i64 0, .int .i64 0, .bool false] 102)) := by
        refine hfi.mono ?_
        rintro e w' ⟨⟨i, hi, h3, h4⟩ | ⟨h3, _⟩, hw⟩
        · injection h3 with h3
          obtain ⟨g, hg, LG, hw6⟩ := HN.out.2.words (by omega)
          have := hw6 i hi
          rw [← h3] at this
          exact ⟨⟨i, g, hg, by have := HN.out.1; omega, LG, h4, this⟩, hw⟩
        · cases h3
      clear hfi
      go_enter Tryz.func79, Tryz.ntmps79
      go_wp2_with (first
        | (go_at_call 48; (with_reducible refine (hdo _).mono ?_); rintro z w1 ⟨rfl, hw1⟩; obtain rfl := hw1.symm)
        | (go_at_call 70; (with_reducible refine hfi2.mono ?_); rintro z w1 ⟨⟨i, g, rfl, hi, LG, rfl, c0, c1, c2, c3, c4, c5⟩, hw1⟩; obtain rfl := hw1.symm; have e2 : (0 : Int) ≤ (i : Int) := Int.natCast_nonneg _; have e3 : (i : Int) < (n : Int) := Int.ofNat_lt.2 hi)
        | go_in)
      refine bodyPost_ret (v := .tuple #[.agg #[.int .i64 m.h, .int .i64 m.caller, .int .i64 m.owner, .int .i64 m.ref, .int .i64 m.mfn, .bool m.wr], .int .i64 0]) ?_ rfl ⟨rfl, ?_⟩
      · simp only [results, Tryz.results79]
        first | (go_simp; done) | (go_simp; rfl)
      · repeat (with_reducible first | exact Below.refl _ _ | refine below_alloc ?_ _ | (refine GuA.below_setN ?_ ?_; rotate_left; omega))
  · rw [if_pos hdm] at hR
    simp only [mp0] at hR
    subst hR
    have hdf : (decide (0 ≤ d) && decide (d < 8)) = false := by simp; omega
    rw [hdf] at hdo
    clear hfi
    go_enter Tryz.func79, Tryz.ntmps79
    go_wp2_with (first
      | (go_at_call 48; (with_reducible refine (hdo _).mono ?_); rintro z w1 ⟨rfl, hw1⟩; obtain rfl := hw1.symm)
      | go_in)
    refine bodyPost_ret (v := .tuple #[.agg #[.int .i64 0, .int .i64 0, .int .i64 0, .int .i64 0, .int .i64 0, .bool false], .int .i64 1]) ?_ rfl ⟨rfl, ?_⟩
    · simp only [results, Tryz.results79]
      first | (go_simp; done) | (go_simp; rfl)
    · repeat (with_reducible first | exact Below.refl _ _ | refine below_alloc ?_ _ | (refine GuA.below_setN ?_ ?_; rotate_left; omega))
/-- How many live maps are of d's frames. -/
def forL (L : List Mp) (d : Int) : Nat := L.countP fun m => m.owner == d
theorem forL_step {L : List Mp} {j : Nat} (hj : j < L.length) (d : Int) : forL (L.take (j + 1)) d = forL (L.take j) d + (if (L[j].owner == d) = true then 1 else 0) := by
  unfold forL
  rw [List.take_succ_eq_append_getElem hj, List.countP_append, List.countP_singleton]
theorem forL_le (L : List Mp) (d : Int) (j : Nat) : forL (L.take j) d ≤ j := by
  unfold forL
  refine Nat.le_trans List.countP_le_length ?_
  rw [List.length_take]
  omega
set_option maxHeartbeats 4000000 in
set_option maxRecDepth 100000 in
theorem rforeign (h : DW W a A cap s f pi qq L) (d : Int) : Calls Tryz.prog 41 #[.pointer (some ⟨a.hb, 0, none⟩), .int .i64 d] W fun e w' => e = .returned (.int .i64 (forL L d : Nat)) ∧ w' = W := by
  have C0 := fun i => blk_cell h.blk i
  have L0 := blk_lt h.blk
  have hfew := h.few
  obtain ⟨n, hn⟩ : ∃ n, n = L.length := ⟨_, rfl⟩
  have ht : forL L d = forL (L.take n) d := by rw [hn, List.take_length]
  rw [ht]
  rw [← hn] at C0 hfew
  have HN := Base.Aside.mk (And.intro hn h)
  clear hn h ht
  go_enter Tryz.func41, Tryz.ntmps41
  go_wp2
  go_loopw [5, 6] (fun v i wr => ∃ j : Nat, j ≤ n ∧ v = .int .i64 (forL (L.take j) d : Nat) ∧ i = .int .i64 j ∧ wr = W) (fun _ i _ => n - (intOf i).toNat)
  case atStart => exact ⟨0, Nat.zero_le _, rfl, rfl, rfl⟩
  case round =>
    obtain ⟨j, hj, rfl, rfl, hwr⟩ := hrel
    obtain rfl := hwr.symm
    by_cases hlt : j < n
    · have hjL : j < L.length := by have := HN.out.1; omega
      obtain ⟨g, hg, LG, hw⟩ := HN.out.2.words (by omega)
      subst hg
      obtain ⟨_, _, w2, _⟩ := hw j hjL
      have e2 : (0 : Int) ≤ (j : Int) := Int.natCast_nonneg _
      have e3 : (j : Int) < (n : Int) := by omega
      have hst := forL_step hjL d
      have hle := forL_le L d j
      obtain ⟨m, hm⟩ : ∃ m, m = L[j] := ⟨_, rfl⟩
      rw [← hm] at w2 hst
      obtain ⟨q, hq⟩ : ∃ q, q = forL (L.take j) d := ⟨_, rfl⟩
      rw [← hq] at hst hle ⊢
      clear hm hw hq
      cases q1 : (m.owner == d) with
      | true =>
        rw [q1, if_pos rfl] at hst
        have HS := Base.Aside.mk hst
        clear hst
        go_wp2
        refine ⟨⟨j + 1, by omega, ?_, by simp, trivial⟩, by simp [intOf]; omega⟩
        rw [HS.out]
        first | rfl | (simp; done)
      | false =>
        rw [q1, if_neg (by decide)] at hst
        have HS := Base.Aside.mk hst
        clear hst
        go_wp2
        refine ⟨⟨j + 1, by omega, ?_, by simp, trivial⟩, by simp [intOf]; omega⟩
        rw [HS.out]
        first | rfl | (simp; done)
    · obtain rfl : j = n := by omega
      clear hlt
      go_wp2
      go_ret
      exact ⟨by first | rfl | (simp; done), rfl⟩
set_option maxHeartbeats 8000000 in
set_option maxRecDepth 100000 in
theorem rmaps (h : DW W a A cap s f pi qq L) (hL : Lk F L) (d : Int) : Calls Tryz.prog 39 #[.pointer (some ⟨a.hb, 0, none⟩), .int .i64 d] W (MapsOut W F d) := by
  obtain ⟨i0, hi, hz0, hz1, hz2⟩ := info_parts infoMp
  obtain ⟨n, hn⟩ : ∃ n, n = L.length := ⟨_, rfl⟩
  have HN := Base.Aside.mk (And.intro hn h)
  clear hn h
  go_enter Tryz.func39, Tryz.ntmps39
  go_wp2
  go_loopw [5, 6] (fun v i wr => ∃ (k : Nat) (W2 : World), k ≤ 16 ∧ i = .int .i64 k ∧ wr = W2 ∧ Base.Aside (W2.ownsRow W.heap.size 102 6 v (mapsL F d k).length ((mapsL F d k).flatMap mcells) ∧ Below W.heap.size W W2)) (fun _ i _ => 16 - (intOf i).toNat)
  case atStart => exact ⟨0, W, by omega, rfl, rfl, ⟨World.ownsRow_nil _ _ _ _, Below.refl _ _⟩⟩
  case round =>
    obtain ⟨k, W2, hk, rfl, hwr, hA⟩ := hrel
    obtain rfl := hwr.symm
    by_cases hlt : k < 16
    · have h2 := HN.out.2.below hA.out.2
      have hbl := h2.blk
      rw [← HN.out.1] at hbl
      have C2 := fun i => blk_cell hbl i
      have L2 := blk_lt hbl
      have hfi := rfind h2 hL d k
      have hl := mapsL_len F d k
      have hsz := hA.out.2.size
      unfold GyB.FindOut at hfi
      cases hf : F (d, (k : Int)) with
      | none =>
        rw [hf] at hfi
        clear h2 hbl
        go_wp2_with (first
          | (go_at_call 70; (with_reducible refine hfi.mono ?_); rintro z w1 ⟨⟨i, hi, h3, _⟩ | ⟨_, rfl⟩, hw1⟩; (exact absurd h3 (by simp)); obtain rfl := hw1.symm)
          | go_in)
        refine ⟨⟨k + 1, _, by omega, by simp, rfl, ⟨?_, hA.out.2⟩⟩, by simp [intOf]; omega⟩
        rw [mapsL_miss hf]
        exact hA.out.1
      | some m =>
        rw [hf] at hfi
        have hfi2 : Calls Tryz.prog 70 #[.pointer (some ⟨a.hb, 0, none⟩), .int .i64 d, .int .i64 k] W2 fun e w' => (∃ (i : Nat) (g : Nat), A = some ⟨g, 0, none⟩ ∧ i < n ∧ g < W2.heap.size ∧ e = .returned (.int .i64 i) ∧ W2.cell? ⟨g, i * 6, none⟩ = some (.int .i64 m.h) ∧ W2.cell? ⟨g, i * 6 + 1, none⟩ = some (.int .i64 m.caller) ∧ W2.cell? ⟨g, i * 6 + 2, none⟩ = some (.int .i64 m.owner) ∧ W2.cell? ⟨g, i * 6 + 3, none⟩ = some (.int .i64 m.ref) ∧ W2.cell? ⟨g, i * 6 + 4, none⟩ = some (.int .i64 m.mfn) ∧ W2.cell? ⟨g, i * 6 + 5, none⟩ = some (.bool m.wr)) ∧ w' = W2 := by
          refine hfi.mono ?_
          rintro e w' ⟨⟨i, hi, h3, h4⟩ | ⟨h3, _⟩, hw⟩
          · injection h3 with h3
            obtain ⟨g, hg, LG, hw6⟩ := h2.words (by omega)
            have := hw6 i hi
            rw [← h3] at this
            exact ⟨⟨i, g, hg, by have := HN.out.1; omega, LG, h4, this⟩, hw⟩
          · cases h3
        clear hfi h2 hbl
        go_wp2_with (first
          | (go_at_call 70; (with_reducible refine hfi2.mono ?_); rintro z w1 ⟨⟨i, g, rfl, hi, LG, rfl, c0, c1, c2, c3, c4, c5⟩, hw1⟩; obtain rfl := hw1.symm; have e2 : (0 : Int) ≤ (i : Int) := Int.natCast_nonneg _; have e3 : (i : Int) < (n : Int) := Int.ofNat_lt.2 hi; have e4 : decide (0 ≤ (i : Int)) = true := decide_eq_true e2)
          | (at_builtin; refine wpList_append_own_at _ rfl _ _ 99 rfl W.heap.size 102 i0 (.agg #[.int .i64 0, .int .i64 0, .int .i64 0, .int .i64 0, .int .i64 0, .bool false]) 6 48 Tryz.underlying99 (by assumption) hz0 hz1 hz2 rfl (by decide) _ _ _ rfl (hA.out.1.alloc _) ⟨W2.heap.size, 0, none⟩ 1 1 (mcells m) rfl rfl (cell_six_new W2 m 102) (mcells_one m) (by unfold maxLen; omega) (by omega) (by simp; omega) ?_; intro v' w3 hown' hg3 hnil3 hloc3; go_frame)
          | go_in)
        refine ⟨⟨k + 1, w3, by omega, by simp, rfl, ⟨?_, ?_⟩⟩, by simp [intOf]; omega⟩
        · rw [mapsL_hit hf]
          simpa using hown'
        · exact (below_alloc hA.out.2 _).grown hg3 (by simp; omega) (fun j hj => (hA.out.1.lt j hj).1)
    · obtain rfl : k = 16 := by omega
      go_wp2
      go_ret
      exact ⟨_, rfl, hA.out.1, hA.out.2⟩
end
end Go.Proofs.YthlejchcnfdcpaaGreat.GyC
namespace Go.Proofs.YthlejchcnfdcpaaGreat.GyE
open Go.RowKit Go.Maps Base GaA GaB GaC GaD GmB GmC GpA GeA GeB GfA GfB GfC GfD GjA GjC GwA GwB RpA RmA RmB RgA GxA GxB GxC GxD GyA GyB GyC GyD
set_option linter.unusedVariables false
set_option linter.unusedSimpArgs false

/-- Where the document's view lies, and its rewrites. -/
structure DVA where
  ub : Nat
  A : Option Addr
  cap : Nat
  ps : List Pk
/-- The document's side, in W, since W0: only the view's count and pages have changed. -/
structure DV (w0 : World) (a : DA) (v : DVA) (W0 W : World) (A : Option Addr) (cap : Nat) (s : MS) (f : Int → Option (Int × Nat)) (pi : Nat → PI) (qq : Nat → Nat × Nat × Nat) (L : List Mp) (r : Nat) : Prop where
  dw : DW W a A cap s f pi qq L
  vd : Vd w0 W v.ub a.rb a.bs v.A v.cap r v.ps
  ch : Chg (fun x => x = v.ub ∨ x ∈ a.bs) W0 W
  h64 : v.ps.length ≤ 64
section
variable {w0 w w' W W0 W' : World} {a : DA} {v : DVA} {A : Option Addr} {cap : Nat} {s s' : MS} {f : Int → Option (Int × Nat)} {pi : Nat → PI} {qq : Nat → Nat × Nat × Nat} {L : List Mp} {F : Int × Int → Option Mp} {r : Nat}
theorem DV.start (h : DW W a A cap s f pi qq L) (hv : Vd w0 W v.ub a.rb a.bs v.A v.cap r v.ps) (h64 : v.ps.length ≤ 64) : DV w0 a v W W A cap s f pi qq L r := ⟨h, hv, Chg.refl _ _, h64⟩
theorem DV.below (h : DV w0 a v W0 W A cap s f pi qq L r) (hb : Below W.heap.size W W') : DV w0 a v W0 W' A cap s f pi qq L r := ⟨h.dw.below hb, h.vd.below hb, h.ch.trans (Chg.below _ hb), h.h64⟩
theorem DV.pre (hb : Below W.heap.size W W0) (h : DV w0 a v W0 W' A cap s f pi qq L r) : DV w0 a v W W' A cap s f pi qq L r := ⟨h.dw, h.vd, (Chg.below _ hb).trans h.ch, h.h64⟩
theorem DV.re (h : DV w0 a v W0 W A cap s f pi qq L r) : DV w0 a v W W A cap s f pi qq L r := ⟨h.dw, h.vd, Chg.refl _ _, h.h64⟩
theorem DV.lt (h : DV w0 a v W0 W A cap s f pi qq L r) : v.ub < W.heap.size ∧ ∀ b ∈ a.bs, b < W.heap.size := ⟨blk_lt h.vd.blk, fun b hb => by obtain ⟨cs, hcs⟩ := page_mem h.dw.m hb; exact blk_lt hcs⟩
theorem DV.bl (h : DV w0 a v W0 W' A cap s f pi qq L r) {x : Nat} {o : Obj} (hx : W0.heap[x]? = some o) (h1 : v.ub < x) (h2 : ∀ b ∈ a.bs, b < x) : W'.heap[x]? = some o :=
  h.ch.blk hx (fun h => h.elim (fun e => by omega) (fun e => by have := h2 _ e; omega))
theorem DV.ku (h : DV w0 a v W0 W A cap s f pi qq L r) (x : Nat) (hx : x = v.ub ∨ x ∈ a.bs) : ∃ cs t, W.heap[x]? = some (.cells cs t (0, 0)) ∧ GyB.kindOk t := by
  rcases hx with rfl | hx
  · exact ⟨_, _, h.vd.blk, by unfold GyB.kindOk; decide⟩
  · exact h.dw.kbs x hx
/-- What the view's Read comes to. -/
def RvOut (w0 : World) (a : DA) (v : DVA) (W : World) (A : Option Addr) (cap : Nat) (s : MS) (f : Int → Option (Int × Nat)) (pi : Nat → PI) (qq : Nat → Nat × Nat × Nat) (L : List Mp) (r : Nat) (k off n : Int) (e : Ending) (w' : World) : Prop :=
  ∃ (B : Option Addr) (l c : Nat) (er : Int), e = .returned (.tuple #[.slice B l c, .int .i64 er]) ∧ RrOk W s k off n B l er w' ∧ DV w0 a v W w' A cap s f pi qq L r
theorem dvread (h : DV w0 a v W W A cap s f pi qq L r) (k off n : Int) : Calls Tryz.prog 81 #[.pointer (some ⟨v.ub, 0, none⟩), .int .i64 k, .int .i64 off, .int .i64 n] W (RvOut w0 a v W A cap (pokeS s v.ps r) f pi qq L (r + 1) k off n) := by
  refine (rvread h.vd h.dw.m h.h64 k off n).mono ?_
  rintro e w' ⟨B, l, c, er, h1, h2, h3, h4, h5⟩
  exact ⟨B, l, c, er, h1, h2, ⟨h.dw.out h5 h3 (pokeS_n _ _ _) (fun x hx => h.ku x hx), h4, h5, h.h64⟩⟩
/-- An entry's eight bytes, read. -/
def ReOut (w0 : World) (a : DA) (v : DVA) (W : World) (A : Option Addr) (cap : Nat) (s : MS) (f : Int → Option (Int × Nat)) (pi : Nat → PI) (qq : Nat → Nat × Nat × Nat) (L : List Mp) (r : Nat) (l : List Int) (e : Ending) (w' : World) : Prop :=
  ∃ (x : Addr) (c : Nat), e = .returned (.tuple #[.slice (some x) 8 c, .int .i64 0]) ∧ GuA.Bytes w' x 8 l ∧ DV w0 a v W w' A cap s f pi qq L r
theorem dvent (h : DV w0 a v W W A cap s f pi qq L r) (k ref : Nat) (hk : k < s.n) (h32 : ref < 32) : Calls Tryz.prog 81 #[.pointer (some ⟨v.ub, 0, none⟩), .int .i64 k, .int .i64 (8 * ref : Int), .int .i64 8] W (ReOut w0 a v W A cap (pokeS s v.ps r) f pi qq L (r + 1) (ent (pokeS s v.ps r) k ref)) := by
  refine (dvread h k (8 * ref : Int) 8).mono ?_
  rintro e w' ⟨B, l, c, er, h1, ⟨h2⟩, h3⟩
  have hin : inR (pokeS s v.ps r) k (8 * ref : Int) 8 := by unfold inR; rw [pokeS_n]; omega
  rcases h2 with ⟨_, rfl, rfl, hB, _⟩ | ⟨h2, _⟩
  · have e1 : (8 * (ref : Int)).toNat = 8 * ref := by omega
    rw [e1, Int.toNat_natCast] at hB
    obtain ⟨x, rfl, hx⟩ := ent_gu (k := k) (ref := ref) hB
    exact ⟨x, c, h1, hx, h3⟩
  · exact absurd hin h2
def gr0 : Gr := ⟨0, false, false, 0, 0, 0, 0⟩
/-- What an entry's read comes to: the entry, its frame or -1, an error. -/
def rdR (s : MS) (P : PI) (k : Nat) (caller d : Int) (ref : Nat) : Gr × Int × Int :=
  if permE (ent s k ref) caller ≠ 0 then (gr0, 0, 60)
  else (entG (ent s k ref), if (frameR s P.size P.fr d (entG (ent s k ref)).gp).2 = 0 then (frameR s P.size P.fr d (entG (ent s k ref)).gp).1 else -1, 0)
/-- What stands in the way, in a walk's words. -/
theorem perm_cases (g : Gr) (er caller pe : Int) (hpe : pe = if er = 0 ∧ (g.kd ≠ 1 ∨ g.dom ≠ caller) then 60 else er) :
    (pe ≠ 0 ∧ (er != 0) = true) ∨ (pe ≠ 0 ∧ (er != 0) = false ∧ (g.kd != 1) = true) ∨ (pe ≠ 0 ∧ (er != 0) = false ∧ (g.kd != 1) = false ∧ (g.dom != caller) = true) ∨ (pe = 0 ∧ (er != 0) = false ∧ (g.kd != 1) = false ∧ (g.dom != caller) = false) := by
  by_cases q : er = 0
  · subst q
    by_cases q1 : g.kd = 1
    · by_cases q2 : g.dom = caller
      · exact .inr (.inr (.inr ⟨by rw [hpe, if_neg (by simp [q1, q2])], rfl, by simp [q1], by simp [q2]⟩))
      · exact .inr (.inr (.inl ⟨by rw [hpe, if_pos ⟨rfl, .inr q2⟩]; decide, rfl, by simp [q1], by simp [q2]⟩))
    · exact .inr (.inl ⟨by rw [hpe, if_pos ⟨rfl, .inl q1⟩]; decide, rfl, by simp [q1]⟩)
  · exact .inl ⟨by rw [hpe, if_neg (fun h => q h.1)]; exact q, by simp [q]⟩
theorem frame_cases (s : MS) (size : Nat) (fr : Int → Option Int) (d g : Int) (mf : Int) (hmf : mf = if (frameR s size fr d g).2 = 0 then (frameR s size fr d g).1 else -1) :
    (mf = -1 ∧ ((getV size fr g).2 != 0) = true) ∨ (mf = -1 ∧ ((getV size fr g).2 != 0) = false ∧ (decide (0 ≤ (getV size fr g).1) && decide ((getV size fr g).1 < s.n)) = false) ∨
    (mf = (getV size fr g).1 ∧ ((getV size fr g).2 != 0) = false ∧ ∃ m : Nat, (getV size fr g).1 = m ∧ m < s.n ∧ (decide (0 ≤ (getV size fr g).1) && decide ((getV size fr g).1 < s.n)) = true ∧ ((s.fr m).own != d) = false) ∨
    (mf = -1 ∧ ((getV size fr g).2 != 0) = false ∧ ∃ m : Nat, (getV size fr g).1 = m ∧ m < s.n ∧ (decide (0 ≤ (getV size fr g).1) && decide ((getV size fr g).1 < s.n)) = true ∧ ((s.fr m).own != d) = true) := by
  unfold frameR at hmf
  generalize getV size fr g = q at hmf ⊢
  obtain ⟨q1, q2⟩ := q
  simp only at hmf ⊢
  by_cases h2 : q2 = 0
  · subst h2
    rw [if_neg (show ¬ (0 : Int) ≠ 0 by decide)] at hmf
    by_cases h3 : 0 ≤ q1 ∧ q1 < s.n
    · obtain ⟨m, rfl⟩ : ∃ m : Nat, q1 = m := ⟨q1.toNat, by omega⟩
      have hv : frV s m = (s.fr m, 0) := by unfold frV; rw [if_pos h3, Int.toNat_natCast]
      rw [hv] at hmf
      simp only at hmf
      by_cases h4 : (s.fr m).own = d
      · exact .inr (.inr (.inl ⟨by simpa [h4] using hmf, rfl, m, rfl, by omega, by simp; omega, by simp [h4]⟩))
      · exact .inr (.inr (.inr ⟨by simpa [h4] using hmf, rfl, m, rfl, by omega, by simp; omega, by simp [h4]⟩))
    · have hv : frV s q1 = (⟨0, 0, 0, 0⟩, 1) := by unfold frV; rw [if_neg h3]
      rw [hv] at hmf
      exact .inr (.inl ⟨by simpa using hmf, rfl, by simp; omega⟩)
  · exact .inl ⟨by simpa [h2] using hmf, by simp [h2]⟩
end
end Go.Proofs.YthlejchcnfdcpaaGreat.GyE
namespace Go.Proofs.YthlejchcnfdcpaaGreat.GyF
open Go.RowKit Go.Maps Base GaA GaB GaC GaD GmB GmC GpA GeA GeB GfA GfB GfC GfD GjA GjC GwA GwB RpA RmA RmB RgA GxA GxB GxC GxD GyA GyB GyC GyD GyE
set_option linter.unusedVariables false
set_option linter.unusedSimpArgs false

section
variable {w0 w w' W W0 W' : World} {a : DA} {v : DVA} {A : Option Addr} {cap : Nat} {s s' : MS} {f : Int → Option (Int × Nat)} {pi : Nat → PI} {qq : Nat → Nat × Nat × Nat} {L : List Mp} {F : Int × Int → Option Mp} {r : Nat}
theorem DV.set {c : Addr} {s0 : MS} {r0 : Nat} (h0 : DV w0 a v W W A cap s0 f pi qq L r0) (h : DV w0 a v W W' A cap s f pi qq L r) (hn : s.n = s0.n) (hc : W.heap.size ≤ c.block) (x : Value) : DV w0 a v W (W'.setCell c x) A cap s f pi qq L r := by
  have hch := Chg.set h.ch (p := c) (.inr hc) x
  have h1 : Chg (fun y => y = c.block) W' (W'.setCell c x) := Chg.set (F := fun y => y = c.block) (p := c) (Chg.refl _ W') (.inl rfl) _
  have hlt := h0.lt
  have l1 := blk_lt h0.dw.m.blk
  obtain ⟨cs1, g1, _⟩ := h0.dw.m.frs
  obtain ⟨cs2, g2, _⟩ := h0.dw.m.rows
  have l2 := blk_lt g1
  have l3 := blk_lt g2
  have hM := h.dw.m.chg h1 (by omega) (by omega) (by omega) (fun b hb e => by have := hlt.2 b hb; omega)
  have hv := h.vd.chg h1 (fun y hy => by have := h0.vd.old.size; omega) (by omega)
  exact ⟨h0.dw.out hch hM hn (fun y hy => h0.ku y hy), hv, hch, h.h64⟩
theorem DV.set7 {s0 : MS} {r0 : Nat} (h0 : DV w0 a v W W A cap s0 f pi qq L r0) (h : DV w0 a v W W' A cap s f pi qq L r) (hn : s.n = s0.n) (x0 x1 x2 x3 x4 x5 x6 : Value) :
    DV w0 a v W (((((((W'.setCell ⟨W.heap.size, 0, none⟩ x0).setCell ⟨W.heap.size, 1, none⟩ x1).setCell ⟨W.heap.size, 2, none⟩ x2).setCell ⟨W.heap.size, 3, none⟩ x3).setCell ⟨W.heap.size, 4, none⟩ x4).setCell ⟨W.heap.size, 5, none⟩ x5).setCell ⟨W.heap.size, 6, none⟩ x6) A cap s f pi qq L r := by
  have key : ∀ (W1 : World) (j : Nat) (x : Value), DV w0 a v W W1 A cap s f pi qq L r → DV w0 a v W (W1.setCell ⟨W.heap.size, j, none⟩ x) A cap s f pi qq L r := fun W1 j x h1 => DV.set h0 h1 hn (Nat.le_refl _) x
  exact key _ _ _ (key _ _ _ (key _ _ _ (key _ _ _ (key _ _ _ (key _ _ _ (key _ _ _ h))))))
set_option maxHeartbeats 8000000 in
set_option maxRecDepth 100000 in
theorem rread_no (h : DV w0 a v W W A cap s f pi qq L r) (d : Int) (k pb : Nat) (hd : f d = some ((k : Int), pb)) (ref : Nat) (h32 : ref < 32) (caller : Int) (hp0 : permE (ent (pokeS s v.ps r) k ref) caller ≠ 0) :
    Calls Tryz.prog 71 #[.pointer (some ⟨a.hb, 0, none⟩), .pointer (some ⟨v.ub, 0, none⟩), .int .i64 caller, .int .i64 d, .int .i64 ref] W fun e w' =>
      e = .returned (.tuple #[aggv (rdR (pokeS s v.ps r) (pi pb) k caller d ref).1, .int .i64 (rdR (pokeS s v.ps r) (pi pb) k caller d ref).2.1, .int .i64 (rdR (pokeS s v.ps r) (pi pb) k caller d ref).2.2]) ∧ DV w0 a v W w' A cap (pokeS s v.ps r) f pi qq L (r + 1) := by
  have hdd := h.dw.d d _ hd
  have hk : k < s.n := by obtain ⟨k2, e1, e2⟩ := hdd.2; simp only at e1; omega
  obtain ⟨e, rfl⟩ : ∃ e : Nat, d = e := ⟨d.toNat, by omega⟩
  have hb1 := below_alloc (Below.refl W.heap.size W) (.cells #[.int .i64 0, .bool false, .bool false, .int .i64 0, .int .i64 0, .int .i64 0, .int .i64 0] 32)
  have hV1 := (h.below hb1).re
  have hrd := dvent hV1 k ref hk h32
  have hfD : fD f qq e = ((k : Int), some (qq pb).1) := by unfold fD; rw [hd]
  have c0 := hV1.dw.mfn e (by omega)
  rw [hfD] at c0
  simp only at c0
  have C1 := fun i => blk_cell hV1.dw.blk i
  have L1 := blk_lt hV1.dw.blk
  have L2 := hV1.dw.ldb
  obtain ⟨s1, hs1⟩ : ∃ s1, s1 = pokeS s v.ps r := ⟨_, rfl⟩
  have hn1 : s1.n = s.n := by rw [hs1, pokeS_n]
  rw [← hs1] at hrd hp0 ⊢
  unfold ReOut at hrd
  obtain ⟨l, hl⟩ : ∃ l, l = ent s1 k ref := ⟨_, rfl⟩
  rw [← hl] at hrd
  have hpe := perm_cases (entG l) (entE l) caller (permE l caller) rfl
  obtain ⟨R, hR⟩ : ∃ R, R = rdR s1 (pi pb) k caller e ref := ⟨_, rfl⟩
  rw [← hR]
  unfold rdR at hR
  rw [← hl] at hR hp0
  have hun := fun (x : Addr) (c : Nat) W' (hB : GuA.Bytes W' x 8 l) => refunpack_any x c l W' hB
  obtain ⟨mf, hmf⟩ : ∃ mf, mf = if (frameR s1 (pi pb).size (pi pb).fr e (entG l).gp).2 = 0 then (frameR s1 (pi pb).size (pi pb).fr e (entG l).gp).1 else -1 := ⟨_, rfl⟩
  rw [← hmf] at hR
  have hfc := frame_cases s1 (pi pb).size (pi pb).fr e (entG l).gp mf hmf
  obtain ⟨g, hg⟩ : ∃ g, g = entG l := ⟨_, rfl⟩
  obtain ⟨er, her⟩ : ∃ er, er = entE l := ⟨_, rfl⟩
  obtain ⟨pe, hpee⟩ : ∃ pe, pe = permE l caller := ⟨_, rfl⟩
  rw [← hg, ← hpee] at hR
  rw [← hpee] at hp0
  rw [← hg] at hfc
  rw [← hg, ← her, ← hpee] at hpe
  rw [← hg, ← her] at hun
  unfold aggv at hun
  have hlv := h.lt
  have HR := fun (w1 : World) (hc : DV w0 a v (W.alloc (.cells #[.int .i64 0, .bool false, .bool false, .int .i64 0, .int .i64 0, .int .i64 0, .int .i64 0] 32)) w1 A cap s1 f pi qq L (r + 1)) => hc.bl (blk_new W _) hlv.1 hlv.2
  have hsub : ∀ w1, DV w0 a v (W.alloc (.cells #[.int .i64 0, .bool false, .bool false, .int .i64 0, .int .i64 0, .int .i64 0, .int .i64 0] 32)) w1 A cap s1 f pi qq L (r + 1) → W.heap.size < w1.heap.size := fun w1 h => by have := h.ch.size; rw [World.size_alloc] at this; omega
  have HP := Base.Aside.mk (And.intro hb1 (And.intro h (And.intro hd hfD)))
  have i0 : (0 : Int) ≤ (e : Int) := hdd.1.1
  have i1 : (e : Int) < 8 := hdd.1.2
  have i2 : (0 : Int) ≤ (ref : Int) := Int.natCast_nonneg _
  have i3 : (ref : Int) < 32 := by omega
  have HN := Base.Aside.mk hn1
  clear h hV1 hb1 hg her hpee hmf hl hs1 hd hfD hlv hdd hn1
  rcases hpe with ⟨hp, d1⟩ | ⟨hp, d1, d2⟩ | ⟨hp, d1, d2, d3⟩ | ⟨hp, d1, d2, d3⟩
  rotate_left 3
  · exact absurd hp hp0
  all_goals
    clear hp0
    rw [if_pos hp] at hR
    subst hR
    clear hfc hp
    go_enter Tryz.func71, Tryz.ntmps71
    go_wp2_with (first
      | (go_at_call 81; (with_reducible refine hrd.mono ?_); rintro z w2 ⟨x, c, rfl, hB2, hV2⟩; have hres := HR w2 hV2; have LR := hsub w2 hV2; have hun2 := hun x c w2 hB2; have E1 := Base.Aside.mk (And.intro hV2 hres); clear hV2 hres hB2)
      | (go_at_call 101; (with_reducible refine hun2.mono ?_); rintro z w3 ⟨rfl, hB3⟩; have hres := blk_below E1.out.2 (blk_lt E1.out.2) hB3; have C2 := fun i => blk_cell hres i; have F2 := fun i => blk_frozen hres i; have LQ := blk_lt hres; have E2 := Base.Aside.mk (E1.out.1.below hB3); clear hB3 hres)
      | go_in)
    all_goals
      refine bodyPost_ret (v := .tuple #[.agg #[.int .i64 0, .bool false, .bool false, .int .i64 0, .int .i64 0, .int .i64 0, .int .i64 0], .int .i64 0, .int .i64 60]) ?_ rfl ⟨rfl, ?_⟩
      · simp only [results, Tryz.results71]
        first | (go_simp; done) | (go_simp; rfl)
      · exact (DV.set7 HP.out.2.1 (DV.pre HP.out.1 E2.out) HN.out _ _ _ _ _ _ _).below (below_alloc (Below.refl _ _) _)
set_option maxHeartbeats 8000000 in
set_option maxRecDepth 100000 in
theorem rread_ok (h : DV w0 a v W W A cap s f pi qq L r) (d : Int) (k pb : Nat) (hd : f d = some ((k : Int), pb)) (ref : Nat) (h32 : ref < 32) (caller : Int) (hp0 : permE (ent (pokeS s v.ps r) k ref) caller = 0) :
    Calls Tryz.prog 71 #[.pointer (some ⟨a.hb, 0, none⟩), .pointer (some ⟨v.ub, 0, none⟩), .int .i64 caller, .int .i64 d, .int .i64 ref] W fun e w' =>
      e = .returned (.tuple #[aggv (rdR (pokeS s v.ps r) (pi pb) k caller d ref).1, .int .i64 (rdR (pokeS s v.ps r) (pi pb) k caller d ref).2.1, .int .i64 (rdR (pokeS s v.ps r) (pi pb) k caller d ref).2.2]) ∧ DV w0 a v W w' A cap (pokeS s v.ps r) f pi qq L (r + 1) := by
  have hdd := h.dw.d d _ hd
  have hk : k < s.n := by obtain ⟨k2, e1, e2⟩ := hdd.2; simp only at e1; omega
  obtain ⟨e, rfl⟩ : ∃ e : Nat, d = e := ⟨d.toNat, by omega⟩
  have hb1 := below_alloc (Below.refl W.heap.size W) (.cells #[.int .i64 0, .bool false, .bool false, .int .i64 0, .int .i64 0, .int .i64 0, .int .i64 0] 32)
  have hV1 := (h.below hb1).re
  have hrd := dvent hV1 k ref hk h32
  have hfD : fD f qq e = ((k : Int), some (qq pb).1) := by unfold fD; rw [hd]
  have c0 := hV1.dw.mfn e (by omega)
  rw [hfD] at c0
  simp only at c0
  have C1 := fun i => blk_cell hV1.dw.blk i
  have L1 := blk_lt hV1.dw.blk
  have L2 := hV1.dw.ldb
  obtain ⟨s1, hs1⟩ : ∃ s1, s1 = pokeS s v.ps r := ⟨_, rfl⟩
  have hn1 : s1.n = s.n := by rw [hs1, pokeS_n]
  rw [← hs1] at hrd hp0 ⊢
  unfold ReOut at hrd
  obtain ⟨l, hl⟩ : ∃ l, l = ent s1 k ref := ⟨_, rfl⟩
  rw [← hl] at hrd
  have hpe := perm_cases (entG l) (entE l) caller (permE l caller) rfl
  obtain ⟨R, hR⟩ : ∃ R, R = rdR s1 (pi pb) k caller e ref := ⟨_, rfl⟩
  rw [← hR]
  unfold rdR at hR
  rw [← hl] at hR hp0
  have hun := fun (x : Addr) (c : Nat) W' (hB : GuA.Bytes W' x 8 l) => refunpack_any x c l W' hB
  obtain ⟨mf, hmf⟩ : ∃ mf, mf = if (frameR s1 (pi pb).size (pi pb).fr e (entG l).gp).2 = 0 then (frameR s1 (pi pb).size (pi pb).fr e (entG l).gp).1 else -1 := ⟨_, rfl⟩
  rw [← hmf] at hR
  have hfc := frame_cases s1 (pi pb).size (pi pb).fr e (entG l).gp mf hmf
  obtain ⟨g, hg⟩ : ∃ g, g = entG l := ⟨_, rfl⟩
  obtain ⟨er, her⟩ : ∃ er, er = entE l := ⟨_, rfl⟩
  obtain ⟨pe, hpee⟩ : ∃ pe, pe = permE l caller := ⟨_, rfl⟩
  rw [← hg, ← hpee] at hR
  rw [← hpee] at hp0
  rw [← hg] at hfc
  rw [← hg, ← her, ← hpee] at hpe
  rw [← hg, ← her] at hun
  unfold aggv at hun
  have hlv := h.lt
  have HR := fun (w1 : World) (hc : DV w0 a v (W.alloc (.cells #[.int .i64 0, .bool false, .bool false, .int .i64 0, .int .i64 0, .int .i64 0, .int .i64 0] 32)) w1 A cap s1 f pi qq L (r + 1)) => hc.bl (blk_new W _) hlv.1 hlv.2
  have hsub : ∀ w1, DV w0 a v (W.alloc (.cells #[.int .i64 0, .bool false, .bool false, .int .i64 0, .int .i64 0, .int .i64 0, .int .i64 0] 32)) w1 A cap s1 f pi qq L (r + 1) → W.heap.size < w1.heap.size := fun w1 h => by have := h.ch.size; rw [World.size_alloc] at this; omega
  have HP := Base.Aside.mk (And.intro hb1 (And.intro h (And.intro hd hfD)))
  have i0 : (0 : Int) ≤ (e : Int) := hdd.1.1
  have i1 : (e : Int) < 8 := hdd.1.2
  have i2 : (0 : Int) ≤ (ref : Int) := Int.natCast_nonneg _
  have i3 : (ref : Int) < 32 := by omega
  have HN := Base.Aside.mk hn1
  clear h hV1 hb1 hg her hpee hmf hl hs1 hd hfD hlv hdd hn1
  rcases hpe with ⟨hp, _⟩ | ⟨hp, _⟩ | ⟨hp, _⟩ | ⟨hp, d1, d2, d3⟩
  rotate_left 3
  · rw [if_neg (by simp [hp])] at hR
    subst hR
    clear hp
    obtain ⟨q, hq⟩ : ∃ q, q = getV (pi pb).size (pi pb).fr g.gp := ⟨_, rfl⟩
    rw [← hq] at hfc
    obtain ⟨q1, q2⟩ := q
    simp only at hfc
    have HQ := Base.Aside.mk (And.intro hq hfc)
    clear hq hfc
    go_enter Tryz.func71, Tryz.ntmps71
    go_wp2_with (first
      | (go_at_call 81; (with_reducible refine hrd.mono ?_); rintro z w2 ⟨x, c, rfl, hB2, hV2⟩; have hres := HR w2 hV2; have LR := hsub w2 hV2; have hun2 := hun x c w2 hB2; have E1 := Base.Aside.mk (And.intro hV2 hres); clear hV2 hres hB2)
      | (go_at_call 101; (with_reducible refine hun2.mono ?_); rintro z w3 ⟨rfl, hB3⟩; have hres := blk_below E1.out.2 (blk_lt E1.out.2) hB3; have LQ := blk_lt hres; have C2 := fun i => blk_cell hres i; have F2 := fun i => blk_frozen hres i; have E2 := Base.Aside.mk (E1.out.1.below hB3); clear hB3 hres)
      | go_in)
    have C3 := fun i => blk_cell E2.out.dw.blk i
    have L3 := blk_lt E2.out.dw.blk
    have L4 := E2.out.dw.ldb
    have c1 := E2.out.dw.ptr e (by omega)
    rw [HP.out.2.2.2] at c1
    simp only [Option.map_some] at c1
    have hge := fun cs m => get_any ((E2.out.dw.q e _ HP.out.2.2.1).below (below_drewN (below_alloc (Below.refl w3.heap.size w3) cs) m)) g.gp
    simp only [← HQ.out.1] at hge
    have hcase := HQ.out.2
    have D0 := fun i => blk_cell E2.out.dw.m.blk i
    have M0 := blk_lt E2.out.dw.m.blk
    have M1 := E2.out.dw.m.lt.2.1
    have his := fun cs m => is_any (E2.out.dw.m.below (below_drewN (below_alloc (Below.refl w3.heap.size w3) cs) m)) q1
    have hown := fun m hm => E2.out.dw.m.own m hm
    clear c0 C1 L1 L2 hrd hun hun2 HR hsub
    go_quiet ((go_at_call 102; refine Calls.quiet_of_same (hge _ _)))
    rcases hcase with ⟨hmf, e1⟩ | ⟨hmf, e1, e2⟩ | ⟨hmf, e1, m, rfl, hm, e2, e3⟩ | ⟨hmf, e1, m, rfl, hm, e2, e3⟩
    all_goals
      have HM := Base.Aside.mk hmf
      clear hmf
      (first | have c5 := hown m hm | skip)
      (first | (have i4 : (m : Int) < (s1.n : Int) := Int.ofNat_lt.2 hm; have i5 : (0 : Int) ≤ (m : Int) := Int.natCast_nonneg _) | skip)
      (try rw [e2] at his)
      clear hown hge
      go_wp2_with (first
        | (go_at_call 96; (with_reducible refine (his _ _).mono ?_); rintro z w4 ⟨rfl, hw4⟩; obtain rfl := hw4.symm)
        | go_in)
      refine bodyPost_ret (v := .tuple #[.agg #[.int .i64 g.kd, .bool g.ro, .bool g.sb, .int .i64 g.dom, .int .i64 g.gp, .int .i64 g.of, .int .i64 g.le], .int .i64 mf, .int .i64 0]) ?_ rfl ⟨rfl, ?_⟩
      · rw [HM.out]
        simp only [results, Tryz.results71]
        first | (go_simp; done) | (go_simp; rfl)
      · exact DV.set7 HP.out.2.1 ((DV.pre HP.out.1 E2.out).below (below_drewN (below_alloc (Below.refl _ _) _) _)) HN.out _ _ _ _ _ _ _
  all_goals exact absurd hp0 hp
theorem rread (h : DV w0 a v W W A cap s f pi qq L r) (d : Int) (k pb : Nat) (hd : f d = some ((k : Int), pb)) (ref : Nat) (h32 : ref < 32) (caller : Int) :
    Calls Tryz.prog 71 #[.pointer (some ⟨a.hb, 0, none⟩), .pointer (some ⟨v.ub, 0, none⟩), .int .i64 caller, .int .i64 d, .int .i64 ref] W fun e w' =>
      e = .returned (.tuple #[aggv (rdR (pokeS s v.ps r) (pi pb) k caller d ref).1, .int .i64 (rdR (pokeS s v.ps r) (pi pb) k caller d ref).2.1, .int .i64 (rdR (pokeS s v.ps r) (pi pb) k caller d ref).2.2]) ∧ DV w0 a v W w' A cap (pokeS s v.ps r) f pi qq L (r + 1) := by
  by_cases hp : permE (ent (pokeS s v.ps r) k ref) caller = 0
  · exact rread_ok h d k pb hd ref h32 caller hp
  · exact rread_no h d k pb hd ref h32 caller hp
end
end Go.Proofs.YthlejchcnfdcpaaGreat.GyF
