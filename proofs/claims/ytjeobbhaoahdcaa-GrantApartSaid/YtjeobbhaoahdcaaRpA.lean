/- Proved: the document's map of places as it lies in memory; its New, Find and Set (contracts for the laws of the grants). -/
import Derived.Test.YtjeobbhaoahdcaaGaC
import Derived.Maps.AppendAt
namespace Go.Proofs.Ytjeobbhaoahdcaa.RpA
open Go.RowKit Go.Maps Go.Proofs.Ytjeobbhaoahdcaa.Base Go.Proofs.Ytjeobbhaoahdcaa.GaA Go.Proofs.Ytjeobbhaoahdcaa.GaB Go.Proofs.Ytjeobbhaoahdcaa.GaC
set_option linter.unusedVariables false
set_option linter.unusedSimpArgs false

theorem info3 : (Try.prog.info? 3).map (fun i => (i.zero, i.size, i.bytes)) = some (some (.int .i64 0), 1, 8) := by kernel_rfl
theorem row_ne {W : World} {g n e size b : Nat} {t : TypeId} {v : Value} {xs : List Value} {cs : Array Value} (hr : W.ownsRow b e size v n xs) (hg : W.heap[g]? = some (.cells cs t (0, 0))) (ht : t ≠ e) : v.ownBlock ≠ some g := by
  obtain ⟨_, ⟨rfl, h0⟩ | ⟨g', cap', cur', rfl, hbase, hb', _⟩⟩ := hr
  · simp [Value.ownBlock]
  · intro e1
    simp only [Value.ownBlock, Option.some.injEq] at e1
    subst e1
    rw [hg] at hb'
    injection hb' with h1
    injection h1 with h1 h2
    exact ht h2
theorem row_full {W : World} {n e size b : Nat} {v : Value} {xs : List Value} (hr : W.ownsRow b e size v n xs) (hn : 0 < n) : ∃ g cap, v = .slice (some ⟨g, 0, none⟩) n cap ∧ b ≤ g := by
  obtain ⟨_, ⟨rfl, h0⟩ | ⟨g', cap', cur', rfl, hbase, hb', _⟩⟩ := hr
  · omega
  · exact ⟨g', cap', rfl, hbase⟩
theorem row_low {W : World} {b e size n : Nat} {v : Value} {xs : List Value} (h : W.ownsRow b e size v n xs) : W.ownsRow 0 e size v n xs := ⟨h.1, h.2.imp id fun ⟨g, cap, cur, h1, _, h2⟩ => ⟨g, cap, cur, h1, Nat.zero_le _, h2⟩⟩
/-- The document's map of places in memory: what stands at each place, or -1. -/
structure R3 (w : World) (qb qr cap : Nat) (L : List Int) : Prop where
  blk : w.heap[qb]? = some (.cells #[.slice (some ⟨qr, 0, none⟩) L.length cap] 160 (0, 0))
  row : w.ownsRow 0 3 1 (.slice (some ⟨qr, 0, none⟩) L.length cap) L.length (L.map (Value.int .i64))
section
variable {w w' : World} {qb qr cap : Nat} {L : List Int}
theorem R3.lt (h : R3 w qb qr cap L) : qb < w.heap.size ∧ qr < w.heap.size := ⟨blk_lt h.blk, (h.row.lt qr rfl).2⟩
theorem R3.ne (h : R3 w qb qr cap L) : qr ≠ qb := fun e => row_ne h.row h.blk (by decide) (by rw [e]; rfl)
theorem row_chg {F : Nat → Prop} {b e size n : Nat} {v : Value} {xs : List Value} (h : w.ownsRow b e size v n xs) (hc : Chg F w w') (h1 : ∀ g, v.ownBlock = some g → ¬ F g) : w'.ownsRow b e size v n xs := by
  obtain ⟨h0, h2 | ⟨g, c, cur, rfl, hb, hg, hr⟩⟩ := h
  · exact ⟨h0, .inl h2⟩
  · exact ⟨h0, .inr ⟨g, c, cur, rfl, hb, hc.blk hg (h1 g rfl), hr⟩⟩
theorem R3.chg {F : Nat → Prop} (h : R3 w qb qr cap L) (hc : Chg F w w') (h1 : ¬ F qb) (h2 : ¬ F qr) : R3 w' qb qr cap L :=
  ⟨hc.blk h.blk h1, row_chg h.row hc (by intro g hg; simp only [Value.ownBlock, Option.some.injEq] at hg; subst hg; exact h2)⟩
theorem R3.below (h : R3 w qb qr cap L) (hb : Below w.heap.size w w') : R3 w' qb qr cap L := h.chg (Chg.below (fun _ => False) hb) (fun h => h) (fun h => h)
theorem R3.cell (h : R3 w qb qr cap L) (j : Nat) (hj : j < L.length) : w.cell? ⟨qr, j, none⟩ = some (.int .i64 (L.getD j 0)) := by
  rw [World.ownsRow.cellAt h.row j (by omega), List.getElem?_map, List.getElem?_eq_getElem hj, List.getD_eq_getElem?_getD, List.getElem?_eq_getElem hj]
  rfl
theorem R3.set (h : R3 w qb qr cap L) (j : Nat) (hj : j < L.length) (x : Int) : R3 (w.setCell ⟨qr, j, none⟩ (.int .i64 x)) qb qr cap (L.set j x) := by
  have hs := World.ownsRow.stored h.row j (.int .i64 x)
  refine ⟨?_, ?_⟩
  · rw [List.length_set]
    exact blk_far h.blk (fun e => h.ne e.symm) _
  · rw [List.length_set, List.map_set]
    exact hs.1
def NewOut (w : World) (n : Nat) (e : Ending) (w' : World) : Prop := ∃ qb qr cap, e = .returned (.tuple #[.pointer (some ⟨qb, 0, none⟩), .int .i64 0]) ∧ w.heap.size ≤ qb ∧ w.heap.size ≤ qr ∧ R3 w' qb qr cap (List.replicate n (-1)) ∧ Below w.heap.size w w'
set_option maxHeartbeats 4000000 in
set_option maxRecDepth 100000 in
theorem new_calls (w : World) (n : Nat) (h0 : 0 < n) (hn : n ≤ 48) : Calls Try.prog 38 #[.int .i64 n] w (NewOut w n) := by
  obtain ⟨i0, hi, hz0, hz1, hz2⟩ := info_parts info3
  have k1 : decide ((n : Int) < 0) = false := decide_eq_false (by omega)
  have k2 : decide ((48 : Int) < (n : Int)) = false := decide_eq_false (by omega)
  go_enter Try.func38, Try.ntmps38
  go_wp2
  go_loopw [5] (fun i wr => ∃ (k : Nat) (v : Value) (W2 : World), k ≤ n ∧ i = .int .i64 k ∧ wr = W2 ∧ Base.Aside (W2.heap[w.heap.size]? = some (.cells #[v] 160 (0, 0)) ∧ W2.ownsRow w.heap.size 3 1 v k (List.replicate k (.int .i64 (-1))) ∧ Below w.heap.size w W2)) (fun i _ => n - (intOf i).toNat)
  case atStart => exact ⟨0, _, _, Nat.zero_le _, rfl, rfl, ⟨blk_new _ _, World.ownsRow_nil _ _ _ _, below_alloc (Below.refl _ _) _⟩⟩
  case round =>
    obtain ⟨k, v, W2, hk, rfl, hwr, hA⟩ := hrel
    obtain rfl := hwr.symm
    have C2 := fun i => blk_cell hA.out.1 i
    have F2 := fun i => blk_frozen hA.out.1 i
    have L2 := blk_lt hA.out.1
    by_cases hlt : k < n
    · go_wp2_with (first
        | (at_builtin; refine wpList_append_own_at _ rfl _ _ 158 rfl w.heap.size 3 i0 (.int .i64 0) 1 8 Try.underlying158 hi hz0 hz1 hz2 rfl (by decide) _ k _ rfl (hA.out.2.1.alloc _) ⟨W2.heap.size, 0, none⟩ 1 1 [.int .i64 (-1)] rfl rfl (cell_one_new _ _ _) (ints_oneCell .i64 [-1]) (by unfold maxLen; omega) (by omega) (by have := hA.out.2.2.size; simp; omega) ?_)
        | go_in)
      intro v' w3 hown hg hnil hloc
      obtain ⟨g2, cap2, rfl, hg2⟩ := row_full hown (by omega)
      have hne := row_ne (hA.out.2.1) hA.out.1 (by decide)
      have hb3 : w3.heap[w.heap.size]? = some (.cells #[v] 160 (0, 0)) := (hg.block _ (by simp; omega) (fun e => hne e.symm)).trans (blk_alloc hA.out.1 _)
      have hB3 : Below w.heap.size w w3 := (below_alloc hA.out.2.2 _).grown hg (by have := hA.out.2.2.size; simp; omega) (fun j hj => (hA.out.2.1.lt j hj).1)
      have C3 := fun i => blk_cell hb3 i
      have F3 := fun i => blk_frozen hb3 i
      have L3 := blk_lt hb3
      have H3 := Base.Aside.mk (And.intro hb3 (And.intro hown hB3))
      clear hb3 hown hB3 hg hnil hloc hne
      go_wp2
      have hne3 := row_ne H3.out.2.1 H3.out.1 (by decide)
      refine ⟨⟨k + 1, .slice (some ⟨g2, 0, none⟩) ((k + 1 : Nat)) cap2, _, by omega, by simp, rfl, ⟨blk_put H3.out.1 0 _ (by simp), ?_, ?_⟩⟩, by simp [intOf]; omega⟩
      · rw [List.replicate_succ']
        exact row_chg H3.out.2.1 (Chg.set (F := fun x => x = w.heap.size) (p := ⟨w.heap.size, 0, none⟩) (Chg.refl _ w3) (.inl rfl) _) (by rintro g hg rfl; exact hne3 hg)
      · exact below_set H3.out.2.2 (Nat.le_refl _) _
    · obtain rfl : k = n := by omega
      go_wp2
      go_ret2
      obtain ⟨hh, ⟨_, h2⟩ | ⟨g, c, cur, rfl, hb, hg, hr⟩⟩ := hA.out.2.1
      · omega
      · have hrow := hA.out.2.1
        refine ⟨_, g, c, rfl, Nat.le_refl _, hb, ⟨?_, ?_⟩, hA.out.2.2⟩
        · rw [List.length_replicate]; exact hA.out.1
        · rw [List.length_replicate, List.map_replicate]; exact row_low hrow
set_option maxHeartbeats 4000000 in
set_option maxRecDepth 100000 in
theorem find_none (h : R3 w qb qr cap L) (hl : L.length ≤ 48) (m : Int) (hm : ∀ j, j < L.length → L.getD j 0 ≠ m) : Calls Try.prog 76 #[.pointer (some ⟨qb, 0, none⟩), .int .i64 m] w fun e w' => e = .returned (.tuple #[.int .i64 0, .int .i64 6]) ∧ w' = w := by
  have C0 := fun i => blk_cell h.blk i
  have L0 := blk_lt h.blk
  have L1 := h.lt.2
  obtain ⟨f, hfe⟩ : ∃ f : Nat → Int, ∀ j, f j = L.getD j 0 := ⟨_, fun _ => rfl⟩
  have hc : ∀ j, j < L.length → w.cell? ⟨qr, j, none⟩ = some (.int .i64 (f j)) := fun j hj => by rw [hfe]; exact h.cell j hj
  have hm' : ∀ j, j < L.length → f j ≠ m := fun j hj => by rw [hfe]; exact hm j hj
  obtain ⟨n, hn⟩ : ∃ n, n = L.length := ⟨_, rfl⟩
  rw [← hn] at C0 hl hc hm'
  have HM := Base.Aside.mk hm'
  clear h hm hm' hfe hn
  go_enter Try.func76, Try.ntmps76
  go_wp2
  go_loopw [6] (fun i wr => ∃ k : Nat, k ≤ n ∧ i = .int .i64 k ∧ wr = w) (fun i _ => n - (intOf i).toNat)
  case atStart => exact ⟨0, Nat.zero_le _, rfl, rfl⟩
  case round =>
    obtain ⟨k, hk, rfl, hwr⟩ := hrel
    obtain rfl := hwr.symm
    by_cases hlt : k < n
    · have hcell := hc k hlt
      have hx := HM.out k hlt
      obtain ⟨x, hxe⟩ : ∃ x, x = f k := ⟨_, rfl⟩
      rw [← hxe] at hcell hx
      have hb1 : (x == m) = false := beq_eq_false_iff_ne.2 hx
      by_cases hp : 0 ≤ x
      · have d1 : decide (0 ≤ x) = true := decide_eq_true hp
        go_wp2
        exact ⟨⟨k + 1, by omega, by simp, trivial⟩, by simp [intOf]; omega⟩
      · have d1 : decide (0 ≤ x) = false := decide_eq_false hp
        go_wp2
        exact ⟨⟨k + 1, by omega, by simp, trivial⟩, by simp [intOf]; omega⟩
    · go_wp2
      go_ret2
      exact ⟨by first | rfl | (simp; done), rfl⟩
set_option maxHeartbeats 4000000 in
set_option maxRecDepth 100000 in
theorem set_calls (h : R3 w qb qr cap L) (hl : L.length ≤ 48) (k : Nat) (hk : k < L.length) (hfree : L.getD k 0 < 0) (m : Nat) (hm : m < 256) (hno : ∀ j, j < L.length → L.getD j 0 ≠ (m : Int)) : Calls Try.prog 42 #[.pointer (some ⟨qb, 0, none⟩), .int .i64 k, .int .i64 m] w fun e w' => e = .returned (.int .i64 0) ∧ R3 w' qb qr cap (L.set k m) ∧ Chg (fun x => x = qr) w w' := by
  have C0 := fun i => blk_cell h.blk i
  have L0 := blk_lt h.blk
  have L1 := h.lt.2
  have c1 := h.cell k hk
  have f1 := World.ownsRow.frozenAt h.row k
  have hf := find_none h hl m hno
  have HS := Base.Aside.mk (And.intro (h.set k hk m) (Chg.set (F := fun x => x = qr) (p := ⟨qr, k, none⟩) (Chg.refl _ w) (.inl rfl) (.int .i64 m)))
  obtain ⟨x, hxe⟩ : ∃ x, x = L.getD k 0 := ⟨_, rfl⟩
  rw [← hxe] at c1 hfree
  obtain ⟨n, hn⟩ : ∃ n, n = L.length := ⟨_, rfl⟩
  rw [← hn] at C0 hl hk
  have d1 : decide ((k : Int) < 0) = false := decide_eq_false (by omega)
  have d2 : decide ((n : Int) ≤ (k : Int)) = false := decide_eq_false (by omega)
  have d3 : decide ((m : Int) < 0) = false := decide_eq_false (by omega)
  have d4 : decide ((256 : Int) ≤ (m : Int)) = false := decide_eq_false (by omega)
  have d5 : decide (0 ≤ x) = false := decide_eq_false (by omega)
  clear h hno hn hxe
  go_enter Try.func42, Try.ntmps42
  go_wp2_with (first
    | (go_at_call 76; refine hf.mono ?_; rintro z w1 ⟨rfl, hw1⟩; obtain rfl := hw1.symm)
    | go_in)
  go_ret
  exact ⟨by first | rfl | (simp; done), HS.out.1, HS.out.2⟩
end
end Go.Proofs.Ytjeobbhaoahdcaa.RpA
