/- Proved: the document's map of places as it lies in memory; its New, Find and Set (contracts for the laws of the grants). Proved: the document's machine as it lies in memory; its New (contracts for the laws of the grants). Proved: what the document's machine answers: Domain, Is, Owned, Alloc (contracts for the laws of the grants). Proved: the document's Get of a frame that nobody refers to (a contract for the laws of the grants). -/
import Derived.Test.YthlejchcnfdcpaaGreatMlaa
import Derived.Test.YthlejchcnfdcpaaGreatMlad
import Derived.Maps.AppendAt
import Derived.Deep.RegionLaw
import Derived.Deep.AppendLies
namespace Go.Proofs.YthlejchcnfdcpaaGreat.RpA
open Go.RowKit Go.Maps Base GaA GaB GaC
set_option linter.unusedVariables false
set_option linter.unusedSimpArgs false

theorem info3 : (Tryz.prog.info? 3).map (fun i => (i.zero, i.size, i.bytes)) = some (some (.int .i64 0), 1, 8) := by kernel_rfl
theorem row_ne {W : World} {g n e size b : Nat} {t : TypeId} {v : Value} {xs : List Value} {cs : Array Value} (hr : W.ownsRow b e size v n xs) (hg : W.heap[g]? = some (.cells cs t (0, 0))) (ht : t ≠ e) : v.ownBlock ≠ some g := by
  obtain ⟨_, ⟨rfl, h0⟩ | ⟨g', cap', cur', rfl, hbase, hb', _⟩⟩ := hr
  · simp [Value.ownBlock]
  · intro e1
    simp only [Value.ownBlock, Option.some.injEq] at e1
    subst e1
    rw [hg] at hb'
    injection hb' with h1
    injection h1 with h1 h2
    exact ht h2
theorem row_full {W : World} {n e size b : Nat} {v : Value} {xs : List Value} (hr : W.ownsRow b e size v n xs) (hn : 0 < n) : ∃ g cap, v = .slice (some ⟨g, 0, none⟩) n cap ∧ b ≤ g := by
  obtain ⟨_, ⟨rfl, h0⟩ | ⟨g', cap', cur', rfl, hbase, hb', _⟩⟩ := hr
  · omega
  · exact ⟨g', cap', rfl, hbase⟩
theorem row_low {W : World} {b e size n : Nat} {v : Value} {xs : List Value} (h : W.ownsRow b e size v n xs) : W.ownsRow 0 e size v n xs := ⟨h.1, h.2.imp id fun ⟨g, cap, cur, h1, _, h2⟩ => ⟨g, cap, cur, h1, Nat.zero_le _, h2⟩⟩
/-- The document's map of places in memory: what stands at each place, or -1. -/
structure R3 (w : World) (qb qr cap : Nat) (L : List Int) : Prop where
  blk : w.heap[qb]? = some (.cells #[.slice (some ⟨qr, 0, none⟩) L.length cap] 128 (0, 0))
  row : w.ownsRow 0 3 1 (.slice (some ⟨qr, 0, none⟩) L.length cap) L.length (L.map (Value.int .i64))
section
variable {w w' : World} {qb qr cap : Nat} {L : List Int}
theorem R3.lt (h : R3 w qb qr cap L) : qb < w.heap.size ∧ qr < w.heap.size := ⟨blk_lt h.blk, (h.row.lt qr rfl).2⟩
theorem R3.ne (h : R3 w qb qr cap L) : qr ≠ qb := fun e => row_ne h.row h.blk (by decide) (by rw [e]; rfl)
theorem row_chg {F : Nat → Prop} {b e size n : Nat} {v : Value} {xs : List Value} (h : w.ownsRow b e size v n xs) (hc : Chg F w w') (h1 : ∀ g, v.ownBlock = some g → ¬ F g) : w'.ownsRow b e size v n xs := by
  obtain ⟨h0, h2 | ⟨g, c, cur, rfl, hb, hg, hr⟩⟩ := h
  · exact ⟨h0, .inl h2⟩
  · exact ⟨h0, .inr ⟨g, c, cur, rfl, hb, hc.blk hg (h1 g rfl), hr⟩⟩
theorem R3.chg {F : Nat → Prop} (h : R3 w qb qr cap L) (hc : Chg F w w') (h1 : ¬ F qb) (h2 : ¬ F qr) : R3 w' qb qr cap L :=
  ⟨hc.blk h.blk h1, row_chg h.row hc (by intro g hg; simp only [Value.ownBlock, Option.some.injEq] at hg; subst hg; exact h2)⟩
theorem R3.below (h : R3 w qb qr cap L) (hb : Below w.heap.size w w') : R3 w' qb qr cap L := h.chg (Chg.below (fun _ => False) hb) (fun h => h) (fun h => h)
theorem R3.cell (h : R3 w qb qr cap L) (j : Nat) (hj : j < L.length) : w.cell? ⟨qr, j, none⟩ = some (.int .i64 (L.getD j 0)) := by
  rw [World.ownsRow.cellAt h.row j (by omega), List.getElem?_map, List.getElem?_eq_getElem hj, List.getD_eq_getElem?_getD, List.getElem?_eq_getElem hj]
  rfl
theorem R3.set (h : R3 w qb qr cap L) (j : Nat) (hj : j < L.length) (x : Int) : R3 (w.setCell ⟨qr, j, none⟩ (.int .i64 x)) qb qr cap (L.set j x) := by
  have hs := World.ownsRow.stored h.row j (.int .i64 x)
  refine ⟨?_, ?_⟩
  · rw [List.length_set]
    exact blk_far h.blk (fun e => h.ne e.symm) _
  · rw [List.length_set, List.map_set]
    exact hs.1
def NewOut (w : World) (n : Nat) (e : Ending) (w' : World) : Prop := ∃ qb qr cap, e = .returned (.tuple #[.pointer (some ⟨qb, 0, none⟩), .int .i64 0]) ∧ w.heap.size ≤ qb ∧ w.heap.size ≤ qr ∧ R3 w' qb qr cap (List.replicate n (-1)) ∧ Below w.heap.size w w'
set_option maxHeartbeats 4000000 in
set_option maxRecDepth 100000 in
theorem new_calls (w : World) (n : Nat) (h0 : 0 < n) (hn : n ≤ 48) : Calls Tryz.prog 12 #[.int .i64 n] w (NewOut w n) := by
  obtain ⟨i0, hi, hz0, hz1, hz2⟩ := info_parts info3
  have k1 : decide ((n : Int) < 0) = false := decide_eq_false (by omega)
  have k2 : decide ((48 : Int) < (n : Int)) = false := decide_eq_false (by omega)
  go_enter Tryz.func12, Tryz.ntmps12
  go_wp2
  go_loopw [5] (fun i wr => ∃ (k : Nat) (v : Value) (W2 : World), k ≤ n ∧ i = .int .i64 k ∧ wr = W2 ∧ Base.Aside (W2.heap[w.heap.size]? = some (.cells #[v] 128 (0, 0)) ∧ W2.ownsRow w.heap.size 3 1 v k (List.replicate k (.int .i64 (-1))) ∧ Below w.heap.size w W2)) (fun i _ => n - (intOf i).toNat)
  case atStart => exact ⟨0, _, _, Nat.zero_le _, rfl, rfl, ⟨blk_new _ _, World.ownsRow_nil _ _ _ _, below_alloc (Below.refl _ _) _⟩⟩
  case round =>
    obtain ⟨k, v, W2, hk, rfl, hwr, hA⟩ := hrel
    obtain rfl := hwr.symm
    have C2 := fun i => blk_cell hA.out.1 i
    have F2 := fun i => blk_frozen hA.out.1 i
    have L2 := blk_lt hA.out.1
    by_cases hlt : k < n
    · go_wp2_with (first
        | (at_builtin; refine wpList_append_own_at _ rfl _ _ 126 rfl w.heap.size 3 i0 (.int .i64 0) 1 8 Tryz.underlying126 hi hz0 hz1 hz2 rfl (by decide) _ k _ rfl (hA.out.2.1.alloc _) ⟨W2.heap.size, 0, none⟩ 1 1 [.int .i64 (-1)] rfl rfl (cell_one_new _ _ _) (ints_oneCell .i64 [-1]) (by unfold maxLen; omega) (by omega) (by have := hA.out.2.2.size; simp; omega) ?_)
        | go_in)
      intro v' w3 hown hg hnil hloc
      obtain ⟨g2, cap2, rfl, hg2⟩ := row_full hown (by omega)
      have hne := row_ne (hA.out.2.1) hA.out.1 (by decide)
      have hb3 : w3.heap[w.heap.size]? = some (.cells #[v] 128 (0, 0)) := (hg.block _ (by simp; omega) (fun e => hne e.symm)).trans (blk_alloc hA.out.1 _)
      have hB3 : Below w.heap.size w w3 := (below_alloc hA.out.2.2 _).grown hg (by have := hA.out.2.2.size; simp; omega) (fun j hj => (hA.out.2.1.lt j hj).1)
      have C3 := fun i => blk_cell hb3 i
      have F3 := fun i => blk_frozen hb3 i
      have L3 := blk_lt hb3
      have H3 := Base.Aside.mk (And.intro hb3 (And.intro hown hB3))
      clear hb3 hown hB3 hg hnil hloc hne
      go_wp2
      have hne3 := row_ne H3.out.2.1 H3.out.1 (by decide)
      refine ⟨⟨k + 1, .slice (some ⟨g2, 0, none⟩) ((k + 1 : Nat)) cap2, _, by omega, by simp, rfl, ⟨blk_put H3.out.1 0 _ (by simp), ?_, ?_⟩⟩, by simp [intOf]; omega⟩
      · rw [List.replicate_succ']
        exact row_chg H3.out.2.1 (Chg.set (F := fun x => x = w.heap.size) (p := ⟨w.heap.size, 0, none⟩) (Chg.refl _ w3) (.inl rfl) _) (by rintro g hg rfl; exact hne3 hg)
      · exact below_set H3.out.2.2 (Nat.le_refl _) _
    · obtain rfl : k = n := by omega
      go_wp2
      go_ret2
      obtain ⟨hh, ⟨_, h2⟩ | ⟨g, c, cur, rfl, hb, hg, hr⟩⟩ := hA.out.2.1
      · omega
      · have hrow := hA.out.2.1
        refine ⟨_, g, c, rfl, Nat.le_refl _, hb, ⟨?_, ?_⟩, hA.out.2.2⟩
        · rw [List.length_replicate]; exact hA.out.1
        · rw [List.length_replicate, List.map_replicate]; exact row_low hrow
set_option maxHeartbeats 4000000 in
set_option maxRecDepth 100000 in
theorem find_none (h : R3 w qb qr cap L) (hl : L.length ≤ 48) (m : Int) (hm : ∀ j, j < L.length → L.getD j 0 ≠ m) : Calls Tryz.prog 51 #[.pointer (some ⟨qb, 0, none⟩), .int .i64 m] w fun e w' => e = .returned (.tuple #[.int .i64 0, .int .i64 6]) ∧ w' = w := by
  have C0 := fun i => blk_cell h.blk i
  have L0 := blk_lt h.blk
  have L1 := h.lt.2
  obtain ⟨f, hfe⟩ : ∃ f : Nat → Int, ∀ j, f j = L.getD j 0 := ⟨_, fun _ => rfl⟩
  have hc : ∀ j, j < L.length → w.cell? ⟨qr, j, none⟩ = some (.int .i64 (f j)) := fun j hj => by rw [hfe]; exact h.cell j hj
  have hm' : ∀ j, j < L.length → f j ≠ m := fun j hj => by rw [hfe]; exact hm j hj
  obtain ⟨n, hn⟩ : ∃ n, n = L.length := ⟨_, rfl⟩
  rw [← hn] at C0 hl hc hm'
  have HM := Base.Aside.mk hm'
  clear h hm hm' hfe hn
  go_enter Tryz.func51, Tryz.ntmps51
  go_wp2
  go_loopw [6] (fun i wr => ∃ k : Nat, k ≤ n ∧ i = .int .i64 k ∧ wr = w) (fun i _ => n - (intOf i).toNat)
  case atStart => exact ⟨0, Nat.zero_le _, rfl, rfl⟩
  case round =>
    obtain ⟨k, hk, rfl, hwr⟩ := hrel
    obtain rfl := hwr.symm
    by_cases hlt : k < n
    · have hcell := hc k hlt
      have hx := HM.out k hlt
      obtain ⟨x, hxe⟩ : ∃ x, x = f k := ⟨_, rfl⟩
      rw [← hxe] at hcell hx
      have hb1 : (x == m) = false := beq_eq_false_iff_ne.2 hx
      by_cases hp : 0 ≤ x
      · have d1 : decide (0 ≤ x) = true := decide_eq_true hp
        go_wp2
        exact ⟨⟨k + 1, by omega, by simp, trivial⟩, by simp [intOf]; omega⟩
      · have d1 : decide (0 ≤ x) = false := decide_eq_false hp
        go_wp2
        exact ⟨⟨k + 1, by omega, by simp, trivial⟩, by simp [intOf]; omega⟩
    · go_wp2
      go_ret2
      exact ⟨by first | rfl | (simp; done), rfl⟩
set_option maxHeartbeats 4000000 in
set_option maxRecDepth 100000 in
theorem set_calls (h : R3 w qb qr cap L) (hl : L.length ≤ 48) (k : Nat) (hk : k < L.length) (hfree : L.getD k 0 < 0) (m : Nat) (hm : m < 256) (hno : ∀ j, j < L.length → L.getD j 0 ≠ (m : Int)) : Calls Tryz.prog 16 #[.pointer (some ⟨qb, 0, none⟩), .int .i64 k, .int .i64 m] w fun e w' => e = .returned (.int .i64 0) ∧ R3 w' qb qr cap (L.set k m) ∧ Chg (fun x => x = qr) w w' := by
  have C0 := fun i => blk_cell h.blk i
  have L0 := blk_lt h.blk
  have L1 := h.lt.2
  have c1 := h.cell k hk
  have f1 := World.ownsRow.frozenAt h.row k
  have hf := find_none h hl m hno
  have HS := Base.Aside.mk (And.intro (h.set k hk m) (Chg.set (F := fun x => x = qr) (p := ⟨qr, k, none⟩) (Chg.refl _ w) (.inl rfl) (.int .i64 m)))
  obtain ⟨x, hxe⟩ : ∃ x, x = L.getD k 0 := ⟨_, rfl⟩
  rw [← hxe] at c1 hfree
  obtain ⟨n, hn⟩ : ∃ n, n = L.length := ⟨_, rfl⟩
  rw [← hn] at C0 hl hk
  have d1 : decide ((k : Int) < 0) = false := decide_eq_false (by omega)
  have d2 : decide ((n : Int) ≤ (k : Int)) = false := decide_eq_false (by omega)
  have d3 : decide ((m : Int) < 0) = false := decide_eq_false (by omega)
  have d4 : decide ((256 : Int) ≤ (m : Int)) = false := decide_eq_false (by omega)
  have d5 : decide (0 ≤ x) = false := decide_eq_false (by omega)
  clear h hno hn hxe
  go_enter Tryz.func16, Tryz.ntmps16
  go_wp2_with (first
    | (go_at_call 51; refine hf.mono ?_; rintro z w1 ⟨rfl, hw1⟩; obtain rfl := hw1.symm)
    | go_in)
  go_ret
  exact ⟨by first | rfl | (simp; done), HS.out.1, HS.out.2⟩
end
end Go.Proofs.YthlejchcnfdcpaaGreat.RpA
namespace Go.Proofs.YthlejchcnfdcpaaGreat.RmA
open Go.RowKit Go.Maps Base GaA GaB GaC RpA
set_option linter.unusedVariables false
set_option linter.unusedSimpArgs false

theorem infoF : (Tryz.prog.info? 95).map (fun i => (i.zero, i.size, i.bytes)) = some (some (.agg #[.int .i64 0, .int .i64 0, .int .i64 0, .int .i64 0]), 4, 32) := by kernel_rfl
theorem infoB : (Tryz.prog.info? 30).map (fun i => (i.zero, i.size, i.bytes)) = some (some (.slice none 0 0), 1, 24) := by kernel_rfl
theorem cell_four_new (w : World) (a b c d : Value) (t : TypeId) : ∀ j u, [a, b, c, d][j]? = some u → (w.alloc (.cells #[a, b, c, d] t)).cell? ((⟨w.heap.size, 0, none⟩ : Addr).add j) = some u := by
  intro j u h
  rw [show ((⟨w.heap.size, 0, none⟩ : Addr).add j) = ⟨w.heap.size, j, none⟩ by unfold Addr.add; split <;> simp_all, blk_cell (blk_new w (.cells #[a, b, c, d] t)) j]
  rw [← h]
  simp
/-- The words of a frame, cell by cell. -/
def cellF (s : MS) (i j : Nat) : Value := cellM s i j
/-- The document's machine in memory. -/
structure RMach (w : World) (rb Fb Bb cF cB : Nat) (bs : List Nat) (s : MS) : Prop where
  blk : w.heap[rb]? = some (.cells #[.slice (some ⟨Fb, 0, none⟩) s.n cF, .slice (some ⟨Bb, 0, none⟩) s.n cB] 93 (0, 0))
  frs : ∃ cs, w.heap[Fb]? = some (.cells cs 95 (0, 0)) ∧ ∀ i j, i < s.n → j < 4 → cs[i * 4 + j]? = some (cellM s i j)
  rows : ∃ cs, w.heap[Bb]? = some (.cells cs 30 (0, 0)) ∧ ∀ i, i < s.n → cs[i]? = some (.slice (some ⟨bs.getD i 0, 0, none⟩) 256 256)
  len : bs.length = s.n
  nodup : bs.Nodup
  page : ∀ i, i < s.n → w.heap[bs.getD i 0]? = some (.cells (u8s (MS.rd s i 0 256)).toArray 5 (0, 0))
  few : s.n ≤ 1000
/-- A machine nobody has used. -/
def ms0 (n : Nat) : MS := ⟨n, fun _ => ⟨-1, 0, 0, 0⟩, fun _ _ => 0⟩
theorem rep4 (x : List Value) (hx : x.length = 4) : ∀ (i k j : Nat), i < k → j < 4 → (List.replicate k x).flatten[i * 4 + j]? = x[j]?
  | 0, k + 1, j, _, hj => by
      rw [List.replicate_succ, List.flatten_cons, Nat.zero_mul, Nat.zero_add, List.getElem?_append_left (by omega)]
  | i + 1, k + 1, j, hi, hj => by
      rw [List.replicate_succ, List.flatten_cons, List.getElem?_append_right (by omega), hx, show (i + 1) * 4 + j - 4 = i * 4 + j by omega]
      exact rep4 x hx i k j (by omega) hj
theorem rep4_len (x : List Value) (hx : x.length = 4) (k : Nat) : (List.replicate k x).flatten.length = k * 4 := by
  simp [hx]
theorem rep4_snoc (x : List Value) (k : Nat) : (List.replicate (k + 1) x).flatten = (List.replicate k x).flatten ++ x := by
  rw [List.replicate_succ', List.flatten_append]; simp
theorem zero_page (n k : Nat) : (madeCells #[.int .u8 0] 256 : Array Value) = (u8s (MS.rd (ms0 n) k 0 256)).toArray := by
  show _ = (u8s ((List.range 256).map fun j => (0 : UInt8))).toArray
  kernel_rfl
def fr0 : List Value := [.int .i64 (-1), .int .i64 0, .int .i64 0, .int .i64 0]
def rowB (bs : List Nat) : List Value := bs.map (fun b => .slice (some ⟨b, 0, none⟩) 256 256)
structure NewInv (w W : World) (f k : Nat) (v u : Value) (bs : List Nat) : Prop where
  blk : W.heap[w.heap.size]? = some (.cells #[v, u] 93 (0, 0))
  frs : W.ownsRow w.heap.size 95 4 v f (List.replicate f fr0).flatten
  rows : W.ownsRow w.heap.size 30 1 u k (rowB bs)
  len : bs.length = k
  nodup : bs.Nodup
  old : ∀ b ∈ bs, w.heap.size ≤ b
  page : ∀ b ∈ bs, W.heap[b]? = some (.cells (madeCells #[.int .u8 0] 256) 5 (0, 0))
  bel : Below w.heap.size w W
def NewOut (w : World) (n : Nat) (e : Ending) (w' : World) : Prop := ∃ rb Fb Bb cF cB bs, e = .returned (.tuple #[.pointer (some ⟨rb, 0, none⟩), .int .i64 0]) ∧ w.heap.size ≤ rb ∧ w.heap.size ≤ Fb ∧ w.heap.size ≤ Bb ∧ (∀ b ∈ bs, w.heap.size ≤ b) ∧ RMach w' rb Fb Bb cF cB bs (ms0 n) ∧ Below w.heap.size w w'
theorem NewInv.one {w W w3 : World} {k : Nat} {v u v' : Value} {bs : List Nat} {o : Obj} (h : NewInv w W k k v u bs) (hg : (W.alloc o).grownBy w3 v.ownBlock) (hown : w3.ownsRow w.heap.size 95 4 v' (k + 1) ((List.replicate k fr0).flatten ++ fr0)) :
    w3.heap[w.heap.size]? = some (.cells #[v, u] 93 (0, 0)) ∧ NewInv w (w3.setCell ⟨w.heap.size, 0, none⟩ v') (k + 1) k v' u bs := by
  have hne := row_ne h.frs h.blk (by decide)
  have hlt := blk_lt h.blk
  have hkeep : ∀ b x, W.heap[b]? = some x → v.ownBlock ≠ some b → w3.heap[b]? = some x := fun b x hb hn => (hg.block _ (by have := blk_lt hb; simp; omega) (fun e => hn e.symm)).trans (blk_alloc hb _)
  have hb3 := hkeep _ _ h.blk hne
  have hB3 : Below w.heap.size w w3 := (below_alloc h.bel _).grown hg (by simp; omega) (fun j hj => (h.frs.lt j hj).1)
  have hc : Chg (fun x => x = w.heap.size) w3 (w3.setCell ⟨w.heap.size, 0, none⟩ v') := Chg.set (F := fun x => x = w.heap.size) (p := ⟨w.heap.size, 0, none⟩) (Chg.refl _ w3) (.inl rfl) _
  have hr3 : w3.ownsRow w.heap.size 30 1 u k (rowB bs) := (h.rows.alloc o).kept hg (by
    obtain ⟨_, ⟨rfl, h0⟩ | ⟨g, cap, cur, rfl, hb, hgb, _⟩⟩ := h.rows
    · exact .inl rfl
    · refine .inr (fun e => ?_)
      exact row_ne h.frs hgb (by decide) e.symm)
  refine ⟨hb3, ⟨blk_put hb3 0 _ (by simp), ?_, ?_, h.len, h.nodup, h.old, ?_, below_set hB3 (Nat.le_refl _) _⟩⟩
  · rw [rep4_snoc]
    exact row_chg hown hc (by rintro g hg rfl; exact row_ne hown hb3 (by decide) hg)
  · exact row_chg hr3 hc (by rintro g hg rfl; exact row_ne hr3 hb3 (by decide) hg)
  · intro b hb
    have hp := h.page b hb
    have h5 : v.ownBlock ≠ some b := row_ne h.frs hp (by decide)
    refine hc.blk (hkeep _ _ hp h5) ?_
    rintro rfl
    rw [h.blk] at hp
    have e := Option.some.inj hp
    injection e with e1 e2 e3
    exact absurd e2 (by decide)
theorem heap_new2 (W : World) (o1 o2 : Obj) : ((W.alloc o1).alloc o2).drew.heap[W.heap.size + 1]? = some o2 := by
  have := blk_new (W.alloc o1) o2
  rw [World.size_alloc] at this
  exact this
theorem NewInv.two {w W w3 : World} {k : Nat} {v u v' : Value} {bs : List Nat} {o : Obj} (h : NewInv w W (k + 1) k v u bs) (hg : (((W.alloc (.cells (madeCells #[.int .u8 0] 256) 5)).alloc o).drew).grownBy w3 u.ownBlock) (hown : w3.ownsRow w.heap.size 30 1 v' (k + 1) (rowB bs ++ [.slice (some ⟨W.heap.size, 0, none⟩) 256 256])) :
    w3.heap[w.heap.size]? = some (.cells #[v, u] 93 (0, 0)) ∧ NewInv w (w3.setCell ⟨w.heap.size, 1, none⟩ v') (k + 1) (k + 1) v v' (bs ++ [W.heap.size]) := by
  have hne := row_ne h.rows h.blk (by decide)
  have hlt := blk_lt h.blk
  have hkeep : ∀ b x, W.heap[b]? = some x → u.ownBlock ≠ some b → w3.heap[b]? = some x := fun b x hb hn => (hg.block _ (by have := blk_lt hb; simp; omega) (fun e => hn e.symm)).trans (blk_alloc (blk_alloc hb _) _)
  have hb3 := hkeep _ _ h.blk hne
  have hnew : w3.heap[W.heap.size]? = some (.cells (madeCells #[.int .u8 0] 256) 5 (0, 0)) := (hg.block _ (by simp; omega) (fun e => by have := (h.rows.lt _ e.symm).2; omega)).trans (blk_alloc (blk_new W _) _)
  have hB3 : Below w.heap.size w w3 := ((below_alloc (below_alloc h.bel _) _).drew).grown hg (by simp; omega) (fun j hj => (h.rows.lt j hj).1)
  have hc : Chg (fun x => x = w.heap.size) w3 (w3.setCell ⟨w.heap.size, 1, none⟩ v') := Chg.set (F := fun x => x = w.heap.size) (p := ⟨w.heap.size, 1, none⟩) (Chg.refl _ w3) (.inl rfl) _
  have hr3 : w3.ownsRow w.heap.size 95 4 v (k + 1) (List.replicate (k + 1) fr0).flatten := (((h.frs.alloc _).alloc _).drew).kept hg (by
    obtain ⟨_, ⟨rfl, h0⟩ | ⟨g, cap, cur, rfl, hb, hgb, _⟩⟩ := h.frs
    · exact .inl rfl
    · refine .inr (fun e => ?_)
      exact row_ne h.rows hgb (by decide) e.symm)
  refine ⟨hb3, ⟨blk_put hb3 1 _ (by simp), ?_, ?_, by simp [h.len], ?_, ?_, ?_, below_set hB3 (Nat.le_refl _) _⟩⟩
  · exact row_chg hr3 hc (by rintro g hg rfl; exact row_ne hr3 hb3 (by decide) hg)
  · have := row_chg hown hc (by rintro g hg rfl; exact row_ne hown hb3 (by decide) hg)
    simpa [rowB] using this
  · refine List.nodup_append.2 ⟨h.nodup, by simp, ?_⟩
    intro a ha b hb e
    rw [List.mem_singleton] at hb
    have := blk_lt (h.page a ha)
    omega
  · intro b hb
    rcases List.mem_append.1 hb with hb | hb
    · exact h.old b hb
    · rw [List.mem_singleton] at hb
      have := h.bel.size
      omega
  · intro b hb
    rcases List.mem_append.1 hb with hb | hb
    · have hp := h.page b hb
      have h5 : u.ownBlock ≠ some b := row_ne h.rows hp (by decide)
      refine hc.blk (hkeep _ _ hp h5) ?_
      rintro rfl
      rw [h.blk] at hp
      have e := Option.some.inj hp
      injection e with e1 e2 e3
      exact absurd e2 (by decide)
    · rw [List.mem_singleton] at hb
      subst hb
      exact hc.blk hnew (by omega)
theorem NewInv.done {w W : World} {n : Nat} {v u : Value} {bs : List Nat} (h : NewInv w W n n v u bs) (h0 : 0 < n) (hn : n ≤ 256) : NewOut w n (.returned (.tuple #[.pointer (some ⟨w.heap.size, 0, none⟩), .int .i64 0])) W := by
  obtain ⟨_, ⟨_, h2⟩ | ⟨g, c, cur, rfl, hb, hg, hr1, hr2, hr3, hr4⟩⟩ := h.frs
  · omega
  obtain ⟨_, ⟨_, h2⟩ | ⟨g', c', cur', rfl, hb', hg', hs1, hs2, hs3, hs4⟩⟩ := h.rows
  · omega
  refine ⟨_, g, g', c, c', bs, rfl, Nat.le_refl _, hb, hb', h.old, ⟨h.blk, ⟨cur, hg, ?_⟩, ⟨cur', hg', ?_⟩, h.len, h.nodup, ?_, by show n ≤ 1000; omega⟩, h.bel⟩
  · intro i j hi hj
    have := rep4 fr0 rfl i n j hi hj
    rw [← hr4, List.getElem?_take, if_pos (by show i * 4 + j < n * 4; have : i < n := hi; omega), Array.getElem?_toList] at this
    rw [this]
    match j, hj with
    | 0, _ => rfl
    | 1, _ => rfl
    | 2, _ => rfl
    | 3, _ => rfl
  · intro i hi
    have hi' : i < n := hi
    have := congrArg (fun l => l[i]?) hs4
    simp only [List.getElem?_take, if_pos (show i < n * 1 by omega), Array.getElem?_toList] at this
    rw [this]
    unfold rowB
    rw [List.getElem?_map, List.getD_eq_getElem?_getD, List.getElem?_eq_getElem (by rw [h.len]; exact hi')]
    rfl
  · intro i hi
    have hi' : i < n := hi
    rw [← zero_page n i]
    have e : bs.getD i 0 = bs[i]'(by rw [h.len]; exact hi') := by rw [List.getD_eq_getElem?_getD, List.getElem?_eq_getElem (by rw [h.len]; exact hi')]; rfl
    rw [e]
    exact h.page _ (List.getElem_mem _)
theorem news_slice (W : World) (v : Value) (t : TypeId) : ∀ j u, [v][j]? = some u → (W.alloc (.cells #[v] t)).cell? ((⟨W.heap.size, 0, none⟩ : Addr).add j) = some u := cell_one_new W v t
set_option maxHeartbeats 8000000 in
set_option maxRecDepth 100000 in
theorem new_calls (w : World) (n : Nat) (h0 : 0 < n) (hn : n ≤ 256) : Calls Tryz.prog 8 #[.int .i64 n] w (NewOut w n) := by
  obtain ⟨i0, hi, hz0, hz1, hz2⟩ := info_parts infoF
  obtain ⟨i1, hj, hy0, hy1, hy2⟩ := info_parts infoB
  have k1 : decide ((n : Int) < 1) = false := decide_eq_false (by omega)
  have k2 : decide ((256 : Int) < (n : Int)) = false := decide_eq_false (by omega)
  have hmk : ∀ W : World, (Instr.makeSlice 30 (.int .i64 256) (.int .i64 256)).run Tryz.prog W = .ok (.slice (some ⟨W.heap.size, 0, none⟩) 256 256) (W.alloc (.cells (madeCells #[.int .u8 0] 256) 5)) := fun W => make_bytes W 256 (by decide)
  go_enter Tryz.func8, Tryz.ntmps8
  go_wp2
  go_loopw [5] (fun i wr => ∃ (k : Nat) (v u : Value) (bs : List Nat) (W2 : World), k ≤ n ∧ i = .int .i64 k ∧ wr = W2 ∧ Base.Aside (NewInv w W2 k k v u bs)) (fun i _ => n - (intOf i).toNat)
  case atStart => exact ⟨0, _, _, [], _, Nat.zero_le _, rfl, rfl, ⟨blk_new _ _, World.ownsRow_nil _ _ _ _, World.ownsRow_nil _ _ _ _, rfl, List.nodup_nil, by simp, by simp, below_alloc (Below.refl _ _) _⟩⟩
  case round =>
    obtain ⟨k, v, u, bs, W2, hk, rfl, hwr, hA⟩ := hrel
    obtain rfl := hwr.symm
    have C2 := fun i => blk_cell hA.out.blk i
    have F2 := fun i => blk_frozen hA.out.blk i
    have L2 := blk_lt hA.out.blk
    by_cases hlt : k < n
    · go_wp2_with (first
        | (at_builtin; refine wpList_append_own_at _ rfl _ _ 90 rfl w.heap.size 95 i0 (.agg #[.int .i64 0, .int .i64 0, .int .i64 0, .int .i64 0]) 4 32 Tryz.underlying90 hi hz0 hz1 hz2 rfl (by decide) _ k _ rfl (hA.out.frs.alloc _) ⟨W2.heap.size, 0, none⟩ 1 1 fr0 rfl rfl (cell_four_new _ _ _ _ _ _) (ints_oneCell .i64 [-1, 0, 0, 0]) (by unfold maxLen; omega) (by omega) (by have := hA.out.bel.size; simp; omega) ?_)
        | go_in)
      intro v' w3 hown hg hnil hloc
      obtain ⟨g2, cap2, rfl, hg2⟩ := row_full hown (by omega)
      have h3 := NewInv.one hA.out hg hown
      have C3 := fun i => blk_cell h3.1 i
      have F3 := fun i => blk_frozen h3.1 i
      have L3 := blk_lt h3.1
      have H3 := Base.Aside.mk h3.2
      clear hg hown hnil hloc h3
      go_wp2
      refine wp_world (fun W => NewInv w W (k + 1) k (.slice (some ⟨g2, 0, none⟩) (k + 1 : Nat) cap2) u bs) H3.out ?_
      clear H3 C3 F3 L3
      intro W4 h4
      have C4 := fun i => blk_cell h4.blk i
      have F4 := fun i => blk_frozen h4.blk i
      have L4 := blk_lt h4.blk
      have H4 := Base.Aside.mk h4
      have c1 : W4.cell? ⟨w.heap.size, 1, none⟩ = some u := C4 1
      have hne4 := row_ne h4.rows h4.blk (by decide)
      have hsz4 := h4.bel.size
      have hrow4 := h4.rows
      clear h4
      go_region_law (first
        | (refine step_append_lies _ (by rfl) _ _ _ (by rfl) w.heap.size 30 i1 _ 1 24 Tryz.underlying91 hj hy0 hy1 hy2 rfl (by omega) u k (rowB bs) (by rfl) (((hrow4.alloc _).alloc _).drew)
              ⟨W4.heap.size + 1, 0, none⟩ 1 1 [.slice (some ⟨W4.heap.size, 0, none⟩) 256 256] (by rfl) (by rfl) (World.news_of_block (cs := #[.slice (some ⟨W4.heap.size, 0, none⟩) 256 256]) (t := 30) (fr := (0, 0)) (heap_new2 W4 _ _)) (by simp [Value.oneCell'])
              (by omega) (by unfold maxLen; omega) (by omega) (by simp; omega) (W4.heap.size + 2) (by simp) ?_; intro gg cap w1 hown1 hgrow hat hlt1; have h5 := NewInv.two H4.out hgrow hown1; have C5 := fun i => blk_cell h5.1 i; have F5 := fun i => blk_frozen h5.1 i; have L5 := blk_lt h5.1; have H5 := Base.Aside.mk h5.2; clear h5)
        | (fail))
      all_goals
        go_wp2
        exact ⟨⟨k + 1, _, _, _, _, by omega, by simp, rfl, ⟨H5.out⟩⟩, by simp [intOf]; omega⟩
    · obtain rfl : k = n := by omega
      go_wp2
      go_ret2
      exact hA.out.done h0 hn
end Go.Proofs.YthlejchcnfdcpaaGreat.RmA
namespace Go.Proofs.YthlejchcnfdcpaaGreat.RmB
open Go.RowKit Go.Maps Base GaA GaB GaC GaD RpA RmA
set_option linter.unusedVariables false
set_option linter.unusedSimpArgs false

section
variable {w w' : World} {rb Fb Bb cF cB : Nat} {bs : List Nat} {s : MS}
theorem _root_.Go.Proofs.YthlejchcnfdcpaaGreat.RmA.RMach.lt (h : RMach w rb Fb Bb cF cB bs s) : rb < w.heap.size ∧ Fb < w.heap.size ∧ Bb < w.heap.size := by
  obtain ⟨cs, h1, _⟩ := h.frs
  obtain ⟨cs2, h2, _⟩ := h.rows
  exact ⟨blk_lt h.blk, blk_lt h1, blk_lt h2⟩
theorem blk_ne {g k : Nat} {t u : TypeId} {cs ds : Array Value} (h : w.heap[g]? = some (.cells cs t (0, 0))) (h2 : w.heap[k]? = some (.cells ds u (0, 0))) (hn : t ≠ u) : g ≠ k := by
  rintro rfl
  rw [h] at h2
  have e := Option.some.inj h2
  injection e with e1 e2 e3
  exact hn e2
theorem _root_.Go.Proofs.YthlejchcnfdcpaaGreat.RmA.RMach.ne (h : RMach w rb Fb Bb cF cB bs s) : rb ≠ Fb ∧ rb ≠ Bb ∧ Fb ≠ Bb := by
  obtain ⟨cs, h1, _⟩ := h.frs
  obtain ⟨cs2, h2, _⟩ := h.rows
  exact ⟨blk_ne h.blk h1 (by decide), blk_ne h.blk h2 (by decide), blk_ne h1 h2 (by decide)⟩
theorem _root_.Go.Proofs.YthlejchcnfdcpaaGreat.RmA.RMach.chg {F : Nat → Prop} (h : RMach w rb Fb Bb cF cB bs s) (hc : Chg F w w') (h1 : ¬ F rb) (h2 : ¬ F Fb) (h3 : ¬ F Bb) (h4 : ∀ b ∈ bs, ¬ F b) : RMach w' rb Fb Bb cF cB bs s := by
  obtain ⟨cs, g1, g2⟩ := h.frs
  obtain ⟨cs2, g3, g4⟩ := h.rows
  refine ⟨hc.blk h.blk h1, ⟨cs, hc.blk g1 h2, g2⟩, ⟨cs2, hc.blk g3 h3, g4⟩, h.len, h.nodup, fun i hi => hc.blk (h.page i hi) (h4 _ ?_), h.few⟩
  rw [List.getD_eq_getElem?_getD, List.getElem?_eq_getElem (by rw [h.len]; exact hi)]
  exact List.getElem_mem _
theorem _root_.Go.Proofs.YthlejchcnfdcpaaGreat.RmA.RMach.below (h : RMach w rb Fb Bb cF cB bs s) (hb : Below w.heap.size w w') : RMach w' rb Fb Bb cF cB bs s := h.chg (Chg.below (fun _ => False) hb) (fun h => h) (fun h => h) (fun h => h) (fun _ _ h => h)
theorem _root_.Go.Proofs.YthlejchcnfdcpaaGreat.RmA.RMach.cell (h : RMach w rb Fb Bb cF cB bs s) (i j : Nat) (hi : i < s.n) (hj : j < 4) : w.cell? ⟨Fb, i * 4 + j, none⟩ = some (cellM s i j) := by
  obtain ⟨cs, g1, g2⟩ := h.frs
  rw [blk_cell g1, g2 i j hi hj]
theorem _root_.Go.Proofs.YthlejchcnfdcpaaGreat.RmA.RMach.own (h : RMach w rb Fb Bb cF cB bs s) (i : Nat) (hi : i < s.n) : w.cell? ⟨Fb, i * 4, none⟩ = some (.int .i64 (s.fr i).own) := h.cell i 0 hi (by omega)
theorem _root_.Go.Proofs.YthlejchcnfdcpaaGreat.RmA.RMach.frozen (h : RMach w rb Fb Bb cF cB bs s) (i : Nat) : w.frozen? ⟨Fb, i, none⟩ = false := by
  obtain ⟨cs, g1, g2⟩ := h.frs
  exact blk_frozen g1 i
theorem domain_in (d : Int) (d0 : 0 ≤ d) (d8 : d < 8) (w : World) : Calls Tryz.prog 48 #[.int .i64 d] w fun e w' => e = .returned (.bool true) ∧ w' = w := by
  have k0 : decide (0 ≤ d) = true := decide_eq_true d0
  have k1 : decide (d < 8) = true := decide_eq_true d8
  go_enter Tryz.func48, Tryz.ntmps48
  go_wp2
  go_ret
  exact ⟨by first | rfl | (simp; done), rfl⟩
set_option maxHeartbeats 2000000 in
set_option maxRecDepth 100000 in
theorem is_calls (h : RMach w rb Fb Bb cF cB bs s) (k : Nat) (hk : k < s.n) : Calls Tryz.prog 96 #[.pointer (some ⟨rb, 0, none⟩), .int .i64 k] w fun e w' => e = .returned (.bool true) ∧ w' = w := by
  have C0 := fun i => blk_cell h.blk i
  have L0 := blk_lt h.blk
  have k0 : decide ((0 : Int) ≤ (k : Int)) = true := decide_eq_true (by omega)
  have k1 : decide ((k : Int) < (s.n : Int)) = true := decide_eq_true (by omega)
  clear h
  go_enter Tryz.func96, Tryz.ntmps96
  go_wp2
  go_ret
  exact ⟨by first | rfl | (simp; done), rfl⟩
def OwnedOut (w : World) (s : MS) (x : Int) (e : Ending) (w' : World) : Prop := ∃ v, e = .returned v ∧ w'.ownsRow w.heap.size 3 1 v (mine (owners s) x s.n).length ((mine (owners s) x s.n).map (Value.int .i64)) ∧ Below w.heap.size w w'
set_option maxHeartbeats 4000000 in
set_option maxRecDepth 100000 in
theorem owned_calls (h : RMach w rb Fb Bb cF cB bs s) (x : Int) : Calls Tryz.prog 49 #[.pointer (some ⟨rb, 0, none⟩), .int .i64 x] w (OwnedOut w s x) := by
  obtain ⟨i0, hi, hz0, hz1, hz2⟩ := info_parts info3
  have hfew := h.few
  obtain ⟨n, hn⟩ : ∃ n, n = s.n := ⟨_, rfl⟩
  go_enter Tryz.func49, Tryz.ntmps49
  go_wp2
  go_loopw [5, 6] (fun v i wr => ∃ (k : Nat) (W2 : World), k ≤ n ∧ i = .int .i64 k ∧ wr = W2 ∧ Base.Aside (W2.ownsRow w.heap.size 3 1 v (mine (owners s) x k).length ((mine (owners s) x k).map (Value.int .i64)) ∧ Below w.heap.size w W2)) (fun _ i _ => n - (intOf i).toNat)
  case atStart => exact ⟨0, w, Nat.zero_le _, rfl, rfl, ⟨World.ownsRow_nil _ _ _ _, Below.refl _ _⟩⟩
  case round =>
    obtain ⟨k, W2, hk, rfl, hwr, hA⟩ := hrel
    obtain rfl := hwr.symm
    have h2 := h.below hA.out.2
    have C2 := fun i => blk_cell h2.blk i
    have L2 := blk_lt h2.blk
    have L3 := h2.lt.2.1
    by_cases hlt : k < n
    · have hcell := h2.own k (by omega)
      have hl := mine_len (owners s) x k
      obtain ⟨y, hy⟩ : ∃ y, y = (s.fr k).own := ⟨_, rfl⟩
      have hyo : y = owners s k := hy
      rw [← hy] at hcell
      have k1 : (0 : Int) ≤ (k : Int) := Int.natCast_nonneg _
      have k2 : (k : Int) < (s.n : Int) := by omega
      have HY := Base.Aside.mk hyo
      clear hy hyo h2
      by_cases hx : y = x
      · subst hx
        go_wp2_with (first
          | (at_builtin; refine wpList_append_own_at _ rfl _ _ 126 rfl w.heap.size 3 i0 (.int .i64 0) 1 8 Tryz.underlying126 hi hz0 hz1 hz2 rfl (by decide) _ _ _ rfl (hA.out.1.alloc _) ⟨W2.heap.size, 0, none⟩ 1 1 [.int .i64 k] rfl rfl (cell_one_new _ _ _) (ints_oneCell .i64 [(k : Int)]) (by unfold maxLen; omega) (by omega) (by have := hA.out.2.size; simp; omega) ?_; intro v' w3 hown' hg3 hnil3 hloc3; go_frame)
          | go_in)
        refine ⟨⟨k + 1, w3, by omega, by simp, rfl, ⟨?_, ?_⟩⟩, by simp [intOf]; omega⟩
        · rw [mine_hit (by rw [← HY.out]; simp)]
          simpa using hown'
        · exact (below_alloc hA.out.2 _).grown hg3 (by have := hA.out.2.size; simp; omega) (fun j hj => (hA.out.1.lt j hj).1)
      · have hb2 : (y == x) = false := beq_eq_false_iff_ne.2 hx
        go_wp2
        refine ⟨⟨k + 1, W2, by omega, by simp, rfl, ⟨?_, hA.out.2⟩⟩, by simp [intOf]; omega⟩
        rw [mine_miss (by rw [← HY.out]; exact hb2)]
        exact hA.out.1
    · obtain rfl : k = n := by omega
      have HN := Base.Aside.mk hn
      have k2 : decide ((k : Int) < (s.n : Int)) = false := decide_eq_false (by omega)
      go_wp2
      go_ret
      refine ⟨_, rfl, ?_, hA.out.2⟩
      rw [← HN.out]
      exact hA.out.1
theorem mine_none {o : Nat → Int} {x : Int} : ∀ k, (∀ j, j < k → o j ≠ x) → mine o x k = []
  | 0, _ => rfl
  | k + 1, h => by
      rw [mine_miss (beq_eq_false_iff_ne.2 (h k (by omega)))]
      exact mine_none k fun j hj => h j (by omega)
theorem mine_first {o : Nat → Int} {x : Int} {k : Nat} (hok : o k = x) (hlow : ∀ j, j < k → o j ≠ x) : ∀ n, k < n → ∃ r, mine o x n = (k : Int) :: r
  | n + 1, hn => by
      by_cases he : k = n
      · subst he
        refine ⟨[], ?_⟩
        rw [mine_hit (by simp [hok]), mine_none k hlow]
        rfl
      · obtain ⟨r, hr⟩ := mine_first hok hlow n (by omega)
        by_cases hx : o n = x
        · exact ⟨r ++ [(n : Int)], by rw [mine_hit (by simp [hx]), hr]; rfl⟩
        · exact ⟨r, by rw [mine_miss (beq_eq_false_iff_ne.2 hx), hr]⟩
/-- A frame's words are written anew. -/
theorem frs_put {f : Fr} {k : Nat} (h : RMach w rb Fb Bb cF cB bs s) (hk : k < s.n) {cs' : Array Value} (hw : w'.heap[Fb]? = some (.cells cs' 95 (0, 0))) (hc : Chg (fun x => x = Fb) w w') (hcs : ∀ i j, i < s.n → j < 4 → cs'[i * 4 + j]? = some (cellM (MS.put1 s k f) i j)) : RMach w' rb Fb Bb cF cB bs (MS.put1 s k f) := by
  obtain ⟨cs, g1, g2⟩ := h.frs
  obtain ⟨cs2, g3, g4⟩ := h.rows
  refine ⟨hc.blk h.blk h.ne.1, ⟨cs', hw, hcs⟩, ⟨cs2, hc.blk g3 (fun e => h.ne.2.2 e.symm), g4⟩, h.len, h.nodup, fun i hi => ?_, h.few⟩
  exact hc.blk (h.page i hi) (fun e => blk_ne (h.page i hi) g1 (by decide) e)
theorem RMach.give (h : RMach w rb Fb Bb cF cB bs s) (k : Nat) (hk : k < s.n) (d : Int) : RMach (w.setCell ⟨Fb, k * 4, none⟩ (.int .i64 d)) rb Fb Bb cF cB bs (give s k d) := by
  obtain ⟨cs, g1, g2⟩ := h.frs
  refine frs_put h hk (blk_put g1 (k * 4) _ rfl) (Chg.set (F := fun x => x = Fb) (p := ⟨Fb, k * 4, none⟩) (Chg.refl _ w) (.inl rfl) _) ?_
  intro i j hi hj
  have hsz : k * 4 < cs.size := by
    have := g2 k 0 hk (by omega)
    exact (Array.getElem?_eq_some_iff.1 this).1
  rw [Array.getElem?_setIfInBounds]
  by_cases e : k * 4 = i * 4 + j
  · have hij : i = k ∧ j = 0 := by omega
    rw [if_pos e, if_pos (by omega)]
    obtain ⟨rfl, rfl⟩ := hij
    simp [cellM, MS.put1]
  · rw [if_neg e, g2 i j hi hj]
    unfold cellM MS.put1
    by_cases hik : i = k
    · subst hik
      have hj0 : j ≠ 0 := by omega
      simp [hj0]
    · simp [hik]
theorem cell_first {W : World} {b g cap n : Nat} {x : Int} {r : List Int} (h : W.ownsRow b 3 1 (.slice (some ⟨g, 0, none⟩) n cap) n ((x :: r).map (Value.int .i64))) : W.cell? ⟨g, 0, none⟩ = some (.int .i64 x) := by
  have hl := h.1
  rw [List.length_map, List.length_cons] at hl
  rw [World.ownsRow.cellAt h 0 (by omega)]
  rfl
set_option maxHeartbeats 4000000 in
set_option maxRecDepth 100000 in
theorem alloc_calls (h : RMach w rb Fb Bb cF cB bs s) (d : Int) (d0 : 0 ≤ d) (d8 : d < 8) (k : Nat) (hk : k < s.n) (hok : (s.fr k).own = -1) (hlow : ∀ j, j < k → (s.fr j).own ≠ -1) : Calls Tryz.prog 14 #[.pointer (some ⟨rb, 0, none⟩), .int .i64 d] w fun e w' => e = .returned (.tuple #[.int .i64 k, .int .i64 0]) ∧ RMach w' rb Fb Bb cF cB bs (give s k d) ∧ Chg (fun x => x = Fb) w w' := by
  have hd := domain_in d d0 d8
  have ho := owned_calls h (-1)
  obtain ⟨r, hr⟩ := mine_first (o := owners s) (x := -1) hok hlow s.n hk
  have LF := h.lt.2.1
  have e0 : ((r.length : Int) + 1 == 0) = false := by simp; omega
  have e1 : (0 : Int) < (r.length : Int) + 1 := by omega
  have e2 : (0 : Int) ≤ (k : Int) := Int.natCast_nonneg _
  have e3 : (k : Int) < (s.n : Int) := by omega
  go_enter Tryz.func14, Tryz.ntmps14
  go_wp2_with (first
    | (go_at_call 48; refine (hd _).mono ?_; rintro z w1 ⟨rfl, hw1⟩; obtain rfl := hw1.symm)
    | (go_at_call 49; refine ho.mono ?_; rintro z w1 ⟨v, rfl, h1, h2⟩; rw [hr] at h1; obtain ⟨g, cap, rfl, hg⟩ := row_full h1 (by simp); have gn : g ≠ Fb := Nat.ne_of_gt (Nat.lt_of_lt_of_le LF hg); have gn2 := gn.symm; have c0 := cell_first h1; have l0 := (h1.lt g rfl).2; have hM := h.below h2; have C1 := fun i => blk_cell hM.blk i; have L1 := blk_lt hM.blk; have L2 := hM.lt.2.1; have f2 := hM.frozen (k * 4); have c2 := hM.own k hk; have E1 := Base.Aside.mk (And.intro h2 (And.intro (RMach.give hM k hk d) (Chg.set (F := fun x => x = Fb) (p := ⟨Fb, k * 4, none⟩) (Chg.refl _ w1) (.inl rfl) (.int .i64 d)))); clear h1 h2 hM)
    | go_in)
  go_region
  go_wp2
  go_ret2
  exact ⟨by first | rfl | (simp; done), E1.out.2.1.below ((Below.refl _ _).drew), (Chg.below _ E1.out.1).trans (E1.out.2.2.trans (Chg.below _ ((Below.refl _ _).drew)))⟩
end
end Go.Proofs.YthlejchcnfdcpaaGreat.RmB
namespace Go.Proofs.YthlejchcnfdcpaaGreat.RmC
open Go.RowKit Go.Maps Base GaA GaB GaC GaD RpA RmA RmB
set_option linter.unusedVariables false
set_option linter.unusedSimpArgs false

section
variable {w w' : World} {rb Fb Bb cF cB : Nat} {bs : List Nat} {s : MS}
theorem put4 (h : RMach w rb Fb Bb cF cB bs s) (k : Nat) (hk : k < s.n) (f : Fr) : RMach ((((w.setCell ⟨Fb, k * 4, none⟩ (.int .i64 f.own)).setCell ⟨Fb, k * 4 + 1, none⟩ (.int .i64 f.typ)).setCell ⟨Fb, k * 4 + 2, none⟩ (.int .i64 f.cnt)).setCell ⟨Fb, k * 4 + 3, none⟩ (.int .i64 f.tot)) rb Fb Bb cF cB bs (MS.put1 s k f) ∧ Chg (fun x => x = Fb) w ((((w.setCell ⟨Fb, k * 4, none⟩ (.int .i64 f.own)).setCell ⟨Fb, k * 4 + 1, none⟩ (.int .i64 f.typ)).setCell ⟨Fb, k * 4 + 2, none⟩ (.int .i64 f.cnt)).setCell ⟨Fb, k * 4 + 3, none⟩ (.int .i64 f.tot)) := by
  obtain ⟨cs, g1, g2⟩ := h.frs
  have hc := chg_fb (chg_fb (chg_fb (chg_fb (Chg.refl (fun x => x = Fb) w) (k * 4) (.int .i64 f.own)) (k * 4 + 1) (.int .i64 f.typ)) (k * 4 + 2) (.int .i64 f.cnt)) (k * 4 + 3) (.int .i64 f.tot)
  refine ⟨frs_put h hk (blk_put (blk_put (blk_put (blk_put g1 (k * 4) _ rfl) (k * 4 + 1) _ rfl) (k * 4 + 2) _ rfl) (k * 4 + 3) _ rfl) hc ?_, hc⟩
  intro i j hi hj
  have hsz : k * 4 + 3 < cs.size := by
    have := g2 k 3 hk (by omega)
    exact (Array.getElem?_eq_some_iff.1 this).1
  simp only [Array.getElem?_setIfInBounds, Array.size_setIfInBounds]
  by_cases hik : i = k
  · subst hik
    match j, hj with
    | 0, _ =>
      rw [if_neg (by omega), if_neg (by omega), if_neg (by omega), if_pos (by omega), if_pos (by omega)]
      simp [cellM, MS.put1]
    | 1, _ =>
      rw [if_neg (by omega), if_neg (by omega), if_pos (by omega), if_pos (by omega)]
      simp [cellM, MS.put1]
    | 2, _ =>
      rw [if_neg (by omega), if_pos (by omega), if_pos (by omega)]
      simp [cellM, MS.put1]
    | 3, _ =>
      rw [if_pos (by omega), if_pos (by omega)]
      simp [cellM, MS.put1]
  · rw [if_neg (by omega), if_neg (by omega), if_neg (by omega), if_neg (by omega), g2 i j hi hj]
    simp [cellM, MS.put1, hik]
set_option maxHeartbeats 8000000 in
set_option maxRecDepth 100000 in
theorem get_first (h : RMach w rb Fb Bb cF cB bs s) (k : Nat) (hk : k < s.n) (d : Nat) (hf : s.fr k = ⟨d, 0, 0, 0⟩) : Calls Tryz.prog 56 #[.pointer (some ⟨rb, 0, none⟩), .int .i64 k, .int .i64 d, .int .i64 1] w fun e w' => e = .returned (.int .i64 0) ∧ RMach w' rb Fb Bb cF cB bs (MS.put1 s k ⟨d, 1, 1, 1⟩) ∧ Chg (fun x => x = Fb) w w' := by
  have hi := is_calls h k hk
  have C0 := fun i => blk_cell h.blk i
  have L0 := blk_lt h.blk
  have LF := h.lt.2.1
  have c0 := h.cell k 0 hk (by omega)
  have c1 := h.cell k 1 hk (by omega)
  have c2 := h.cell k 2 hk (by omega)
  have c3 := h.cell k 3 hk (by omega)
  simp only [cellM, hf] at c0 c1 c2 c3
  simp at c0 c1 c2 c3
  have F0 := h.frozen
  have e2 : (0 : Int) ≤ (k : Int) := Int.natCast_nonneg _
  have e3 : (k : Int) < (s.n : Int) := by omega
  have d1 : ((d : Int) == -1) = false := by simp
  have HH := Base.Aside.mk h
  clear h
  go_enter Tryz.func56, Tryz.ntmps56
  go_wp2_with (first
    | (go_at_call 96; refine hi.mono ?_; rintro z w1 ⟨rfl, hw1⟩; obtain rfl := hw1.symm)
    | go_in)
  go_region
  go_wp2
  go_ret
  exact ⟨by first | rfl | (simp; done), ((put4 HH.out k hk ⟨d, 1, 1, 1⟩).1.below (below_alloc (Below.refl _ _) _)).below ((Below.refl _ _).drew), ((put4 HH.out k hk ⟨d, 1, 1, 1⟩).2.alloc _).drew⟩
end
end Go.Proofs.YthlejchcnfdcpaaGreat.RmC
