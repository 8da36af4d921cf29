/- Proved: the document's machine as it lies in memory; its New (contracts for the laws of the grants). Proved: the live maps of the grants: Maps, held (contracts for the laws of the grants). Proved: what a machine's Put does; Unmap (contracts for the laws of the grants). -/
import Derived.Test.YtjeobbhaoahdcaaMlah
import Derived.Deep.RegionLaw
import Derived.Deep.AppendLies
import Derived.Deep.RegionWith
import Derived.Outline
import Derived.Deep.RegionHeld3
namespace Go.Proofs.Ytjeobbhaoahdcaa.RmA
open Go.RowKit Go.Maps Go.Proofs.Ytjeobbhaoahdcaa.Base Go.Proofs.Ytjeobbhaoahdcaa.GaA Go.Proofs.Ytjeobbhaoahdcaa.GaB Go.Proofs.Ytjeobbhaoahdcaa.GaC Go.Proofs.Ytjeobbhaoahdcaa.RpA
set_option linter.unusedVariables false
set_option linter.unusedSimpArgs false

theorem infoF : (Try.prog.info? 46).map (fun i => (i.zero, i.size, i.bytes)) = some (some (.agg #[.int .i64 0, .int .i64 0, .int .i64 0, .int .i64 0]), 4, 32) := by kernel_rfl
theorem infoB : (Try.prog.info? 42).map (fun i => (i.zero, i.size, i.bytes)) = some (some (.slice none 0 0), 1, 24) := by kernel_rfl
theorem cell_four_new (w : World) (a b c d : Value) (t : TypeId) : ∀ j u, [a, b, c, d][j]? = some u → (w.alloc (.cells #[a, b, c, d] t)).cell? ((⟨w.heap.size, 0, none⟩ : Addr).add j) = some u := by
  intro j u h
  rw [show ((⟨w.heap.size, 0, none⟩ : Addr).add j) = ⟨w.heap.size, j, none⟩ by unfold Addr.add; split <;> simp_all, blk_cell (blk_new w (.cells #[a, b, c, d] t)) j]
  rw [← h]
  simp
/-- The words of a frame, cell by cell. -/
def cellF (s : MS) (i j : Nat) : Value := cellM s i j
/-- The document's machine in memory. -/
structure RMach (w : World) (rb Fb Bb cF cB : Nat) (bs : List Nat) (s : MS) : Prop where
  blk : w.heap[rb]? = some (.cells #[.slice (some ⟨Fb, 0, none⟩) s.n cF, .slice (some ⟨Bb, 0, none⟩) s.n cB] 152 (0, 0))
  frs : ∃ cs, w.heap[Fb]? = some (.cells cs 46 (0, 0)) ∧ ∀ i j, i < s.n → j < 4 → cs[i * 4 + j]? = some (cellM s i j)
  rows : ∃ cs, w.heap[Bb]? = some (.cells cs 42 (0, 0)) ∧ ∀ i, i < s.n → cs[i]? = some (.slice (some ⟨bs.getD i 0, 0, none⟩) 256 256)
  len : bs.length = s.n
  nodup : bs.Nodup
  page : ∀ i, i < s.n → w.heap[bs.getD i 0]? = some (.cells (u8s (MS.rd s i 0 256)).toArray 5 (0, 0))
  few : s.n ≤ 1000
/-- A machine nobody has used. -/
def ms0 (n : Nat) : MS := ⟨n, fun _ => ⟨-1, 0, 0, 0⟩, fun _ _ => 0⟩
theorem rep4 (x : List Value) (hx : x.length = 4) : ∀ (i k j : Nat), i < k → j < 4 → (List.replicate k x).flatten[i * 4 + j]? = x[j]?
  | 0, k + 1, j, _, hj => by
      rw [List.replicate_succ, List.flatten_cons, Nat.zero_mul, Nat.zero_add, List.getElem?_append_left (by omega)]
  | i + 1, k + 1, j, hi, hj => by
      rw [List.replicate_succ, List.flatten_cons, List.getElem?_append_right (by omega), hx, show (i + 1) * 4 + j - 4 = i * 4 + j by omega]
      exact rep4 x hx i k j (by omega) hj
theorem rep4_len (x : List Value) (hx : x.length = 4) (k : Nat) : (List.replicate k x).flatten.length = k * 4 := by
  simp [hx]
theorem rep4_snoc (x : List Value) (k : Nat) : (List.replicate (k + 1) x).flatten = (List.replicate k x).flatten ++ x := by
  rw [List.replicate_succ', List.flatten_append]; simp
theorem zero_page (n k : Nat) : (madeCells #[.int .u8 0] 256 : Array Value) = (u8s (MS.rd (ms0 n) k 0 256)).toArray := by
  show _ = (u8s ((List.range 256).map fun j => (0 : UInt8))).toArray
  kernel_rfl
def fr0 : List Value := [.int .i64 (-1), .int .i64 0, .int .i64 0, .int .i64 0]
def rowB (bs : List Nat) : List Value := bs.map (fun b => .slice (some ⟨b, 0, none⟩) 256 256)
structure NewInv (w W : World) (f k : Nat) (v u : Value) (bs : List Nat) : Prop where
  blk : W.heap[w.heap.size]? = some (.cells #[v, u] 152 (0, 0))
  frs : W.ownsRow w.heap.size 46 4 v f (List.replicate f fr0).flatten
  rows : W.ownsRow w.heap.size 42 1 u k (rowB bs)
  len : bs.length = k
  nodup : bs.Nodup
  old : ∀ b ∈ bs, w.heap.size ≤ b
  page : ∀ b ∈ bs, W.heap[b]? = some (.cells (madeCells #[.int .u8 0] 256) 5 (0, 0))
  bel : Below w.heap.size w W
def NewOut (w : World) (n : Nat) (e : Ending) (w' : World) : Prop := ∃ rb Fb Bb cF cB bs, e = .returned (.tuple #[.pointer (some ⟨rb, 0, none⟩), .int .i64 0]) ∧ w.heap.size ≤ rb ∧ w.heap.size ≤ Fb ∧ w.heap.size ≤ Bb ∧ (∀ b ∈ bs, w.heap.size ≤ b) ∧ RMach w' rb Fb Bb cF cB bs (ms0 n) ∧ Below w.heap.size w w'
theorem NewInv.one {w W w3 : World} {k : Nat} {v u v' : Value} {bs : List Nat} {o : Obj} (h : NewInv w W k k v u bs) (hg : (W.alloc o).grownBy w3 v.ownBlock) (hown : w3.ownsRow w.heap.size 46 4 v' (k + 1) ((List.replicate k fr0).flatten ++ fr0)) :
    w3.heap[w.heap.size]? = some (.cells #[v, u] 152 (0, 0)) ∧ NewInv w (w3.setCell ⟨w.heap.size, 0, none⟩ v') (k + 1) k v' u bs := by
  have hne := row_ne h.frs h.blk (by decide)
  have hlt := blk_lt h.blk
  have hkeep : ∀ b x, W.heap[b]? = some x → v.ownBlock ≠ some b → w3.heap[b]? = some x := fun b x hb hn => (hg.block _ (by have := blk_lt hb; simp; omega) (fun e => hn e.symm)).trans (blk_alloc hb _)
  have hb3 := hkeep _ _ h.blk hne
  have hB3 : Below w.heap.size w w3 := (below_alloc h.bel _).grown hg (by simp; omega) (fun j hj => (h.frs.lt j hj).1)
  have hc : Chg (fun x => x = w.heap.size) w3 (w3.setCell ⟨w.heap.size, 0, none⟩ v') := Chg.set (F := fun x => x = w.heap.size) (p := ⟨w.heap.size, 0, none⟩) (Chg.refl _ w3) (.inl rfl) _
  have hr3 : w3.ownsRow w.heap.size 42 1 u k (rowB bs) := (h.rows.alloc o).kept hg (by
    obtain ⟨_, ⟨rfl, h0⟩ | ⟨g, cap, cur, rfl, hb, hgb, _⟩⟩ := h.rows
    · exact .inl rfl
    · refine .inr (fun e => ?_)
      exact row_ne h.frs hgb (by decide) e.symm)
  refine ⟨hb3, ⟨blk_put hb3 0 _ (by simp), ?_, ?_, h.len, h.nodup, h.old, ?_, below_set hB3 (Nat.le_refl _) _⟩⟩
  · rw [rep4_snoc]
    exact row_chg hown hc (by rintro g hg rfl; exact row_ne hown hb3 (by decide) hg)
  · exact row_chg hr3 hc (by rintro g hg rfl; exact row_ne hr3 hb3 (by decide) hg)
  · intro b hb
    have hp := h.page b hb
    have h5 : v.ownBlock ≠ some b := row_ne h.frs hp (by decide)
    refine hc.blk (hkeep _ _ hp h5) ?_
    rintro rfl
    rw [h.blk] at hp
    have e := Option.some.inj hp
    injection e with e1 e2 e3
    exact absurd e2 (by decide)
theorem heap_new2 (W : World) (o1 o2 : Obj) : ((W.alloc o1).alloc o2).drew.heap[W.heap.size + 1]? = some o2 := by
  have := blk_new (W.alloc o1) o2
  rw [World.size_alloc] at this
  exact this
theorem NewInv.two {w W w3 : World} {k : Nat} {v u v' : Value} {bs : List Nat} {o : Obj} (h : NewInv w W (k + 1) k v u bs) (hg : (((W.alloc (.cells (madeCells #[.int .u8 0] 256) 5)).alloc o).drew).grownBy w3 u.ownBlock) (hown : w3.ownsRow w.heap.size 42 1 v' (k + 1) (rowB bs ++ [.slice (some ⟨W.heap.size, 0, none⟩) 256 256])) :
    w3.heap[w.heap.size]? = some (.cells #[v, u] 152 (0, 0)) ∧ NewInv w (w3.setCell ⟨w.heap.size, 1, none⟩ v') (k + 1) (k + 1) v v' (bs ++ [W.heap.size]) := by
  have hne := row_ne h.rows h.blk (by decide)
  have hlt := blk_lt h.blk
  have hkeep : ∀ b x, W.heap[b]? = some x → u.ownBlock ≠ some b → w3.heap[b]? = some x := fun b x hb hn => (hg.block _ (by have := blk_lt hb; simp; omega) (fun e => hn e.symm)).trans (blk_alloc (blk_alloc hb _) _)
  have hb3 := hkeep _ _ h.blk hne
  have hnew : w3.heap[W.heap.size]? = some (.cells (madeCells #[.int .u8 0] 256) 5 (0, 0)) := (hg.block _ (by simp; omega) (fun e => by have := (h.rows.lt _ e.symm).2; omega)).trans (blk_alloc (blk_new W _) _)
  have hB3 : Below w.heap.size w w3 := ((below_alloc (below_alloc h.bel _) _).drew).grown hg (by simp; omega) (fun j hj => (h.rows.lt j hj).1)
  have hc : Chg (fun x => x = w.heap.size) w3 (w3.setCell ⟨w.heap.size, 1, none⟩ v') := Chg.set (F := fun x => x = w.heap.size) (p := ⟨w.heap.size, 1, none⟩) (Chg.refl _ w3) (.inl rfl) _
  have hr3 : w3.ownsRow w.heap.size 46 4 v (k + 1) (List.replicate (k + 1) fr0).flatten := (((h.frs.alloc _).alloc _).drew).kept hg (by
    obtain ⟨_, ⟨rfl, h0⟩ | ⟨g, cap, cur, rfl, hb, hgb, _⟩⟩ := h.frs
    · exact .inl rfl
    · refine .inr (fun e => ?_)
      exact row_ne h.rows hgb (by decide) e.symm)
  refine ⟨hb3, ⟨blk_put hb3 1 _ (by simp), ?_, ?_, by simp [h.len], ?_, ?_, ?_, below_set hB3 (Nat.le_refl _) _⟩⟩
  · exact row_chg hr3 hc (by rintro g hg rfl; exact row_ne hr3 hb3 (by decide) hg)
  · have := row_chg hown hc (by rintro g hg rfl; exact row_ne hown hb3 (by decide) hg)
    simpa [rowB] using this
  · refine List.nodup_append.2 ⟨h.nodup, by simp, ?_⟩
    intro a ha b hb e
    rw [List.mem_singleton] at hb
    have := blk_lt (h.page a ha)
    omega
  · intro b hb
    rcases List.mem_append.1 hb with hb | hb
    · exact h.old b hb
    · rw [List.mem_singleton] at hb
      have := h.bel.size
      omega
  · intro b hb
    rcases List.mem_append.1 hb with hb | hb
    · have hp := h.page b hb
      have h5 : u.ownBlock ≠ some b := row_ne h.rows hp (by decide)
      refine hc.blk (hkeep _ _ hp h5) ?_
      rintro rfl
      rw [h.blk] at hp
      have e := Option.some.inj hp
      injection e with e1 e2 e3
      exact absurd e2 (by decide)
    · rw [List.mem_singleton] at hb
      subst hb
      exact hc.blk hnew (by omega)
theorem NewInv.done {w W : World} {n : Nat} {v u : Value} {bs : List Nat} (h : NewInv w W n n v u bs) (h0 : 0 < n) (hn : n ≤ 256) : NewOut w n (.returned (.tuple #[.pointer (some ⟨w.heap.size, 0, none⟩), .int .i64 0])) W := by
  obtain ⟨_, ⟨_, h2⟩ | ⟨g, c, cur, rfl, hb, hg, hr1, hr2, hr3, hr4⟩⟩ := h.frs
  · omega
  obtain ⟨_, ⟨_, h2⟩ | ⟨g', c', cur', rfl, hb', hg', hs1, hs2, hs3, hs4⟩⟩ := h.rows
  · omega
  refine ⟨_, g, g', c, c', bs, rfl, Nat.le_refl _, hb, hb', h.old, ⟨h.blk, ⟨cur, hg, ?_⟩, ⟨cur', hg', ?_⟩, h.len, h.nodup, ?_, by show n ≤ 1000; omega⟩, h.bel⟩
  · intro i j hi hj
    have := rep4 fr0 rfl i n j hi hj
    rw [← hr4, List.getElem?_take, if_pos (by show i * 4 + j < n * 4; have : i < n := hi; omega), Array.getElem?_toList] at this
    rw [this]
    match j, hj with
    | 0, _ => rfl
    | 1, _ => rfl
    | 2, _ => rfl
    | 3, _ => rfl
  · intro i hi
    have hi' : i < n := hi
    have := congrArg (fun l => l[i]?) hs4
    simp only [List.getElem?_take, if_pos (show i < n * 1 by omega), Array.getElem?_toList] at this
    rw [this]
    unfold rowB
    rw [List.getElem?_map, List.getD_eq_getElem?_getD, List.getElem?_eq_getElem (by rw [h.len]; exact hi')]
    rfl
  · intro i hi
    have hi' : i < n := hi
    rw [← zero_page n i]
    have e : bs.getD i 0 = bs[i]'(by rw [h.len]; exact hi') := by rw [List.getD_eq_getElem?_getD, List.getElem?_eq_getElem (by rw [h.len]; exact hi')]; rfl
    rw [e]
    exact h.page _ (List.getElem_mem _)
theorem news_slice (W : World) (v : Value) (t : TypeId) : ∀ j u, [v][j]? = some u → (W.alloc (.cells #[v] t)).cell? ((⟨W.heap.size, 0, none⟩ : Addr).add j) = some u := cell_one_new W v t
set_option maxHeartbeats 8000000 in
set_option maxRecDepth 100000 in
theorem new_calls (w : World) (n : Nat) (h0 : 0 < n) (hn : n ≤ 256) : Calls Try.prog 36 #[.int .i64 n] w (NewOut w n) := by
  obtain ⟨i0, hi, hz0, hz1, hz2⟩ := info_parts infoF
  obtain ⟨i1, hj, hy0, hy1, hy2⟩ := info_parts infoB
  have k1 : decide ((n : Int) < 1) = false := decide_eq_false (by omega)
  have k2 : decide ((256 : Int) < (n : Int)) = false := decide_eq_false (by omega)
  have hmk : ∀ W : World, (Instr.makeSlice 42 (.int .i64 256) (.int .i64 256)).run Try.prog W = .ok (.slice (some ⟨W.heap.size, 0, none⟩) 256 256) (W.alloc (.cells (madeCells #[.int .u8 0] 256) 5)) := fun W => make_bytes W 256 (by decide)
  go_enter Try.func36, Try.ntmps36
  go_wp2
  go_loopw [5] (fun i wr => ∃ (k : Nat) (v u : Value) (bs : List Nat) (W2 : World), k ≤ n ∧ i = .int .i64 k ∧ wr = W2 ∧ Base.Aside (NewInv w W2 k k v u bs)) (fun i _ => n - (intOf i).toNat)
  case atStart => exact ⟨0, _, _, [], _, Nat.zero_le _, rfl, rfl, ⟨blk_new _ _, World.ownsRow_nil _ _ _ _, World.ownsRow_nil _ _ _ _, rfl, List.nodup_nil, by simp, by simp, below_alloc (Below.refl _ _) _⟩⟩
  case round =>
    obtain ⟨k, v, u, bs, W2, hk, rfl, hwr, hA⟩ := hrel
    obtain rfl := hwr.symm
    have C2 := fun i => blk_cell hA.out.blk i
    have F2 := fun i => blk_frozen hA.out.blk i
    have L2 := blk_lt hA.out.blk
    by_cases hlt : k < n
    · go_wp2_with (first
        | (at_builtin; refine wpList_append_own_at _ rfl _ _ 149 rfl w.heap.size 46 i0 (.agg #[.int .i64 0, .int .i64 0, .int .i64 0, .int .i64 0]) 4 32 Try.underlying149 hi hz0 hz1 hz2 rfl (by decide) _ k _ rfl (hA.out.frs.alloc _) ⟨W2.heap.size, 0, none⟩ 1 1 fr0 rfl rfl (cell_four_new _ _ _ _ _ _) (ints_oneCell .i64 [-1, 0, 0, 0]) (by unfold maxLen; omega) (by omega) (by have := hA.out.bel.size; simp; omega) ?_)
        | go_in)
      intro v' w3 hown hg hnil hloc
      obtain ⟨g2, cap2, rfl, hg2⟩ := row_full hown (by omega)
      have h3 := NewInv.one hA.out hg hown
      have C3 := fun i => blk_cell h3.1 i
      have F3 := fun i => blk_frozen h3.1 i
      have L3 := blk_lt h3.1
      have H3 := Base.Aside.mk h3.2
      clear hg hown hnil hloc h3
      go_wp2
      refine wp_world (fun W => NewInv w W (k + 1) k (.slice (some ⟨g2, 0, none⟩) (k + 1 : Nat) cap2) u bs) H3.out ?_
      clear H3 C3 F3 L3
      intro W4 h4
      have C4 := fun i => blk_cell h4.blk i
      have F4 := fun i => blk_frozen h4.blk i
      have L4 := blk_lt h4.blk
      have H4 := Base.Aside.mk h4
      have c1 : W4.cell? ⟨w.heap.size, 1, none⟩ = some u := C4 1
      have hne4 := row_ne h4.rows h4.blk (by decide)
      have hsz4 := h4.bel.size
      have hrow4 := h4.rows
      clear h4
      go_region_law (first
        | (refine step_append_lies _ (by rfl) _ _ _ (by rfl) w.heap.size 42 i1 _ 1 24 Try.underlying150 hj hy0 hy1 hy2 rfl (by omega) u k (rowB bs) (by rfl) (((hrow4.alloc _).alloc _).drew)
              ⟨W4.heap.size + 1, 0, none⟩ 1 1 [.slice (some ⟨W4.heap.size, 0, none⟩) 256 256] (by rfl) (by rfl) (World.news_of_block (cs := #[.slice (some ⟨W4.heap.size, 0, none⟩) 256 256]) (t := 42) (fr := (0, 0)) (heap_new2 W4 _ _)) (by simp [Value.oneCell'])
              (by omega) (by unfold maxLen; omega) (by omega) (by simp; omega) (W4.heap.size + 2) (by simp) ?_; intro gg cap w1 hown1 hgrow hat hlt1; have h5 := NewInv.two H4.out hgrow hown1; have C5 := fun i => blk_cell h5.1 i; have F5 := fun i => blk_frozen h5.1 i; have L5 := blk_lt h5.1; have H5 := Base.Aside.mk h5.2; clear h5)
        | (fail))
      all_goals
        go_wp2
        exact ⟨⟨k + 1, _, _, _, _, by omega, by simp, rfl, ⟨H5.out⟩⟩, by simp [intOf]; omega⟩
    · obtain rfl : k = n := by omega
      go_wp2
      go_ret2
      exact hA.out.done h0 hn
end Go.Proofs.Ytjeobbhaoahdcaa.RmA
namespace Go.Proofs.Ytjeobbhaoahdcaa.GjA
open Go.RowKit Go.Maps Go.Proofs.Ytjeobbhaoahdcaa.Base Go.Proofs.Ytjeobbhaoahdcaa.GaA Go.Proofs.Ytjeobbhaoahdcaa.GaB Go.Proofs.Ytjeobbhaoahdcaa.GaC Go.Proofs.Ytjeobbhaoahdcaa.GmA Go.Proofs.Ytjeobbhaoahdcaa.GmB Go.Proofs.Ytjeobbhaoahdcaa.GmC Go.Proofs.Ytjeobbhaoahdcaa.GpA Go.Proofs.Ytjeobbhaoahdcaa.GgA Go.Proofs.Ytjeobbhaoahdcaa.GvA Go.Proofs.Ytjeobbhaoahdcaa.GeA Go.Proofs.Ytjeobbhaoahdcaa.GfA Go.Proofs.Ytjeobbhaoahdcaa.GfB Go.Proofs.Ytjeobbhaoahdcaa.GfC Go.Proofs.Ytjeobbhaoahdcaa.GfD Go.Proofs.Ytjeobbhaoahdcaa.GfH
set_option linter.unusedVariables false
set_option linter.unusedSimpArgs false

theorem infoMp : (Try.prog.info? 135).map (fun i => (i.zero, i.size, i.bytes)) = some (some (.agg #[.int .i64 0, .int .i64 0, .int .i64 0, .int .i64 0, .int .i64 0, .bool false]), 6, 48) := by kernel_rfl
def mcells (m : Mp) : List Value := [.int .i64 m.h, .int .i64 m.caller, .int .i64 m.owner, .int .i64 m.ref, .int .i64 m.mfn, .bool m.wr]
theorem cell_six_new (w : World) (m : Mp) (t : TypeId) : ∀ j u, (mcells m)[j]? = some u → (w.alloc (.cells #[.int .i64 m.h, .int .i64 m.caller, .int .i64 m.owner, .int .i64 m.ref, .int .i64 m.mfn, .bool m.wr] t)).cell? ((⟨w.heap.size, 0, none⟩ : Addr).add j) = some u := by
  intro j u h
  rw [addB, Nat.zero_add, blk_cell (blk_new w (.cells #[.int .i64 m.h, .int .i64 m.caller, .int .i64 m.owner, .int .i64 m.ref, .int .i64 m.mfn, .bool m.wr] t)) j]
  rw [← h]
  simp [mcells]
theorem mcells_one (m : Mp) : ∀ u ∈ mcells m, u.oneCell' = true := by
  intro u hu
  simp [mcells] at hu
  rcases hu with rfl | rfl | rfl | rfl | rfl | rfl <;> rfl
/-- A caller's maps, by handles below k. -/
def mapsL (F : Int × Int → Option Mp) (c : Int) (k : Nat) : List Mp := (List.range k).filterMap fun h : Nat => F (c, (h : Int))
theorem mapsL_len (F : Int × Int → Option Mp) (c : Int) (k : Nat) : (mapsL F c k).length ≤ k := by
  unfold mapsL
  have := List.length_filterMap_le (fun h : Nat => F (c, (h : Int))) (List.range k)
  rwa [List.length_range] at this
theorem mapsL_hit {F : Int × Int → Option Mp} {c : Int} {k : Nat} {m : Mp} (h : F (c, k) = some m) : mapsL F c (k + 1) = mapsL F c k ++ [m] := by
  unfold mapsL
  rw [List.range_succ, List.filterMap_append]
  simp [h]
theorem mapsL_miss {F : Int × Int → Option Mp} {c : Int} {k : Nat} (h : F (c, k) = none) : mapsL F c (k + 1) = mapsL F c k := by
  unfold mapsL
  rw [List.range_succ, List.filterMap_append]
  simp [h]
theorem bnk {w : World} {g k c : Nat} {t : TypeId} {cs : Array Value} {F : Int × Int → Option Mp} (h : w.heap[g]? = some (.cells cs t (0, 0))) (h2 : KMap w k F c) : g ≠ k := by
  rintro rfl
  obtain ⟨es, clock, h1⟩ := h2.is
  rw [h] at h1
  cases h1
/-- Grants with their live maps. -/
structure GX (W : World) (gb mm hm mb fb : Nat) (s : MS) (f : Int → Option (Int × Nat)) (c : Nat) (pi : Nat → PI) (F : Int × Int → Option Mp) (n : Nat) : Prop where
  g : GW W gb mm hm mb fb s f c pi
  h : KMap W hm F n
  mh : mm ≠ hm
  ph : ∀ d x, f d = some x → hm ≠ (pi x.2).fm ∧ hm ≠ (pi x.2).pm
section
variable {w w' W W' : World} {gb mm hm mb fb : Nat} {f : Int → Option (Int × Nat)} {c : Nat} {s s' : MS} {pi : Nat → PI} {F : Int × Int → Option Mp} {n : Nat} {vb db r r' : Nat}
theorem GX.below (h : GX W gb mm hm mb fb s f c pi F n) (hb : Below W.heap.size W W') : GX W' gb mm hm mb fb s f c pi F n := ⟨h.g.below hb, h.h.below hb, h.mh, h.ph⟩
theorem GX.vw {mb' : Nat} (h : GX W gb mm hm mb fb s f c pi F n) (hV : V2 W vb db mb' r) (k : Vw vb db mb' W W' r') : GX W' gb mm hm mb fb s f c pi F n :=
  ⟨⟨h.g.g.chg k.c (fun e => (hV.ne_g h.g.g).1 e.symm) (fun e => (hV.ne_g h.g.g).2 e.symm), h.g.m.chg k.c (fun e => (hV.ne_m h.g.m).1 e.symm) (fun e => (hV.ne_m h.g.m).2 e.symm),
    fun d x hd => ⟨(h.g.p d x hd).1.chg k.c (fun e => (hV.ne_p (h.g.p d x hd).1).1 e.symm) (fun e => (hV.ne_p (h.g.p d x hd).1).2.1 e.symm) (fun e => (hV.ne_p (h.g.p d x hd).1).2.2 e.symm), (h.g.p d x hd).2⟩, h.g.d⟩, h.h.chg k.c (fun e => bnk hV.blk h.h e.symm), h.mh, h.ph⟩
theorem GX.mach (h : GX W gb mm hm mb fb s f c pi F n) (hM : Mach W' mb fb s') (hn : s'.n = s.n) (hc : Chg (fun x => x = fb) W W') : GX W' gb mm hm mb fb s' f c pi F n := by
  obtain ⟨cs, h1, h2⟩ := h.g.m.lst
  exact ⟨gw_fb h.g hM hn hc, h.h.chg hc (fun e => bnk h1 h.h e.symm), h.mh, h.ph⟩
/-- The live maps turn, nothing else. -/
theorem GX.maps {F' : Int × Int → Option Mp} {n' : Nat} (h : GX W gb mm hm mb fb s f c pi F n) (hK : KMap W' hm F' n') (hc : Chg (fun x => x = hm) W W') : GX W' gb mm hm mb fb s f c pi F' n' := by
  obtain ⟨cs, h1, h2⟩ := h.g.m.lst
  exact ⟨⟨h.g.g.chg hc (bnk h.g.g.blk h.h) h.mh, h.g.m.chg hc (bnk h.g.m.blk h.h) (bnk h1 h.h), fun d x hd => ⟨(h.g.p d x hd).1.chg hc (bnk (h.g.p d x hd).1.blk h.h) (fun e => (h.ph d x hd).1 e.symm) (fun e => (h.ph d x hd).2 e.symm), (h.g.p d x hd).2⟩, h.g.d⟩, hK, h.mh, h.ph⟩
def MapsOut (W : World) (F : Int × Int → Option Mp) (c : Int) (e : Ending) (w' : World) : Prop := ∃ v, e = .returned v ∧ w'.ownsRow W.heap.size 135 6 v (mapsL F c 16).length ((mapsL F c 16).flatMap mcells) ∧ Below W.heap.size W w'
set_option maxHeartbeats 8000000 in
set_option maxRecDepth 100000 in
theorem maps_calls (h : GX W gb mm hm mb fb s f c pi F n) (d : Int) (hd : okI d) : Calls Try.prog 24 #[.pointer (some ⟨gb, 0, none⟩), .int .i64 d] W (MapsOut W F d) := by
  obtain ⟨i0, hi, hz0, hz1, hz2⟩ := info_parts infoMp
  have hn := GgA.none_calls h.g.g
  go_enter Try.func24, Try.ntmps24
  go_wp2_with (first
    | (go_at_call 53; refine hn.mono ?_; rintro z w1 ⟨rfl, hw1⟩; obtain rfl := hw1.symm)
    | go_in)
  go_loopw [5, 11] (fun v i wr => ∃ (k : Nat) (W2 : World), k ≤ 16 ∧ i = .int .i64 k ∧ wr = W2 ∧ Base.Aside (W2.ownsRow W.heap.size 135 6 v (mapsL F d k).length ((mapsL F d k).flatMap mcells) ∧ Below W.heap.size W W2)) (fun _ i _ => 16 - (intOf i).toNat)
  case atStart => exact ⟨0, W, by omega, rfl, rfl, ⟨World.ownsRow_nil _ _ _ _, Below.refl _ _⟩⟩
  case round =>
    obtain ⟨k, W2, hk, rfl, hwr, hA⟩ := hrel
    obtain rfl := hwr.symm
    have h2 := h.below hA.out.2
    have C2 := fun i => blk_cell h2.g.g.blk i
    have L2 := blk_lt h2.g.g.blk
    by_cases hlt : k < 16
    · have hlk := h2.h.look_ok (d, (k : Int)) ⟨hd, by unfold okI; omega⟩
      have hl := mapsL_len F d k
      unfold kv mpv at hlk
      cases hf : F (d, (k : Int)) with
      | none =>
        rw [hf] at hlk
        simp only [Option.getD_none, Option.isSome_none, mp0] at hlk
        clear h2
        go_wp2
        refine ⟨⟨k + 1, _, by omega, by simp, rfl, ⟨?_, below_alloc hA.out.2 _⟩⟩, by simp [intOf]; omega⟩
        rw [mapsL_miss hf]
        exact hA.out.1.alloc _
      | some m =>
        rw [hf] at hlk
        simp only [Option.getD_some, Option.isSome_some] at hlk
        have hsz := hA.out.2.size
        clear h2
        go_wp2_with (first
          | (at_builtin; refine wpList_append_own_at _ rfl _ _ 67 rfl W.heap.size 135 i0 (.agg #[.int .i64 0, .int .i64 0, .int .i64 0, .int .i64 0, .int .i64 0, .bool false]) 6 48 Try.underlying67 hi hz0 hz1 hz2 rfl (by decide) _ _ _ rfl ((hA.out.1.alloc _).alloc _) ⟨W2.heap.size + 1, 0, none⟩ 1 1 (mcells m) rfl rfl (by have := cell_six_new (W2.alloc (.cells #[.int .i64 m.h, .int .i64 m.caller, .int .i64 m.owner, .int .i64 m.ref, .int .i64 m.mfn, .bool m.wr] 135)) m 135; rw [World.size_alloc] at this; exact this) (mcells_one m) (by unfold maxLen; omega) (by omega) (by simp; omega) ?_; intro v' w3 hown' hg3 hnil3 hloc3; go_frame)
          | go_in)
        refine ⟨⟨k + 1, w3, by omega, by simp, rfl, ⟨?_, ?_⟩⟩, by simp [intOf]; omega⟩
        · rw [mapsL_hit hf]
          simpa using hown'
        · exact (below_alloc (below_alloc hA.out.2 _) _).grown hg3 (by simp; omega) (fun j hj => (hA.out.1.lt j hj).1)
    · obtain rfl : k = 16 := by omega
      clear h2
      go_wp2
      go_ret
      exact ⟨_, rfl, hA.out.1, hA.out.2⟩
/-- What held answers. -/
def heldR (F : Int × Int → Option Mp) (c h : Int) : Mp × Int := if ¬ (0 ≤ c ∧ c < 8) then (mp0, 1) else match F (c, h) with | none => (mp0, 6) | some m => (m, 0)
set_option maxHeartbeats 8000000 in
set_option maxRecDepth 100000 in
theorem held_calls (h : GX W gb mm hm mb fb s f c pi F n) (d k : Int) (hd : okI d) (hk : okI k) : Calls Try.prog 62 #[.pointer (some ⟨gb, 0, none⟩), .int .i64 d, .int .i64 k] W fun e w' =>
    e = .returned (.tuple #[.agg #[.int .i64 (heldR F d k).1.h, .int .i64 (heldR F d k).1.caller, .int .i64 (heldR F d k).1.owner, .int .i64 (heldR F d k).1.ref, .int .i64 (heldR F d k).1.mfn, .bool (heldR F d k).1.wr], .int .i64 (heldR F d k).2]) ∧ Below W.heap.size W w' := by
  have hb1 := below_alloc (Below.refl W.heap.size W) (.cells #[.int .i64 0, .int .i64 0, .int .i64 0, .int .i64 0, .int .i64 0, .bool false] 135)
  have h1 := h.below hb1
  have hn := GgA.none_calls h1.g.g
  have hdo := fun W => GgA.domain_calls d W
  have C1 := fun i => blk_cell h1.g.g.blk i
  have L1 := blk_lt h1.g.g.blk
  have hlk := h1.h.look_ok (d, k) ⟨hd, hk⟩
  unfold kv mpv at hlk
  obtain ⟨R, hR⟩ : ∃ R, R = heldR F d k := ⟨_, rfl⟩
  rw [← hR]
  unfold heldR at hR
  clear h h1 hb1
  by_cases hdm : 0 ≤ d ∧ d < 8
  · rw [if_neg (by simp [hdm])] at hR
    rw [decide_eq_true hdm.1, decide_eq_true hdm.2] at hdo
    cases hf : F (d, k) with
    | none =>
      rw [hf] at hlk hR
      simp only [Option.getD_none, Option.isSome_none, mp0] at hlk
      simp only [mp0] at hR
      subst hR
      go_enter Try.func62, Try.ntmps62
      go_wp2_with (first
        | (go_at_call 53; refine hn.mono ?_; rintro z w1 ⟨rfl, hw1⟩; obtain rfl := hw1.symm)
        | (go_at_call 55; refine (hdo _).mono ?_; rintro z w1 ⟨rfl, hw1⟩; obtain rfl := hw1.symm)
        | go_in)
      refine bodyPost_ret (v := .tuple #[.agg #[.int .i64 0, .int .i64 0, .int .i64 0, .int .i64 0, .int .i64 0, .bool false], .int .i64 6]) ?_ rfl ⟨rfl, ?_⟩
      · simp only [results, Try.results62]
        first | (go_simp; done) | (go_simp; rfl)
      · repeat (with_reducible first | exact Below.refl _ _ | refine below_alloc ?_ _ | (refine GuA.below_setN ?_ ?_; rotate_left; omega))
    | some m =>
      rw [hf] at hlk hR
      simp only [Option.getD_some, Option.isSome_some] at hlk
      simp only at hR
      subst hR
      go_enter Try.func62, Try.ntmps62
      go_wp2_with (first
        | (go_at_call 53; refine hn.mono ?_; rintro z w1 ⟨rfl, hw1⟩; obtain rfl := hw1.symm)
        | (go_at_call 55; refine (hdo _).mono ?_; rintro z w1 ⟨rfl, hw1⟩; obtain rfl := hw1.symm)
        | go_in)
      refine bodyPost_ret (v := .tuple #[.agg #[.int .i64 m.h, .int .i64 m.caller, .int .i64 m.owner, .int .i64 m.ref, .int .i64 m.mfn, .bool m.wr], .int .i64 0]) ?_ rfl ⟨rfl, ?_⟩
      · simp only [results, Try.results62]
        first | (go_simp; done) | (go_simp; rfl)
      · repeat (with_reducible first | exact Below.refl _ _ | refine below_alloc ?_ _ | (refine GuA.below_setN ?_ ?_; rotate_left; omega))
  · rw [if_pos hdm] at hR
    simp only [mp0] at hR
    subst hR
    have hdf : (decide (0 ≤ d) && decide (d < 8)) = false := by simp; omega
    rw [hdf] at hdo
    go_enter Try.func62, Try.ntmps62
    go_wp2_with (first
      | (go_at_call 53; refine hn.mono ?_; rintro z w1 ⟨rfl, hw1⟩; obtain rfl := hw1.symm)
      | (go_at_call 55; refine (hdo _).mono ?_; rintro z w1 ⟨rfl, hw1⟩; obtain rfl := hw1.symm)
      | go_in)
    refine bodyPost_ret (v := .tuple #[.agg #[.int .i64 0, .int .i64 0, .int .i64 0, .int .i64 0, .int .i64 0, .bool false], .int .i64 1]) ?_ rfl ⟨rfl, ?_⟩
    · simp only [results, Try.results62]
      first | (go_simp; done) | (go_simp; rfl)
    · repeat (with_reducible first | exact Below.refl _ _ | refine below_alloc ?_ _ | (refine GuA.below_setN ?_ ?_; rotate_left; omega))
end
end Go.Proofs.Ytjeobbhaoahdcaa.GjA
namespace Go.Proofs.Ytjeobbhaoahdcaa.GjB
open Go.RowKit Go.Maps Go.Proofs.Ytjeobbhaoahdcaa.Base Go.Proofs.Ytjeobbhaoahdcaa.GaA Go.Proofs.Ytjeobbhaoahdcaa.GaB Go.Proofs.Ytjeobbhaoahdcaa.GaC Go.Proofs.Ytjeobbhaoahdcaa.GmA Go.Proofs.Ytjeobbhaoahdcaa.GmB Go.Proofs.Ytjeobbhaoahdcaa.GmC Go.Proofs.Ytjeobbhaoahdcaa.GpA Go.Proofs.Ytjeobbhaoahdcaa.GgA Go.Proofs.Ytjeobbhaoahdcaa.GvA Go.Proofs.Ytjeobbhaoahdcaa.GeA Go.Proofs.Ytjeobbhaoahdcaa.GfA Go.Proofs.Ytjeobbhaoahdcaa.GfB Go.Proofs.Ytjeobbhaoahdcaa.GfC Go.Proofs.Ytjeobbhaoahdcaa.GfD Go.Proofs.Ytjeobbhaoahdcaa.GfH Go.Proofs.Ytjeobbhaoahdcaa.GjA
set_option linter.unusedVariables false
set_option linter.unusedSimpArgs false

theorem put1_put1 (s : MS) (k : Nat) (f g : Fr) : MS.put1 (MS.put1 s k f) k g = MS.put1 s k g := by
  unfold MS.put1
  congr 1
  funext i
  by_cases h : i = k
  · simp [h]
  · simp [h]
theorem put1_at (s : MS) (k : Nat) (f : Fr) : (MS.put1 s k f).fr k = f := if_pos rfl
theorem put1_ne (s : MS) (k i : Nat) (f : Fr) (h : i ≠ k) : (MS.put1 s k f).fr i = s.fr i := if_neg h
def fld (f : Fr) (j : Nat) (v : Int) : Fr := if j = 1 then { f with typ := v } else if j = 2 then { f with cnt := v } else { f with tot := v }
section
variable {w w' : World} {mb fb : Nat} {s : MS}
/-- One word of a frame turns. -/
theorem mach_one (h : Mach w mb fb s) (k : Nat) (hk : k < s.n) (j : Nat) (hj : j = 1 ∨ j = 2 ∨ j = 3) (v : Int) : Mach (w.setCell ⟨fb, k * 260 + j, none⟩ (.int .i64 v)) mb fb (MS.put1 s k (fld (s.fr k) j v)) := by
  obtain ⟨cs, h1, h2⟩ := h.lst
  refine ⟨blk_far h.blk h.ne _, ⟨_, blk_put h1 _ _ rfl, ?_⟩, h.few⟩
  refine (h2.set k j hk (by omega) _).of fun i l hi hl => ?_
  unfold cellM MS.put1 fld
  by_cases hik : i = k
  · subst hik
    rcases hj with rfl | rfl | rfl
    · by_cases l1 : l = 1
      · subst l1; simp
      · simp [l1]
    · by_cases l2 : l = 2
      · subst l2; simp
      · simp [l2]
    · by_cases l3 : l = 3
      · subst l3; simp
      · simp [l3]
  · simp [hik]
theorem kind_calls (b : Bool) (w : World) : Calls Try.prog 61 #[.bool b] w fun e w' => e = .returned (.int .i64 (if b then 1 else 0)) ∧ w' = w := by
  cases b
  all_goals
    go_enter Try.func61, Try.ntmps61
    go_wp2
    go_ret
    exact ⟨by first | rfl | (simp; done), rfl⟩
def putE (f : Fr) (kind : Int) : Int := if (kind ≠ 0 ∧ f.typ ≠ kind) ∨ (kind = 0 ∧ f.tot = f.cnt) then 14 else 0
def putF (f : Fr) (kind : Int) : Fr := ⟨f.own, if (if kind = 0 then f.cnt else f.cnt - 1) = 0 then 0 else f.typ, if kind = 0 then f.cnt else f.cnt - 1, f.tot - 1⟩
def putS (s : MS) (k : Nat) (kind : Int) : MS := if putE (s.fr k) kind = 0 then MS.put1 s k (putF (s.fr k) kind) else s
theorem putS_n (s : MS) (k : Nat) (kind : Int) : (putS s k kind).n = s.n := by unfold putS; split <;> rfl
set_option maxHeartbeats 8000000 in
set_option maxRecDepth 100000 in
theorem put_calls (h : Mach w mb fb s) (k : Nat) (hk : k < s.n) (kind : Int) (h0 : 0 ≤ kind) (h3 : kind ≤ 3) (hf : Fr.few (s.fr k)) : Calls Try.prog 63 #[.pointer (some ⟨mb, 0, none⟩), .int .i64 k, .int .i64 kind] w fun e w' =>
    e = .returned (.int .i64 (putE (s.fr k) kind)) ∧ Mach w' mb fb (putS s k kind) ∧ Chg (fun x => x = fb) w w' := by
  have ha := kinds_calls h k hk kind h0 h3
  have c1 := h.typ k hk
  have c2 := h.cnt k hk
  have c3 := h.tot k hk
  have F0 := h.frozen
  have L1 := h.lt.2
  obtain ⟨b0, b1, b2, b3⟩ := hf
  have m3 := fun n => mach_one (h.below (below_drewN (Below.refl _ _) n)) k hk 3 (.inr (.inr rfl)) ((s.fr k).tot - 1)
  have m32 := fun n => mach_one (m3 n) k hk 2 (.inr (.inl rfl)) ((s.fr k).cnt - 1)
  have m31 := fun n => mach_one (m3 n) k hk 1 (.inl rfl) 0
  have m321 := fun n => mach_one (m32 n) k hk 1 (.inl rfl) 0
  simp only [put1_at, put1_put1, fld] at m3 m32 m31 m321
  have HM := Base.Aside.mk (And.intro h (And.intro m3 (And.intro m32 (And.intro m31 m321))))
  clear h m3 m32 m31 m321
  by_cases e0 : kind = 0
  · subst e0
    by_cases e1 : (s.fr k).tot = (s.fr k).cnt
    · have d1 : ((s.fr k).tot == (s.fr k).cnt) = true := by simp [e1]
      have hE : putE (s.fr k) 0 = 14 := if_pos (.inr ⟨rfl, e1⟩)
      have HE := Base.Aside.mk (And.intro hE e1)
      clear hE e1
      go_enter Try.func63, Try.ntmps63
      go_wp2_with (first
        | (go_at_call 81; refine ha.mono ?_; rintro z w1 ⟨rfl, hw1⟩; obtain rfl := hw1.symm)
        | go_in)
      go_quiet (fail)
      go_wp2
      go_ret
      exact ⟨by rw [HE.out.1]; first | rfl | (simp; done), by unfold putS; rw [HE.out.1]; exact HM.out.1.below (below_drewN (Below.refl _ _) _), (Chg.refl _ _).drewN _⟩
    · have d1 : ((s.fr k).tot == (s.fr k).cnt) = false := by simp [e1]
      have hE : putE (s.fr k) 0 = 0 := if_neg (by simp [e1])
      have HE := Base.Aside.mk (And.intro hE e1)
      clear hE e1
      by_cases e2 : (s.fr k).cnt = 0
      · have d2 : ((s.fr k).cnt == 0) = true := by simp [e2]
        have HE2 := Base.Aside.mk e2
        clear e2
        go_enter Try.func63, Try.ntmps63
        go_wp2_with (first
          | (go_at_call 81; refine ha.mono ?_; rintro z w1 ⟨rfl, hw1⟩; obtain rfl := hw1.symm)
          | go_in)
        go_quiet (fail)
        go_wp2
        go_ret
        refine ⟨by rw [HE.out.1]; first | rfl | (simp; done), ?_, by repeat (first | exact Chg.refl _ _ | refine Chg.drewN ?_ _ | refine chg_fb ?_ _ _)⟩
        unfold putS
        rw [HE.out.1, if_pos rfl]
        have hF : putF (s.fr k) 0 = ⟨(s.fr k).own, 0, (s.fr k).cnt, (s.fr k).tot - 1⟩ := by unfold putF; simp [HE2.out]
        rw [hF]
        have := HM.out.2.2.2.1 nq
        simpa using this
      · have d2 : ((s.fr k).cnt == 0) = false := by simp [e2]
        have HE2 := Base.Aside.mk e2
        clear e2
        go_enter Try.func63, Try.ntmps63
        go_wp2_with (first
          | (go_at_call 81; refine ha.mono ?_; rintro z w1 ⟨rfl, hw1⟩; obtain rfl := hw1.symm)
          | go_in)
        go_quiet (fail)
        go_wp2
        go_ret
        refine ⟨by rw [HE.out.1]; first | rfl | (simp; done), ?_, by repeat (first | exact Chg.refl _ _ | refine Chg.drewN ?_ _ | refine chg_fb ?_ _ _)⟩
        unfold putS
        rw [HE.out.1, if_pos rfl]
        have hF : putF (s.fr k) 0 = ⟨(s.fr k).own, (s.fr k).typ, (s.fr k).cnt, (s.fr k).tot - 1⟩ := by unfold putF; simp [HE2.out]
        rw [hF]
        have := HM.out.2.1 nq
        simpa using this
  · have d0 : (kind == 0) = false := by simp [e0]
    have d0' : (kind != 0) = true := by simp [e0]
    by_cases e1 : (s.fr k).typ = kind
    · have d1 : ((s.fr k).typ != kind) = false := by simp [e1]
      have hE : putE (s.fr k) kind = 0 := if_neg (by simp [e0, e1])
      have HE := Base.Aside.mk (And.intro hE (And.intro e1 e0))
      clear hE e1 e0
      by_cases e2 : (s.fr k).cnt - 1 = 0
      · have d2 : ((s.fr k).cnt - 1 == 0) = true := by simp [e2]
        have HE2 := Base.Aside.mk e2
        clear e2
        go_enter Try.func63, Try.ntmps63
        go_wp2_with (first
          | (go_at_call 81; refine ha.mono ?_; rintro z w1 ⟨rfl, hw1⟩; obtain rfl := hw1.symm)
          | go_in)
        go_quiet (fail)
        go_wp2
        go_ret
        refine ⟨by rw [HE.out.1]; first | rfl | (simp; done), ?_, by repeat (first | exact Chg.refl _ _ | refine Chg.drewN ?_ _ | refine chg_fb ?_ _ _)⟩
        unfold putS
        rw [HE.out.1, if_pos rfl]
        have hF : putF (s.fr k) kind = ⟨(s.fr k).own, 0, (s.fr k).cnt - 1, (s.fr k).tot - 1⟩ := by unfold putF; simp [HE.out.2.2, HE2.out]
        rw [hF]
        have := HM.out.2.2.2.2 nq
        simpa using this
      · have d2 : ((s.fr k).cnt - 1 == 0) = false := by simp [e2]
        have HE2 := Base.Aside.mk e2
        clear e2
        go_enter Try.func63, Try.ntmps63
        go_wp2_with (first
          | (go_at_call 81; refine ha.mono ?_; rintro z w1 ⟨rfl, hw1⟩; obtain rfl := hw1.symm)
          | go_in)
        go_quiet (fail)
        go_wp2
        go_ret
        refine ⟨by rw [HE.out.1]; first | rfl | (simp; done), ?_, by repeat (first | exact Chg.refl _ _ | refine Chg.drewN ?_ _ | refine chg_fb ?_ _ _)⟩
        unfold putS
        rw [HE.out.1, if_pos rfl]
        have hF : putF (s.fr k) kind = ⟨(s.fr k).own, (s.fr k).typ, (s.fr k).cnt - 1, (s.fr k).tot - 1⟩ := by unfold putF; simp [HE.out.2.2, HE2.out]
        rw [hF]
        have := HM.out.2.2.1 nq
        simpa using this
    · have d1 : ((s.fr k).typ != kind) = true := by simp [e1]
      have hE : putE (s.fr k) kind = 14 := if_pos (.inl ⟨e0, e1⟩)
      have HE := Base.Aside.mk (And.intro hE e0)
      clear hE e1 e0
      go_enter Try.func63, Try.ntmps63
      go_wp2_with (first
        | (go_at_call 81; refine ha.mono ?_; rintro z w1 ⟨rfl, hw1⟩; obtain rfl := hw1.symm)
        | go_in)
      go_ret
      exact ⟨by rw [HE.out.1]; first | rfl | (simp; done), by unfold putS; rw [HE.out.1]; exact HM.out.1, Chg.refl _ _⟩
end
end Go.Proofs.Ytjeobbhaoahdcaa.GjB
