/- Proved: the document's machine as it lies in memory; its New (contracts for the laws of the grants). -/
import Derived.Test.YtjeobbhaoahdcaaRpA
import Derived.Deep.RegionLaw
import Derived.Deep.AppendLies
namespace Go.Proofs.Ytjeobbhaoahdcaa.RmA
open Go.RowKit Go.Maps Go.Proofs.Ytjeobbhaoahdcaa.Base Go.Proofs.Ytjeobbhaoahdcaa.GaA Go.Proofs.Ytjeobbhaoahdcaa.GaB Go.Proofs.Ytjeobbhaoahdcaa.GaC Go.Proofs.Ytjeobbhaoahdcaa.RpA
set_option linter.unusedVariables false
set_option linter.unusedSimpArgs false

theorem infoF : (Try.prog.info? 46).map (fun i => (i.zero, i.size, i.bytes)) = some (some (.agg #[.int .i64 0, .int .i64 0, .int .i64 0, .int .i64 0]), 4, 32) := by kernel_rfl
theorem infoB : (Try.prog.info? 42).map (fun i => (i.zero, i.size, i.bytes)) = some (some (.slice none 0 0), 1, 24) := by kernel_rfl
theorem cell_four_new (w : World) (a b c d : Value) (t : TypeId) : ∀ j u, [a, b, c, d][j]? = some u → (w.alloc (.cells #[a, b, c, d] t)).cell? ((⟨w.heap.size, 0, none⟩ : Addr).add j) = some u := by
  intro j u h
  rw [show ((⟨w.heap.size, 0, none⟩ : Addr).add j) = ⟨w.heap.size, j, none⟩ by unfold Addr.add; split <;> simp_all, blk_cell (blk_new w (.cells #[a, b, c, d] t)) j]
  rw [← h]
  simp
/-- The words of a frame, cell by cell. -/
def cellF (s : MS) (i j : Nat) : Value := cellM s i j
/-- The document's machine in memory. -/
structure RMach (w : World) (rb Fb Bb cF cB : Nat) (bs : List Nat) (s : MS) : Prop where
  blk : w.heap[rb]? = some (.cells #[.slice (some ⟨Fb, 0, none⟩) s.n cF, .slice (some ⟨Bb, 0, none⟩) s.n cB] 152 (0, 0))
  frs : ∃ cs, w.heap[Fb]? = some (.cells cs 46 (0, 0)) ∧ ∀ i j, i < s.n → j < 4 → cs[i * 4 + j]? = some (cellM s i j)
  rows : ∃ cs, w.heap[Bb]? = some (.cells cs 42 (0, 0)) ∧ ∀ i, i < s.n → cs[i]? = some (.slice (some ⟨bs.getD i 0, 0, none⟩) 256 256)
  len : bs.length = s.n
  nodup : bs.Nodup
  page : ∀ i, i < s.n → w.heap[bs.getD i 0]? = some (.cells (u8s (MS.rd s i 0 256)).toArray 5 (0, 0))
  few : s.n ≤ 1000
/-- A machine nobody has used. -/
def ms0 (n : Nat) : MS := ⟨n, fun _ => ⟨-1, 0, 0, 0⟩, fun _ _ => 0⟩
theorem rep4 (x : List Value) (hx : x.length = 4) : ∀ (i k j : Nat), i < k → j < 4 → (List.replicate k x).flatten[i * 4 + j]? = x[j]?
  | 0, k + 1, j, _, hj => by
      rw [List.replicate_succ, List.flatten_cons, Nat.zero_mul, Nat.zero_add, List.getElem?_append_left (by omega)]
  | i + 1, k + 1, j, hi, hj => by
      rw [List.replicate_succ, List.flatten_cons, List.getElem?_append_right (by omega), hx, show (i + 1) * 4 + j - 4 = i * 4 + j by omega]
      exact rep4 x hx i k j (by omega) hj
theorem rep4_len (x : List Value) (hx : x.length = 4) (k : Nat) : (List.replicate k x).flatten.length = k * 4 := by
  simp [hx]
theorem rep4_snoc (x : List Value) (k : Nat) : (List.replicate (k + 1) x).flatten = (List.replicate k x).flatten ++ x := by
  rw [List.replicate_succ', List.flatten_append]; simp
theorem zero_page (n k : Nat) : (madeCells #[.int .u8 0] 256 : Array Value) = (u8s (MS.rd (ms0 n) k 0 256)).toArray := by
  show _ = (u8s ((List.range 256).map fun j => (0 : UInt8))).toArray
  kernel_rfl
def fr0 : List Value := [.int .i64 (-1), .int .i64 0, .int .i64 0, .int .i64 0]
def rowB (bs : List Nat) : List Value := bs.map (fun b => .slice (some ⟨b, 0, none⟩) 256 256)
structure NewInv (w W : World) (f k : Nat) (v u : Value) (bs : List Nat) : Prop where
  blk : W.heap[w.heap.size]? = some (.cells #[v, u] 152 (0, 0))
  frs : W.ownsRow w.heap.size 46 4 v f (List.replicate f fr0).flatten
  rows : W.ownsRow w.heap.size 42 1 u k (rowB bs)
  len : bs.length = k
  nodup : bs.Nodup
  old : ∀ b ∈ bs, w.heap.size ≤ b
  page : ∀ b ∈ bs, W.heap[b]? = some (.cells (madeCells #[.int .u8 0] 256) 5 (0, 0))
  bel : Below w.heap.size w W
def NewOut (w : World) (n : Nat) (e : Ending) (w' : World) : Prop := ∃ rb Fb Bb cF cB bs, e = .returned (.tuple #[.pointer (some ⟨rb, 0, none⟩), .int .i64 0]) ∧ w.heap.size ≤ rb ∧ w.heap.size ≤ Fb ∧ w.heap.size ≤ Bb ∧ (∀ b ∈ bs, w.heap.size ≤ b) ∧ RMach w' rb Fb Bb cF cB bs (ms0 n) ∧ Below w.heap.size w w'
theorem NewInv.one {w W w3 : World} {k : Nat} {v u v' : Value} {bs : List Nat} {o : Obj} (h : NewInv w W k k v u bs) (hg : (W.alloc o).grownBy w3 v.ownBlock) (hown : w3.ownsRow w.heap.size 46 4 v' (k + 1) ((List.replicate k fr0).flatten ++ fr0)) :
    w3.heap[w.heap.size]? = some (.cells #[v, u] 152 (0, 0)) ∧ NewInv w (w3.setCell ⟨w.heap.size, 0, none⟩ v') (k + 1) k v' u bs := by
  have hne := row_ne h.frs h.blk (by decide)
  have hlt := blk_lt h.blk
  have hkeep : ∀ b x, W.heap[b]? = some x → v.ownBlock ≠ some b → w3.heap[b]? = some x := fun b x hb hn => (hg.block _ (by have := blk_lt hb; simp; omega) (fun e => hn e.symm)).trans (blk_alloc hb _)
  have hb3 := hkeep _ _ h.blk hne
  have hB3 : Below w.heap.size w w3 := (below_alloc h.bel _).grown hg (by simp; omega) (fun j hj => (h.frs.lt j hj).1)
  have hc : Chg (fun x => x = w.heap.size) w3 (w3.setCell ⟨w.heap.size, 0, none⟩ v') := Chg.set (F := fun x => x = w.heap.size) (p := ⟨w.heap.size, 0, none⟩) (Chg.refl _ w3) (.inl rfl) _
  have hr3 : w3.ownsRow w.heap.size 42 1 u k (rowB bs) := (h.rows.alloc o).kept hg (by
    obtain ⟨_, ⟨rfl, h0⟩ | ⟨g, cap, cur, rfl, hb, hgb, _⟩⟩ := h.rows
    · exact .inl rfl
    · refine .inr (fun e => ?_)
      exact row_ne h.frs hgb (by decide) e.symm)
  refine ⟨hb3, ⟨blk_put hb3 0 _ (by simp), ?_, ?_, h.len, h.nodup, h.old, ?_, below_set hB3 (Nat.le_refl _) _⟩⟩
  · rw [rep4_snoc]
    exact row_chg hown hc (by rintro g hg rfl; exact row_ne hown hb3 (by decide) hg)
  · exact row_chg hr3 hc (by rintro g hg rfl; exact row_ne hr3 hb3 (by decide) hg)
  · intro b hb
    have hp := h.page b hb
    have h5 : v.ownBlock ≠ some b := row_ne h.frs hp (by decide)
    refine hc.blk (hkeep _ _ hp h5) ?_
    rintro rfl
    rw [h.blk] at hp
    have e := Option.some.inj hp
    injection e with e1 e2 e3
    exact absurd e2 (by decide)
theorem heap_new2 (W : World) (o1 o2 : Obj) : ((W.alloc o1).alloc o2).drew.heap[W.heap.size + 1]? = some o2 := by
  have := blk_new (W.alloc o1) o2
  rw [World.size_alloc] at this
  exact this
theorem NewInv.two {w W w3 : World} {k : Nat} {v u v' : Value} {bs : List Nat} {o : Obj} (h : NewInv w W (k + 1) k v u bs) (hg : (((W.alloc (.cells (madeCells #[.int .u8 0] 256) 5)).alloc o).drew).grownBy w3 u.ownBlock) (hown : w3.ownsRow w.heap.size 42 1 v' (k + 1) (rowB bs ++ [.slice (some ⟨W.heap.size, 0, none⟩) 256 256])) :
    w3.heap[w.heap.size]? = some (.cells #[v, u] 152 (0, 0)) ∧ NewInv w (w3.setCell ⟨w.heap.size, 1, none⟩ v') (k + 1) (k + 1) v v' (bs ++ [W.heap.size]) := by
  have hne := row_ne h.rows h.blk (by decide)
  have hlt := blk_lt h.blk
  have hkeep : ∀ b x, W.heap[b]? = some x → u.ownBlock ≠ some b → w3.heap[b]? = some x := fun b x hb hn => (hg.block _ (by have := blk_lt hb; simp; omega) (fun e => hn e.symm)).trans (blk_alloc (blk_alloc hb _) _)
  have hb3 := hkeep _ _ h.blk hne
  have hnew : w3.heap[W.heap.size]? = some (.cells (madeCells #[.int .u8 0] 256) 5 (0, 0)) := (hg.block _ (by simp; omega) (fun e => by have := (h.rows.lt _ e.symm).2; omega)).trans (blk_alloc (blk_new W _) _)
  have hB3 : Below w.heap.size w w3 := ((below_alloc (below_alloc h.bel _) _).drew).grown hg (by simp; omega) (fun j hj => (h.rows.lt j hj).1)
  have hc : Chg (fun x => x = w.heap.size) w3 (w3.setCell ⟨w.heap.size, 1, none⟩ v') := Chg.set (F := fun x => x = w.heap.size) (p := ⟨w.heap.size, 1, none⟩) (Chg.refl _ w3) (.inl rfl) _
  have hr3 : w3.ownsRow w.heap.size 46 4 v (k + 1) (List.replicate (k + 1) fr0).flatten := (((h.frs.alloc _).alloc _).drew).kept hg (by
    obtain ⟨_, ⟨rfl, h0⟩ | ⟨g, cap, cur, rfl, hb, hgb, _⟩⟩ := h.frs
    · exact .inl rfl
    · refine .inr (fun e => ?_)
      exact row_ne h.rows hgb (by decide) e.symm)
  refine ⟨hb3, ⟨blk_put hb3 1 _ (by simp), ?_, ?_, by simp [h.len], ?_, ?_, ?_, below_set hB3 (Nat.le_refl _) _⟩⟩
  · exact row_chg hr3 hc (by rintro g hg rfl; exact row_ne hr3 hb3 (by decide) hg)
  · have := row_chg hown hc (by rintro g hg rfl; exact row_ne hown hb3 (by decide) hg)
    simpa [rowB] using this
  · refine List.nodup_append.2 ⟨h.nodup, by simp, ?_⟩
    intro a ha b hb e
    rw [List.mem_singleton] at hb
    have := blk_lt (h.page a ha)
    omega
  · intro b hb
    rcases List.mem_append.1 hb with hb | hb
    · exact h.old b hb
    · rw [List.mem_singleton] at hb
      have := h.bel.size
      omega
  · intro b hb
    rcases List.mem_append.1 hb with hb | hb
    · have hp := h.page b hb
      have h5 : u.ownBlock ≠ some b := row_ne h.rows hp (by decide)
      refine hc.blk (hkeep _ _ hp h5) ?_
      rintro rfl
      rw [h.blk] at hp
      have e := Option.some.inj hp
      injection e with e1 e2 e3
      exact absurd e2 (by decide)
    · rw [List.mem_singleton] at hb
      subst hb
      exact hc.blk hnew (by omega)
theorem NewInv.done {w W : World} {n : Nat} {v u : Value} {bs : List Nat} (h : NewInv w W n n v u bs) (h0 : 0 < n) (hn : n ≤ 256) : NewOut w n (.returned (.tuple #[.pointer (some ⟨w.heap.size, 0, none⟩), .int .i64 0])) W := by
  obtain ⟨_, ⟨_, h2⟩ | ⟨g, c, cur, rfl, hb, hg, hr1, hr2, hr3, hr4⟩⟩ := h.frs
  · omega
  obtain ⟨_, ⟨_, h2⟩ | ⟨g', c', cur', rfl, hb', hg', hs1, hs2, hs3, hs4⟩⟩ := h.rows
  · omega
  refine ⟨_, g, g', c, c', bs, rfl, Nat.le_refl _, hb, hb', h.old, ⟨h.blk, ⟨cur, hg, ?_⟩, ⟨cur', hg', ?_⟩, h.len, h.nodup, ?_, by show n ≤ 1000; omega⟩, h.bel⟩
  · intro i j hi hj
    have := rep4 fr0 rfl i n j hi hj
    rw [← hr4, List.getElem?_take, if_pos (by show i * 4 + j < n * 4; have : i < n := hi; omega), Array.getElem?_toList] at this
    rw [this]
    match j, hj with
    | 0, _ => rfl
    | 1, _ => rfl
    | 2, _ => rfl
    | 3, _ => rfl
  · intro i hi
    have hi' : i < n := hi
    have := congrArg (fun l => l[i]?) hs4
    simp only [List.getElem?_take, if_pos (show i < n * 1 by omega), Array.getElem?_toList] at this
    rw [this]
    unfold rowB
    rw [List.getElem?_map, List.getD_eq_getElem?_getD, List.getElem?_eq_getElem (by rw [h.len]; exact hi')]
    rfl
  · intro i hi
    have hi' : i < n := hi
    rw [← zero_page n i]
    have e : bs.getD i 0 = bs[i]'(by rw [h.len]; exact hi') := by rw [List.getD_eq_getElem?_getD, List.getElem?_eq_getElem (by rw [h.len]; exact hi')]; rfl
    rw [e]
    exact h.page _ (List.getElem_mem _)
theorem news_slice (W : World) (v : Value) (t : TypeId) : ∀ j u, [v][j]? = some u → (W.alloc (.cells #[v] t)).cell? ((⟨W.heap.size, 0, none⟩ : Addr).add j) = some u := cell_one_new W v t
set_option maxHeartbeats 8000000 in
set_option maxRecDepth 100000 in
theorem new_calls (w : World) (n : Nat) (h0 : 0 < n) (hn : n ≤ 256) : Calls Try.prog 36 #[.int .i64 n] w (NewOut w n) := by
  obtain ⟨i0, hi, hz0, hz1, hz2⟩ := info_parts infoF
  obtain ⟨i1, hj, hy0, hy1, hy2⟩ := info_parts infoB
  have k1 : decide ((n : Int) < 1) = false := decide_eq_false (by omega)
  have k2 : decide ((256 : Int) < (n : Int)) = false := decide_eq_false (by omega)
  have hmk : ∀ W : World, (Instr.makeSlice 42 (.int .i64 256) (.int .i64 256)).run Try.prog W = .ok (.slice (some ⟨W.heap.size, 0, none⟩) 256 256) (W.alloc (.cells (madeCells #[.int .u8 0] 256) 5)) := fun W => make_bytes W 256 (by decide)
  go_enter Try.func36, Try.ntmps36
  go_wp2
  go_loopw [5] (fun i wr => ∃ (k : Nat) (v u : Value) (bs : List Nat) (W2 : World), k ≤ n ∧ i = .int .i64 k ∧ wr = W2 ∧ Base.Aside (NewInv w W2 k k v u bs)) (fun i _ => n - (intOf i).toNat)
  case atStart => exact ⟨0, _, _, [], _, Nat.zero_le _, rfl, rfl, ⟨blk_new _ _, World.ownsRow_nil _ _ _ _, World.ownsRow_nil _ _ _ _, rfl, List.nodup_nil, by simp, by simp, below_alloc (Below.refl _ _) _⟩⟩
  case round =>
    obtain ⟨k, v, u, bs, W2, hk, rfl, hwr, hA⟩ := hrel
    obtain rfl := hwr.symm
    have C2 := fun i => blk_cell hA.out.blk i
    have F2 := fun i => blk_frozen hA.out.blk i
    have L2 := blk_lt hA.out.blk
    by_cases hlt : k < n
    · go_wp2_with (first
        | (at_builtin; refine wpList_append_own_at _ rfl _ _ 149 rfl w.heap.size 46 i0 (.agg #[.int .i64 0, .int .i64 0, .int .i64 0, .int .i64 0]) 4 32 Try.underlying149 hi hz0 hz1 hz2 rfl (by decide) _ k _ rfl (hA.out.frs.alloc _) ⟨W2.heap.size, 0, none⟩ 1 1 fr0 rfl rfl (cell_four_new _ _ _ _ _ _) (ints_oneCell .i64 [-1, 0, 0, 0]) (by unfold maxLen; omega) (by omega) (by have := hA.out.bel.size; simp; omega) ?_)
        | go_in)
      intro v' w3 hown hg hnil hloc
      obtain ⟨g2, cap2, rfl, hg2⟩ := row_full hown (by omega)
      have h3 := NewInv.one hA.out hg hown
      have C3 := fun i => blk_cell h3.1 i
      have F3 := fun i => blk_frozen h3.1 i
      have L3 := blk_lt h3.1
      have H3 := Base.Aside.mk h3.2
      clear hg hown hnil hloc h3
      go_wp2
      refine wp_world (fun W => NewInv w W (k + 1) k (.slice (some ⟨g2, 0, none⟩) (k + 1 : Nat) cap2) u bs) H3.out ?_
      clear H3 C3 F3 L3
      intro W4 h4
      have C4 := fun i => blk_cell h4.blk i
      have F4 := fun i => blk_frozen h4.blk i
      have L4 := blk_lt h4.blk
      have H4 := Base.Aside.mk h4
      have c1 : W4.cell? ⟨w.heap.size, 1, none⟩ = some u := C4 1
      have hne4 := row_ne h4.rows h4.blk (by decide)
      have hsz4 := h4.bel.size
      have hrow4 := h4.rows
      clear h4
      go_region_law (first
        | (refine step_append_lies _ (by rfl) _ _ _ (by rfl) w.heap.size 42 i1 _ 1 24 Try.underlying150 hj hy0 hy1 hy2 rfl (by omega) u k (rowB bs) (by rfl) (((hrow4.alloc _).alloc _).drew)
              ⟨W4.heap.size + 1, 0, none⟩ 1 1 [.slice (some ⟨W4.heap.size, 0, none⟩) 256 256] (by rfl) (by rfl) (World.news_of_block (cs := #[.slice (some ⟨W4.heap.size, 0, none⟩) 256 256]) (t := 42) (fr := (0, 0)) (heap_new2 W4 _ _)) (by simp [Value.oneCell'])
              (by omega) (by unfold maxLen; omega) (by omega) (by simp; omega) (W4.heap.size + 2) (by simp) ?_; intro gg cap w1 hown1 hgrow hat hlt1; have h5 := NewInv.two H4.out hgrow hown1; have C5 := fun i => blk_cell h5.1 i; have F5 := fun i => blk_frozen h5.1 i; have L5 := blk_lt h5.1; have H5 := Base.Aside.mk h5.2; clear h5)
        | (fail))
      all_goals
        go_wp2
        exact ⟨⟨k + 1, _, _, _, _, by omega, by simp, rfl, ⟨H5.out⟩⟩, by simp [intOf]; omega⟩
    · obtain rfl : k = n := by omega
      go_wp2
      go_ret2
      exact hA.out.done h0 hn
end Go.Proofs.Ytjeobbhaoahdcaa.RmA
