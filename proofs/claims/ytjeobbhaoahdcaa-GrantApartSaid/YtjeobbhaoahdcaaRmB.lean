/- Proved: what the document's machine answers: Domain, Is, Owned, Alloc (contracts for the laws of the grants). -/
import Derived.Test.YtjeobbhaoahdcaaRmA
import Derived.Test.YtjeobbhaoahdcaaGaD
namespace Go.Proofs.Ytjeobbhaoahdcaa.RmB
open Go.RowKit Go.Maps Go.Proofs.Ytjeobbhaoahdcaa.Base Go.Proofs.Ytjeobbhaoahdcaa.GaA Go.Proofs.Ytjeobbhaoahdcaa.GaB Go.Proofs.Ytjeobbhaoahdcaa.GaC Go.Proofs.Ytjeobbhaoahdcaa.GaD Go.Proofs.Ytjeobbhaoahdcaa.RpA Go.Proofs.Ytjeobbhaoahdcaa.RmA
set_option linter.unusedVariables false
set_option linter.unusedSimpArgs false

section
variable {w w' : World} {rb Fb Bb cF cB : Nat} {bs : List Nat} {s : MS}
theorem _root_.Go.Proofs.Ytjeobbhaoahdcaa.RmA.RMach.lt (h : RMach w rb Fb Bb cF cB bs s) : rb < w.heap.size ∧ Fb < w.heap.size ∧ Bb < w.heap.size := by
  obtain ⟨cs, h1, _⟩ := h.frs
  obtain ⟨cs2, h2, _⟩ := h.rows
  exact ⟨blk_lt h.blk, blk_lt h1, blk_lt h2⟩
theorem blk_ne {g k : Nat} {t u : TypeId} {cs ds : Array Value} (h : w.heap[g]? = some (.cells cs t (0, 0))) (h2 : w.heap[k]? = some (.cells ds u (0, 0))) (hn : t ≠ u) : g ≠ k := by
  rintro rfl
  rw [h] at h2
  have e := Option.some.inj h2
  injection e with e1 e2 e3
  exact hn e2
theorem _root_.Go.Proofs.Ytjeobbhaoahdcaa.RmA.RMach.ne (h : RMach w rb Fb Bb cF cB bs s) : rb ≠ Fb ∧ rb ≠ Bb ∧ Fb ≠ Bb := by
  obtain ⟨cs, h1, _⟩ := h.frs
  obtain ⟨cs2, h2, _⟩ := h.rows
  exact ⟨blk_ne h.blk h1 (by decide), blk_ne h.blk h2 (by decide), blk_ne h1 h2 (by decide)⟩
theorem _root_.Go.Proofs.Ytjeobbhaoahdcaa.RmA.RMach.chg {F : Nat → Prop} (h : RMach w rb Fb Bb cF cB bs s) (hc : Chg F w w') (h1 : ¬ F rb) (h2 : ¬ F Fb) (h3 : ¬ F Bb) (h4 : ∀ b ∈ bs, ¬ F b) : RMach w' rb Fb Bb cF cB bs s := by
  obtain ⟨cs, g1, g2⟩ := h.frs
  obtain ⟨cs2, g3, g4⟩ := h.rows
  refine ⟨hc.blk h.blk h1, ⟨cs, hc.blk g1 h2, g2⟩, ⟨cs2, hc.blk g3 h3, g4⟩, h.len, h.nodup, fun i hi => hc.blk (h.page i hi) (h4 _ ?_), h.few⟩
  rw [List.getD_eq_getElem?_getD, List.getElem?_eq_getElem (by rw [h.len]; exact hi)]
  exact List.getElem_mem _
theorem _root_.Go.Proofs.Ytjeobbhaoahdcaa.RmA.RMach.below (h : RMach w rb Fb Bb cF cB bs s) (hb : Below w.heap.size w w') : RMach w' rb Fb Bb cF cB bs s := h.chg (Chg.below (fun _ => False) hb) (fun h => h) (fun h => h) (fun h => h) (fun _ _ h => h)
theorem _root_.Go.Proofs.Ytjeobbhaoahdcaa.RmA.RMach.cell (h : RMach w rb Fb Bb cF cB bs s) (i j : Nat) (hi : i < s.n) (hj : j < 4) : w.cell? ⟨Fb, i * 4 + j, none⟩ = some (cellM s i j) := by
  obtain ⟨cs, g1, g2⟩ := h.frs
  rw [blk_cell g1, g2 i j hi hj]
theorem _root_.Go.Proofs.Ytjeobbhaoahdcaa.RmA.RMach.own (h : RMach w rb Fb Bb cF cB bs s) (i : Nat) (hi : i < s.n) : w.cell? ⟨Fb, i * 4, none⟩ = some (.int .i64 (s.fr i).own) := h.cell i 0 hi (by omega)
theorem _root_.Go.Proofs.Ytjeobbhaoahdcaa.RmA.RMach.frozen (h : RMach w rb Fb Bb cF cB bs s) (i : Nat) : w.frozen? ⟨Fb, i, none⟩ = false := by
  obtain ⟨cs, g1, g2⟩ := h.frs
  exact blk_frozen g1 i
theorem domain_in (d : Int) (d0 : 0 ≤ d) (d8 : d < 8) (w : World) : Calls Try.prog 73 #[.int .i64 d] w fun e w' => e = .returned (.bool true) ∧ w' = w := by
  have k0 : decide (0 ≤ d) = true := decide_eq_true d0
  have k1 : decide (d < 8) = true := decide_eq_true d8
  go_enter Try.func73, Try.ntmps73
  go_wp2
  go_ret
  exact ⟨by first | rfl | (simp; done), rfl⟩
set_option maxHeartbeats 2000000 in
set_option maxRecDepth 100000 in
theorem is_calls (h : RMach w rb Fb Bb cF cB bs s) (k : Nat) (hk : k < s.n) : Calls Try.prog 85 #[.pointer (some ⟨rb, 0, none⟩), .int .i64 k] w fun e w' => e = .returned (.bool true) ∧ w' = w := by
  have C0 := fun i => blk_cell h.blk i
  have L0 := blk_lt h.blk
  have k0 : decide ((0 : Int) ≤ (k : Int)) = true := decide_eq_true (by omega)
  have k1 : decide ((k : Int) < (s.n : Int)) = true := decide_eq_true (by omega)
  clear h
  go_enter Try.func85, Try.ntmps85
  go_wp2
  go_ret
  exact ⟨by first | rfl | (simp; done), rfl⟩
def OwnedOut (w : World) (s : MS) (x : Int) (e : Ending) (w' : World) : Prop := ∃ v, e = .returned v ∧ w'.ownsRow w.heap.size 3 1 v (mine (owners s) x s.n).length ((mine (owners s) x s.n).map (Value.int .i64)) ∧ Below w.heap.size w w'
set_option maxHeartbeats 4000000 in
set_option maxRecDepth 100000 in
theorem owned_calls (h : RMach w rb Fb Bb cF cB bs s) (x : Int) : Calls Try.prog 74 #[.pointer (some ⟨rb, 0, none⟩), .int .i64 x] w (OwnedOut w s x) := by
  obtain ⟨i0, hi, hz0, hz1, hz2⟩ := info_parts info3
  have hfew := h.few
  obtain ⟨n, hn⟩ : ∃ n, n = s.n := ⟨_, rfl⟩
  go_enter Try.func74, Try.ntmps74
  go_wp2
  go_loopw [5, 6] (fun v i wr => ∃ (k : Nat) (W2 : World), k ≤ n ∧ i = .int .i64 k ∧ wr = W2 ∧ Base.Aside (W2.ownsRow w.heap.size 3 1 v (mine (owners s) x k).length ((mine (owners s) x k).map (Value.int .i64)) ∧ Below w.heap.size w W2)) (fun _ i _ => n - (intOf i).toNat)
  case atStart => exact ⟨0, w, Nat.zero_le _, rfl, rfl, ⟨World.ownsRow_nil _ _ _ _, Below.refl _ _⟩⟩
  case round =>
    obtain ⟨k, W2, hk, rfl, hwr, hA⟩ := hrel
    obtain rfl := hwr.symm
    have h2 := h.below hA.out.2
    have C2 := fun i => blk_cell h2.blk i
    have L2 := blk_lt h2.blk
    have L3 := h2.lt.2.1
    by_cases hlt : k < n
    · have hcell := h2.own k (by omega)
      have hl := mine_len (owners s) x k
      obtain ⟨y, hy⟩ : ∃ y, y = (s.fr k).own := ⟨_, rfl⟩
      have hyo : y = owners s k := hy
      rw [← hy] at hcell
      have k1 : (0 : Int) ≤ (k : Int) := Int.natCast_nonneg _
      have k2 : (k : Int) < (s.n : Int) := by omega
      have HY := Base.Aside.mk hyo
      clear hy hyo h2
      by_cases hx : y = x
      · subst hx
        go_wp2_with (first
          | (at_builtin; refine wpList_append_own_at _ rfl _ _ 158 rfl w.heap.size 3 i0 (.int .i64 0) 1 8 Try.underlying158 hi hz0 hz1 hz2 rfl (by decide) _ _ _ rfl (hA.out.1.alloc _) ⟨W2.heap.size, 0, none⟩ 1 1 [.int .i64 k] rfl rfl (cell_one_new _ _ _) (ints_oneCell .i64 [(k : Int)]) (by unfold maxLen; omega) (by omega) (by have := hA.out.2.size; simp; omega) ?_; intro v' w3 hown' hg3 hnil3 hloc3; go_frame)
          | go_in)
        refine ⟨⟨k + 1, w3, by omega, by simp, rfl, ⟨?_, ?_⟩⟩, by simp [intOf]; omega⟩
        · rw [mine_hit (by rw [← HY.out]; simp)]
          simpa using hown'
        · exact (below_alloc hA.out.2 _).grown hg3 (by have := hA.out.2.size; simp; omega) (fun j hj => (hA.out.1.lt j hj).1)
      · have hb2 : (y == x) = false := beq_eq_false_iff_ne.2 hx
        go_wp2
        refine ⟨⟨k + 1, W2, by omega, by simp, rfl, ⟨?_, hA.out.2⟩⟩, by simp [intOf]; omega⟩
        rw [mine_miss (by rw [← HY.out]; exact hb2)]
        exact hA.out.1
    · obtain rfl : k = n := by omega
      have HN := Base.Aside.mk hn
      have k2 : decide ((k : Int) < (s.n : Int)) = false := decide_eq_false (by omega)
      go_wp2
      go_ret
      refine ⟨_, rfl, ?_, hA.out.2⟩
      rw [← HN.out]
      exact hA.out.1
theorem mine_none {o : Nat → Int} {x : Int} : ∀ k, (∀ j, j < k → o j ≠ x) → mine o x k = []
  | 0, _ => rfl
  | k + 1, h => by
      rw [mine_miss (beq_eq_false_iff_ne.2 (h k (by omega)))]
      exact mine_none k fun j hj => h j (by omega)
theorem mine_first {o : Nat → Int} {x : Int} {k : Nat} (hok : o k = x) (hlow : ∀ j, j < k → o j ≠ x) : ∀ n, k < n → ∃ r, mine o x n = (k : Int) :: r
  | n + 1, hn => by
      by_cases he : k = n
      · subst he
        refine ⟨[], ?_⟩
        rw [mine_hit (by simp [hok]), mine_none k hlow]
        rfl
      · obtain ⟨r, hr⟩ := mine_first hok hlow n (by omega)
        by_cases hx : o n = x
        · exact ⟨r ++ [(n : Int)], by rw [mine_hit (by simp [hx]), hr]; rfl⟩
        · exact ⟨r, by rw [mine_miss (beq_eq_false_iff_ne.2 hx), hr]⟩
/-- A frame's words are written anew. -/
theorem frs_put {f : Fr} {k : Nat} (h : RMach w rb Fb Bb cF cB bs s) (hk : k < s.n) {cs' : Array Value} (hw : w'.heap[Fb]? = some (.cells cs' 46 (0, 0))) (hc : Chg (fun x => x = Fb) w w') (hcs : ∀ i j, i < s.n → j < 4 → cs'[i * 4 + j]? = some (cellM (MS.put1 s k f) i j)) : RMach w' rb Fb Bb cF cB bs (MS.put1 s k f) := by
  obtain ⟨cs, g1, g2⟩ := h.frs
  obtain ⟨cs2, g3, g4⟩ := h.rows
  refine ⟨hc.blk h.blk h.ne.1, ⟨cs', hw, hcs⟩, ⟨cs2, hc.blk g3 (fun e => h.ne.2.2 e.symm), g4⟩, h.len, h.nodup, fun i hi => ?_, h.few⟩
  exact hc.blk (h.page i hi) (fun e => blk_ne (h.page i hi) g1 (by decide) e)
theorem RMach.give (h : RMach w rb Fb Bb cF cB bs s) (k : Nat) (hk : k < s.n) (d : Int) : RMach (w.setCell ⟨Fb, k * 4, none⟩ (.int .i64 d)) rb Fb Bb cF cB bs (give s k d) := by
  obtain ⟨cs, g1, g2⟩ := h.frs
  refine frs_put h hk (blk_put g1 (k * 4) _ rfl) (Chg.set (F := fun x => x = Fb) (p := ⟨Fb, k * 4, none⟩) (Chg.refl _ w) (.inl rfl) _) ?_
  intro i j hi hj
  have hsz : k * 4 < cs.size := by
    have := g2 k 0 hk (by omega)
    exact (Array.getElem?_eq_some_iff.1 this).1
  rw [Array.getElem?_setIfInBounds]
  by_cases e : k * 4 = i * 4 + j
  · have hij : i = k ∧ j = 0 := by omega
    rw [if_pos e, if_pos (by omega)]
    obtain ⟨rfl, rfl⟩ := hij
    simp [cellM, MS.put1]
  · rw [if_neg e, g2 i j hi hj]
    unfold cellM MS.put1
    by_cases hik : i = k
    · subst hik
      have hj0 : j ≠ 0 := by omega
      simp [hj0]
    · simp [hik]
theorem cell_first {W : World} {b g cap n : Nat} {x : Int} {r : List Int} (h : W.ownsRow b 3 1 (.slice (some ⟨g, 0, none⟩) n cap) n ((x :: r).map (Value.int .i64))) : W.cell? ⟨g, 0, none⟩ = some (.int .i64 x) := by
  have hl := h.1
  rw [List.length_map, List.length_cons] at hl
  rw [World.ownsRow.cellAt h 0 (by omega)]
  rfl
set_option maxHeartbeats 4000000 in
set_option maxRecDepth 100000 in
theorem alloc_calls (h : RMach w rb Fb Bb cF cB bs s) (d : Int) (d0 : 0 ≤ d) (d8 : d < 8) (k : Nat) (hk : k < s.n) (hok : (s.fr k).own = -1) (hlow : ∀ j, j < k → (s.fr j).own ≠ -1) : Calls Try.prog 40 #[.pointer (some ⟨rb, 0, none⟩), .int .i64 d] w fun e w' => e = .returned (.tuple #[.int .i64 k, .int .i64 0]) ∧ RMach w' rb Fb Bb cF cB bs (give s k d) ∧ Chg (fun x => x = Fb) w w' := by
  have hd := domain_in d d0 d8
  have ho := owned_calls h (-1)
  obtain ⟨r, hr⟩ := mine_first (o := owners s) (x := -1) hok hlow s.n hk
  have LF := h.lt.2.1
  have e0 : ((r.length : Int) + 1 == 0) = false := by simp; omega
  have e1 : (0 : Int) < (r.length : Int) + 1 := by omega
  have e2 : (0 : Int) ≤ (k : Int) := Int.natCast_nonneg _
  have e3 : (k : Int) < (s.n : Int) := by omega
  go_enter Try.func40, Try.ntmps40
  go_wp2_with (first
    | (go_at_call 73; refine (hd _).mono ?_; rintro z w1 ⟨rfl, hw1⟩; obtain rfl := hw1.symm)
    | (go_at_call 74; refine ho.mono ?_; rintro z w1 ⟨v, rfl, h1, h2⟩; rw [hr] at h1; obtain ⟨g, cap, rfl, hg⟩ := row_full h1 (by simp); have gn : g ≠ Fb := Nat.ne_of_gt (Nat.lt_of_lt_of_le LF hg); have gn2 := gn.symm; have c0 := cell_first h1; have l0 := (h1.lt g rfl).2; have hM := h.below h2; have C1 := fun i => blk_cell hM.blk i; have L1 := blk_lt hM.blk; have L2 := hM.lt.2.1; have f2 := hM.frozen (k * 4); have c2 := hM.own k hk; have E1 := Base.Aside.mk (And.intro h2 (And.intro (RMach.give hM k hk d) (Chg.set (F := fun x => x = Fb) (p := ⟨Fb, k * 4, none⟩) (Chg.refl _ w1) (.inl rfl) (.int .i64 d)))); clear h1 h2 hM)
    | go_in)
  go_region
  go_wp2
  go_ret2
  exact ⟨by first | rfl | (simp; done), E1.out.2.1.below ((Below.refl _ _).drew), (Chg.below _ E1.out.1).trans (E1.out.2.2.trans (Chg.below _ ((Below.refl _ _).drew)))⟩
end
end Go.Proofs.Ytjeobbhaoahdcaa.RmB
