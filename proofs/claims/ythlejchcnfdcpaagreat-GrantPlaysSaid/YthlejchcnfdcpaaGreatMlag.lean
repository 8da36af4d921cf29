/- Proved: the document's grants as they lie in memory; New and a first Join (contracts for the laws of the grants). Proved: what grant.New makes of a machine (a contract for the laws of the grants). -/
import Derived.Test.YthlejchcnfdcpaaGreatMlad
import Derived.Test.YthlejchcnfdcpaaGreatMlae
import Derived.Test.YthlejchcnfdcpaaGreatMlaf
namespace Go.Proofs.YthlejchcnfdcpaaGreat.RgA
open Go.RowKit Go.Maps Base GaA GaB GaC GaD RpA RmA RmB RmC
set_option linter.unusedVariables false
set_option linter.unusedSimpArgs false

theorem infoM : (Tryz.prog.info? 122).map (fun i => (i.zero, i.size, i.bytes)) = some (some (.agg #[.int .i64 0, .pointer none]), 2, 16) := by kernel_rfl
/-- A member's words. -/
def memC (x : Int × Option Nat) : List Value := [.int .i64 x.1, .pointer (x.2.map fun q => ⟨q, 0, none⟩)]
/-- The document's grants in memory, no map made. -/
structure R6 (w : World) (hb Db cD rb : Nat) (f : Nat → Int × Option Nat) : Prop where
  blk : w.heap[hb]? = some (.cells #[.pointer (some ⟨rb, 0, none⟩), .slice (some ⟨Db, 0, none⟩) 8 cD, .slice none 0 0] 120 (0, 0))
  mem : ∃ cs, w.heap[Db]? = some (.cells cs 122 (0, 0)) ∧ ∀ i j, i < 8 → j < 2 → cs[i * 2 + j]? = (memC (f i))[j]?
theorem rep2 (x : List Value) (hx : x.length = 2) : ∀ (i k j : Nat), i < k → j < 2 → (List.replicate k x).flatten[i * 2 + j]? = x[j]?
  | 0, k + 1, j, _, hj => by
      rw [List.replicate_succ, List.flatten_cons, Nat.zero_mul, Nat.zero_add, List.getElem?_append_left (by omega)]
  | i + 1, k + 1, j, hi, hj => by
      rw [List.replicate_succ, List.flatten_cons, List.getElem?_append_right (by omega), hx, show (i + 1) * 2 + j - 2 = i * 2 + j by omega]
      exact rep2 x hx i k j (by omega) hj
theorem cell_two_new (w : World) (a b : Value) (t : TypeId) : ∀ j u, [a, b][j]? = some u → (w.alloc (.cells #[a, b] t)).cell? ((⟨w.heap.size, 0, none⟩ : Addr).add j) = some u := by
  intro j u h
  rw [show ((⟨w.heap.size, 0, none⟩ : Addr).add j) = ⟨w.heap.size, j, none⟩ by unfold Addr.add; split <;> simp_all, blk_cell (blk_new w (.cells #[a, b] t)) j]
  rw [← h]
  simp
section
variable {w w' : World} {hb Db cD rb : Nat} {f : Nat → Int × Option Nat}
theorem R6.lt (h : R6 w hb Db cD rb f) : hb < w.heap.size ∧ Db < w.heap.size := by
  obtain ⟨cs, h1, _⟩ := h.mem
  exact ⟨blk_lt h.blk, blk_lt h1⟩
theorem R6.ne (h : R6 w hb Db cD rb f) : hb ≠ Db := by
  obtain ⟨cs, h1, _⟩ := h.mem
  exact blk_ne h.blk h1 (by decide)
theorem R6.chg {F : Nat → Prop} (h : R6 w hb Db cD rb f) (hc : Chg F w w') (h1 : ¬ F hb) (h2 : ¬ F Db) : R6 w' hb Db cD rb f := by
  obtain ⟨cs, g1, g2⟩ := h.mem
  exact ⟨hc.blk h.blk h1, cs, hc.blk g1 h2, g2⟩
theorem R6.below (h : R6 w hb Db cD rb f) (hbe : Below w.heap.size w w') : R6 w' hb Db cD rb f := h.chg (Chg.below (fun _ => False) hbe) (fun h => h) (fun h => h)
theorem R6.mfn (h : R6 w hb Db cD rb f) (i : Nat) (hi : i < 8) : w.cell? ⟨Db, i * 2, none⟩ = some (.int .i64 (f i).1) := by
  obtain ⟨cs, g1, g2⟩ := h.mem
  rw [blk_cell g1]
  exact g2 i 0 hi (by omega)
theorem R6.ptr (h : R6 w hb Db cD rb f) (i : Nat) (hi : i < 8) : w.cell? ⟨Db, i * 2 + 1, none⟩ = some (.pointer ((f i).2.map fun q => ⟨q, 0, none⟩)) := by
  obtain ⟨cs, g1, g2⟩ := h.mem
  rw [blk_cell g1]
  exact g2 i 1 hi (by omega)
theorem R6.frozen (h : R6 w hb Db cD rb f) (i : Nat) : w.frozen? ⟨Db, i, none⟩ = false := by
  obtain ⟨cs, g1, g2⟩ := h.mem
  exact blk_frozen g1 i
def NewOut (w : World) (rb : Nat) (e : Ending) (w' : World) : Prop := ∃ hb Db cD, e = .returned (.pointer (some ⟨hb, 0, none⟩)) ∧ w.heap.size ≤ hb ∧ w.heap.size ≤ Db ∧ R6 w' hb Db cD rb (fun _ => (-1, none)) ∧ Below w.heap.size w w'
set_option maxHeartbeats 4000000 in
set_option maxRecDepth 100000 in
theorem new_calls (w : World) (rb : Nat) : Calls Tryz.prog 10 #[.pointer (some ⟨rb, 0, none⟩)] w (NewOut w rb) := by
  obtain ⟨i0, hi, hz0, hz1, hz2⟩ := info_parts infoM
  go_enter Tryz.func10, Tryz.ntmps10
  go_wp2
  go_loopw [4] (fun i wr => ∃ (k : Nat) (v : Value) (W2 : World), k ≤ 8 ∧ i = .int .i64 k ∧ wr = W2 ∧ Base.Aside (W2.heap[w.heap.size]? = some (.cells #[.pointer (some ⟨rb, 0, none⟩), v, .slice none 0 0] 120 (0, 0)) ∧ W2.ownsRow w.heap.size 122 2 v k (List.replicate k (memC (-1, none))).flatten ∧ Below w.heap.size w W2)) (fun i _ => 8 - (intOf i).toNat)
  case atStart => exact ⟨0, _, _, Nat.zero_le _, rfl, rfl, ⟨blk_new _ _, World.ownsRow_nil _ _ _ _, below_alloc (Below.refl _ _) _⟩⟩
  case round =>
    obtain ⟨k, v, W2, hk, rfl, hwr, hA⟩ := hrel
    obtain rfl := hwr.symm
    have C2 := fun i => blk_cell hA.out.1 i
    have F2 := fun i => blk_frozen hA.out.1 i
    have L2 := blk_lt hA.out.1
    by_cases hlt : k < 8
    · go_wp2_with (first
        | (at_builtin; refine wpList_append_own_at _ rfl _ _ 118 rfl w.heap.size 122 i0 (.agg #[.int .i64 0, .pointer none]) 2 16 Tryz.underlying118 hi hz0 hz1 hz2 rfl (by decide) _ k _ rfl (hA.out.2.1.alloc _) ⟨W2.heap.size, 0, none⟩ 1 1 (memC (-1, none)) rfl rfl (cell_two_new _ _ _ _) (by intro u hu; simp [memC] at hu; rcases hu with rfl | rfl <;> rfl) (by unfold maxLen; omega) (by omega) (by have := hA.out.2.2.size; simp; omega) ?_)
        | go_in)
      intro v' w3 hown hg hnil hloc
      obtain ⟨g2, cap2, rfl, hg2⟩ := row_full hown (by omega)
      have hne := row_ne (hA.out.2.1) hA.out.1 (by decide)
      have hb3 : w3.heap[w.heap.size]? = some (.cells #[.pointer (some ⟨rb, 0, none⟩), v, .slice none 0 0] 120 (0, 0)) := (hg.block _ (by simp; omega) (fun e => hne e.symm)).trans (blk_alloc hA.out.1 _)
      have hB3 : Below w.heap.size w w3 := (below_alloc hA.out.2.2 _).grown hg (by have := hA.out.2.2.size; simp; omega) (fun j hj => (hA.out.2.1.lt j hj).1)
      have C3 := fun i => blk_cell hb3 i
      have F3 := fun i => blk_frozen hb3 i
      have L3 := blk_lt hb3
      have H3 := Base.Aside.mk (And.intro hb3 (And.intro hown hB3))
      clear hb3 hown hB3 hg hnil hloc hne
      go_wp2
      have hne3 := row_ne H3.out.2.1 H3.out.1 (by decide)
      refine ⟨⟨k + 1, .slice (some ⟨g2, 0, none⟩) ((k + 1 : Nat)) cap2, _, by omega, by simp, rfl, ⟨blk_put H3.out.1 1 _ (by simp), ?_, ?_⟩⟩, by simp [intOf]; omega⟩
      · rw [rep4_snoc]
        exact row_chg H3.out.2.1 (Chg.set (F := fun x => x = w.heap.size) (p := ⟨w.heap.size, 1, none⟩) (Chg.refl _ w3) (.inl rfl) _) (by rintro g hg rfl; exact hne3 hg)
      · exact below_set H3.out.2.2 (Nat.le_refl _) _
    · obtain rfl : k = 8 := by omega
      go_wp2
      go_ret
      obtain ⟨hh, ⟨_, h2⟩ | ⟨g, c, cur, rfl, hb, hg, hr1, hr2, hr3, hr4⟩⟩ := hA.out.2.1
      · omega
      · refine ⟨_, g, c, rfl, Nat.le_refl _, hb, ⟨hA.out.1, cur, hg, ?_⟩, hA.out.2.2⟩
        intro i j hi hj
        have := rep2 (memC (-1, none)) rfl i 8 j hi hj
        rw [← hr4, List.getElem?_take, if_pos (by omega), Array.getElem?_toList] at this
        exact this
theorem R6.put (h : R6 w hb Db cD rb f) (d : Nat) (hd : d < 8) (x : Int × Option Nat) (a b : Value) (ha : memC x = [a, b]) : R6 ((w.setCell ⟨Db, d * 2, none⟩ a).setCell ⟨Db, d * 2 + 1, none⟩ b) hb Db cD rb (fun i => if i = d then x else f i) ∧ Chg (fun x => x = Db) w ((w.setCell ⟨Db, d * 2, none⟩ a).setCell ⟨Db, d * 2 + 1, none⟩ b) := by
  obtain ⟨cs, g1, g2⟩ := h.mem
  have hc := chg_fb (chg_fb (Chg.refl (fun x => x = Db) w) (d * 2) a) (d * 2 + 1) b
  refine ⟨⟨hc.blk h.blk h.ne, _, blk_put (blk_put g1 (d * 2) _ rfl) (d * 2 + 1) _ rfl, ?_⟩, hc⟩
  intro i j hi hj
  have hsz : d * 2 + 1 < cs.size := by
    have := g2 d 1 hd (by omega)
    have e : (memC (f d))[1]? = some (.pointer ((f d).2.map fun q => ⟨q, 0, none⟩)) := rfl
    rw [e] at this
    exact (Array.getElem?_eq_some_iff.1 this).1
  simp only [Array.getElem?_setIfInBounds, Array.size_setIfInBounds]
  by_cases hik : i = d
  · subst hik
    rw [if_pos rfl, ha]
    match j, hj with
    | 0, _ =>
      rw [if_neg (by omega), if_pos (by omega), if_pos (by omega)]
      rfl
    | 1, _ =>
      rw [if_pos (by omega), if_pos (by omega)]
      rfl
  · rw [if_neg (by omega), if_neg (by omega), g2 i j hi hj, if_neg hik]
set_option maxHeartbeats 8000000 in
set_option maxRecDepth 100000 in
theorem join_calls {Fb Bb cF cB : Nat} {bs : List Nat} {s : MS} (h : R6 w hb Db cD rb f) (hM : RMach w rb Fb Bb cF cB bs s) (hhF : hb ≠ Fb) (hDF : Db ≠ Fb) (hDr : Db ≠ rb) (hDB : Db ≠ Bb) (hDb : ∀ b ∈ bs, b ≠ Db) (d : Nat) (hd : d < 8) (hf : f d = (-1, none)) (k : Nat) (hk : k < s.n) (hs : s.fr k = ⟨d, 0, 0, 0⟩) (qb : Nat) :
    Calls Tryz.prog 18 #[.pointer (some ⟨hb, 0, none⟩), .int .i64 d, .int .i64 k, .pointer (some ⟨qb, 0, none⟩)] w fun e w' => e = .returned (.int .i64 0) ∧ R6 w' hb Db cD rb (fun i => if i = d then ((k : Int), some qb) else f i) ∧ RMach w' rb Fb Bb cF cB bs (MS.put1 s k ⟨d, 1, 1, 1⟩) ∧ Chg (fun x => x = Fb ∨ x = Db) w w' := by
  have hdm := RmB.domain_in d (by omega) (by omega)
  have hg := get_first hM k hk d hs
  have C0 := fun i => blk_cell h.blk i
  have L0 := blk_lt h.blk
  have LD := h.lt.2
  have c0 := h.mfn d hd
  rw [hf] at c0
  have e2 : (0 : Int) ≤ (d : Int) := Int.natCast_nonneg _
  have e3 : (d : Int) < 8 := by omega
  have HH := Base.Aside.mk h
  clear h hM
  go_enter Tryz.func18, Tryz.ntmps18
  go_wp2_with (first
    | (go_at_call 48; refine (hdm _).mono ?_; rintro z w1 ⟨rfl, hw1⟩; obtain rfl := hw1.symm)
    | (go_at_call 56; refine hg.mono ?_; rintro z w1 ⟨rfl, h1, h2⟩; have h3 := HH.out.chg h2 hhF hDF; have C1 := fun i => blk_cell h3.blk i; have L1 := blk_lt h3.blk; have LD1 := h3.lt.2; have F1 := h3.frozen; have c4 := h3.mfn d hd; have c5 := h3.ptr d hd; have hp := h3.put d hd ((k : Int), some qb) (.int .i64 k) (.pointer (some ⟨qb, 0, none⟩)) rfl; have E1 := Base.Aside.mk (And.intro h1 (And.intro h2 hp)); clear h1 h2 h3 hp)
    | go_in)
  go_ret
  exact ⟨by first | rfl | (simp; done), E1.out.2.2.1, E1.out.1.chg E1.out.2.2.2 (fun e => hDr e.symm) (fun e => hDF e.symm) (fun e => hDB e.symm) hDb, (E1.out.2.1.mono fun _ h => .inl h).trans (E1.out.2.2.2.mono fun _ h => .inr h)⟩
end
end Go.Proofs.YthlejchcnfdcpaaGreat.RgA
namespace Go.Proofs.YthlejchcnfdcpaaGreat.GnA
open Go.RowKit Go.Maps Base GaA GaB GmA GpA GgA RmA
set_option linter.unusedVariables false
set_option linter.unusedSimpArgs false

section
variable {w w' : World} {mb fb : Nat} {s : MS}
def GnOut (w : World) (mb : Nat) (e : Ending) (w' : World) : Prop := ∃ gb mm hm, e = .returned (.pointer (some ⟨gb, 0, none⟩)) ∧ w.heap.size ≤ gb ∧ w.heap.size ≤ mm ∧ w.heap.size ≤ hm ∧ mm ≠ hm ∧ G2 w' gb mm hm mb (fun _ => none) 0 ∧ w'.heap[hm]? = some (.map #[] 0) ∧ Below w.heap.size w w'
set_option maxHeartbeats 2000000 in
set_option maxRecDepth 100000 in
theorem gnew_calls (h : Mach w mb fb s) (hn : 0 < s.n) : Calls Tryz.prog 9 #[.pointer (some ⟨mb, 0, none⟩)] w (GnOut w mb) := by
  have hmm := @run_makeMap Tryz.prog
  have hs := size_calls h
  have d0 : ((s.n : Int) == 0) = false := by simp; omega
  clear h
  go_enter Tryz.func9, Tryz.ntmps9
  go_wp2_with (first
    | (go_at_call 44; refine hs.mono ?_; rintro z w1 ⟨rfl, hw1⟩; obtain rfl := hw1.symm)
    | go_in)
  go_ret
  refine ⟨_, _, _, rfl, ?_, ?_, ?_, ?_, ⟨blk_newest ?_ _, IMap.made_at (blk_alloc (blk_alloc (blk_new _ _) _) _)⟩, blk_alloc (blk_newest ?_ _) _, below_alloc (below_alloc (below_alloc (Below.refl _ _) _) _) _⟩
  all_goals first
    | (simp; done)
    | (simp; omega)
    | omega
theorem mach_new {n : Nat} (hn : n ≤ 1000) {cs : Array Value} (h1 : w.heap[mb]? = some (.cells #[.bool true, .slice (some ⟨fb, 0, none⟩) n n] 109 (0, 0))) (h2 : w.heap[fb]? = some (.cells cs 113 (0, 0))) (h3 : Phys.CellsAre cs n (Phys.newCell n)) : Mach w mb fb (ms0 n) := by
  refine ⟨h1, ⟨cs, h2, h3.1, fun i j hi hj => ?_⟩, hn⟩
  rw [h3.2 i j hi hj]
  have hi' : i < n := hi
  congr 1
  unfold Phys.newCell Phys.frame0 cellM ms0
  by_cases j0 : j = 0
  · simp [j0, hi']
  · by_cases j1 : j = 1
    · simp [j1]
    · by_cases j2 : j = 2
      · simp [j2]
      · by_cases j3 : j = 3
        · simp [j3]
        · have : ¬ j < 4 := by omega
          simp [j0, j1, j2, j3, this]
def MnOut (w : World) (n : Nat) (e : Ending) (w' : World) : Prop := ∃ mb fb, e = .returned (.tuple #[.pointer (some ⟨mb, 0, none⟩), .int .i64 0]) ∧ w.heap.size ≤ mb ∧ w.heap.size ≤ fb ∧ Mach w' mb fb (ms0 n) ∧ Below w.heap.size w w'
theorem mnew_calls (n : Nat) (w : World) (h1 : 1 ≤ n) (h2 : n ≤ 256) : Calls Tryz.prog 7 #[.int .i64 n] w (MnOut w n) :=
  (Phys.new_calls n w h1 h2).mono fun e w' ⟨mb, fb, cs, he, hm, hf, _, g1, g2, g3, hb⟩ => ⟨mb, fb, he, hm, hf, mach_new (by omega) g1 g2 g3, hb⟩
end
end Go.Proofs.YthlejchcnfdcpaaGreat.GnA
