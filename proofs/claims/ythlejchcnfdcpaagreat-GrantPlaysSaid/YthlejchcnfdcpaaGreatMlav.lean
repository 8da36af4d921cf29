/- Proved: the document's map of places, at every argument (contracts for the laws of the grants). Proved: the document's grants with live maps; its small functions (contracts for the laws of the grants). -/
import Derived.Test.YthlejchcnfdcpaaGreatMlag
import Derived.Test.YthlejchcnfdcpaaGreatMlan
import Derived.Test.YthlejchcnfdcpaaGreatMlas
import Derived.Test.YthlejchcnfdcpaaGreatMlau
namespace Go.Proofs.YthlejchcnfdcpaaGreat.GyA
open Go.RowKit Go.Maps Base GaA GaB GaC GaD GpA RpA RmA GwO GwP
set_option linter.unusedVariables false
set_option linter.unusedSimpArgs false

/-- The places as the document lists them. -/
def LL (n : Nat) (fr : Int → Option Int) : List Int := (List.range n).map fun i : Nat => (fr (i : Int)).getD (-1)
theorem LL_len (n : Nat) (fr : Int → Option Int) : (LL n fr).length = n := by simp [LL]
theorem LL_get (n : Nat) (fr : Int → Option Int) (j : Nat) (hj : j < n) : (LL n fr).getD j 0 = (fr j).getD (-1) := by
  simp [LL, List.getD_eq_getElem?_getD, List.getElem?_map, List.getElem?_range hj]
theorem LL_set (n : Nat) (fr fr' : Int → Option Int) (j : Nat) (v : Int) (hj : j < n) (h1 : (fr' j).getD (-1) = v) (h2 : ∀ x, x ≠ (j : Int) → fr' x = fr x) : (LL n fr).set j v = LL n fr' := by
  apply List.ext_getElem?
  intro i
  rw [List.getElem?_set]
  unfold LL
  simp only [List.getElem?_map, List.length_map, List.length_range]
  by_cases q : j = i
  · subst q
    rw [if_pos rfl, if_pos hj, List.getElem?_range hj]
    simp [h1]
  · rw [if_neg q]
    by_cases q2 : i < n
    · rw [List.getElem?_range q2]
      simp only [Option.map_some, Option.some.injEq]
      rw [h2 i (by omega)]
    · rw [List.getElem?_eq_none (by simp; omega)]
      rfl
/-- Places and their inverse. -/
structure Pos (n : Nat) (fr pl : Int → Option Int) : Prop where
  le : ∀ i m, fr i = some m → (0 ≤ i ∧ i < n) ∧ (0 ≤ m ∧ m < 256) ∧ pl m = some i
  inv : ∀ m i, pl m = some i → fr i = some m
theorem Pos.put {n : Nat} {fr pl : Int → Option Int} (h : Pos n fr pl) (g m : Int) (hs : setE n fr pl g m = 0) : Pos n (iput fr g m) (iput pl m g) := by
  unfold setE at hs
  by_cases q1 : 0 ≤ g ∧ g < n
  · rw [if_neg (by simp; omega)] at hs
    by_cases q2 : 0 ≤ m ∧ m < 256
    · rw [if_neg (by simp; omega)] at hs
      cases q3 : fr g with
      | some x => rw [q3] at hs; simp at hs
      | none =>
        rw [q3] at hs
        cases q4 : pl m with
        | some x => rw [q4] at hs; simp at hs
        | none =>
          refine ⟨fun i x hx => ?_, fun x i hx => ?_⟩
          · unfold iput at hx ⊢
            by_cases q5 : i = g
            · rw [if_pos q5] at hx
              injection hx with hx
              subst hx q5
              exact ⟨q1, q2, if_pos rfl⟩
            · rw [if_neg q5] at hx
              obtain ⟨h1, h2, h3⟩ := h.le i x hx
              refine ⟨h1, h2, ?_⟩
              rw [if_neg (fun e => by rw [e, q4] at h3; cases h3)]
              exact h3
          · unfold iput at hx ⊢
            by_cases q5 : x = m
            · rw [if_pos q5] at hx
              injection hx with hx
              subst hx q5
              exact if_pos rfl
            · rw [if_neg q5] at hx
              have h3 := h.inv x i hx
              rw [if_neg (fun e => by rw [e, q3] at h3; cases h3)]
              exact h3
    · rw [if_pos q2] at hs
      cases hs
  · rw [if_pos q1] at hs
    cases hs
theorem Pos.del {n : Nat} {fr pl : Int → Option Int} (h : Pos n fr pl) (g m : Int) (hm : fr g = some m) : Pos n (idel fr g) (idel pl m) := by
  have hp := (h.le g m hm).2.2
  refine ⟨fun i x hx => ?_, fun x i hx => ?_⟩
  · unfold idel at hx ⊢
    by_cases q5 : i = g
    · rw [if_pos q5] at hx
      cases hx
    · rw [if_neg q5] at hx
      obtain ⟨h1, h2, h3⟩ := h.le i x hx
      refine ⟨h1, h2, ?_⟩
      rw [if_neg (fun e => ?_)]
      · exact h3
      · rw [e, hp] at h3
        injection h3 with h3
        exact q5 h3.symm
  · unfold idel at hx ⊢
    by_cases q5 : x = m
    · rw [if_pos q5] at hx
      cases hx
    · rw [if_neg q5] at hx
      have h3 := h.inv x i hx
      rw [if_neg (fun e => ?_)]
      · exact h3
      · rw [e, hm] at h3
        injection h3 with h3
        exact q5 h3.symm
/-- The document's map of places in memory. -/
structure Q3 (w : World) (qb qr cap n : Nat) (fr pl : Int → Option Int) : Prop where
  r : R3 w qb qr cap (LL n fr)
  p : Pos n fr pl
  n48 : n ≤ 48
section
variable {w w' W : World} {qb qr cap n : Nat} {fr pl : Int → Option Int}
theorem Q3.chg {F : Nat → Prop} (h : Q3 w qb qr cap n fr pl) (hc : Chg F w w') (h1 : ¬ F qb) (h2 : ¬ F qr) : Q3 w' qb qr cap n fr pl := ⟨h.r.chg hc h1 h2, h.p, h.n48⟩
theorem Q3.below (h : Q3 w qb qr cap n fr pl) (hb : Below w.heap.size w w') : Q3 w' qb qr cap n fr pl := ⟨h.r.below hb, h.p, h.n48⟩
theorem Q3.blk (h : Q3 w qb qr cap n fr pl) : w.heap[qb]? = some (.cells #[.slice (some ⟨qr, 0, none⟩) n cap] 128 (0, 0)) := by
  have := h.r.blk
  rwa [LL_len] at this
theorem Q3.cell (h : Q3 w qb qr cap n fr pl) (j : Nat) (hj : j < n) : w.cell? ⟨qr, j, none⟩ = some (.int .i64 ((fr j).getD (-1))) := by
  have := h.r.cell j (by rw [LL_len]; exact hj)
  rwa [LL_get n fr j hj] at this
set_option maxHeartbeats 4000000 in
set_option maxRecDepth 100000 in
theorem get_any (h : Q3 w qb qr cap n fr pl) (g : Int) : Calls Tryz.prog 102 #[.pointer (some ⟨qb, 0, none⟩), .int .i64 g] w fun e w' => e = .returned (.tuple #[.int .i64 (getV n fr g).1, .int .i64 (getV n fr g).2]) ∧ w' = w := by
  have C0 := fun i => blk_cell h.blk i
  have L0 := blk_lt h.blk
  have L1 := h.r.lt.2
  unfold getV
  by_cases hg : 0 ≤ g ∧ g < n
  · obtain ⟨k, rfl⟩ : ∃ k : Nat, g = k := ⟨g.toNat, by omega⟩
    rw [if_pos hg]
    have c1 := h.cell k (by omega)
    have d0 : decide ((k : Int) < 0) = false := decide_eq_false (by omega)
    have d1 : decide ((n : Int) ≤ k) = false := decide_eq_false (by omega)
    have e2 : (0 : Int) ≤ (k : Int) := Int.natCast_nonneg _
    have e3 : (k : Int) < (n : Int) := hg.2
    cases hf : fr k with
    | none =>
      rw [hf] at c1
      simp only [Option.getD_none] at c1
      clear h hg
      go_enter Tryz.func102, Tryz.ntmps102
      go_wp2
      go_ret2
      exact ⟨by first | rfl | (simp; done), rfl⟩
    | some m =>
      have hm := (h.p.le k m hf).2.1
      rw [hf] at c1
      simp only [Option.getD_some] at c1
      have d2 : decide (m < 0) = false := decide_eq_false (by omega)
      clear h hg hm
      go_enter Tryz.func102, Tryz.ntmps102
      go_wp2
      go_ret2
      exact ⟨by first | rfl | (simp; done), rfl⟩
  · rw [if_neg hg]
    by_cases q : g < 0
    · have d0 : decide (g < 0) = true := decide_eq_true q
      clear h hg
      go_enter Tryz.func102, Tryz.ntmps102
      go_wp2
      go_ret2
      exact ⟨by first | rfl | (simp; done), rfl⟩
    · have d0 : decide (g < 0) = false := decide_eq_false q
      have d1 : decide ((n : Int) ≤ g) = true := decide_eq_true (by omega)
      clear h hg
      go_enter Tryz.func102, Tryz.ntmps102
      go_wp2
      go_ret2
      exact ⟨by first | rfl | (simp; done), rfl⟩
def FindOut (w : World) (pl : Int → Option Int) (m : Int) (e : Ending) (w' : World) : Prop := (∃ i : Int, e = .returned (.tuple #[.int .i64 i, .int .i64 (if (pl m).isSome then 0 else 6)])) ∧ w' = w
set_option maxHeartbeats 4000000 in
set_option maxRecDepth 100000 in
theorem find_any (h : Q3 w qb qr cap n fr pl) (m : Int) (hm0 : 0 ≤ m) : Calls Tryz.prog 51 #[.pointer (some ⟨qb, 0, none⟩), .int .i64 m] w (FindOut w pl m) := by
  unfold FindOut
  cases hp : pl m with
  | none =>
    refine (find_none h.r (by rw [LL_len]; exact h.n48) m (fun j hj => ?_)).mono ?_
    · rw [LL_len] at hj
      rw [LL_get n fr j hj]
      cases hf : fr j with
      | none => show (-1 : Int) ≠ m; omega
      | some x =>
        show x ≠ m
        intro e
        have := (h.p.le j x hf).2.2
        rw [e, hp] at this
        cases this
    · rintro e w' ⟨h1, h2⟩
      exact ⟨⟨0, h1⟩, h2⟩
  | some i0 =>
    have hi := h.p.inv m i0 hp
    have hb := (h.p.le i0 m hi).1
    obtain ⟨b, rfl⟩ : ∃ b : Nat, i0 = b := ⟨i0.toNat, by omega⟩
    have C0 := fun i => blk_cell h.blk i
    have L0 := blk_lt h.blk
    have L1 := h.r.lt.2
    have n48 := h.n48
    have hc : ∀ j, j < n → w.cell? ⟨qr, j, none⟩ = some (.int .i64 ((fr j).getD (-1))) := fun j hj => h.cell j hj
    have hx : ∀ j, j < b → (fr (j : Int)).getD (-1) ≠ m := by
      intro j hj
      cases hf : fr j with
      | none => show (-1 : Int) ≠ m; omega
      | some x =>
        show x ≠ m
        intro e
        have := (h.p.le j x hf).2.2
        rw [e, hp] at this
        injection this with this
        omega
    have cb := h.cell b (by omega)
    rw [hi] at cb
    simp only [Option.getD_some] at cb
    have db : decide (0 ≤ m) = true := decide_eq_true hm0
    have HX := Base.Aside.mk (And.intro hc hx)
    clear h hi hp hc hx
    go_enter Tryz.func51, Tryz.ntmps51
    go_wp2
    go_loopw [6] (fun i wr => ∃ k : Nat, k ≤ b ∧ i = .int .i64 k ∧ wr = w) (fun i _ => b + 1 - (intOf i).toNat)
    case atStart => exact ⟨0, Nat.zero_le _, rfl, rfl⟩
    case round =>
      obtain ⟨k, hk, rfl, hwr⟩ := hrel
      obtain rfl := hwr.symm
      by_cases hlt : k < b
      · have hcell := HX.out.1 k (by omega)
        have hx := HX.out.2 k hlt
        have e3 : (k : Int) < (n : Int) := by omega
        have e2 : (0 : Int) ≤ (k : Int) := Int.natCast_nonneg _
        obtain ⟨x, hxe⟩ : ∃ x, x = (fr (k : Int)).getD (-1) := ⟨_, rfl⟩
        rw [← hxe] at hcell hx
        have hb1 : (x == m) = false := beq_eq_false_iff_ne.2 hx
        clear hxe
        by_cases hp : 0 ≤ x
        · have d1 : decide (0 ≤ x) = true := decide_eq_true hp
          go_wp2
          exact ⟨⟨k + 1, by omega, by simp, trivial⟩, by simp [intOf]; omega⟩
        · have d1 : decide (0 ≤ x) = false := decide_eq_false hp
          go_wp2
          exact ⟨⟨k + 1, by omega, by simp, trivial⟩, by simp [intOf]; omega⟩
      · obtain rfl : k = b := by omega
        have e3 : (k : Int) < (n : Int) := hb.2
        have e2 : (0 : Int) ≤ (k : Int) := Int.natCast_nonneg _
        clear hlt
        go_wp2
        go_ret2
        exact ⟨⟨k, by first | rfl | (simp; done)⟩, rfl⟩
/-- A frame is set at a place. -/
theorem Q3.set (h : Q3 w qb qr cap n fr pl) (g : Nat) (m : Int) (hs : setE n fr pl g m = 0) : Q3 (w.setCell ⟨qr, g, none⟩ (.int .i64 m)) qb qr cap n (iput fr g m) (iput pl m g) := by
  have hg : g < n := by
    unfold setE at hs
    by_cases q1 : 0 ≤ (g : Int) ∧ (g : Int) < n
    · omega
    · rw [if_pos q1] at hs
      cases hs
  have := h.r.set g (by rw [LL_len]; exact hg) m
  rw [LL_set n fr (iput fr g m) g m hg (by unfold iput; rw [if_pos rfl]; rfl) (fun x hx => by unfold iput; rw [if_neg hx])] at this
  exact ⟨this, h.p.put g m hs, h.n48⟩
theorem Q3.clear (h : Q3 w qb qr cap n fr pl) (g : Nat) (m : Int) (hm : fr g = some m) : Q3 (w.setCell ⟨qr, g, none⟩ (.int .i64 (-1))) qb qr cap n (idel fr g) (idel pl m) := by
  have hg := (h.p.le g m hm).1
  have := h.r.set g (by rw [LL_len]; omega) (-1)
  rw [LL_set n fr (idel fr g) g (-1) (by omega) (by unfold idel; rw [if_pos rfl]; rfl) (fun x hx => by unfold idel; rw [if_neg hx])] at this
  exact ⟨this, h.p.del g m hm, h.n48⟩
def SetOut (w : World) (qb qr cap n : Nat) (fr pl : Int → Option Int) (g m : Int) (e : Ending) (w' : World) : Prop :=
  e = .returned (.int .i64 (setE n fr pl g m)) ∧ (if setE n fr pl g m = 0 then Q3 w' qb qr cap n (iput fr g m) (iput pl m g) ∧ Chg (fun x => x = qr) w w' else w' = w)
set_option maxHeartbeats 4000000 in
set_option maxRecDepth 100000 in
theorem set_any (h : Q3 w qb qr cap n fr pl) (g m : Int) : Calls Tryz.prog 16 #[.pointer (some ⟨qb, 0, none⟩), .int .i64 g, .int .i64 m] w (SetOut w qb qr cap n fr pl g m) := by
  have C0 := fun i => blk_cell h.blk i
  have L0 := blk_lt h.blk
  have L1 := h.r.lt.2
  by_cases hg : 0 ≤ g ∧ g < n
  · obtain ⟨k, rfl⟩ : ∃ k : Nat, g = k := ⟨g.toNat, by omega⟩
    have c1 := h.cell k (by omega)
    have f1 := World.ownsRow.frozenAt h.r.row k
    have d0 : decide ((k : Int) < 0) = false := decide_eq_false (by omega)
    have d1 : decide ((n : Int) ≤ k) = false := decide_eq_false (by omega)
    have e2 : (0 : Int) ≤ (k : Int) := Int.natCast_nonneg _
    have e3 : (k : Int) < (n : Int) := hg.2
    by_cases hm : 0 ≤ m ∧ m < 256
    · have d2 : decide (m < 0) = false := decide_eq_false (by omega)
      have d3 : decide (256 ≤ m) = false := decide_eq_false (by omega)
      have hfi := find_any h m hm.1
      cases hf : fr k with
      | some x =>
        have hE : setE n fr pl k m = 30 := by unfold setE; rw [if_neg (by simp; omega), if_neg (by simp; omega), if_pos (by rw [hf]; rfl)]
        have hx := (h.p.le k x hf).2.1
        rw [hf] at c1
        simp only [Option.getD_some] at c1
        have d4 : decide (0 ≤ x) = true := decide_eq_true hx.1
        have HS : SetOut w qb qr cap n fr pl k m (.returned (.int .i64 30)) w := ⟨by rw [hE], by rw [hE, if_neg (by decide)]⟩
        have HS := Base.Aside.mk HS
        clear h hg hE hx hfi hf hm
        go_enter Tryz.func16, Tryz.ntmps16
        go_wp2
        go_ret
        exact HS.out
      | none =>
        rw [hf] at c1
        simp only [Option.getD_none] at c1
        cases hp : pl m with
        | some x =>
          have hE : setE n fr pl k m = 8 := by unfold setE; rw [if_neg (by simp; omega), if_neg (by simp; omega), if_neg (by rw [hf]; decide), if_pos (by rw [hp]; rfl)]
          have HS : SetOut w qb qr cap n fr pl k m (.returned (.int .i64 8)) w := ⟨by rw [hE], by rw [hE, if_neg (by decide)]⟩
          have HS := Base.Aside.mk HS
          unfold FindOut at hfi
          rw [hp] at hfi
          clear h hg hE hf hm hp
          go_enter Tryz.func16, Tryz.ntmps16
          go_wp2_with (first
            | (go_at_call 51; (with_reducible refine hfi.mono ?_); rintro z w1 ⟨⟨i1, rfl⟩, hw1⟩; obtain rfl := hw1.symm)
            | go_in)
          go_ret
          exact HS.out
        | none =>
          have hE : setE n fr pl k m = 0 := by unfold setE; rw [if_neg (by simp; omega), if_neg (by simp; omega), if_neg (by rw [hf]; decide), if_neg (by rw [hp]; decide)]
          have HS : SetOut w qb qr cap n fr pl k m (.returned (.int .i64 0)) (w.setCell ⟨qr, k, none⟩ (.int .i64 m)) := ⟨by rw [hE], by rw [if_pos hE]; exact ⟨h.set k m hE, Chg.set (F := fun x => x = qr) (p := ⟨qr, k, none⟩) (Chg.refl _ w) (.inl rfl) _⟩⟩
          have HS := Base.Aside.mk HS
          unfold FindOut at hfi
          rw [hp] at hfi
          clear h hg hE hf hm hp
          go_enter Tryz.func16, Tryz.ntmps16
          go_wp2_with (first
            | (go_at_call 51; (with_reducible refine hfi.mono ?_); rintro z w1 ⟨⟨i1, rfl⟩, hw1⟩; obtain rfl := hw1.symm)
            | go_in)
          go_ret
          exact HS.out
    · have hE : setE n fr pl k m = 1 := by unfold setE; rw [if_neg (by simp; omega), if_pos hm]
      have HS : SetOut w qb qr cap n fr pl k m (.returned (.int .i64 1)) w := ⟨by rw [hE], by rw [hE, if_neg (by decide)]⟩
      have HS := Base.Aside.mk HS
      have hcase : decide (m < 0) = true ∨ (decide (m < 0) = false ∧ decide (256 ≤ m) = true) := by
        by_cases q : m < 0
        · exact .inl (decide_eq_true q)
        · exact .inr ⟨decide_eq_false q, decide_eq_true (by omega)⟩
      clear h hg hE hm
      rcases hcase with d2 | ⟨d2, d3⟩
      all_goals
        go_enter Tryz.func16, Tryz.ntmps16
        go_wp2
        go_ret
        exact HS.out
  · have hE : setE n fr pl g m = 1 := by unfold setE; rw [if_pos hg]
    have HS : SetOut w qb qr cap n fr pl g m (.returned (.int .i64 1)) w := ⟨by rw [hE], by rw [hE, if_neg (by decide)]⟩
    have HS := Base.Aside.mk HS
    have hcase : decide (g < 0) = true ∨ (decide (g < 0) = false ∧ decide ((n : Int) ≤ g) = true) := by
      by_cases q : g < 0
      · exact .inl (decide_eq_true q)
      · exact .inr ⟨decide_eq_false q, decide_eq_true (by omega)⟩
    clear h hg hE
    rcases hcase with d2 | ⟨d2, d3⟩
    all_goals
      go_enter Tryz.func16, Tryz.ntmps16
      go_wp2
      go_ret
      exact HS.out
def ClearOut (w : World) (qb qr cap n : Nat) (fr pl : Int → Option Int) (g m : Int) (e : Ending) (w' : World) : Prop :=
  (∃ v, e = .returned v) ∧ Q3 w' qb qr cap n (idel fr g) (idel pl m) ∧ Chg (fun x => x = qr) w w'
set_option maxHeartbeats 4000000 in
set_option maxRecDepth 100000 in
theorem clear_ok (h : Q3 w qb qr cap n fr pl) (g m : Int) (hm : fr g = some m) : Calls Tryz.prog 107 #[.pointer (some ⟨qb, 0, none⟩), .int .i64 g] w (ClearOut w qb qr cap n fr pl g m) := by
  have hg := (h.p.le g m hm).1
  obtain ⟨k, rfl⟩ : ∃ k : Nat, g = k := ⟨g.toNat, by omega⟩
  have C0 := fun i => blk_cell h.blk i
  have L0 := blk_lt h.blk
  have L1 := h.r.lt.2
  have f1 := World.ownsRow.frozenAt h.r.row k
  have c1 := h.cell k (by omega)
  have e2 : (0 : Int) ≤ (k : Int) := Int.natCast_nonneg _
  have e3 : (k : Int) < (n : Int) := hg.2
  have hge := get_any h k
  have hV : getV n fr k = (m, 0) := by unfold getV; rw [if_pos hg, hm]
  rw [hV] at hge
  have HS : ClearOut w qb qr cap n fr pl k m (.returned (.tuple #[.int .i64 m, .int .i64 0])) (w.setCell ⟨qr, k, none⟩ (.int .i64 (-1))) := ⟨⟨_, rfl⟩, h.clear k m hm, Chg.set (F := fun x => x = qr) (p := ⟨qr, k, none⟩) (Chg.refl _ w) (.inl rfl) _⟩
  have HS := Base.Aside.mk HS
  clear h hg hV hm
  go_enter Tryz.func107, Tryz.ntmps107
  go_wp2_with (first
    | (go_at_call 102; (with_reducible refine hge.mono ?_); rintro z w1 ⟨rfl, hw1⟩; obtain rfl := hw1.symm)
    | go_in)
  go_ret2
  exact HS.out
set_option maxHeartbeats 8000000 in
set_option maxRecDepth 100000 in
theorem list_any (h : Q3 W qb qr cap n fr pl) : Calls Tryz.prog 43 #[.pointer (some ⟨qb, 0, none⟩)] W (ListOut W (prsL fr n)) := by
  obtain ⟨i0, hi, hz0, hz1, hz2⟩ := info_parts infoPr
  have hs := h.n48
  obtain ⟨n', hn⟩ : ∃ n', n' = n := ⟨_, rfl⟩
  have HN := Base.Aside.mk hn
  rw [← hn] at hs ⊢
  clear hn
  go_enter Tryz.func43, Tryz.ntmps43
  go_wp2
  go_loopw [3, 4] (fun v i wr => ∃ (k : Nat) (W2 : World), k ≤ n' ∧ i = .int .i64 k ∧ wr = W2 ∧ Base.Aside (W2.ownsRow W.heap.size 106 2 v (prsL fr k).length ((prsL fr k).flatMap pcells) ∧ Below W.heap.size W W2)) (fun _ i _ => n' - (intOf i).toNat)
  case atStart => exact ⟨0, W, by omega, rfl, rfl, ⟨World.ownsRow_nil _ _ _ _, Below.refl _ _⟩⟩
  case round =>
    obtain ⟨k, W2, hk, rfl, hwr, hA⟩ := hrel
    obtain rfl := hwr.symm
    have h2 := h.below hA.out.2
    have hbl := h2.blk
    rw [← HN.out] at hbl
    have C2 := fun i => blk_cell hbl i
    have L2 := blk_lt hbl
    have L3 := h2.r.lt.2
    by_cases hlt : k < n'
    · have c1 := h2.cell k (by have := HN.out; omega)
      have hl := prsL_len fr k
      have e3 : (k : Int) < (n' : Int) := by omega
      have e2 : (0 : Int) ≤ (k : Int) := Int.natCast_nonneg _
      cases hf : fr (k : Int) with
      | none =>
        rw [hf] at c1
        simp only [Option.getD_none] at c1
        clear h2 hbl
        go_wp2
        refine ⟨⟨k + 1, _, by omega, by simp, rfl, ⟨?_, hA.out.2⟩⟩, by simp [intOf]; omega⟩
        rw [prsL_miss hf]
        exact hA.out.1
      | some m =>
        have hm := (h2.p.le k m hf).2.1
        rw [hf] at c1
        simp only [Option.getD_some] at c1
        have d4 : decide (0 ≤ m) = true := decide_eq_true hm.1
        have hsz2 := hA.out.2.size
        clear h2 hbl hm
        go_wp2_with (first
          | (at_builtin; refine wpList_append_own_at _ rfl _ _ 103 rfl W.heap.size 106 i0 (.agg #[.int .i64 0, .int .i64 0]) 2 16 Tryz.underlying103 hi hz0 hz1 hz2 rfl (by decide) _ _ _ rfl (hA.out.1.alloc _) ⟨W2.heap.size, 0, none⟩ 1 1 (pcells ((k : Int), m)) rfl rfl (pcell_new W2 ((k : Int), m) 106) (pcells_one _) (by unfold maxLen; omega) (by omega) (by simp; omega) ?_; intro v' w3 hown' hg3 hnil3 hloc3; go_frame)
          | go_in)
        refine ⟨⟨k + 1, w3, by omega, by simp, rfl, ⟨?_, ?_⟩⟩, by simp [intOf]; omega⟩
        · rw [prsL_hit hf]
          simpa using hown'
        · exact (below_alloc hA.out.2 _).grown hg3 (by simp; omega) (fun j hj => (hA.out.1.lt j hj).1)
    · obtain rfl : k = n' := by omega
      clear h2 hbl
      go_wp2
      go_ret
      exact ⟨_, rfl, hA.out.1, hA.out.2⟩
end
end Go.Proofs.YthlejchcnfdcpaaGreat.GyA
namespace Go.Proofs.YthlejchcnfdcpaaGreat.GyB
open Go.RowKit Go.Maps Base GaA GaB GaC GaD GmB GmC GpA GeA GfA GfB GfC GfD GjA GjC RpA RmA RmB RgA GxA GxC GxD GyA
set_option linter.unusedVariables false
set_option linter.unusedSimpArgs false

/-- Where the document's grants and machine lie. -/
structure DA where
  hb : Nat
  Db : Nat
  cD : Nat
  rb : Nat
  Fb : Nat
  Bb : Nat
  cF : Nat
  cB : Nat
  bs : List Nat
/-- A member as the document holds it; qq: the document's map of places for the program's. -/
def fD (f : Int → Option (Int × Nat)) (qq : Nat → Nat × Nat × Nat) (i : Nat) : Int × Option Nat := match f i with
  | some x => (x.1, some (qq x.2).1)
  | none => (-1, none)
/-- Live maps, as a list and by their keys. -/
structure Lk (F : Int × Int → Option Mp) (L : List Mp) : Prop where
  at_ : ∀ (i : Nat) (hi : i < L.length), F (L[i].caller, L[i].h) = some L[i]
  mem : ∀ k m, F k = some m → m ∈ L ∧ k = (m.caller, m.h)
  nodup : L.Nodup
theorem Lk.get {F : Int × Int → Option Mp} {L : List Mp} (h : Lk F L) {k : Int × Int} {m : Mp} (hk : F k = some m) : ∃ (i : Nat) (hi : i < L.length), L[i] = m ∧ k = (m.caller, m.h) := by
  obtain ⟨h1, h2⟩ := h.mem k m hk
  obtain ⟨i, hi, e⟩ := List.mem_iff_getElem.1 h1
  exact ⟨i, hi, e, h2⟩
theorem Lk.one {F : Int × Int → Option Mp} {L : List Mp} (h : Lk F L) {i j : Nat} (hi : i < L.length) (hj : j < L.length) (hc : L[i].caller = L[j].caller) (hh : L[i].h = L[j].h) : i = j := by
  have h1 := h.at_ i hi
  have h2 := h.at_ j hj
  rw [hc, hh, h2] at h1
  injection h1 with h1
  have hp := List.pairwise_iff_getElem.1 h.nodup
  rcases Nat.lt_trichotomy i j with q | q | q
  · exact absurd h1.symm (hp i j hi hj q)
  · exact q
  · exact absurd h1 (hp j i hj hi q)
/-- The document's grants, machine, places, maps in memory. -/
structure DW (W : World) (a : DA) (A : Option Addr) (cap : Nat) (s : MS) (f : Int → Option (Int × Nat)) (pi : Nat → PI) (qq : Nat → Nat × Nat × Nat) (L : List Mp) : Prop where
  blk : W.heap[a.hb]? = some (.cells #[.pointer (some ⟨a.rb, 0, none⟩), .slice (some ⟨a.Db, 0, none⟩) 8 a.cD, .slice A L.length cap] 120 (0, 0))
  mem : ∃ cs, W.heap[a.Db]? = some (.cells cs 122 (0, 0)) ∧ ∀ i j, i < 8 → j < 2 → cs[i * 2 + j]? = (memC (fD f qq i))[j]?
  row : W.ownsRow 0 102 6 (.slice A L.length cap) L.length (L.flatMap mcells)
  m : RMach W a.rb a.Fb a.Bb a.cF a.cB a.bs s
  q : ∀ d x, f d = some x → Q3 W (qq x.2).1 (qq x.2).2.1 (qq x.2).2.2 (pi x.2).size (pi x.2).fr (pi x.2).pl
  d : ∀ d x, f d = some x → (0 ≤ d ∧ d < 8) ∧ ∃ k : Nat, x.1 = k ∧ k < s.n
  few : L.length ≤ 128
theorem flat_six : ∀ (L : List Mp) (i j : Nat) (hi : i < L.length) (hj : j < 6), (L.flatMap mcells)[i * 6 + j]? = (mcells L[i])[j]?
  | [], i, j, hi, _ => absurd hi (Nat.not_lt_zero _)
  | m :: t, 0, j, hi, hj => by
      rw [List.flatMap_cons, Nat.zero_mul, Nat.zero_add, List.getElem?_append_left (by simp [mcells]; omega)]
      rfl
  | m :: t, i + 1, j, hi, hj => by
      have ih := flat_six t i j (by simpa using hi) hj
      rw [List.flatMap_cons, List.getElem?_append_right (by simp [mcells]; omega), show (i + 1) * 6 + j - (mcells m).length = i * 6 + j by simp [mcells]; omega, ih]
      rfl
/-- One of these kinds a block must not be, to be free to change. -/
def kindOk (t : TypeId) : Prop := t ≠ 120 ∧ t ≠ 122 ∧ t ≠ 102 ∧ t ≠ 128 ∧ t ≠ 3
section
variable {w w' W W' : World} {a : DA} {A : Option Addr} {cap : Nat} {s s' : MS} {f : Int → Option (Int × Nat)} {pi : Nat → PI} {qq : Nat → Nat × Nat × Nat} {L : List Mp} {F : Int × Int → Option Mp}
theorem DW.below (h : DW W a A cap s f pi qq L) (hb : Below W.heap.size W W') : DW W' a A cap s f pi qq L := by
  obtain ⟨cs, g1, g2⟩ := h.mem
  exact ⟨blk_below h.blk (blk_lt h.blk) hb, ⟨cs, blk_below g1 (blk_lt g1) hb, g2⟩, row_chg h.row (Chg.below (fun _ => False) hb) (fun _ _ h => h), h.m.below hb, fun d x hd => (h.q d x hd).below hb, h.d, h.few⟩
theorem DW.out {G : Nat → Prop} (h : DW W a A cap s f pi qq L) (hc : Chg G W W') (hM : RMach W' a.rb a.Fb a.Bb a.cF a.cB a.bs s') (hn : s'.n = s.n) (hG : ∀ x, G x → ∃ cs t, W.heap[x]? = some (.cells cs t (0, 0)) ∧ kindOk t) : DW W' a A cap s' f pi qq L := by
  have key : ∀ x cs t, W.heap[x]? = some (.cells cs t (0, 0)) → ¬ kindOk t → ¬ G x := by
    intro x cs t hx ht hg
    obtain ⟨cs', t', h1, h2⟩ := hG x hg
    rw [hx] at h1
    injection h1 with h1
    injection h1 with h1 h3
    exact ht (h3 ▸ h2)
  obtain ⟨cs, g1, g2⟩ := h.mem
  refine ⟨hc.blk h.blk (key _ _ _ h.blk (by unfold kindOk; decide)), ⟨cs, hc.blk g1 (key _ _ _ g1 (by unfold kindOk; decide)), g2⟩, row_chg h.row hc (fun g hg => ?_), hM, fun d x hd => (h.q d x hd).chg hc (key _ _ _ (h.q d x hd).blk (by unfold kindOk; decide)) ?_, fun d x hd => by rw [hn]; exact h.d d x hd, h.few⟩
  · obtain ⟨_, ⟨h1, _⟩ | ⟨g', cap', cur, h1, _, h2, _⟩⟩ := h.row
    · rw [h1] at hg
      cases hg
    · rw [h1] at hg
      simp only [Value.ownBlock, Option.some.injEq] at hg
      subst hg
      exact key _ _ _ h2 (by unfold kindOk; decide)
  · obtain ⟨_, ⟨h1, _⟩ | ⟨g', cap', cur, h1, _, h2, _⟩⟩ := (h.q d x hd).r.row
    · cases h1
    · injection h1 with h1
      injection h1 with h1
      injection h1 with h1
      rw [h1]
      exact key _ _ _ h2 (by unfold kindOk; decide)
theorem DW.kbs (h : DW W a A cap s f pi qq L) (x : Nat) (hx : x ∈ a.bs) : ∃ cs t, W.heap[x]? = some (.cells cs t (0, 0)) ∧ kindOk t := by
  obtain ⟨cs, h1⟩ := page_mem h.m hx
  exact ⟨cs, _, h1, by unfold kindOk; decide⟩
theorem DW.kfb (h : DW W a A cap s f pi qq L) : ∃ cs t, W.heap[a.Fb]? = some (.cells cs t (0, 0)) ∧ kindOk t := by
  obtain ⟨cs, h1, _⟩ := h.m.frs
  exact ⟨cs, _, h1, by unfold kindOk; decide⟩
theorem DW.mfn (h : DW W a A cap s f pi qq L) (i : Nat) (hi : i < 8) : W.cell? ⟨a.Db, i * 2, none⟩ = some (.int .i64 (fD f qq i).1) := by
  obtain ⟨cs, g1, g2⟩ := h.mem
  rw [blk_cell g1]
  exact g2 i 0 hi (by omega)
theorem DW.ptr (h : DW W a A cap s f pi qq L) (i : Nat) (hi : i < 8) : W.cell? ⟨a.Db, i * 2 + 1, none⟩ = some (.pointer ((fD f qq i).2.map fun q => ⟨q, 0, none⟩)) := by
  obtain ⟨cs, g1, g2⟩ := h.mem
  rw [blk_cell g1]
  exact g2 i 1 hi (by omega)
theorem DW.ldb (h : DW W a A cap s f pi qq L) : a.Db < W.heap.size := by
  obtain ⟨cs, g1, g2⟩ := h.mem
  exact blk_lt g1
/-- A live map's words, where one is. -/
theorem DW.words (h : DW W a A cap s f pi qq L) (hp : 0 < L.length) : ∃ g, A = some ⟨g, 0, none⟩ ∧ g < W.heap.size ∧ ∀ i (hi : i < L.length), W.cell? ⟨g, i * 6, none⟩ = some (.int .i64 L[i].h) ∧ W.cell? ⟨g, i * 6 + 1, none⟩ = some (.int .i64 L[i].caller) ∧ W.cell? ⟨g, i * 6 + 2, none⟩ = some (.int .i64 L[i].owner) ∧ W.cell? ⟨g, i * 6 + 3, none⟩ = some (.int .i64 L[i].ref) ∧ W.cell? ⟨g, i * 6 + 4, none⟩ = some (.int .i64 L[i].mfn) ∧ W.cell? ⟨g, i * 6 + 5, none⟩ = some (.bool L[i].wr) := by
  have hr := h.row
  obtain ⟨g, c, e, _⟩ := row_full hr hp
  injection e with e1 e2 e3
  subst e1
  have hl : (L.flatMap mcells).length = L.length * 6 := by
    have := hr.1
    simpa using this
  refine ⟨g, rfl, (hr.lt g rfl).2, fun i hi => ?_⟩
  have key : ∀ j, j < 6 → W.cell? ⟨g, i * 6 + j, none⟩ = (mcells L[i])[j]? := fun j hj => by
    rw [World.ownsRow.cellAt hr (i * 6 + j) (by omega), flat_six L i j hi hj]
  exact ⟨key 0 (by omega), key 1 (by omega), key 2 (by omega), key 3 (by omega), key 4 (by omega), key 5 (by omega)⟩
theorem rslot_any (k : Int) (w : World) : Calls Tryz.prog 69 #[.int .i64 k] w fun e w' => e = .returned (.bool (slotB k)) ∧ w' = w := by
  unfold slotB
  by_cases h : 0 ≤ k
  · have h1 : decide (0 ≤ k) = true := decide_eq_true h
    go_enter Tryz.func69, Tryz.ntmps69
    go_wp2
    go_ret
    exact ⟨by first | rfl | (rw [h1]; first | rfl | (simp; done)) | (simp [h1]; done), rfl⟩
  · have h1 : decide (0 ≤ k) = false := decide_eq_false h
    go_enter Tryz.func69, Tryz.ntmps69
    go_wp2
    go_ret
    exact ⟨by first | rfl | (rw [h1]; first | rfl | (simp; done)) | (simp [h1]; done), rfl⟩

set_option maxHeartbeats 2000000 in
set_option maxRecDepth 100000 in
theorem rwithin (off n size : Int) (s0 : 0 ≤ size) (s1 : size ≤ 256) (w : World) : Calls Tryz.prog 80 #[.int .i64 off, .int .i64 n, .int .i64 size] w fun e w' => e = .returned (.bool (inn off n size)) ∧ w' = w := by
  by_cases h0 : 0 ≤ off
  · have d0 : decide (0 ≤ off) = true := decide_eq_true h0
    by_cases h1 : 0 ≤ n
    · have d1 : decide (0 ≤ n) = true := decide_eq_true h1
      by_cases h2 : off ≤ size
      · have d2 : decide (off ≤ size) = true := decide_eq_true h2
        go_enter Tryz.func80, Tryz.ntmps80
        go_wp2
        go_ret
        exact ⟨by simp [inn, d0, d1, d2], by first | rfl | trivial⟩
      · have d2 : decide (off ≤ size) = false := decide_eq_false h2
        go_enter Tryz.func80, Tryz.ntmps80
        go_wp2
        go_ret
        exact ⟨by simp [inn, d0, d1, d2], by first | rfl | trivial⟩
    · have d1 : decide (0 ≤ n) = false := decide_eq_false h1
      go_enter Tryz.func80, Tryz.ntmps80
      go_wp2
      go_ret
      exact ⟨by simp [inn, d0, d1], by first | rfl | trivial⟩
  · have d0 : decide (0 ≤ off) = false := decide_eq_false h0
    go_enter Tryz.func80, Tryz.ntmps80
    go_wp2
    go_ret
    exact ⟨by simp [inn, d0], by first | rfl | trivial⟩

set_option maxHeartbeats 2000000 in
set_option maxRecDepth 100000 in
theorem rkind (b : Bool) (w : World) : Calls Tryz.prog 72 #[.bool b] w fun e w' => e = .returned (.int .i64 (if b then 1 else 0)) ∧ w' = w := by
  cases b <;>
    (go_enter Tryz.func72, Tryz.ntmps72
     go_wp2
     go_ret
     exact ⟨by first | rfl | (simp; done), rfl⟩)
set_option maxHeartbeats 4000000 in
set_option maxRecDepth 100000 in
theorem rjoined (h : DW W a A cap s f pi qq L) (d : Int) : Calls Tryz.prog 68 #[.pointer (some ⟨a.hb, 0, none⟩), .int .i64 d] W fun e w' => e = .returned (.bool (f d).isSome) ∧ w' = W := by
  have hdo := domain_any d W
  have C0 := fun i => blk_cell h.blk i
  have L0 := blk_lt h.blk
  have L1 := h.ldb
  by_cases hd : 0 ≤ d ∧ d < 8
  · obtain ⟨k, rfl⟩ : ∃ k : Nat, d = k := ⟨d.toNat, by omega⟩
    rw [decide_eq_true hd.1, decide_eq_true hd.2] at hdo
    have c1 := h.mfn k (by omega)
    have e2 : (0 : Int) ≤ (k : Int) := hd.1
    have e3 : (k : Int) < 8 := hd.2
    obtain ⟨x, hx⟩ : ∃ x, x = (fD f qq k).1 := ⟨_, rfl⟩
    have hv : decide (0 ≤ x) = (f k).isSome := by
      rw [hx]
      unfold fD
      cases hf : f k with
      | none => rfl
      | some y =>
        obtain ⟨m, e, _⟩ := (h.d k y hf).2
        show decide (0 ≤ y.1) = true
        exact decide_eq_true (by omega)
    rw [← hx] at c1
    rw [← hv]
    clear h hd hx hv
    go_enter Tryz.func68, Tryz.ntmps68
    go_wp2_with (first
      | (go_at_call 48; (with_reducible refine hdo.mono ?_); rintro z w1 ⟨rfl, hw1⟩; obtain rfl := hw1.symm)
      | go_in)
    go_ret
    exact ⟨by first | rfl | (simp; done), rfl⟩
  · have hfn : f d = none := by
      cases hf : f d with
      | none => rfl
      | some y => exact absurd (h.d d y hf).1 hd
    rw [hfn]
    have hdf : (decide (0 ≤ d) && decide (d < 8)) = false := by simp; omega
    rw [hdf] at hdo
    clear h hd
    go_enter Tryz.func68, Tryz.ntmps68
    go_wp2_with (first
      | (go_at_call 48; (with_reducible refine hdo.mono ?_); rintro z w1 ⟨rfl, hw1⟩; obtain rfl := hw1.symm)
      | go_in)
    go_ret
    exact ⟨by first | rfl | (simp; done), rfl⟩
def FindOut (W : World) (F : Int × Int → Option Mp) (L : List Mp) (c k : Int) (e : Ending) (w' : World) : Prop :=
  ((∃ (i : Nat) (hi : i < L.length), F (c, k) = some L[i] ∧ e = .returned (.int .i64 i)) ∨ (F (c, k) = none ∧ e = .returned (.int .i64 (-1)))) ∧ w' = W
set_option maxHeartbeats 4000000 in
set_option maxRecDepth 100000 in
theorem rfind (h : DW W a A cap s f pi qq L) (hL : Lk F L) (c k : Int) : Calls Tryz.prog 70 #[.pointer (some ⟨a.hb, 0, none⟩), .int .i64 c, .int .i64 k] W (FindOut W F L c k) := by
  have C0 := fun i => blk_cell h.blk i
  have L0 := blk_lt h.blk
  have hfew := h.few
  obtain ⟨n, hn⟩ : ∃ n, n = L.length := ⟨_, rfl⟩
  rw [← hn] at C0 hfew
  have HN := Base.Aside.mk (And.intro hn h)
  clear hn h
  go_enter Tryz.func70, Tryz.ntmps70
  go_wp2
  go_loopw [7] (fun i wr => ∃ j : Nat, j ≤ n ∧ i = .int .i64 j ∧ wr = W ∧ Base.Aside (∀ (b : Nat) (hb : b < L.length), b < j → ¬ (L[b].caller = c ∧ L[b].h = k))) (fun i _ => n - (intOf i).toNat)
  case atStart => exact ⟨0, Nat.zero_le _, rfl, rfl, ⟨fun b _ hb => absurd hb (Nat.not_lt_zero _)⟩⟩
  case round =>
    obtain ⟨j, hj, rfl, hwr, hA⟩ := hrel
    obtain rfl := hwr.symm
    by_cases hlt : j < n
    · have hjL : j < L.length := by have := HN.out.1; omega
      obtain ⟨g, hg, LG, hw⟩ := HN.out.2.words (by omega)
      subst hg
      obtain ⟨w0, w1, _⟩ := hw j hjL
      have e2 : (0 : Int) ≤ (j : Int) := Int.natCast_nonneg _
      have e3 : (j : Int) < (n : Int) := by omega
      obtain ⟨m, hm⟩ : ∃ m, m = L[j] := ⟨_, rfl⟩
      rw [← hm] at w0 w1
      have HM := Base.Aside.mk hm
      clear hm hw
      have step : ∀ (hne : ¬ (m.caller = c ∧ m.h = k)), ∀ (b : Nat) (hb : b < L.length), b < j + 1 → ¬ (L[b].caller = c ∧ L[b].h = k) := by
        intro hne b hb hlt2
        by_cases q : b = j
        · subst q
          rw [← HM.out]
          exact hne
        · exact hA.out b hb (by omega)
      by_cases q1 : m.caller = c
      · by_cases q2 : m.h = k
        · have d1 : (m.caller == c) = true := by simp [q1]
          have d2 : (m.h == k) = true := by simp [q2]
          have HS : FindOut W F L c k (.returned (.int .i64 j)) W := by
            refine ⟨.inl ⟨j, hjL, ?_, rfl⟩, rfl⟩
            have := hL.at_ j hjL
            rw [← HM.out, q1, q2] at this
            rw [← HM.out]
            exact this
          have HS := Base.Aside.mk HS
          clear q1 q2 step
          go_wp2
          go_ret
          exact HS.out
        · have d1 : (m.caller == c) = true := by simp [q1]
          have d2 : (m.h == k) = false := by simp [q2]
          have HS := Base.Aside.mk (step (fun h => q2 h.2))
          clear q1 q2 step
          go_wp2
          exact ⟨⟨j + 1, by omega, by simp, trivial, HS⟩, by simp [intOf]; omega⟩
      · have d1 : (m.caller == c) = false := by simp [q1]
        have HS := Base.Aside.mk (step (fun h => q1 h.1))
        clear q1 step
        go_wp2
        exact ⟨⟨j + 1, by omega, by simp, trivial, HS⟩, by simp [intOf]; omega⟩
    · obtain rfl : j = n := by omega
      have HS : FindOut W F L c k (.returned (.int .i64 (-1))) W := by
        refine ⟨.inr ⟨?_, rfl⟩, rfl⟩
        cases hf : F (c, k) with
        | none => rfl
        | some m =>
          obtain ⟨b, hb, e1, e2⟩ := hL.get hf
          injection e2 with e2 e3
          exact absurd ⟨by rw [e1]; exact e2.symm, by rw [e1]; exact e3.symm⟩ (hA.out b hb (by have := HN.out.1; omega))
      have HS := Base.Aside.mk HS
      clear hlt
      go_wp2
      go_ret
      exact HS.out
end
end Go.Proofs.YthlejchcnfdcpaaGreat.GyB
