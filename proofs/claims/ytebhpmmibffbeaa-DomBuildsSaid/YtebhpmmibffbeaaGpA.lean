/- Proved: what a map of places does (contracts for the laws of the grants). -/
import Derived.Test.YtebhpmmibffbeaaGmA
namespace Go.Proofs.Ytebhpmmibffbeaa.GpA
open Go.RowKit Go.Maps Go.Proofs.Ytebhpmmibffbeaa.Base Go.Proofs.Ytebhpmmibffbeaa.GaA Go.Proofs.Ytebhpmmibffbeaa.GmA
set_option linter.unusedVariables false
set_option linter.unusedSimpArgs false

def ivs (f : Int → Option Int) : Int → Option Value := fun x => (f x).map (Value.int .i64)
def iput (f : Int → Option Int) (k v : Int) : Int → Option Int := fun x => if x = k then some v else f x
theorem ivs_put (f : Int → Option Int) (k v : Int) : ivs (iput f k v) = put (ivs f) k (.int .i64 v) := by
  funext x
  unfold ivs iput put
  split <;> rfl
theorem zeroI (w : World) : (zeroValue 3).run Try.prog w = .ok (.int .i64 0) w := Try.zeroValue3 w
/-- A map of places in memory. -/
structure P2 (w : World) (pb fm pm size : Nat) (fr pl : Int → Option Int) (c : Nat) : Prop where
  blk : w.heap[pb]? = some (.cells #[.map (some fm), .map (some pm), .int .i64 size] 116 (0, 0))
  mf : IMap w fm (ivs fr) c
  mp : IMap w pm (ivs pl) c
  ne : fm ≠ pm
section
variable {w w' : World} {pb fm pm size : Nat} {fr pl : Int → Option Int} {c : Nat}
theorem P2.chg {F : Nat → Prop} (h : P2 w pb fm pm size fr pl c) (hc : Chg F w w') (h1 : ¬ F pb) (h2 : ¬ F fm) (h3 : ¬ F pm) : P2 w' pb fm pm size fr pl c :=
  ⟨hc.blk h.blk h1, h.mf.chg hc h2, h.mp.chg hc h3, h.ne⟩
theorem P2.below (h : P2 w pb fm pm size fr pl c) (hb : Below w.heap.size w w') : P2 w' pb fm pm size fr pl c := h.chg (Chg.below (fun _ => False) hb) (fun h => h) (fun h => h) (fun h => h)
theorem P2.lt (h : P2 w pb fm pm size fr pl c) : pb < w.heap.size ∧ fm < w.heap.size ∧ pm < w.heap.size := ⟨blk_lt h.blk, h.mf.lt, h.mp.lt⟩
theorem P2.nef (h : P2 w pb fm pm size fr pl c) : pb ≠ fm := by
  rintro rfl
  obtain ⟨es, clock, h1⟩ := h.mf.is
  rw [h.blk] at h1
  cases h1
theorem P2.nep (h : P2 w pb fm pm size fr pl c) : pb ≠ pm := by
  rintro rfl
  obtain ⟨es, clock, h1⟩ := h.mp.is
  rw [h.blk] at h1
  cases h1
set_option maxHeartbeats 2000000 in
set_option maxRecDepth 100000 in
theorem new_calls (w : World) (n : Nat) (hn : n ≤ 48) : Calls Try.prog 21 #[.int .i64 n] w fun e w' => ∃ pb fm pm, e = .returned (.tuple #[.pointer (some ⟨pb, 0, none⟩), .int .i64 0]) ∧ P2 w' pb fm pm n (fun _ => none) (fun _ => none) 0 ∧ (w.heap.size ≤ pb ∧ w.heap.size ≤ fm ∧ w.heap.size ≤ pm) ∧ Below w.heap.size w w' := by
  have hmm := @run_makeMap Try.prog
  have d0 : decide ((n : Int) < 0) = false := decide_eq_false (by omega)
  have d1 : decide ((48 : Int) < (n : Int)) = false := decide_eq_false (by omega)
  go_enter Try.func21, Try.ntmps21
  go_wp2
  go_ret2
  exact ⟨w.heap.size + 1 + 1, w.heap.size, w.heap.size + 1, rfl, ⟨blk_newest (by simp) _, IMap.made_at (blk_alloc (blk_alloc (blk_new _ _) _) _), IMap.made_at (blk_alloc (blk_newest (by simp) _) _), by omega⟩, ⟨by omega, Nat.le_refl _, by omega⟩, below_alloc (below_alloc (below_alloc (Below.refl _ _) _) _) _⟩
theorem eqm (w : World) (r : Option Nat) : (binOp .eql 114 (.map r) (.map none)).run Try.prog w = .ok (.bool r.isNone) w := run_eql_map_nil w _ _ _ r Try.underlying114
set_option maxHeartbeats 2000000 in
set_option maxRecDepth 100000 in
theorem none_calls (h : P2 w pb fm pm size fr pl c) : Calls Try.prog 61 #[.pointer (some ⟨pb, 0, none⟩)] w fun e w' => e = .returned (.bool false) ∧ w' = w := by
  have C0 := fun i => blk_cell h.blk i
  have L0 := blk_lt h.blk
  have q0 := eqm
  clear h
  go_enter Try.func61, Try.ntmps61
  go_wp2
  go_ret
  exact ⟨by first | rfl | (simp; done), rfl⟩
set_option maxHeartbeats 2000000 in
set_option maxRecDepth 100000 in
theorem place_calls (h : P2 w pb fm pm size fr pl c) (g : Nat) (hg : g < size) : Calls Try.prog 45 #[.pointer (some ⟨pb, 0, none⟩), .int .i64 g] w fun e w' => e = .returned (.int .i64 0) ∧ w' = w := by
  have C0 := fun i => blk_cell h.blk i
  have L0 := blk_lt h.blk
  have hn := none_calls h
  have d0 : decide ((g : Int) < 0) = false := decide_eq_false (by omega)
  have d1 : decide ((size : Int) ≤ (g : Int)) = false := decide_eq_false (by omega)
  clear h
  go_enter Try.func45, Try.ntmps45
  go_wp2_with (first
    | (go_at_call 61; refine hn.mono ?_; rintro z w1 ⟨rfl, hw1⟩; obtain rfl := hw1.symm)
    | go_in)
  go_ret
  exact ⟨by first | rfl | (simp; done), rfl⟩
set_option maxHeartbeats 2000000 in
set_option maxRecDepth 100000 in
theorem place_out (h : P2 w pb fm pm size fr pl c) (g : Int) (hg : g < 0 ∨ (size : Int) ≤ g) : Calls Try.prog 45 #[.pointer (some ⟨pb, 0, none⟩), .int .i64 g] w fun e w' => e = .returned (.int .i64 1) ∧ w' = w := by
  have C0 := fun i => blk_cell h.blk i
  have L0 := blk_lt h.blk
  have hn := none_calls h
  clear h
  by_cases h0 : g < 0
  · have d0 : decide (g < 0) = true := decide_eq_true h0
    clear hg h0
    go_enter Try.func45, Try.ntmps45
    go_wp2_with (first
      | (go_at_call 61; refine hn.mono ?_; rintro z w1 ⟨rfl, hw1⟩; obtain rfl := hw1.symm)
      | go_in)
    go_ret
    exact ⟨by first | rfl | (simp; done), rfl⟩
  · have d0 : decide (g < 0) = false := decide_eq_false h0
    have d1 : decide ((size : Int) ≤ g) = true := decide_eq_true (by omega)
    clear hg h0
    go_enter Try.func45, Try.ntmps45
    go_wp2_with (first
      | (go_at_call 61; refine hn.mono ?_; rintro z w1 ⟨rfl, hw1⟩; obtain rfl := hw1.symm)
      | go_in)
    go_ret
    exact ⟨by first | rfl | (simp; done), rfl⟩
/-- Get's answer. -/
def getV (size : Nat) (fr : Int → Option Int) (g : Int) : Int × Int := if 0 ≤ g ∧ g < size then (match fr g with | some m => (m, 0) | none => (0, 6)) else (0, 1)
set_option maxHeartbeats 2000000 in
set_option maxRecDepth 100000 in
theorem find_none (h : P2 w pb fm pm size fr pl c) (m : Int) (h0 : -1000000 ≤ m) (h1 : m ≤ 1000000) (hm : pl m = none) : Calls Try.prog 52 #[.pointer (some ⟨pb, 0, none⟩), .int .i64 m] w fun e w' => e = .returned (.tuple #[.int .i64 0, .int .i64 6]) ∧ w' = w := by
  have C0 := fun i => blk_cell h.blk i
  have L0 := blk_lt h.blk
  have hn := none_calls h
  have hk := h.mp.look_ok Try.underlying114 (zeroI w) m (by omega) (by omega)
  have e1 : ivs pl m = none := by unfold ivs; rw [hm]; rfl
  rw [e1] at hk
  simp only [Option.getD_none, Option.isSome_none] at hk
  clear h
  go_enter Try.func52, Try.ntmps52
  go_wp2_with (first
    | (go_at_call 61; refine hn.mono ?_; rintro z w1 ⟨rfl, hw1⟩; obtain rfl := hw1.symm)
    | go_in)
  go_ret2
  exact ⟨by first | rfl | (simp; done), rfl⟩
theorem setBlock_self {W : World} {M : Nat} {o : Obj} (h : W.heap[M]? = some o) : Go.ChangeMaps.setBlock W M o = W := by
  unfold Go.ChangeMaps.setBlock
  have : W.heap.setIfInBounds M o = W.heap := by
    apply Array.ext_getElem?
    intro i
    rw [Array.getElem?_setIfInBounds]
    split
    · rename_i e
      subst e
      rw [if_pos (blk_lt h), h]
    · rfl
  rw [this]
theorem setBlock_twice (W : World) (M : Nat) (o p : Obj) : Go.ChangeMaps.setBlock (Go.ChangeMaps.setBlock W M o) M p = Go.ChangeMaps.setBlock W M p := by
  unfold Go.ChangeMaps.setBlock
  simp
theorem setBlock_comm (W : World) {f p : Nat} (h : f ≠ p) (a b c : Obj) : Go.ChangeMaps.setBlock (Go.ChangeMaps.setBlock (Go.ChangeMaps.setBlock W f a) p b) f c = Go.ChangeMaps.setBlock (Go.ChangeMaps.setBlock W f c) p b := by
  unfold Go.ChangeMaps.setBlock
  have : ((W.heap.setIfInBounds f a).setIfInBounds p b).setIfInBounds f c = (W.heap.setIfInBounds f c).setIfInBounds p b := by
    apply Array.ext_getElem?
    intro i
    simp only [Array.getElem?_setIfInBounds, Array.size_setIfInBounds]
    by_cases h1 : f = i
    · subst h1
      simp [h.symm]
    · simp [h1]
  simp only [this]
theorem setBlock_cell (W : World) (M k i : Nat) (h : k ≠ M) (o : Obj) : (Go.ChangeMaps.setBlock W M o).cell? ⟨k, i, none⟩ = W.cell? ⟨k, i, none⟩ := World.cell?_of_block (setBlock_far W h o)
set_option maxHeartbeats 4000000 in
set_option maxRecDepth 100000 in
theorem set_calls (h : P2 w pb fm pm size fr pl c) (g m : Nat) (hg : g < size) (hs : size ≤ 48) (hm : m < 256) (hf : fr g = none) (hp : pl m = none) (hc : c < 1000) :
    Calls Try.prog 22 #[.pointer (some ⟨pb, 0, none⟩), .int .i64 g, .int .i64 m] w fun e w' => e = .returned (.int .i64 0) ∧ P2 w' pb fm pm size (iput fr g m) (iput pl m g) (c + 1) ∧ Chg (fun k => k = fm ∨ k = pm) w w' := by
  have C0 := fun i => blk_cell h.blk i
  have L0 := blk_lt h.blk
  have hpl := place_calls h g hg
  have e1 : ivs fr g = none := by unfold ivs; rw [hf]; rfl
  have e2 : ivs pl m = none := by unfold ivs; rw [hp]; rfl
  have hk1 := h.mf.look_ok Try.underlying114 (zeroI w) g (by omega) (by omega)
  have hk2 := h.mp.look_ok Try.underlying114 (zeroI w) m (by omega) (by omega)
  rw [e1] at hk1
  rw [e2] at hk2
  simp only [Option.getD_none, Option.isSome_none] at hk1 hk2
  obtain ⟨st1, o0, o1, o2, a0, a1, a2, a3⟩ := h.mf.entry Try.underlying114 zeroI g (by omega) (by omega) (.int .i64 m) (by omega) e1
  obtain ⟨st2, p0, p1, p2, b0, b1, b2, b3⟩ := h.mp.entry Try.underlying114 zeroI m (by omega) (by omega) (.int .i64 g) (by omega) e2
  have d0 : decide ((m : Int) < 0) = false := decide_eq_false (by omega)
  have d1 : decide ((256 : Int) ≤ (m : Int)) = false := decide_eq_false (by omega)
  obtain ⟨X, hX⟩ : ∃ X : Obj → Obj → World, X = fun oa ob => Go.ChangeMaps.setBlock (Go.ChangeMaps.setBlock w.drew fm oa) pm ob := ⟨_, rfl⟩
  have hX00 : X o0 p0 = w.drew := by
    rw [hX]
    show Go.ChangeMaps.setBlock (Go.ChangeMaps.setBlock w.drew fm o0) pm p0 = w.drew
    rw [setBlock_self (W := w.drew) a0, setBlock_self (W := w.drew) b0]
  have hXf : ∀ oa ob oa', Go.ChangeMaps.setBlock (X oa ob) fm oa' = X oa' ob := fun oa ob oa' => by rw [hX]; exact setBlock_comm _ h.ne _ _ _
  have hXp : ∀ oa ob ob', Go.ChangeMaps.setBlock (X oa ob) pm ob' = X oa ob' := fun oa ob ob' => by rw [hX]; exact setBlock_twice _ _ _ _
  have gf : ∀ oa ob, (X oa ob).heap[fm]? = some oa := fun oa ob => by rw [hX]; exact (setBlock_far _ h.ne _).trans (setBlock_at h.mf.lt _)
  have gp : ∀ oa ob, (X oa ob).heap[pm]? = some ob := fun oa ob => by rw [hX]; exact setBlock_at (by rw [setBlock_size]; exact h.mp.lt) _
  have gc : ∀ oa ob i, (X oa ob).cell? ⟨pb, i, none⟩ = w.cell? ⟨pb, i, none⟩ := fun oa ob i => by rw [hX]; exact (setBlock_cell _ pm pb i h.nep _).trans ((setBlock_cell _ fm pb i h.nef _).trans rfl)
  have gs : ∀ oa ob, (X oa ob).heap.size = w.heap.size := fun oa ob => by rw [hX]; show (Go.ChangeMaps.setBlock _ pm ob).heap.size = _; rw [setBlock_size, setBlock_size]; rfl
  have r1 : ∀ ob, (Instr.mapEntry 114 (.map (some fm)) (.int .i64 g)).run Try.prog (X o0 ob) = .ok (.tuple #[.int .i64 0, .int .i64 st1]) (X o1 ob) := fun ob => by rw [a1 _ (gf o0 ob), hXf]
  have r2 : ∀ ob, (Instr.entryStore 114 (.map (some fm)) (.int .i64 st1) (.int .i64 m)).run Try.prog (X o1 ob) = .ok () (X o2 ob) := fun ob => by rw [a2 _ (gf o1 ob), hXf]
  have r3 : ∀ oa, (Instr.mapEntry 114 (.map (some pm)) (.int .i64 m)).run Try.prog (X oa p0) = .ok (.tuple #[.int .i64 0, .int .i64 st2]) (X oa p1) := fun oa => by rw [b1 _ (gp oa p0), hXp]
  have r4 : ∀ oa, (Instr.entryStore 114 (.map (some pm)) (.int .i64 st2) (.int .i64 g)).run Try.prog (X oa p1) = .ok () (X oa p2) := fun oa => by rw [b2 _ (gp oa p1), hXp]
  have r5 := r1 p0
  have r6 := r3 o0
  rw [hX00] at r5 r6
  have hfin : Chg (fun k => k = fm ∨ k = pm) w (X o2 p2) := by
    rw [hX]
    exact (((Chg.refl _ w).drew.trans ((setBlock_chg w.drew fm o2).mono fun k hk => .inl hk))).trans ((setBlock_chg _ pm p2).mono fun k hk => .inr hk)
  have hend : P2 (X o2 p2) pb fm pm size (iput fr g m) (iput pl m g) (c + 1) :=
    ⟨hfin.blk h.blk (by rintro (h1 | h1); exact h.nef h1; exact h.nep h1), by rw [ivs_put]; exact a3 _ (gf o2 p2), by rw [ivs_put]; exact b3 _ (gp o2 p2), h.ne⟩
  have HE := Base.Aside.mk (And.intro hend hfin)
  clear hXf hXp gf gp hX00 hX a0 a1 a2 a3 b0 b1 b2 b3 hend hfin
  have L1 := h.mf.lt
  have L2 := h.mp.lt
  clear h e1 e2 hf hp
  go_enter Try.func22, Try.ntmps22
  go_wp2_with (first
    | (go_at_call 45; refine hpl.mono ?_; rintro z w1 ⟨rfl, hw1⟩; obtain rfl := hw1.symm)
    | go_in)
  go_region
  all_goals
    go_wp2
    go_ret
    exact ⟨by first | rfl | (simp; done), HE.out.1, HE.out.2⟩
end
end Go.Proofs.Ytebhpmmibffbeaa.GpA
