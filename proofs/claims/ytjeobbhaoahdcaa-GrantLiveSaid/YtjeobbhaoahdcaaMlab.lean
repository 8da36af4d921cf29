/- Proved: what a map of places does (contracts for the laws of the grants). Proved: what a machine's Frame, Get, Put do (contracts for the laws of the grants). -/
import Derived.Test.YtjeobbhaoahdcaaMlaa
namespace Go.Proofs.Ytjeobbhaoahdcaa.GpA
open Go.RowKit Go.Maps Go.Proofs.Ytjeobbhaoahdcaa.Base Go.Proofs.Ytjeobbhaoahdcaa.GaA Go.Proofs.Ytjeobbhaoahdcaa.GmA
set_option linter.unusedVariables false
set_option linter.unusedSimpArgs false

def ivs (f : Int → Option Int) : Int → Option Value := fun x => (f x).map (Value.int .i64)
def iput (f : Int → Option Int) (k v : Int) : Int → Option Int := fun x => if x = k then some v else f x
theorem ivs_put (f : Int → Option Int) (k v : Int) : ivs (iput f k v) = put (ivs f) k (.int .i64 v) := by
  funext x
  unfold ivs iput put
  split <;> rfl
theorem zeroI (w : World) : (zeroValue 3).run Try.prog w = .ok (.int .i64 0) w := Try.zeroValue3 w
/-- A map of places in memory. -/
structure P2 (w : World) (pb fm pm size : Nat) (fr pl : Int → Option Int) (c : Nat) : Prop where
  blk : w.heap[pb]? = some (.cells #[.map (some fm), .map (some pm), .int .i64 size] 147 (0, 0))
  mf : IMap w fm (ivs fr) c
  mp : IMap w pm (ivs pl) c
  ne : fm ≠ pm
section
variable {w w' : World} {pb fm pm size : Nat} {fr pl : Int → Option Int} {c : Nat}
theorem P2.chg {F : Nat → Prop} (h : P2 w pb fm pm size fr pl c) (hc : Chg F w w') (h1 : ¬ F pb) (h2 : ¬ F fm) (h3 : ¬ F pm) : P2 w' pb fm pm size fr pl c :=
  ⟨hc.blk h.blk h1, h.mf.chg hc h2, h.mp.chg hc h3, h.ne⟩
theorem P2.below (h : P2 w pb fm pm size fr pl c) (hb : Below w.heap.size w w') : P2 w' pb fm pm size fr pl c := h.chg (Chg.below (fun _ => False) hb) (fun h => h) (fun h => h) (fun h => h)
theorem P2.lt (h : P2 w pb fm pm size fr pl c) : pb < w.heap.size ∧ fm < w.heap.size ∧ pm < w.heap.size := ⟨blk_lt h.blk, h.mf.lt, h.mp.lt⟩
theorem P2.nef (h : P2 w pb fm pm size fr pl c) : pb ≠ fm := by
  rintro rfl
  obtain ⟨es, clock, h1⟩ := h.mf.is
  rw [h.blk] at h1
  cases h1
theorem P2.nep (h : P2 w pb fm pm size fr pl c) : pb ≠ pm := by
  rintro rfl
  obtain ⟨es, clock, h1⟩ := h.mp.is
  rw [h.blk] at h1
  cases h1
set_option maxHeartbeats 2000000 in
set_option maxRecDepth 100000 in
theorem new_calls (w : World) (n : Nat) (hn : n ≤ 48) : Calls Try.prog 33 #[.int .i64 n] w fun e w' => ∃ pb fm pm, e = .returned (.tuple #[.pointer (some ⟨pb, 0, none⟩), .int .i64 0]) ∧ P2 w' pb fm pm n (fun _ => none) (fun _ => none) 0 ∧ (w.heap.size ≤ pb ∧ w.heap.size ≤ fm ∧ w.heap.size ≤ pm) ∧ Below w.heap.size w w' := by
  have hmm := @run_makeMap Try.prog
  have d0 : decide ((n : Int) < 0) = false := decide_eq_false (by omega)
  have d1 : decide ((48 : Int) < (n : Int)) = false := decide_eq_false (by omega)
  go_enter Try.func33, Try.ntmps33
  go_wp2
  go_ret2
  exact ⟨w.heap.size + 1 + 1, w.heap.size, w.heap.size + 1, rfl, ⟨blk_newest (by simp) _, IMap.made_at (blk_alloc (blk_alloc (blk_new _ _) _) _), IMap.made_at (blk_alloc (blk_newest (by simp) _) _), by omega⟩, ⟨by omega, Nat.le_refl _, by omega⟩, below_alloc (below_alloc (below_alloc (Below.refl _ _) _) _) _⟩
theorem eqm (w : World) (r : Option Nat) : (binOp .eql 145 (.map r) (.map none)).run Try.prog w = .ok (.bool r.isNone) w := run_eql_map_nil w _ _ _ r Try.underlying145
set_option maxHeartbeats 2000000 in
set_option maxRecDepth 100000 in
theorem none_calls (h : P2 w pb fm pm size fr pl c) : Calls Try.prog 82 #[.pointer (some ⟨pb, 0, none⟩)] w fun e w' => e = .returned (.bool false) ∧ w' = w := by
  have C0 := fun i => blk_cell h.blk i
  have L0 := blk_lt h.blk
  have q0 := eqm
  clear h
  go_enter Try.func82, Try.ntmps82
  go_wp2
  go_ret
  exact ⟨by first | rfl | (simp; done), rfl⟩
set_option maxHeartbeats 2000000 in
set_option maxRecDepth 100000 in
theorem place_calls (h : P2 w pb fm pm size fr pl c) (g : Nat) (hg : g < size) : Calls Try.prog 75 #[.pointer (some ⟨pb, 0, none⟩), .int .i64 g] w fun e w' => e = .returned (.int .i64 0) ∧ w' = w := by
  have C0 := fun i => blk_cell h.blk i
  have L0 := blk_lt h.blk
  have hn := none_calls h
  have d0 : decide ((g : Int) < 0) = false := decide_eq_false (by omega)
  have d1 : decide ((size : Int) ≤ (g : Int)) = false := decide_eq_false (by omega)
  clear h
  go_enter Try.func75, Try.ntmps75
  go_wp2_with (first
    | (go_at_call 82; refine hn.mono ?_; rintro z w1 ⟨rfl, hw1⟩; obtain rfl := hw1.symm)
    | go_in)
  go_ret
  exact ⟨by first | rfl | (simp; done), rfl⟩
set_option maxHeartbeats 2000000 in
set_option maxRecDepth 100000 in
theorem place_out (h : P2 w pb fm pm size fr pl c) (g : Int) (hg : g < 0 ∨ (size : Int) ≤ g) : Calls Try.prog 75 #[.pointer (some ⟨pb, 0, none⟩), .int .i64 g] w fun e w' => e = .returned (.int .i64 1) ∧ w' = w := by
  have C0 := fun i => blk_cell h.blk i
  have L0 := blk_lt h.blk
  have hn := none_calls h
  clear h
  by_cases h0 : g < 0
  · have d0 : decide (g < 0) = true := decide_eq_true h0
    clear hg h0
    go_enter Try.func75, Try.ntmps75
    go_wp2_with (first
      | (go_at_call 82; refine hn.mono ?_; rintro z w1 ⟨rfl, hw1⟩; obtain rfl := hw1.symm)
      | go_in)
    go_ret
    exact ⟨by first | rfl | (simp; done), rfl⟩
  · have d0 : decide (g < 0) = false := decide_eq_false h0
    have d1 : decide ((size : Int) ≤ g) = true := decide_eq_true (by omega)
    clear hg h0
    go_enter Try.func75, Try.ntmps75
    go_wp2_with (first
      | (go_at_call 82; refine hn.mono ?_; rintro z w1 ⟨rfl, hw1⟩; obtain rfl := hw1.symm)
      | go_in)
    go_ret
    exact ⟨by first | rfl | (simp; done), rfl⟩
/-- Get's answer. -/
def getV (size : Nat) (fr : Int → Option Int) (g : Int) : Int × Int := if 0 ≤ g ∧ g < size then (match fr g with | some m => (m, 0) | none => (0, 6)) else (0, 1)
set_option maxHeartbeats 2000000 in
set_option maxRecDepth 100000 in
theorem get_calls (h : P2 w pb fm pm size fr pl c) (g : Int) (hs : size ≤ 48) : Calls Try.prog 67 #[.pointer (some ⟨pb, 0, none⟩), .int .i64 g] w fun e w' => e = .returned (.tuple #[.int .i64 (getV size fr g).1, .int .i64 (getV size fr g).2]) ∧ w' = w := by
  have C0 := fun i => blk_cell h.blk i
  have L0 := blk_lt h.blk
  by_cases hg : 0 ≤ g ∧ g < size
  · have hk := h.mf.look_ok Try.underlying145 (zeroI w) g (by omega) (by omega)
    obtain ⟨k, rfl⟩ : ∃ k : Nat, g = k := ⟨g.toNat, by omega⟩
    have hp := place_calls h k (by omega)
    have hv : getV size fr k = (match fr k with | some m => (m, 0) | none => (0, 6)) := if_pos hg
    rw [hv]
    cases hf : fr k with
    | none =>
      have e1 : ivs fr k = none := by unfold ivs; rw [hf]; rfl
      rw [e1] at hk
      simp only [Option.getD_none, Option.isSome_none] at hk
      clear h hv hg
      go_enter Try.func67, Try.ntmps67
      go_wp2_with (first
        | (go_at_call 75; refine hp.mono ?_; rintro z w1 ⟨rfl, hw1⟩; obtain rfl := hw1.symm)
        | go_in)
      go_ret2
      exact ⟨by first | rfl | (simp; done), rfl⟩
    | some m =>
      have e1 : ivs fr k = some (.int .i64 m) := by unfold ivs; rw [hf]; rfl
      rw [e1] at hk
      simp only [Option.getD_some, Option.isSome_some] at hk
      clear h hv hg
      go_enter Try.func67, Try.ntmps67
      go_wp2_with (first
        | (go_at_call 75; refine hp.mono ?_; rintro z w1 ⟨rfl, hw1⟩; obtain rfl := hw1.symm)
        | go_in)
      go_ret2
      exact ⟨by first | rfl | (simp; done), rfl⟩
  · have hp := place_out h g (by omega)
    have hv : getV size fr g = (0, 1) := if_neg hg
    rw [hv]
    clear h hv hg
    go_enter Try.func67, Try.ntmps67
    go_wp2_with (first
      | (go_at_call 75; refine hp.mono ?_; rintro z w1 ⟨rfl, hw1⟩; obtain rfl := hw1.symm)
      | go_in)
    go_ret2
    exact ⟨by first | rfl | (simp; done), rfl⟩
set_option maxHeartbeats 2000000 in
set_option maxRecDepth 100000 in
theorem find_none (h : P2 w pb fm pm size fr pl c) (m : Int) (h0 : -1000000 ≤ m) (h1 : m ≤ 1000000) (hm : pl m = none) : Calls Try.prog 66 #[.pointer (some ⟨pb, 0, none⟩), .int .i64 m] w fun e w' => e = .returned (.tuple #[.int .i64 0, .int .i64 6]) ∧ w' = w := by
  have C0 := fun i => blk_cell h.blk i
  have L0 := blk_lt h.blk
  have hn := none_calls h
  have hk := h.mp.look_ok Try.underlying145 (zeroI w) m (by omega) (by omega)
  have e1 : ivs pl m = none := by unfold ivs; rw [hm]; rfl
  rw [e1] at hk
  simp only [Option.getD_none, Option.isSome_none] at hk
  clear h
  go_enter Try.func66, Try.ntmps66
  go_wp2_with (first
    | (go_at_call 82; refine hn.mono ?_; rintro z w1 ⟨rfl, hw1⟩; obtain rfl := hw1.symm)
    | go_in)
  go_ret2
  exact ⟨by first | rfl | (simp; done), rfl⟩
theorem setBlock_self {W : World} {M : Nat} {o : Obj} (h : W.heap[M]? = some o) : Go.ChangeMaps.setBlock W M o = W := by
  unfold Go.ChangeMaps.setBlock
  have : W.heap.setIfInBounds M o = W.heap := by
    apply Array.ext_getElem?
    intro i
    rw [Array.getElem?_setIfInBounds]
    split
    · rename_i e
      subst e
      rw [if_pos (blk_lt h), h]
    · rfl
  rw [this]
theorem setBlock_twice (W : World) (M : Nat) (o p : Obj) : Go.ChangeMaps.setBlock (Go.ChangeMaps.setBlock W M o) M p = Go.ChangeMaps.setBlock W M p := by
  unfold Go.ChangeMaps.setBlock
  simp
theorem setBlock_comm (W : World) {f p : Nat} (h : f ≠ p) (a b c : Obj) : Go.ChangeMaps.setBlock (Go.ChangeMaps.setBlock (Go.ChangeMaps.setBlock W f a) p b) f c = Go.ChangeMaps.setBlock (Go.ChangeMaps.setBlock W f c) p b := by
  unfold Go.ChangeMaps.setBlock
  have : ((W.heap.setIfInBounds f a).setIfInBounds p b).setIfInBounds f c = (W.heap.setIfInBounds f c).setIfInBounds p b := by
    apply Array.ext_getElem?
    intro i
    simp only [Array.getElem?_setIfInBounds, Array.size_setIfInBounds]
    by_cases h1 : f = i
    · subst h1
      simp [h.symm]
    · simp [h1]
  simp only [this]
theorem setBlock_cell (W : World) (M k i : Nat) (h : k ≠ M) (o : Obj) : (Go.ChangeMaps.setBlock W M o).cell? ⟨k, i, none⟩ = W.cell? ⟨k, i, none⟩ := World.cell?_of_block (setBlock_far W h o)
set_option maxHeartbeats 4000000 in
set_option maxRecDepth 100000 in
theorem set_calls (h : P2 w pb fm pm size fr pl c) (g m : Nat) (hg : g < size) (hs : size ≤ 48) (hm : m < 256) (hf : fr g = none) (hp : pl m = none) (hc : c < 1000) :
    Calls Try.prog 41 #[.pointer (some ⟨pb, 0, none⟩), .int .i64 g, .int .i64 m] w fun e w' => e = .returned (.int .i64 0) ∧ P2 w' pb fm pm size (iput fr g m) (iput pl m g) (c + 1) ∧ Chg (fun k => k = fm ∨ k = pm) w w' := by
  have C0 := fun i => blk_cell h.blk i
  have L0 := blk_lt h.blk
  have hpl := place_calls h g hg
  have e1 : ivs fr g = none := by unfold ivs; rw [hf]; rfl
  have e2 : ivs pl m = none := by unfold ivs; rw [hp]; rfl
  have hk1 := h.mf.look_ok Try.underlying145 (zeroI w) g (by omega) (by omega)
  have hk2 := h.mp.look_ok Try.underlying145 (zeroI w) m (by omega) (by omega)
  rw [e1] at hk1
  rw [e2] at hk2
  simp only [Option.getD_none, Option.isSome_none] at hk1 hk2
  obtain ⟨st1, o0, o1, o2, a0, a1, a2, a3⟩ := h.mf.entry Try.underlying145 zeroI g (by omega) (by omega) (.int .i64 m) (by omega) e1
  obtain ⟨st2, p0, p1, p2, b0, b1, b2, b3⟩ := h.mp.entry Try.underlying145 zeroI m (by omega) (by omega) (.int .i64 g) (by omega) e2
  have d0 : decide ((m : Int) < 0) = false := decide_eq_false (by omega)
  have d1 : decide ((256 : Int) ≤ (m : Int)) = false := decide_eq_false (by omega)
  obtain ⟨X, hX⟩ : ∃ X : Obj → Obj → World, X = fun oa ob => Go.ChangeMaps.setBlock (Go.ChangeMaps.setBlock w.drew fm oa) pm ob := ⟨_, rfl⟩
  have hX00 : X o0 p0 = w.drew := by
    rw [hX]
    show Go.ChangeMaps.setBlock (Go.ChangeMaps.setBlock w.drew fm o0) pm p0 = w.drew
    rw [setBlock_self (W := w.drew) a0, setBlock_self (W := w.drew) b0]
  have hXf : ∀ oa ob oa', Go.ChangeMaps.setBlock (X oa ob) fm oa' = X oa' ob := fun oa ob oa' => by rw [hX]; exact setBlock_comm _ h.ne _ _ _
  have hXp : ∀ oa ob ob', Go.ChangeMaps.setBlock (X oa ob) pm ob' = X oa ob' := fun oa ob ob' => by rw [hX]; exact setBlock_twice _ _ _ _
  have gf : ∀ oa ob, (X oa ob).heap[fm]? = some oa := fun oa ob => by rw [hX]; exact (setBlock_far _ h.ne _).trans (setBlock_at h.mf.lt _)
  have gp : ∀ oa ob, (X oa ob).heap[pm]? = some ob := fun oa ob => by rw [hX]; exact setBlock_at (by rw [setBlock_size]; exact h.mp.lt) _
  have gc : ∀ oa ob i, (X oa ob).cell? ⟨pb, i, none⟩ = w.cell? ⟨pb, i, none⟩ := fun oa ob i => by rw [hX]; exact (setBlock_cell _ pm pb i h.nep _).trans ((setBlock_cell _ fm pb i h.nef _).trans rfl)
  have gs : ∀ oa ob, (X oa ob).heap.size = w.heap.size := fun oa ob => by rw [hX]; show (Go.ChangeMaps.setBlock _ pm ob).heap.size = _; rw [setBlock_size, setBlock_size]; rfl
  have r1 : ∀ ob, (Instr.mapEntry 145 (.map (some fm)) (.int .i64 g)).run Try.prog (X o0 ob) = .ok (.tuple #[.int .i64 0, .int .i64 st1]) (X o1 ob) := fun ob => by rw [a1 _ (gf o0 ob), hXf]
  have r2 : ∀ ob, (Instr.entryStore 145 (.map (some fm)) (.int .i64 st1) (.int .i64 m)).run Try.prog (X o1 ob) = .ok () (X o2 ob) := fun ob => by rw [a2 _ (gf o1 ob), hXf]
  have r3 : ∀ oa, (Instr.mapEntry 145 (.map (some pm)) (.int .i64 m)).run Try.prog (X oa p0) = .ok (.tuple #[.int .i64 0, .int .i64 st2]) (X oa p1) := fun oa => by rw [b1 _ (gp oa p0), hXp]
  have r4 : ∀ oa, (Instr.entryStore 145 (.map (some pm)) (.int .i64 st2) (.int .i64 g)).run Try.prog (X oa p1) = .ok () (X oa p2) := fun oa => by rw [b2 _ (gp oa p1), hXp]
  have r5 := r1 p0
  have r6 := r3 o0
  rw [hX00] at r5 r6
  have hfin : Chg (fun k => k = fm ∨ k = pm) w (X o2 p2) := by
    rw [hX]
    exact (((Chg.refl _ w).drew.trans ((setBlock_chg w.drew fm o2).mono fun k hk => .inl hk))).trans ((setBlock_chg _ pm p2).mono fun k hk => .inr hk)
  have hend : P2 (X o2 p2) pb fm pm size (iput fr g m) (iput pl m g) (c + 1) :=
    ⟨hfin.blk h.blk (by rintro (h1 | h1); exact h.nef h1; exact h.nep h1), by rw [ivs_put]; exact a3 _ (gf o2 p2), by rw [ivs_put]; exact b3 _ (gp o2 p2), h.ne⟩
  have HE := Base.Aside.mk (And.intro hend hfin)
  clear hXf hXp gf gp hX00 hX a0 a1 a2 a3 b0 b1 b2 b3 hend hfin
  have L1 := h.mf.lt
  have L2 := h.mp.lt
  clear h e1 e2 hf hp
  go_enter Try.func41, Try.ntmps41
  go_wp2_with (first
    | (go_at_call 75; refine hpl.mono ?_; rintro z w1 ⟨rfl, hw1⟩; obtain rfl := hw1.symm)
    | go_in)
  go_region
  all_goals
    go_wp2
    go_ret
    exact ⟨by first | rfl | (simp; done), HE.out.1, HE.out.2⟩
end
end Go.Proofs.Ytjeobbhaoahdcaa.GpA
namespace Go.Proofs.Ytjeobbhaoahdcaa.GaB
open Go.RowKit Go.Proofs.Ytjeobbhaoahdcaa.Base Go.Proofs.Ytjeobbhaoahdcaa.GaA
set_option linter.unusedVariables false
set_option linter.unusedSimpArgs false

def MS.put1 (s : MS) (k : Nat) (f : Fr) : MS := { s with fr := fun i => if i = k then f else s.fr i }
def getE (f : Fr) (owner kind : Int) : Int := if f.own = -1 then 11 else if f.own ≠ owner then 12 else if kind ≠ 0 ∧ f.typ ≠ 0 ∧ f.typ ≠ kind then 13 else 0
def getF (f : Fr) (kind : Int) : Fr := if kind = 0 then ⟨f.own, f.typ, f.cnt, f.tot + 1⟩ else ⟨f.own, kind, f.cnt + 1, f.tot + 1⟩
def getS (s : MS) (k : Nat) (owner kind : Int) : MS := if getE (s.fr k) owner kind = 0 then MS.put1 s k (getF (s.fr k) kind) else s
/-- How many references there are: far from what an int holds. -/
def Fr.few (f : Fr) : Prop := -1000000000 ≤ f.cnt ∧ f.cnt ≤ 1000000000 ∧ -1000000000 ≤ f.tot ∧ f.tot ≤ 1000000000
section
variable {w w' : World} {mb fb : Nat} {s : MS}
theorem cells_put1 {cs : Array Value} {n k : Nat} {f g : Nat → Nat → Value} (h : CellsAre cs n f) (h2 : ∀ i j, i < n → j < 260 → f i j = g i j) : CellsAre cs n g := h.of h2
set_option maxHeartbeats 2000000 in
set_option maxRecDepth 100000 in
theorem frame_calls (h : Mach w mb fb s) (k : Nat) (hk : k < s.n) : Calls Try.prog 13 #[.pointer (some ⟨mb, 0, none⟩), .int .i64 k] w fun e w' =>
    e = .returned (.tuple #[.agg #[.int .i64 (s.fr k).own, .int .i64 (s.fr k).typ, .int .i64 (s.fr k).cnt, .int .i64 (s.fr k).tot], .int .i64 0]) ∧ Below w.heap.size w w' := by
  have hb0 := below_alloc (Below.refl w.heap.size w) (.cells #[.int .i64 0, .int .i64 0, .int .i64 0, .int .i64 0] 46)
  have h1 := h.below hb0
  have ha := at_calls h1 k hk
  have c0 := h1.own k hk
  have c1 := h1.typ k hk
  have c2 := h1.cnt k hk
  have c3 := h1.tot k hk
  have L1 := h1.lt.2
  clear hb0 h1 h
  go_enter Try.func13, Try.ntmps13
  go_wp2_with (first
    | (go_at_call 48; refine ha.mono ?_; rintro z w1 ⟨rfl, hw1⟩; obtain rfl := hw1.symm)
    | go_in)
  refine bodyPost_ret (v := .tuple #[.agg #[.int .i64 (s.fr k).own, .int .i64 (s.fr k).typ, .int .i64 (s.fr k).cnt, .int .i64 (s.fr k).tot], .int .i64 0]) ?_ rfl ⟨rfl, ?_⟩
  · simp only [results, Try.results13]; go_simp
  · exact below_alloc (Below.refl w.heap.size w) _
set_option maxHeartbeats 2000000 in
set_option maxRecDepth 100000 in
theorem frame_out (h : Mach w mb fb s) (k : Int) (hk : k < 0 ∨ (s.n : Int) ≤ k) : Calls Try.prog 13 #[.pointer (some ⟨mb, 0, none⟩), .int .i64 k] w fun e w' =>
    e = .returned (.tuple #[.agg #[.int .i64 0, .int .i64 0, .int .i64 0, .int .i64 0], .int .i64 1]) ∧ Below w.heap.size w w' := by
  have hb0 := below_alloc (Below.refl w.heap.size w) (.cells #[.int .i64 0, .int .i64 0, .int .i64 0, .int .i64 0] 46)
  have ha := at_out (h.below hb0) k hk
  clear hb0 h
  go_enter Try.func13, Try.ntmps13
  go_wp2_with (first
    | (go_at_call 48; refine ha.mono ?_; rintro z w1 ⟨rfl, hw1⟩; obtain rfl := hw1.symm)
    | go_in)
  refine bodyPost_ret (v := .tuple #[.agg #[.int .i64 0, .int .i64 0, .int .i64 0, .int .i64 0], .int .i64 1]) ?_ rfl ⟨rfl, ?_⟩
  · simp only [results, Try.results13]; go_simp
  · exact below_alloc (Below.refl w.heap.size w) _
set_option maxHeartbeats 2000000 in
set_option maxRecDepth 100000 in
theorem kinds_calls (h : Mach w mb fb s) (k : Nat) (hk : k < s.n) (kind : Int) (h0 : 0 ≤ kind) (h3 : kind ≤ 3) : Calls Try.prog 81 #[.pointer (some ⟨mb, 0, none⟩), .int .i64 k, .int .i64 kind] w fun e w' => e = .returned (.tuple #[.pointer (some ⟨fb, k * 260, none⟩), .int .i64 0]) ∧ w' = w := by
  have ha := at_calls h k hk
  have d0 : decide (kind < 0) = false := decide_eq_false (by omega)
  have d1 : decide (3 < kind) = false := decide_eq_false (by omega)
  clear h
  go_enter Try.func81, Try.ntmps81
  go_wp2_with (first
    | (go_at_call 48; refine ha.mono ?_; rintro z w1 ⟨rfl, hw1⟩; obtain rfl := hw1.symm)
    | go_in)
  go_ret2
  exact ⟨by first | rfl | (simp; done), rfl⟩
set_option maxHeartbeats 2000000 in
set_option maxRecDepth 100000 in
theorem kinds_out (h : Mach w mb fb s) (k : Int) (hk : k < 0 ∨ (s.n : Int) ≤ k) (kind : Int) : Calls Try.prog 81 #[.pointer (some ⟨mb, 0, none⟩), .int .i64 k, .int .i64 kind] w fun e w' => e = .returned (.tuple #[.pointer none, .int .i64 1]) ∧ w' = w := by
  have ha := at_out h k hk
  clear h
  go_enter Try.func81, Try.ntmps81
  go_wp2_with (first
    | (go_at_call 48; refine ha.mono ?_; rintro z w1 ⟨rfl, hw1⟩; obtain rfl := hw1.symm)
    | go_in)
  go_ret2
  exact ⟨by first | rfl | (simp; done), rfl⟩
theorem put1_cells {cs : Array Value} {n k : Nat} (hk : k < n) {s : MS} (hn : s.n = n) (f : Fr) {v1 v2 v3 : Value} (h : CellsAre cs n (cellM s)) (e0 : f.own = (s.fr k).own) :
    CellsAre (((cs.setIfInBounds (k * 260 + 3) (.int .i64 f.tot)).setIfInBounds (k * 260 + 1) (.int .i64 f.typ)).setIfInBounds (k * 260 + 2) (.int .i64 f.cnt)) n (cellM (MS.put1 s k f)) := by
  refine (((h.set k 3 hk (by decide) _).set k 1 hk (by decide) _).set k 2 hk (by decide) _).of fun i j hi hj => ?_
  unfold cellM MS.put1
  by_cases hik : i = k
  · subst hik
    by_cases j0 : j = 0
    · subst j0
      simp [e0]
    · by_cases j1 : j = 1
      · subst j1
        simp
      · by_cases j2 : j = 2
        · subst j2
          simp
        · by_cases j3 : j = 3
          · subst j3
            simp
          · simp [j0, j1, j2, j3]
  · simp [hik]
theorem put1_tot {cs : Array Value} {n k : Nat} (hk : k < n) {s : MS} (h : CellsAre cs n (cellM s)) (t : Int) :
    CellsAre (cs.setIfInBounds (k * 260 + 3) (.int .i64 t)) n (cellM (MS.put1 s k ⟨(s.fr k).own, (s.fr k).typ, (s.fr k).cnt, t⟩)) := by
  refine (h.set k 3 hk (by decide) _).of fun i j hi hj => ?_
  unfold cellM MS.put1
  by_cases hik : i = k
  · subst hik
    by_cases j0 : j = 0
    · subst j0
      simp
    · by_cases j1 : j = 1
      · subst j1
        simp
      · by_cases j2 : j = 2
        · subst j2
          simp
        · by_cases j3 : j = 3
          · subst j3
            simp
          · simp [j0, j1, j2, j3]
  · simp [hik]
theorem chg_fb {W : World} (h : Chg (fun x => x = fb) w W) (i : Nat) (u : Value) : Chg (fun x => x = fb) w (W.setCell ⟨fb, i, none⟩ u) := h.set (p := ⟨fb, i, none⟩) (.inl rfl) u
theorem mach_tot (h : Mach w mb fb s) (k : Nat) (hk : k < s.n) (t : Int) : Mach (w.setCell ⟨fb, k * 260 + 3, none⟩ (.int .i64 t)) mb fb (MS.put1 s k ⟨(s.fr k).own, (s.fr k).typ, (s.fr k).cnt, t⟩) := by
  obtain ⟨cs, h1, h2⟩ := h.lst
  exact ⟨blk_far h.blk h.ne _, ⟨_, blk_put h1 _ _ rfl, put1_tot hk h2 t⟩, h.few⟩
theorem mach_three (h : Mach w mb fb s) (k : Nat) (hk : k < s.n) (y c t : Int) : Mach (((w.setCell ⟨fb, k * 260 + 3, none⟩ (.int .i64 t)).setCell ⟨fb, k * 260 + 1, none⟩ (.int .i64 y)).setCell ⟨fb, k * 260 + 2, none⟩ (.int .i64 c)) mb fb (MS.put1 s k ⟨(s.fr k).own, y, c, t⟩) := by
  obtain ⟨cs, h1, h2⟩ := h.lst
  exact ⟨blk_far (blk_far (blk_far h.blk h.ne _) h.ne _) h.ne _, ⟨_, blk_put (blk_put (blk_put h1 _ _ rfl) _ _ rfl) _ _ rfl, put1_cells (v1 := .bool true) (v2 := .bool true) (v3 := .bool true) hk rfl ⟨(s.fr k).own, y, c, t⟩ h2 rfl⟩, h.few⟩
/-- What Get comes to. -/
def GetOut (mb fb : Nat) (s : MS) (k : Nat) (owner kind : Int) (w : World) (e : Ending) (w' : World) : Prop := e = .returned (.int .i64 (getE (s.fr k) owner kind)) ∧ Mach w' mb fb (getS s k owner kind) ∧ Chg (· = fb) w w'
set_option maxHeartbeats 4000000 in
set_option maxRecDepth 100000 in
theorem get_calls (h : Mach w mb fb s) (k : Nat) (hk : k < s.n) (owner kind : Int) (h0 : 0 ≤ kind) (h3 : kind ≤ 3) (hf : Fr.few (s.fr k)) : Calls Try.prog 60 #[.pointer (some ⟨mb, 0, none⟩), .int .i64 k, .int .i64 owner, .int .i64 kind] w (GetOut mb fb s k owner kind w) := by
  have ha := kinds_calls h k hk kind h0 h3
  have c0 := h.own k hk
  have c1 := h.typ k hk
  have c2 := h.cnt k hk
  have c3 := h.tot k hk
  have F0 := h.frozen
  have L1 := h.lt.2
  have HH := Base.Aside.mk h
  obtain ⟨b0, b1, b2, b3⟩ := hf
  clear h
  by_cases e1 : (s.fr k).own = -1
  · have d1 : ((s.fr k).own == -1) = true := by simp [e1]
    have HE := Base.Aside.mk e1
    clear e1
    go_enter Try.func60, Try.ntmps60
    go_wp2_with (first
      | (go_at_call 81; refine ha.mono ?_; rintro z w1 ⟨rfl, hw1⟩; obtain rfl := hw1.symm)
      | go_in)
    go_ret
    have hg : getE (s.fr k) owner kind = 11 := by unfold getE; rw [if_pos HE.out]
    exact ⟨by rw [hg]; first | rfl | (simp; done), by unfold getS; rw [hg]; exact HH.out, Chg.refl _ _⟩
  · have d1 : ((s.fr k).own == -1) = false := by simp [e1]
    have HE := Base.Aside.mk e1
    clear e1
    by_cases e2 : (s.fr k).own = owner
    · have d2 : ((s.fr k).own == owner) = true := by simp [e2]
      have d2' : ((s.fr k).own != owner) = false := by simp [e2]
      have HE2 := Base.Aside.mk e2
      clear e2
      by_cases e3 : kind = 0
      · subst e3
        go_enter Try.func60, Try.ntmps60
        go_wp2_with (first
          | (go_at_call 81; refine ha.mono ?_; rintro z w1 ⟨rfl, hw1⟩; obtain rfl := hw1.symm)
          | go_in)
        go_ret
        have hg : getE (s.fr k) owner 0 = 0 := by unfold getE; rw [if_neg HE.out, if_neg (by simp [HE2.out]), if_neg (by simp)]
        refine ⟨by rw [hg]; first | rfl | (simp; done), ?_, ?_⟩
        · unfold getS
          rw [hg, if_pos rfl]
          unfold getF
          rw [if_pos rfl]
          exact mach_tot HH.out k hk _
        · exact chg_fb (Chg.refl _ w) _ _
      · have d3 : (kind == 0) = false := by simp [e3]
        have d3' : (kind != 0) = true := by simp [e3]
        have HK := Base.Aside.mk e3
        clear e3
        by_cases e4 : (s.fr k).typ = 0
        · have d4 : ((s.fr k).typ == 0) = true := by simp [e4]
          have d4' : ((s.fr k).typ != 0) = false := by simp [e4]
          have HT := Base.Aside.mk e4
          clear e4
          go_enter Try.func60, Try.ntmps60
          go_wp2_with (first
            | (go_at_call 81; refine ha.mono ?_; rintro z w1 ⟨rfl, hw1⟩; obtain rfl := hw1.symm)
            | go_in)
          go_ret
          have hg : getE (s.fr k) owner kind = 0 := by unfold getE; rw [if_neg HE.out, if_neg (by simp [HE2.out]), if_neg (by simp [HT.out])]
          refine ⟨by rw [hg]; first | rfl | (simp; done), ?_, ?_⟩
          · unfold getS
            rw [hg, if_pos rfl]
            unfold getF
            rw [if_neg HK.out]
            exact mach_three HH.out k hk _ _ _
          · exact chg_fb (chg_fb (chg_fb (Chg.refl _ w) _ _) _ _) _ _
        · have d4 : ((s.fr k).typ == 0) = false := by simp [e4]
          have d4' : ((s.fr k).typ != 0) = true := by simp [e4]
          have HT := Base.Aside.mk e4
          clear e4
          by_cases e5 : (s.fr k).typ = kind
          · have d5 : ((s.fr k).typ == kind) = true := by simp [e5]
            have d5' : ((s.fr k).typ != kind) = false := by simp [e5]
            have HT5 := Base.Aside.mk e5
            clear e5
            go_enter Try.func60, Try.ntmps60
            go_wp2_with (first
              | (go_at_call 81; refine ha.mono ?_; rintro z w1 ⟨rfl, hw1⟩; obtain rfl := hw1.symm)
              | go_in)
            go_ret
            have hg : getE (s.fr k) owner kind = 0 := by unfold getE; rw [if_neg HE.out, if_neg (by simp [HE2.out]), if_neg (by simp [HT5.out])]
            refine ⟨by rw [hg]; first | rfl | (simp; done), ?_, ?_⟩
            · unfold getS
              rw [hg, if_pos rfl]
              unfold getF
              rw [if_neg HK.out]
              exact mach_three HH.out k hk _ _ _
            · exact chg_fb (chg_fb (chg_fb (Chg.refl _ w) _ _) _ _) _ _
          · have d5 : ((s.fr k).typ == kind) = false := by simp [e5]
            have d5' : ((s.fr k).typ != kind) = true := by simp [e5]
            have HT5 := Base.Aside.mk e5
            clear e5
            go_enter Try.func60, Try.ntmps60
            go_wp2_with (first
              | (go_at_call 81; refine ha.mono ?_; rintro z w1 ⟨rfl, hw1⟩; obtain rfl := hw1.symm)
              | go_in)
            go_ret
            have hg : getE (s.fr k) owner kind = 13 := by unfold getE; rw [if_neg HE.out, if_neg (by simp [HE2.out]), if_pos ⟨HK.out, HT.out, HT5.out⟩]
            exact ⟨by rw [hg]; first | rfl | (simp; done), by unfold getS; rw [hg]; exact HH.out, Chg.refl _ _⟩
    · have d2 : ((s.fr k).own == owner) = false := by simp [e2]
      have d2' : ((s.fr k).own != owner) = true := by simp [e2]
      have HE2 := Base.Aside.mk e2
      clear e2
      go_enter Try.func60, Try.ntmps60
      go_wp2_with (first
        | (go_at_call 81; refine ha.mono ?_; rintro z w1 ⟨rfl, hw1⟩; obtain rfl := hw1.symm)
        | go_in)
      go_ret
      have hg : getE (s.fr k) owner kind = 12 := by unfold getE; rw [if_neg HE.out, if_pos HE2.out]
      exact ⟨by rw [hg]; first | rfl | (simp; done), by unfold getS; rw [hg]; exact HH.out, Chg.refl _ _⟩
end
end Go.Proofs.Ytjeobbhaoahdcaa.GaB
