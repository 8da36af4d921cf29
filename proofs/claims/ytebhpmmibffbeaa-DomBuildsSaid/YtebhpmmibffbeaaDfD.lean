/- Proved: what Build holds while it takes frames and lays places, and its steps (contracts for the laws of the domains). -/
import Derived.Test.YtebhpmmibffbeaaDfC
namespace Go.Proofs.Ytebhpmmibffbeaa.DfD
open Go.RowKit Go.Maps Go.Proofs.Ytebhpmmibffbeaa.Base Go.Proofs.Ytebhpmmibffbeaa.GaA Go.Proofs.Ytebhpmmibffbeaa.GaB Go.Proofs.Ytebhpmmibffbeaa.GaC Go.Proofs.Ytebhpmmibffbeaa.GaD Go.Proofs.Ytebhpmmibffbeaa.GmA Go.Proofs.Ytebhpmmibffbeaa.DaB Go.Proofs.Ytebhpmmibffbeaa.GpA Go.Proofs.Ytebhpmmibffbeaa.GgA Go.Proofs.Ytebhpmmibffbeaa.DbA Go.Proofs.Ytebhpmmibffbeaa.DbC Go.Proofs.Ytebhpmmibffbeaa.DdA Go.Proofs.Ytebhpmmibffbeaa.DeA Go.Proofs.Ytebhpmmibffbeaa.DeB Go.Proofs.Ytebhpmmibffbeaa.DeC Go.Proofs.Ytebhpmmibffbeaa.DfA Go.Proofs.Ytebhpmmibffbeaa.DfB
set_option linter.unusedVariables false
set_option linter.unusedSimpArgs false

/-- The machine while frames are taken. -/
def gvN (s : MS) (T : Nat) (d : Int) : Nat → MS
  | 0 => s
  | i + 1 => give (gvN s T d i) (T + i) d
theorem gvN_n (s : MS) (T : Nat) (d : Int) (i : Nat) : (gvN s T d i).n = s.n := by
  induction i with
  | zero => rfl
  | succ i ih => exact ih
theorem gvN_byt (s : MS) (T : Nat) (d : Int) (i : Nat) : (gvN s T d i).byt = s.byt := by
  induction i with
  | zero => rfl
  | succ i ih => exact ih
theorem gvN_fr (s : MS) (T : Nat) (d : Int) (i j : Nat) : (gvN s T d i).fr j = if T ≤ j ∧ j < T + i then ⟨d, (s.fr j).typ, (s.fr j).cnt, (s.fr j).tot⟩ else s.fr j := by
  induction i with
  | zero =>
    rw [if_neg (by omega)]
    rfl
  | succ i ih =>
    by_cases hj : j = T + i
    · subst hj
      have e1 : (gvN s T d (i + 1)).fr (T + i) = ⟨d, ((gvN s T d i).fr (T + i)).typ, ((gvN s T d i).fr (T + i)).cnt, ((gvN s T d i).fr (T + i)).tot⟩ := if_pos rfl
      have e2 : (gvN s T d i).fr (T + i) = s.fr (T + i) := by rw [ih, if_neg (by omega)]
      rw [e1, e2, if_pos (by omega)]
    · have e1 : (gvN s T d (i + 1)).fr j = (gvN s T d i).fr j := if_neg hj
      rw [e1, ih]
      by_cases hc : T ≤ j ∧ j < T + i
      · rw [if_pos hc, if_pos (by omega)]
      · rw [if_neg hc, if_neg (by omega)]
/-- The frames that were taken, in their turn. -/
def tkL (T i : Nat) : List Int := (List.range i).map fun (j : Nat) => ((T + j : Nat) : Int)
theorem tkL_snoc (T i : Nat) : tkL T (i + 1) = tkL T i ++ [((T + i : Nat) : Int)] := by
  unfold tkL
  rw [List.range_succ, List.map_append]
  rfl
theorem tkL_len (T i : Nat) : (tkL T i).length = i := by simp [tkL]
def plB (b m : Nat) : Int → Option Int := fun y => if (b : Int) ≤ y ∧ y < b + m then some (y - b) else none
theorem frB_put (b i : Nat) : iput (frB b i) i ((b + i : Nat) : Int) = frB b (i + 1) := by
  funext x
  unfold iput frB
  by_cases h : x = i
  · rw [if_pos h, if_pos (by omega), h]
    congr 1
  · rw [if_neg h]
    by_cases h2 : 0 ≤ x ∧ x < i
    · rw [if_pos h2, if_pos (by omega)]
    · rw [if_neg h2, if_neg (by omega)]
theorem plB_put (b i : Nat) : iput (plB b i) ((b + i : Nat) : Int) i = plB b (i + 1) := by
  funext y
  unfold iput plB
  by_cases h : y = ((b + i : Nat) : Int)
  · rw [if_pos h, if_pos (by omega), h]
    congr 1
    omega
  · rw [if_neg h]
    by_cases h2 : (b : Int) ≤ y ∧ y < b + i
    · rw [if_pos h2, if_pos (by omega)]
    · rw [if_neg h2, if_neg (by omega)]
theorem map_ne {W : World} {g k c : Nat} {cs : Array Value} {t : TypeId} {f : Int → Option Value} (h : W.heap[g]? = some (.cells cs t (0, 0))) (h2 : IMap W k f c) : g ≠ k := by
  rintro rfl
  obtain ⟨es, clock, h1⟩ := h2.is
  rw [h] at h1
  cases h1
/-- What Build holds: i frames are taken, j places laid. -/
structure Bb (w W : World) (hb mb fb xb t1 t5 t3 gb mm hm eb k T : Nat) (s : MS) (rt : Nat → Int) (f : Int → Option (Int × Nat)) (st sz tb : Nat → Int) (pp : Nat → Value) (g2 g4 g5 g6 B pb fm pm : Nat) (i j : Nat) : Prop where
  blk : W.heap[hb]? = some (.cells (hcL mb xb gb eb st sz tb pp) 51 (0, 0))
  m : Mach W mb fb s
  x : Mmu W xb mb t1 t5 t3 rt
  g : G2 W gb mm hm mb f k
  tn : ∃ V, Tn W g2 g4 g5 g6 hb k B V (tkL T i)
  p : P2 W pb fm pm 48 (frB T j) (plB T j) j
  nm : mm ≠ fm ∧ mm ≠ pm
  ge : w.heap.size ≤ fb ∧ w.heap.size ≤ g6 ∧ w.heap.size ≤ B ∧ w.heap.size ≤ fm ∧ w.heap.size ≤ pm
  bel : Below w.heap.size w W
section
variable {w w' W W' : World} {hb mb fb xb t1 t5 t3 gb mm hm eb k T : Nat} {s : MS} {rt : Nat → Int} {f : Int → Option (Int × Nat)} {st sz tb : Nat → Int} {pp : Nat → Value} {g2 g4 g5 g6 B pb fm pm i j : Nat}
theorem Bb.below (h : Bb w W hb mb fb xb t1 t5 t3 gb mm hm eb k T s rt f st sz tb pp g2 g4 g5 g6 B pb fm pm i j) (hB : Below W.heap.size W W') : Bb w W' hb mb fb xb t1 t5 t3 gb mm hm eb k T s rt f st sz tb pp g2 g4 g5 g6 B pb fm pm i j := by
  obtain ⟨V, ht⟩ := h.tn
  exact ⟨blk_below h.blk (blk_lt h.blk) hB, h.m.below hB, h.x.below hB, h.g.below hB, ⟨V, ht.below hB⟩, h.p.below hB, h.nm, h.ge, h.bel.trans (hB.mono h.bel.size)⟩
/-- One frame more. -/
theorem bb_take (h : Bb w W hb mb fb xb t1 t5 t3 gb mm hm eb k T (gvN s T k i) rt f st sz tb pp g2 g4 g5 g6 B pb fm pm i j) (hk : k < 8) (hi : T + i < s.n) (hi2 : i ≤ 55) (hlo : ∀ q, q < T → (s.fr q).own ≠ -1) (hhi : ∀ q, T ≤ q → (s.fr q).own = -1) :
    Calls Try.prog 20 #[.pointer (some ⟨g2, 0, none⟩), .pointer (some ⟨g4, 0, none⟩), .pointer (some ⟨g5, 0, none⟩), .pointer (some ⟨g6, 0, none⟩)] W fun e w' => e = .returned (.int .i64 ((T + i : Nat) : Int)) ∧ Bb w w' hb mb fb xb t1 t5 t3 gb mm hm eb k T (gvN s T k (i + 1)) rt f st sz tb pp g2 g4 g5 g6 B pb fm pm (i + 1) j := by
  obtain ⟨V, ht⟩ := h.tn
  obtain ⟨fs, m1, m2⟩ := h.m.lst
  have hc := DfA.take_calls ht h.blk rfl h.m (T + i) (by rw [gvN_n]; exact hi) (by rw [gvN_fr, if_neg (by omega)]; exact hhi _ (by omega)) (fun q hq => by
    rw [gvN_fr]
    by_cases hq2 : T ≤ q ∧ q < T + i
    · rw [if_pos hq2]
      show (k : Int) ≠ -1
      omega
    · rw [if_neg hq2]
      exact hlo q (by omega)) hk (by rw [tkL_len]; omega)
  refine hc.mono ?_
  rintro e w' ⟨q1, q2, ⟨V', q3⟩, q4⟩
  have nt : ∀ {g : Nat} {cs : Array Value} {t : TypeId}, W.heap[g]? = some (.cells cs t (0, 0)) → t ≠ 76 → t ≠ 22 → t ≠ 3 → ¬ (g = fb ∨ g = g6 ∨ V.ownBlock = some g) := by
    intro g cs t hg h1 h2 h3
    rintro (e | e | e)
    · exact ty_ne hg m1 h1 e
    · exact ty_ne hg ht.b6 h2 e
    · exact row_ty ht.row hg h3 e
  have nmap : ∀ {g c : Nat} {ff : Int → Option Value}, IMap W g ff c → ¬ (g = fb ∨ g = g6 ∨ V.ownBlock = some g) := by
    intro g c ff hI
    rintro (e | e | e)
    · exact map_ne m1 hI e.symm
    · exact map_ne ht.b6 hI e.symm
    · rcases ht.row.2 with ⟨hv, _⟩ | ⟨g', cap', cur', hv, _, hb', _⟩
      · rw [hv] at e
        cases e
      · rw [hv] at e
        have e2 : g' = g := by simpa [Value.ownBlock] using e
        subst e2
        exact map_ne hb' hI rfl
  refine ⟨q1, q4.blk h.blk (nt h.blk (by decide) (by decide) (by decide)), q2, h.x.chg q4 (nt h.x.blk (by decide) (by decide) (by decide)) (nt h.x.c1 (by decide) (by decide) (by decide)) (nt h.x.c5 (by decide) (by decide) (by decide)) (nt h.x.c3 (by decide) (by decide) (by decide)),
    h.g.chg q4 (nt h.g.blk (by decide) (by decide) (by decide)) (nmap h.g.mem), ⟨V', by rw [tkL_snoc]; exact q3⟩, h.p.chg q4 (nt h.p.blk (by decide) (by decide) (by decide)) (nmap h.p.mf) (nmap h.p.mp), h.nm, h.ge, q4.out h.bel h.bel.size ?_⟩
  have ge := h.ge
  rintro x (e | e | e)
  · omega
  · omega
  · have := (ht.row.lt x e).1
    omega
/-- The machine turns. -/
theorem Bb.mach {s' : MS} (h : Bb w W hb mb fb xb t1 t5 t3 gb mm hm eb k T s rt f st sz tb pp g2 g4 g5 g6 B pb fm pm i j) (hM : Mach W' mb fb s') (hc : Chg (fun x => x = fb) W W') : Bb w W' hb mb fb xb t1 t5 t3 gb mm hm eb k T s' rt f st sz tb pp g2 g4 g5 g6 B pb fm pm i j := by
  obtain ⟨V, ht⟩ := h.tn
  obtain ⟨fs, m1, m2⟩ := h.m.lst
  have nt : ∀ {g : Nat} {cs : Array Value} {t : TypeId}, W.heap[g]? = some (.cells cs t (0, 0)) → t ≠ 76 → ¬ g = fb := fun hg h1 => ty_ne hg m1 h1
  have nmap : ∀ {g c : Nat} {ff : Int → Option Value}, IMap W g ff c → ¬ g = fb := fun hI e => map_ne m1 hI e.symm
  exact ⟨hc.blk h.blk (nt h.blk (by decide)), hM, h.x.mach h.m hc, h.g.chg hc (nt h.g.blk (by decide)) (nmap h.g.mem), ⟨V, ht.chg hc (nt ht.b2 (by decide)) (nt ht.b4 (by decide)) (nt ht.b5 (by decide)) (nt ht.b6 (by decide)) (fun x e e2 => by subst e2; exact row_ty ht.row m1 (by decide) e)⟩, h.p.chg hc (nt h.p.blk (by decide)) (nmap h.p.mf) (nmap h.p.mp), h.nm, h.ge, hc.out h.bel h.bel.size (by rintro x rfl; exact h.ge.1)⟩
/-- One place more. -/
theorem bb_set (h : Bb w W hb mb fb xb t1 t5 t3 gb mm hm eb k T s rt f st sz tb pp g2 g4 g5 g6 B pb fm pm i j) (hj : j < 48) (hT : T + j < 256) :
    Calls Try.prog 22 #[.pointer (some ⟨pb, 0, none⟩), .int .i64 j, .int .i64 ((T + j : Nat) : Int)] W fun e w' => e = .returned (.int .i64 0) ∧ Bb w w' hb mb fb xb t1 t5 t3 gb mm hm eb k T s rt f st sz tb pp g2 g4 g5 g6 B pb fm pm i (j + 1) := by
  obtain ⟨V, ht⟩ := h.tn
  obtain ⟨fs, m1, m2⟩ := h.m.lst
  have hc := GpA.set_calls h.p j (T + j) hj (by omega) hT (by unfold frB; rw [if_neg (by omega)]) (by unfold plB; rw [if_neg (by omega)]) (by omega)
  rw [frB_put, plB_put] at hc
  refine hc.mono ?_
  rintro e w' ⟨q1, q2, q3⟩
  have nt : ∀ {g : Nat} {cs : Array Value} {t : TypeId}, W.heap[g]? = some (.cells cs t (0, 0)) → ¬ (g = fm ∨ g = pm) := by
    intro g cs t hg
    rintro (e | e)
    · exact map_ne hg h.p.mf e
    · exact map_ne hg h.p.mp e
  refine ⟨q1, q3.blk h.blk (nt h.blk), h.m.chg q3 (nt h.m.blk) (nt m1), h.x.chg q3 (nt h.x.blk) (nt h.x.c1) (nt h.x.c5) (nt h.x.c3), h.g.chg q3 (nt h.g.blk) (by have := h.nm; rintro (e | e); exact this.1 e; exact this.2 e), ⟨V, ht.chg q3 (nt ht.b2) (nt ht.b4) (nt ht.b5) (nt ht.b6) (fun x e => ?_)⟩, q2, h.nm, h.ge, q3.out h.bel h.bel.size ?_⟩
  · rcases ht.row.2 with ⟨hv, _⟩ | ⟨g', cap', cur', hv, _, hb', _⟩
    · rw [hv] at e
      cases e
    · rw [hv] at e
      have e2 : g' = x := by simpa [Value.ownBlock] using e
      subst e2
      exact nt hb'
  · have ge := h.ge
    rintro x (e | e) <;> omega
end
end Go.Proofs.Ytebhpmmibffbeaa.DfD
