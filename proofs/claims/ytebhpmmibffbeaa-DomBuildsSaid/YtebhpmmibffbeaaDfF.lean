/- Proved: Build where it builds (a contract for the laws of the domains). -/
import Derived.Test.YtebhpmmibffbeaaDfE
namespace Go.Proofs.Ytebhpmmibffbeaa.DfF
open Go.RowKit Go.Maps Go.Proofs.Ytebhpmmibffbeaa.Base Go.Proofs.Ytebhpmmibffbeaa.GaA Go.Proofs.Ytebhpmmibffbeaa.GaB Go.Proofs.Ytebhpmmibffbeaa.GaC Go.Proofs.Ytebhpmmibffbeaa.GaD Go.Proofs.Ytebhpmmibffbeaa.GmA Go.Proofs.Ytebhpmmibffbeaa.DaB Go.Proofs.Ytebhpmmibffbeaa.GpA Go.Proofs.Ytebhpmmibffbeaa.GgA Go.Proofs.Ytebhpmmibffbeaa.DbA Go.Proofs.Ytebhpmmibffbeaa.DbB Go.Proofs.Ytebhpmmibffbeaa.DbC Go.Proofs.Ytebhpmmibffbeaa.DdA Go.Proofs.Ytebhpmmibffbeaa.DdB Go.Proofs.Ytebhpmmibffbeaa.DdC Go.Proofs.Ytebhpmmibffbeaa.DeA Go.Proofs.Ytebhpmmibffbeaa.DeB Go.Proofs.Ytebhpmmibffbeaa.DeC Go.Proofs.Ytebhpmmibffbeaa.DfA Go.Proofs.Ytebhpmmibffbeaa.DfB Go.Proofs.Ytebhpmmibffbeaa.DfD Go.Proofs.Ytebhpmmibffbeaa.DfE
set_option linter.unusedVariables false
set_option linter.unusedSimpArgs false

theorem frB_zero (T : Nat) : (fun _ => none) = frB T 0 := by funext x; exact (if_neg (by omega)).symm
theorem plB_zero (T : Nat) : (fun _ => none) = plB T 0 := by funext x; exact (if_neg (by omega)).symm
theorem pnew48 (V : World) : Calls Try.prog 21 #[.int .i64 48] V fun e w' => ∃ pb fm pm, e = .returned (.tuple #[.pointer (some ⟨pb, 0, none⟩), .int .i64 0]) ∧ P2 w' pb fm pm 48 (fun _ => none) (fun _ => none) 0 ∧ (V.heap.size ≤ pb ∧ V.heap.size ≤ fm ∧ V.heap.size ≤ pm) ∧ Below V.heap.size V w' := GpA.new_calls V 48 (Nat.le_refl 48)
section
variable {w w' W W' : World} {hb mb fb xb t1 t5 t3 gb mm hm eb N k top : Nat} {s : MS} {rt : Nat → Int} {f : Int → Option (Int × Nat)} {st sz tb : Nat → Int} {pp : Nat → Value}
theorem bb_set2 {T pb fm pm g2 g4 g5 g6 B i j : Nat} (h : Bb w W hb mb fb xb t1 t5 t3 gb mm hm eb k T s rt f st sz tb pp g2 g4 g5 g6 B pb fm pm i j) (hj : j < 48) (hT : T + j < 256) :
    Calls Try.prog 22 #[.pointer (some ⟨pb, 0, none⟩), .int .i64 j, .int .i64 ((T : Int) + (j : Int))] W fun e w' => e = .returned (.int .i64 0) ∧ Bb w w' hb mb fb xb t1 t5 t3 gb mm hm eb k T s rt f st sz tb pp g2 g4 g5 g6 B pb fm pm i (j + 1) := bb_set h hj hT
theorem bb_name2 {T pb fm pm g2 g4 g5 g6 B i j : Nat} (h : Bb w W hb mb fb xb t1 t5 t3 gb mm hm eb k T s rt f st sz tb pp g2 g4 g5 g6 B pb fm pm i j) (t q x : Nat) (ht : t < s.n) (hown : (s.fr t).own ≠ -1) (hq : q < 64) (hx : x < 256) :
    Calls Try.prog 23 #[.pointer (some ⟨hb, 0, none⟩), .int .i64 t, .int .i64 q, .int .i64 x] W fun e w' => e = .returned (.tuple #[]) ∧ Bb w w' hb mb fb xb t1 t5 t3 gb mm hm eb k T (MS.wr s t (4 * q) (entZ (some x))) rt f st sz tb pp g2 g4 g5 g6 B pb fm pm i j ∧ Chg (fun y => y = fb) W w' :=
  (DbC.name_calls h.m h.blk rfl t q x ht hown hq hx).mono fun e w' ⟨q1, q2, q3⟩ => ⟨q1, h.mach q2 q3, q3⟩
theorem prs_at (b m j : Nat) (hj : j < m) : (prs b m)[j * 2]? = some (.int .i64 j) ∧ (prs b m)[j * 2 + 1]? = some (.int .i64 ((b + j : Nat) : Int)) := by
  induction m with
  | zero => omega
  | succ m ih =>
    have hl : (prs b m).length = m * 2 := by
      clear ih hj
      induction m with
      | zero => rfl
      | succ m ih => rw [prs_snoc, List.length_append, ih]; simp; omega
    rw [prs_snoc]
    by_cases h : j < m
    · rw [List.getElem?_append_left (by omega), List.getElem?_append_left (by omega)]
      exact ih h
    · obtain rfl : j = m := by omega
      rw [List.getElem?_append_right (by omega), List.getElem?_append_right (by omega), hl, show j * 2 - j * 2 = 0 by omega, show j * 2 + 1 - j * 2 = 1 by omega]
      exact ⟨rfl, rfl⟩
/-- The row of pairs in memory. -/
def PrW (W : World) (gr T m : Nat) : Prop := ∃ cs, W.heap[gr]? = some (.cells cs 62 (0, 0)) ∧ ∀ j, j < m → cs[j * 2]? = some (.int .i64 j) ∧ cs[j * 2 + 1]? = some (.int .i64 ((T + j : Nat) : Int))
theorem pr_of {b T m g cap : Nat} (h : W.ownsRow b 62 2 (.slice (some ⟨g, 0, none⟩) m cap) m (prs T m)) : PrW W g T m := by
  have h0 := h
  rcases h.2 with ⟨hv, _⟩ | ⟨g', cap', cur', hv, _, hb', _⟩
  · cases hv
  · have e2 : g' = g := by injection hv with e; injection e with e; injection e with e; exact e.symm
    subst e2
    refine ⟨cur', hb', fun j hj => ?_⟩
    rw [← blk_cell hb', ← blk_cell hb', h0.cellAt _ (by omega), h0.cellAt _ (by omega)]
    exact prs_at T m j hj
theorem PrW.below {gr T m : Nat} (h : PrW W gr T m) (hB : Below W.heap.size W W') : PrW W' gr T m := by
  obtain ⟨cs, h1, h2⟩ := h
  exact ⟨cs, blk_below h1 (blk_lt h1) hB, h2⟩
theorem PrW.mach {gr T m : Nat} (h : PrW W gr T m) (hM : Mach W mb fb s) (hc : Chg (fun x => x = fb) W W') : PrW W' gr T m := by
  obtain ⟨cs, h1, h2⟩ := h
  obtain ⟨fs, m1, m2⟩ := hM.lst
  exact ⟨cs, hc.blk h1 (ty_ne h1 m1 (by decide)), h2⟩
/-- The keeper has taken a root. -/
theorem bb_base {T pb fm pm g2 g4 g5 g6 B i j : Nat} {s' : MS} {rt' : Nat → Int} (h : Bb w W hb mb fb xb t1 t5 t3 gb mm hm eb k T s rt f st sz tb pp g2 g4 g5 g6 B pb fm pm i j) (hM : Mach W' mb fb s') (hX : Mmu W' xb mb t1 t5 t3 rt') (hc : Chg (fun x => x = fb ∨ x = xb) W W') (hx : w.heap.size ≤ xb) : Bb w W' hb mb fb xb t1 t5 t3 gb mm hm eb k T s' rt' f st sz tb pp g2 g4 g5 g6 B pb fm pm i j := by
  obtain ⟨V, ht⟩ := h.tn
  obtain ⟨fs, m1, m2⟩ := h.m.lst
  have x1 := h.x.blk
  have nt : ∀ {g : Nat} {cs : Array Value} {t : TypeId}, W.heap[g]? = some (.cells cs t (0, 0)) → t ≠ 76 → t ≠ 89 → ¬ (g = fb ∨ g = xb) := by
    intro g cs t hg h1 h2
    rintro (e | e)
    · exact ty_ne hg m1 h1 e
    · exact ty_ne hg x1 h2 e
  have nmap : ∀ {g c : Nat} {ff : Int → Option Value}, IMap W g ff c → ¬ (g = fb ∨ g = xb) := by
    intro g c ff hI
    rintro (e | e)
    · exact map_ne m1 hI e.symm
    · exact map_ne x1 hI e.symm
  exact ⟨hc.blk h.blk (nt h.blk (by decide) (by decide)), hM, hX, h.g.chg hc (nt h.g.blk (by decide) (by decide)) (nmap h.g.mem), ⟨V, ht.chg hc (nt ht.b2 (by decide) (by decide)) (nt ht.b4 (by decide) (by decide)) (nt ht.b5 (by decide) (by decide)) (nt ht.b6 (by decide) (by decide)) (fun x e => by
    rintro (e2 | e2)
    · subst e2; exact row_ty ht.row m1 (by decide) e
    · subst e2; exact row_ty ht.row x1 (by decide) e)⟩, h.p.chg hc (nt h.p.blk (by decide) (by decide)) (nmap h.p.mf) (nmap h.p.mp), h.nm, h.ge, hc.out h.bel h.bel.size (by have := h.ge.1; rintro x (e | e) <;> omega)⟩
/-- What Build holds when the new domain has joined. -/
structure Be (w W : World) (hb mb fb xb t1 t5 t3 gb mm hm eb k T : Nat) (s : MS) (rt : Nat → Int) (f : Int → Option (Int × Nat)) (c : Nat) (st sz tb : Nat → Int) (pp : Nat → Value) (g2 g4 g5 g6 B i : Nat) : Prop where
  blk : W.heap[hb]? = some (.cells (hcL mb xb gb eb st sz tb pp) 51 (0, 0))
  m : Mach W mb fb s
  x : Mmu W xb mb t1 t5 t3 rt
  g : G2 W gb mm hm mb f c
  tn : ∃ V, Tn W g2 g4 g5 g6 hb k B V (tkL T i)
  bel : Below w.heap.size w W
theorem bb_join {T pb fm pm g2 g4 g5 g6 B i j : Nat} (h : Bb w W hb mb fb xb t1 t5 t3 gb mm hm eb k T s rt f st sz tb pp g2 g4 g5 g6 B pb fm pm i j) (hk : k < 8) (hT : T < s.n) (hfr : s.fr T = ⟨k, 1, 1, 1⟩) (hf : f k = none) (hmm : w.heap.size ≤ mm) {V : Value} (ht : Tn W g2 g4 g5 g6 hb k B V (tkL T i)) :
    Calls Try.prog 26 #[.pointer (some ⟨gb, 0, none⟩), .int .i64 k, .int .i64 T, .pointer (some ⟨pb, 0, none⟩)] W fun e w' => e = .returned (.int .i64 0) ∧ Be w w' hb mb fb xb t1 t5 t3 gb mm hm eb k T (MS.put1 s T (getF (s.fr T) 1)) rt (mput f k (T, pb)) (k + 1) st sz tb pp g2 g4 g5 g6 B i ∧ Tn w' g2 g4 g5 g6 hb k B V (tkL T i) := by
  obtain ⟨fs, m1, m2⟩ := h.m.lst
  have hmem := h.g.mem
  have hne : ∀ {g : Nat} {cs : Array Value} {t : TypeId}, W.heap[g]? = some (.cells cs t (0, 0)) → t ≠ 76 → ¬ (g = fb ∨ g = mm) := by
    intro g cs t hg h1
    rintro (e | e)
    · exact ty_ne hg m1 h1 e
    · exact map_ne hg hmem e
  refine (GgA.join_calls h.g h.m h.p k (by omega) (by omega) T hT (by unfold plB; rw [if_neg (by omega)]) hf (by omega) (by rw [hfr]; unfold getE; simp only; rw [if_neg (by omega), if_neg (by simp), if_neg (by simp)]) (by rw [hfr]; exact few0 _ _ _ _ (by omega)) (ty_ne h.g.blk m1 (by decide)) (fun e => map_ne m1 hmem e.symm)).mono ?_
  rintro e w' ⟨q1, q2, q3, q4⟩
  have htn : Tn w' g2 g4 g5 g6 hb k B V (tkL T i) := by
    refine ht.chg q4 (hne ht.b2 (by decide)) (hne ht.b4 (by decide)) (hne ht.b5 (by decide)) (hne ht.b6 (by decide)) (fun x e => ?_)
    rcases ht.row.2 with ⟨hv, _⟩ | ⟨g', cap', cur', hv, _, hb', _⟩
    · rw [hv] at e
      cases e
    · rw [hv] at e
      have e2 : g' = x := by simpa [Value.ownBlock] using e
      subst e2
      exact hne hb' (by decide)
  exact ⟨q1, ⟨q4.blk h.blk (hne h.blk (by decide)), q3, h.x.chg q4 (hne h.x.blk (by decide)) (hne h.x.c1 (by decide)) (hne h.x.c5 (by decide)) (hne h.x.c3 (by decide)), q2, ⟨V, htn⟩, q4.out h.bel h.bel.size (by have := h.ge.1; rintro x (e | e) <;> omega)⟩, htn⟩
/-- The frames taken, the first read. -/
theorem tn_first {g2 g4 g5 g6 hb d B T i : Nat} {V : Value} (h : Tn W g2 g4 g5 g6 hb d B V (tkL T (i + 1))) : ∃ g cap, V = .slice (some ⟨g, 0, none⟩) (i + 1) cap ∧ W.cell? ⟨g, 0, none⟩ = some (.int .i64 T) := by
  have hr := h.row
  rw [tkL_len] at hr
  obtain ⟨g, cap, rfl, hg⟩ := row_full hr (by omega)
  refine ⟨g, cap, rfl, ?_⟩
  rw [hr.cellAt 0 (by omega)]
  unfold tkL vals
  rw [List.range_succ_eq_map]
  rfl
/-- A domain's four cells laid. -/
def upd {α : Type} (g : Nat → α) (d : Nat) (v : α) : Nat → α := fun x => if x = d then v else g x
set_option maxRecDepth 10000 in
theorem hcL_put (mb xb gb eb : Nat) (st sz tb : Nat → Int) (pp : Nat → Value) (d : Nat) (hd : d < 8) (a b c : Int) (p : Value) : ((((hcL mb xb gb eb st sz tb pp).setIfInBounds (4 + d * 4) (.int .i64 a)).setIfInBounds (4 + d * 4 + 1) (.int .i64 b)).setIfInBounds (4 + d * 4 + 2) (.int .i64 c)).setIfInBounds (4 + d * 4 + 3) p = hcL mb xb gb eb (upd st d a) (upd sz d b) (upd tb d c) (upd pp d p) := by
  have : d = 0 ∨ d = 1 ∨ d = 2 ∨ d = 3 ∨ d = 4 ∨ d = 5 ∨ d = 6 ∨ d = 7 := by omega
  rcases this with rfl | rfl | rfl | rfl | rfl | rfl | rfl | rfl <;> rfl
/-- The machine behind Build. -/
def finS (s : MS) (T m : Nat) (k : Int) : MS := MS.put1 (done1 (tabS s T m k) T m) T (getF ((done1 (tabS s T m k) T m).fr T) 1)
theorem finS_n (s : MS) (T m : Nat) (k : Int) : (finS s T m k).n = s.n := (done1_n _ _ _).trans ((nmS_n _ _ _ _).trans (gvN_n _ _ _ _))
theorem finS_in {T m : Nat} (hraw : Raw (tabS s T m k) k T m) (j : Nat) (h1 : T ≤ j) (h2 : j < T + m + 2) : ((finS s T m k).fr j).own = k := by
  have m1 := hraw.m1
  by_cases hj : j = T
  · subst hj
    have e : (finS s j m k).fr j = getF ((done1 (tabS s j m k) j m).fr j) 1 := if_pos rfl
    rw [e, done1_fr hraw, if_pos (by omega)]
    rfl
  · have e : (finS s T m k).fr j = (done1 (tabS s T m k) T m).fr j := if_neg hj
    rw [e, done1_fr hraw]
    by_cases q1 : T ≤ j ∧ j < T + m
    · rw [if_pos q1]
    · rw [if_neg q1]
      by_cases q2 : j = T + m + 1
      · rw [if_pos q2]
      · rw [if_neg q2, if_pos (by omega)]
theorem finS_out {T m : Nat} (hraw : Raw (tabS s T m k) k T m) (j : Nat) (h : j < T ∨ T + m + 2 ≤ j) : (finS s T m k).fr j = s.fr j ∧ ∀ b, (finS s T m k).byt j b = s.byt j b := by
  have m1 := hraw.m1
  refine ⟨?_, fun b => ?_⟩
  · have e : (finS s T m k).fr j = (done1 (tabS s T m k) T m).fr j := if_neg (by omega)
    have e2 : (tabS s T m k).fr = (gvN s T k (m + 2)).fr := nmS_fr _ _ _ _
    rw [e, done1_fr hraw, if_neg (by omega), if_neg (by omega), if_neg (by omega), e2, gvN_fr, if_neg (by omega)]
  · have e : (finS s T m k).byt j b = (done1 (tabS s T m k) T m).byt j b := rfl
    rw [e, done1_byt]
    unfold tabS
    rw [nmS_byt, if_neg (by omega), wr_miss (by rintro ⟨h1, _⟩; omega), gvN_byt]
def BuOut (w : World) (hb mb fb xb t1 t5 t3 gb mm hm eb N k top m : Nat) (e : Ending) (w' : World) : Prop := e = .returned (.tuple #[.int .i64 k, .int .i64 0]) ∧ ∃ s' rt' f' st' sz' tb' pp', Hy w w' hb mb fb xb t1 t5 t3 gb mm hm eb N (k + 1) (top + (m + 2)) s' rt' f' st' sz' tb' pp' ∧ sz' k = m ∧ (mine (owners s') k s'.n).length = m + 2
/-- The domain is laid. -/
theorem hy_next {V0 : World} (h : Hy w V0 hb mb fb xb t1 t5 t3 gb mm hm eb N k top s rt f st sz tb pp) (hk : k < 8) {m : Nat} (hl : m + 2 ≤ N - top) (hraw : Raw (tabS s top m k) k top m) {v : Int} {q : Nat} {g2 g4 g5 g6 B i : Nat} (hE : Be w W hb mb fb xb t1 t5 t3 gb mm hm eb k top (finS s top m k) (rtU rt k v) (mput f k (top, q)) (k + 1) st sz tb pp g2 g4 g5 g6 B i) (p : Addr) :
    ∃ s' rt' f' st' sz' tb' pp', Hy w ((((W.setCell ⟨hb, 4 + k * 4, none⟩ (.int .i64 1)).setCell ⟨hb, 4 + k * 4 + 1, none⟩ (.int .i64 m)).setCell ⟨hb, 4 + k * 4 + 2, none⟩ (.int .i64 top)).setCell ⟨hb, 4 + k * 4 + 3, none⟩ (.pointer (some p))) hb mb fb xb t1 t5 t3 gb mm hm eb N (k + 1) (top + (m + 2)) s' rt' f' st' sz' tb' pp' ∧ sz' k = m ∧ (mine (owners s') k s'.n).length = m + 2 := by
  have hc : Chg (fun x => x = hb) W ((((W.setCell ⟨hb, 4 + k * 4, none⟩ (.int .i64 1)).setCell ⟨hb, 4 + k * 4 + 1, none⟩ (.int .i64 m)).setCell ⟨hb, 4 + k * 4 + 2, none⟩ (.int .i64 top)).setCell ⟨hb, 4 + k * 4 + 3, none⟩ (.pointer (some p))) :=
    Chg.set (F := fun x => x = hb) (p := ⟨hb, 4 + k * 4 + 3, none⟩) (Chg.set (F := fun x => x = hb) (p := ⟨hb, 4 + k * 4 + 2, none⟩) (Chg.set (F := fun x => x = hb) (p := ⟨hb, 4 + k * 4 + 1, none⟩) (Chg.set (F := fun x => x = hb) (p := ⟨hb, 4 + k * 4, none⟩) (Chg.refl _ W) (.inl rfl) _) (.inl rfl) _) (.inl rfl) _) (.inl rfl) _
  have hblk := blk_put (blk_put (blk_put (blk_put hE.blk (4 + k * 4) (.int .i64 1) rfl) (4 + k * 4 + 1) (.int .i64 m) rfl) (4 + k * 4 + 2) (.int .i64 top) rfl) (4 + k * 4 + 3) (.pointer (some p)) rfl
  rw [hcL_put _ _ _ _ _ _ _ _ k hk] at hblk
  obtain ⟨fs, m1, m2⟩ := hE.m.lst
  have nb := hE.blk
  have ho : ∀ j, j < top ∨ top + m + 2 ≤ j → (finS s top m k).fr j = s.fr j ∧ ∀ b, (finS s top m k).byt j b = s.byt j b := fun j hj => finS_out hraw j hj
  refine ⟨_, _, _, _, _, _, _, ⟨hblk, hE.m.chg hc (ty_ne hE.m.blk nb (by decide)) (ty_ne m1 nb (by decide)), hE.x.chg hc (ty_ne hE.x.blk nb (by decide)) (ty_ne hE.x.c1 nb (by decide)) (ty_ne hE.x.c5 nb (by decide)) (ty_ne hE.x.c3 nb (by decide)), hE.g.chg hc (ty_ne hE.g.blk nb (by decide)) (fun e => map_ne nb hE.g.mem e.symm), ⟨fun d => ?_, fun d hd => ?_, fun d hd => ?_⟩, ⟨(finS_n _ _ _ _).trans h.n.1, h.n.2.1, by have := h.n; omega, by omega, h.n.2.2.2.2⟩, fun j hj => ?_, fun j hj => ?_, fun d hd => ?_, fun d hd => ?_, h.ne, h.ge, hc.out hE.bel hE.bel.size (by rintro x rfl; exact h.ge.1)⟩, ?_, ?_⟩
  · unfold upd
    by_cases hd : d = k
    · rw [if_pos hd, if_pos (by omega)]
    · rw [if_neg hd, h.ds.st]
      by_cases h2 : d < k
      · rw [if_pos h2, if_pos (by omega)]
      · rw [if_neg h2, if_neg (by omega)]
  · unfold upd
    by_cases h2 : d = k
    · rw [if_pos h2]
      exact ⟨_, rfl⟩
    · rw [if_neg h2]
      exact h.ds.lo d (by omega)
  · unfold upd
    rw [if_neg (by omega), if_neg (by omega), if_neg (by omega)]
    exact h.ds.hi d (by omega)
  · by_cases hj2 : j < top
    · rw [(ho j (.inl hj2)).1]
      have := h.lo j hj2
      exact ⟨this.1, by omega⟩
    · rw [finS_in hraw j (by omega) (by omega)]
      exact ⟨by omega, by omega⟩
  · have := ho j (.inr (by omega))
    rw [this.1]
    exact ⟨(h.hi j (by omega)).1, fun b => (this.2 b).trans ((h.hi j (by omega)).2 b)⟩
  · unfold rtU
    rw [if_neg (by omega)]
    exact h.rt d (by omega)
  · unfold mput
    rw [if_neg (by omega)]
    exact h.f d (by omega)
  · exact if_pos rfl
  · rw [finS_n, h.n.1, mine_range (owners (finS s top m k)) k top (top + m + 2) N (fun j hj => ⟨fun e => ?_, fun e => finS_in hraw j e.1 e.2⟩) N (Nat.le_refl _)]
    · omega
    · by_cases hj2 : j < top
      · have e2 : owners (finS s top m k) j = (s.fr j).own := by unfold owners; rw [(ho j (.inl hj2)).1]
        have := (h.lo j hj2).2
        rw [e2] at e
        omega
      · by_cases hj3 : j < top + m + 2
        · omega
        · have e2 : owners (finS s top m k) j = (s.fr j).own := by unfold owners; rw [(ho j (.inr (by omega))).1]
          have := (h.hi j (by omega)).1
          rw [e2, this] at e
          have : (-1 : Int) = k := e
          omega
set_option maxHeartbeats 16000000 in
set_option maxRecDepth 100000 in
theorem build_ok (h : Hy w W hb mb fb xb t1 t5 t3 gb mm hm eb N k top s rt f st sz tb pp) (hk : k < 8) (m : Nat) (h1 : 1 ≤ m) (h2 : m ≤ 48) (hl : m + 2 ≤ N - top) : Calls Try.prog 7 #[.pointer (some ⟨hb, 0, none⟩), .int .i64 m] W (BuOut w hb mb fb xb t1 t5 t3 gb mm hm eb N k top m) := by
  have hmf : ∀ (fn : Fn) (first cap : Array Value) (w : World), (Instr.makeFunc fn first cap).run Try.prog w = .ok (.func fn first cap) w := fun _ _ _ _ => rfl
  have hz0 := bz_start W hb
  have HH := Base.Aside.mk h
  have hln := hy_left h
  have d1 : decide ((m : Int) < 1) = false := decide_eq_false (by omega)
  have d2 : decide (48 < (m : Int)) = false := decide_eq_false (by omega)
  have d3 : decide (((N - top : Nat) : Int) < (m : Int) + 2) = false := decide_eq_false (by omega)
  have HL := Base.Aside.mk hl
  generalize N - top = n0 at hln d3
  have HZ := Base.Aside.mk (And.intro hz0 hln)
  clear h hl hz0 hln
  go_enter_defers Try.func7, Try.ntmps7
  go_upto_region 1 with fail
  refine wp_world (fun W1 => Bz W W1 W.heap.size (W.heap.size + 1) (W.heap.size + 1 + 1) hb 0 0) HZ.out.1 ?_
  intro W1 hz1
  obtain ⟨g5, h5⟩ : ∃ g, g = W.heap.size + 1 + 1 := ⟨_, rfl⟩
  rw [← h5] at hz1 ⊢
  obtain ⟨g4, h4⟩ : ∃ g, g = W.heap.size + 1 := ⟨_, rfl⟩
  rw [← h4] at hz1 ⊢
  obtain ⟨g2, h2'⟩ : ∃ g, g = W.heap.size := ⟨_, rfl⟩
  have hz2 : Bz W W1 g2 g4 g5 hb 0 0 := by rw [h2']; exact hz1
  rw [← h2']
  have hy1 := HH.out.below hz2.bel
  have hno := hnone_calls hy1.blk
  have hle := left_calls _ hy1.m
  rw [HZ.out.2] at hle
  have k2 : W1.cell? ⟨g2, 0, none⟩ = some (.pointer (some ⟨hb, 0, none⟩)) := blk_cell hz2.b2 0
  have k0 : W1.cell? ⟨hb, 0, none⟩ = some (.pointer (some ⟨mb, 0, none⟩)) := blk_cell hy1.blk 0
  have l2 := blk_lt hz2.b2
  have l0 := blk_lt hy1.blk
  have Z1 := Base.Aside.mk hz2
  have hfr := fun W' (hW : Below W1.heap.size W1 W') => (free_calls (hy1.below hW).blk (hy1.below hW).ds (Nat.le_of_lt hk)).mono (R' := fun e w' => e = .returned (.tuple #[.int .i64 k, .int .i64 0]) ∧ w'.cell? ⟨g4, 0, none⟩ = some (.int .i64 0) ∧ w'.cell? ⟨g5, 0, none⟩ = some (.int .i64 0) ∧ g4 < w'.heap.size ∧ g5 < w'.heap.size ∧ w'.frozen? ⟨g4, 0, none⟩ = false ∧ w'.frozen? ⟨g5, 0, none⟩ = false ∧ Bz W w' g2 g4 g5 hb 0 0) (fun e w' ⟨q1, q2⟩ => by
    have hz := (Z1.out.below hW).below q2
    rw [if_pos hk, if_pos hk] at q1
    exact ⟨q1, blk_cell hz.b4 0, blk_cell hz.b5 0, blk_lt hz.b4, blk_lt hz.b5, blk_frozen hz.b4 0, blk_frozen hz.b5 0, hz⟩)
  have n45 : g4 ≠ g5 := ty_ne hz2.b4 hz2.b5 (by decide)
  have n54 : g5 ≠ g4 := fun e => n45 e.symm
  clear hz1 hz2 hy1 h5 h4 h2'
  go_upto_region 10 with (first
    | (go_at_call 15; refine hno.mono ?_; rintro z w1 ⟨rfl, hw1⟩; obtain rfl := hw1.symm)
    | (go_at_call 6; (with_reducible refine hle.mono ?_); rintro z w2 ⟨rfl, hB2⟩; have K2 := (hB2.cell (p := ⟨g2, 0, none⟩) l2).trans k2; have M2 := Nat.lt_of_lt_of_le l2 hB2.size; have hf2 := hfr _ hB2; clear hB2)
    | (go_at_call 17; (with_reducible refine hf2.mono ?_); rintro z w3 ⟨rfl, c4, c5, l4, l5, f4, f5, hz3⟩; have E3 := Base.Aside.mk (hz3.set k 0); clear hz3)
    | go_in)
  refine wp_world (fun X => Bz W X g2 g4 g5 hb k 0) E3.out ?_
  intro X hX
  have EX := Base.Aside.mk hX
  clear hX E3 c4 c5 l4 l5 f4 f5 K2 M2 hf2 hfr k2 k0 l2 l0 hno hle n45 n54 Z1
  go_upto_region 11 with fail
  obtain ⟨g6, h6⟩ : ∃ g, g = X.heap.size := ⟨_, rfl⟩
  have ht0 : Tn (X.alloc (.cells #[.slice none 0 0] 22)) g2 g4 g5 X.heap.size hb k (X.heap.size + 1) (.slice none 0 0) (tkL top 0) :=
    ⟨blk_alloc EX.out.b2 _, blk_alloc EX.out.b4 _, blk_alloc EX.out.b5 _, blk_new _ _, World.ownsRow_nil _ _ _ _, by have := blk_lt EX.out.b4; omega, by simp⟩
  have hbx := below_alloc (Below.refl X.heap.size X) (.cells #[.slice none 0 0] 22)
  have HT := Base.Aside.mk (And.intro ht0 (below_step EX.out.bel hbx))
  refine wp_world (fun Y => Tn Y g2 g4 g5 X.heap.size hb k (X.heap.size + 1) (.slice none 0 0) (tkL top 0) ∧ Below W.heap.size W Y) HT.out ?_
  intro Y hY
  rw [← h6] at hY ⊢
  have EY := Base.Aside.mk (And.intro hY (And.intro EX.out.ge (And.intro h6 EX.out.bel.size)))
  clear hY ht0 hbx HT h6
  have hpn := fun V => pnew48 V
  go_wp2_with (first
    | (go_at_call 21; (with_reducible refine (hpn _).mono ?_); rintro z w5 ⟨pb, fm, pm, rfl, hP, hp, hB5⟩; have E5 := Base.Aside.mk (And.intro hP (And.intro hp hB5)); clear hP hp hB5)
    | go_in)
  have hbb : Bb w w5 hb mb fb xb t1 t5 t3 gb mm hm eb k top (gvN s top k 0) rt f st sz tb pp g2 g4 g5 g6 (g6 + 1) pb fm pm 0 0 := by
    obtain ⟨hP, hp, hB5⟩ := E5.out
    obtain ⟨⟨hT, hbl⟩, hge, h6, hxs⟩ := EY.out
    have hy := (HH.out.below hbl).below hB5
    have hs := hT.lt.2
    have hm5 := HH.out.g.mem.lt
    have z1 := HH.out.bel.size
    have z2 := hbl.size
    have ge := HH.out.ge
    exact ⟨hy.blk, hy.m, hy.x, hy.g, ⟨_, by rw [h6]; rw [h6] at hT; exact hT.below hB5⟩, by rw [← frB_zero, ← plB_zero]; exact hP, by omega, by omega, hy.bel⟩
  have H5 := Base.Aside.mk hbb
  clear hbb E5 EX
  go_loopw [50] (fun v wr => ∃ (i : Nat) (W6 : World), i ≤ m ∧ v = .int .i64 i ∧ wr = W6 ∧ Base.Aside (Bb w W6 hb mb fb xb t1 t5 t3 gb mm hm eb k top (gvN s top k i) rt f st sz tb pp g2 g4 g5 g6 (g6 + 1) pb fm pm i i)) (fun v _ => m - (intOf v).toNat)
  case atStart => exact ⟨0, w5, by omega, rfl, rfl, H5⟩
  case round => as_aux_lemma =>
    obtain ⟨i, W6, him, rfl, hwr, hB⟩ := hrel
    obtain rfl := hwr.symm
    by_cases hlt : i < m
    · have hn := HH.out.n
      have hl := HL.out
      have htk := bb_take hB.out hk (by omega) (by omega) (fun q hq => (HH.out.lo q hq).1) (fun q hq => by rw [(HH.out.hi q hq).1])
      have hst := fun W' (h : Bb w W' hb mb fb xb t1 t5 t3 gb mm hm eb k top (gvN s top k (i + 1)) rt f st sz tb pp g2 g4 g5 g6 (g6 + 1) pb fm pm (i + 1) i) => bb_set2 h (by omega : i < 48) (by omega : top + i < 256)
      go_wp2_with (first
        | (go_at_call 20; (with_reducible refine htk.mono ?_); rintro z w7 ⟨rfl, h7⟩; have hs7 := hst w7 h7; clear h7)
        | (go_at_call 22; (with_reducible refine hs7.mono ?_); rintro z w8 ⟨rfl, h8⟩; have E8 := Base.Aside.mk h8; clear h8)
        | go_in)
      exact ⟨⟨i + 1, w8, by omega, by simp, rfl, E8⟩, by simp [intOf]; omega⟩
    · obtain rfl : i = m := by omega
      clear hlt
      have hn := HH.out.n
      have hl := HL.out
      obtain ⟨l2, hl2⟩ : ∃ l, l = top + i := ⟨_, rfl⟩
      obtain ⟨l1, hl1⟩ : ∃ l, l = top + (i + 1) := ⟨_, rfl⟩
      have ht1 := bb_take hB.out hk (by omega) (by omega) (fun q hq => (HH.out.lo q hq).1) (fun q hq => by rw [(HH.out.hi q hq).1])
      rw [← hl2] at ht1
      have ht2 := fun W' (h : Bb w W' hb mb fb xb t1 t5 t3 gb mm hm eb k top (gvN s top k (i + 1)) rt f st sz tb pp g2 g4 g5 g6 (g6 + 1) pb fm pm (i + 1) i) => bb_take h hk (by omega) (by omega) (fun q hq => (HH.out.lo q hq).1) (fun q hq => by rw [(HH.out.hi q hq).1])
      rw [← hl1] at ht2
      have hnm := fun W' (h : Bb w W' hb mb fb xb t1 t5 t3 gb mm hm eb k top (gvN s top k (i + 1 + 1)) rt f st sz tb pp g2 g4 g5 g6 (g6 + 1) pb fm pm (i + 1 + 1) i) => bb_name2 h l2 0 l1 (by rw [gvN_n]; omega) (by rw [gvN_fr, if_pos (by omega)]; show (k : Int) ≠ -1; omega) (by omega) (by omega)
      have hnm2 : ∀ W', Bb w W' hb mb fb xb t1 t5 t3 gb mm hm eb k top (gvN s top k (i + 1 + 1)) rt f st sz tb pp g2 g4 g5 g6 (g6 + 1) pb fm pm (i + 1 + 1) i → W'.cell? ⟨g2, 0, none⟩ = some (.pointer (some ⟨hb, 0, none⟩)) ∧ g2 < W'.heap.size ∧ Calls Try.prog 23 #[.pointer (some ⟨hb, 0, none⟩), .int .i64 l2, .int .i64 0, .int .i64 l1] W' fun e w' => e = .returned (.tuple #[]) ∧ Bb w w' hb mb fb xb t1 t5 t3 gb mm hm eb k top (MS.wr (gvN s top k (i + 1 + 1)) l2 (4 * 0) (entZ (some l1))) rt f st sz tb pp g2 g4 g5 g6 (g6 + 1) pb fm pm (i + 1 + 1) i := fun W' h => by
        obtain ⟨V, ht⟩ := h.tn
        exact ⟨blk_cell ht.b2 0, blk_lt ht.b2, (hnm W' h).mono fun e w' ⟨q1, q2, q3⟩ => ⟨q1, q2⟩⟩
      clear hnm
      have hls := fun W' (h : Bb w W' hb mb fb xb t1 t5 t3 gb mm hm eb k top (MS.wr (gvN s top k (i + 1 + 1)) l2 (4 * 0) (entZ (some l1))) rt f st sz tb pp g2 g4 g5 g6 (g6 + 1) pb fm pm (i + 1 + 1) i) => list_calls top i h2 (by omega) h.p
      have HN := Base.Aside.mk (And.intro hn (And.intro hl (And.intro hl2 hl1)))
      clear hn hl hl2 hl1 him
      go_wp2_with (first
        | (go_at_call 20; (with_reducible refine ht1.mono ?_); rintro z w7 ⟨rfl, h7⟩; have ht3 := ht2 w7 h7; clear h7)
        | (go_at_call 20; (with_reducible refine ht3.mono ?_); rintro z w8 ⟨rfl, h8⟩; obtain ⟨c2, l2', hnm3⟩ := hnm2 w8 h8; clear h8)
        | (go_at_call 23; (with_reducible refine hnm3.mono ?_); rintro z w9 ⟨rfl, h9⟩; have hls2 := hls w9 h9; have E9 := Base.Aside.mk h9; clear h9)
        | (go_at_call 24; (with_reducible refine hls2.mono ?_); rintro z w10 ⟨V, rfl, hrow, hB10⟩; obtain ⟨gr, cap, rfl, hgr⟩ := row_full hrow h1; have E10 := Base.Aside.mk (And.intro (pr_of hrow) (E9.out.below hB10)); clear hrow hB10 hgr)
        | go_in)
      go_loopw [70] (fun v wr => ∃ (j : Nat) (W6 : World), j ≤ i ∧ v = .int .i64 j ∧ wr = W6 ∧ Base.Aside (PrW W6 gr top i ∧ Bb w W6 hb mb fb xb t1 t5 t3 gb mm hm eb k top (nmS (MS.wr (gvN s top k (i + 1 + 1)) l2 (4 * 0) (entZ (some l1))) l1 top j) rt f st sz tb pp g2 g4 g5 g6 (g6 + 1) pb fm pm (i + 1 + 1) i)) (fun v _ => i - (intOf v).toNat)
      case atStart => exact ⟨0, w10, by omega, rfl, rfl, E10⟩
      case round => as_aux_lemma =>
        obtain ⟨j, W6, hji, rfl, hwr, hP⟩ := hrel
        obtain rfl := hwr.symm
        by_cases hlt : j < i
        · obtain ⟨hn, hl, hl2, hl1⟩ := HN.out
          obtain ⟨cs, b1, b2⟩ := hP.out.1
          have d0 := (blk_cell b1 (j * 2)).trans (b2 j hlt).1
          have d1 := (blk_cell b1 (j * 2 + 1)).trans (b2 j hlt).2
          obtain ⟨x, hx⟩ : ∃ x, x = top + j := ⟨_, rfl⟩
          rw [← hx] at d1
          have lr := blk_lt b1
          obtain ⟨V, ht⟩ := hP.out.2.tn
          have c2 : W6.cell? ⟨g2, 0, none⟩ = some (.pointer (some ⟨hb, 0, none⟩)) := blk_cell ht.b2 0
          have l2' := blk_lt ht.b2
          have hnm := fun W' (hW : Below W6.heap.size W6 W') => (bb_name2 (hP.out.2.below hW) l1 j x (by rw [nmS_n]; show l1 < (gvN s top k (i + 1 + 1)).n; rw [gvN_n]; omega) (by rw [nmS_fr]; show ((gvN s top k (i + 1 + 1)).fr l1).own ≠ -1; rw [gvN_fr, if_pos (by omega)]; show (k : Int) ≠ -1; omega) (by omega) (by omega)).mono (R' := fun e w' => e = .returned (.tuple #[]) ∧ PrW w' gr top i ∧ Bb w w' hb mb fb xb t1 t5 t3 gb mm hm eb k top (nmS (MS.wr (gvN s top k (i + 1 + 1)) l2 (4 * 0) (entZ (some l1))) l1 top (j + 1)) rt f st sz tb pp g2 g4 g5 g6 (g6 + 1) pb fm pm (i + 1 + 1) i) (fun e w' ⟨q1, q2, q3⟩ => ⟨q1, (hP.out.1.below hW).mach (hP.out.2.below hW).m q3, by rw [hx] at q2; exact q2⟩)
          clear hn hl hl2 hl1 b1 b2 ht hx
          go_wp2_with (first
            | (go_at_call 23; (with_reducible refine (hnm _ ?_).mono ?_); (focus (repeat (with_reducible first | exact Below.refl _ _ | refine below_drew ?_ | refine below_alloc ?_ _))); rintro z w7 ⟨rfl, h7⟩; have E7 := Base.Aside.mk h7; clear h7)
            | go_in)
          exact ⟨⟨j + 1, w7, by omega, by simp, rfl, E7⟩, by simp [intOf]; omega⟩
        · obtain rfl : j = i := by omega
          clear hlt
          obtain ⟨hn, hl, hl2, hl1⟩ := HN.out
          have hB2 : Bb w W6 hb mb fb xb t1 t5 t3 gb mm hm eb k top (tabS s top j k) rt f st sz tb pp g2 g4 g5 g6 (g6 + 1) pb fm pm (j + 1 + 1) j := by
            have := hP.out.2
            rw [hl2, hl1] at this
            exact this
          have hraw : Raw (tabS s top j k) k top j := raw_tab (by omega) (by omega) h1 h2 hk HH.out.hi
          obtain ⟨s2, hs2⟩ : ∃ x, x = done1 (tabS s top j k) top j := ⟨_, rfl⟩
          have hba := fun W' (hW : Below W6.heap.size W6 W') => (base_calls (hB2.below hW).x hraw (hB2.below hW).m (HH.out.rt k (Nat.le_refl _)) HH.out.ne).mono (R' := fun e w' => e = .returned (.int .i64 0) ∧ Bb w w' hb mb fb xb t1 t5 t3 gb mm hm eb k top s2 (rtU rt k l2) f st sz tb pp g2 g4 g5 g6 (g6 + 1) pb fm pm (j + 1 + 1) j) (fun e w' ⟨q1, q2, q3, q4⟩ => ⟨q1, bb_base (hB2.below hW) (by rw [hs2]; exact q2) (by rw [hl2]; exact q3) q4 HH.out.ge.2.2.1⟩)
          rw [← hl2] at hba
          have SA : ∀ {s' : MS} {rt' : Nat → Int} (W' : World), Bb w W' hb mb fb xb t1 t5 t3 gb mm hm eb k top s' rt' f st sz tb pp g2 g4 g5 g6 (g6 + 1) pb fm pm (j + 1 + 1) j → W'.cell? ⟨g2, 0, none⟩ = some (.pointer (some ⟨hb, 0, none⟩)) ∧ W'.cell? ⟨hb, 1, none⟩ = some (.pointer (some ⟨xb, 0, none⟩)) ∧ W'.cell? ⟨hb, 2, none⟩ = some (.pointer (some ⟨gb, 0, none⟩)) ∧ W'.cell? ⟨g4, 0, none⟩ = some (.int .i64 k) := fun W' h => by
            obtain ⟨V, ht⟩ := h.tn
            exact ⟨blk_cell ht.b2 0, blk_cell h.blk 1, blk_cell h.blk 2, blk_cell ht.b4 0⟩
          obtain ⟨c2, c1, c0, c4⟩ := SA W6 hB2
          have HR := Base.Aside.mk (And.intro hraw hs2)
          have lh := blk_lt hB2.blk
          have l4 : g2 < W6.heap.size ∧ g4 < W6.heap.size := by
            obtain ⟨V, ht⟩ := hB2.tn
            exact ⟨blk_lt ht.b2, blk_lt ht.b4⟩
          obtain ⟨l2', l4⟩ := l4
          clear hn hl hl2 hl1 hB2 hraw hs2
          go_upto_region 26 with fail
          go_cut [15] from 82 to 89 (fun v wx => v = .int .i64 0 ∧ Base.Aside (Bb w wx hb mb fb xb t1 t5 t3 gb mm hm eb k top s2 (rtU rt k l2) f st sz tb pp g2 g4 g5 g6 (g6 + 1) pb fm pm (j + 1 + 1) j))
          case first => as_aux_lemma =>
            go_region_held3 (fun Wx => Wx.cell? ⟨g2, 0, none⟩ = some (.pointer (some ⟨hb, 0, none⟩)) ∧ Wx.cell? ⟨hb, 1, none⟩ = some (.pointer (some ⟨xb, 0, none⟩)) ∧ Wx.cell? ⟨g4, 0, none⟩ = some (.int .i64 k))
              (first
                | go_keep
                | (with_reducible exact ⟨c2, c1, c4⟩)
                | (with_reducible exact ⟨(SA _ E4.out).1, (SA _ E4.out).2.1, (SA _ E4.out).2.2.2⟩))
              ((first
                | (go_at_call 25; (with_reducible refine (hba _ ?_).mono ?_); (focus (repeat (with_reducible first | exact Below.refl _ _ | refine below_drew ?_ | refine below_alloc ?_ _))); rintro z w4 ⟨rfl, hB4⟩; have E4 := Base.Aside.mk hB4; clear hB4)))
            all_goals
              go_wp2_with fail
              go_meet
            case rel => exact ⟨rfl, ⟨E4.out.below (by first | exact Below.refl _ _ | exact (Below.refl _ _).drew)⟩⟩
          case rest => as_aux_lemma =>
            obtain ⟨rfl, hA⟩ := hcut
            clear hba
            obtain ⟨hraw, hs2⟩ := HR.out
            obtain ⟨hn, hl, hl2, hl1⟩ := HN.out
            have hfr : s2.fr top = ⟨k, 1, 1, 1⟩ := by rw [hs2, done1_fr hraw, if_pos (by omega)]
            have hn2 : s2.n = N := by rw [hs2, done1_n, ← hn.1]; exact (nmS_n _ _ _ _).trans (gvN_n _ _ _ _)
            have htop : top < s2.n := by omega
            obtain ⟨V, ht⟩ := hA.out.tn
            have hjo := fun W' (hW : Below wc.heap.size wc W') => bb_join (hA.out.below hW) hk htop hfr (HH.out.f k (Int.le_refl _)) HH.out.ge.2.2.2 (ht.below hW)
            obtain ⟨s3, hs3⟩ : ∃ x, x = MS.put1 s2 top (getF (s2.fr top) 1) := ⟨_, rfl⟩
            rw [← hs3] at hjo
            have HR3 := Base.Aside.mk (And.intro hfr (And.intro hn2 hs3))
            obtain ⟨gt, cap, rfl, et⟩ := tn_first ht
            have SE : ∀ (W' : World), W'.heap[hb]? = some (.cells (hcL mb xb gb eb st sz tb pp) 51 (0, 0)) → Tn W' g2 g4 g5 g6 hb k (g6 + 1) (.slice (some ⟨gt, 0, none⟩) (j + 1 + 1) cap) (tkL top (j + 1 + 1)) → W'.cell? ⟨g2, 0, none⟩ = some (.pointer (some ⟨hb, 0, none⟩)) ∧ W'.cell? ⟨hb, 2, none⟩ = some (.pointer (some ⟨gb, 0, none⟩)) ∧ W'.cell? ⟨g4, 0, none⟩ = some (.int .i64 k) ∧ W'.cell? ⟨g6, 0, none⟩ = some (.slice (some ⟨gt, 0, none⟩) (j + 1 + 1) cap) ∧ W'.cell? ⟨gt, 0, none⟩ = some (.int .i64 top) := fun W' hb' ht' => by
              obtain ⟨gt', cap', hv, hgt⟩ := tn_first ht'
              injection hv with e1 e2 e3
              injection e1 with e1
              injection e1 with e1
              subst e1
              exact ⟨blk_cell ht'.b2 0, blk_cell hb' 2, blk_cell ht'.b4 0, blk_cell ht'.b6 0, hgt⟩
            obtain ⟨e2, e1, e4, e6, _⟩ := SE wc hA.out.blk ht
            have lw : g2 < wc.heap.size ∧ g4 < wc.heap.size ∧ g6 < wc.heap.size ∧ hb < wc.heap.size := ⟨blk_lt ht.b2, blk_lt ht.b4, blk_lt ht.b6, blk_lt hA.out.blk⟩
            obtain ⟨lw2, lw4, lw6, lwh⟩ := lw
            obtain ⟨nn, hnn⟩ : ∃ x, x = j + 1 + 1 := ⟨_, rfl⟩
            have HN2 := Base.Aside.mk hnn
            have nz : (0 : Int) < ↑nn := by omega
            have nz2 : 0 < nn := by omega
            simp only [← hnn] at e6 SE hjo
            clear hnn ht
            clear SA hraw hs2 hn hl hl2 hl1 hfr hn2 htop c2 c1 c0 c4 lh l2' l4 hs3
            go_upto_region 29 with fail
            go_cut [] from 92 to 102 (fun wx => Base.Aside (Be w wx hb mb fb xb t1 t5 t3 gb mm hm eb k top s3 (rtU rt k l2) (mput f k (top, pb)) (k + 1) st sz tb pp g2 g4 g5 g6 (g6 + 1) (j + 1 + 1)))
            case first => as_aux_lemma =>
              go_region_held3 (fun Wx => Wx.cell? ⟨g2, 0, none⟩ = some (.pointer (some ⟨hb, 0, none⟩)) ∧ Wx.cell? ⟨hb, 2, none⟩ = some (.pointer (some ⟨gb, 0, none⟩)) ∧ Wx.cell? ⟨g4, 0, none⟩ = some (.int .i64 k) ∧ Wx.cell? ⟨g6, 0, none⟩ = some (.slice (some ⟨gt, 0, none⟩) nn cap) ∧ Wx.cell? ⟨gt, 0, none⟩ = some (.int .i64 top))
                (first
                  | go_keep
                  | (with_reducible exact ⟨e2, e1, e4, e6, et⟩)
                  | (with_reducible exact SE _ E4.out.1.blk E4.out.2))
                ((first
                  | (go_at_call 26; (with_reducible refine (hjo _ ?_).mono ?_); (focus (repeat (with_reducible first | exact Below.refl _ _ | refine below_drew ?_ | refine below_alloc ?_ _))); rintro z w4 ⟨rfl, hB4⟩; have E4 := Base.Aside.mk hB4; clear hB4)))
              all_goals
                go_wp2_with fail
                go_meet
              case rel => exact ⟨by have := E4.out.1; rw [HN2.out] at this; exact this⟩
            case rest => as_aux_lemma =>
              have hE := hcut
              obtain ⟨V, ht⟩ := hE.out.tn
              obtain ⟨gu, cu, rfl, eu⟩ := tn_first ht
              obtain ⟨e2', _, e4', e6', _⟩ := ((⟨blk_cell ht.b2 0, trivial, blk_cell ht.b4 0, blk_cell ht.b6 0, trivial⟩ : wc.cell? ⟨g2, 0, none⟩ = some (.pointer (some ⟨hb, 0, none⟩)) ∧ True ∧ wc.cell? ⟨g4, 0, none⟩ = some (.int .i64 k) ∧ wc.cell? ⟨g6, 0, none⟩ = some (.slice (some ⟨gu, 0, none⟩) (j + 1 + 1) cu) ∧ True))
              obtain ⟨q0, q1, q2, q3⟩ := hcL_at (mb := mb) (xb := xb) (gb := gb) (eb := eb) (st := st) (sz := sz) (tb := tb) (pp := pp) k hk
              have z0 := (blk_cell hE.out.blk (4 + k * 4)).trans q0
              have z1 := (blk_cell hE.out.blk (4 + k * 4 + 1)).trans q1
              have z2 := (blk_cell hE.out.blk (4 + k * 4 + 2)).trans q2
              have z3 := (blk_cell hE.out.blk (4 + k * 4 + 3)).trans q3
              have F0 := fun i => blk_frozen hE.out.blk i
              have L0 := blk_lt hE.out.blk
              have lw2' := blk_lt ht.b2
              have lw4' := blk_lt ht.b4
              have lw6' := blk_lt ht.b6
              rw [← HN2.out] at e6'
              have k0 : (0 : Int) ≤ k := by omega
              have k8 : (k : Int) < 8 := by omega
              have HB := Base.Aside.mk (And.intro ht.b4 ht.b5)
              clear SE hjo ht e2 e1 e4 e6 et lw2 lw4 lw6 lwh q0 q1 q2 q3
              go_upto_region 30 with fail
              go_region
              all_goals go_wp2_with fail
              all_goals
                have hE2 := hE.out
                rw [HR3.out.2.2, HR.out.2] at hE2
                have hl3 : j + 2 ≤ N - top := HN.out.2.1
                obtain ⟨s', rt', f', st', sz', tb', pp', hy, hs, hmn⟩ := hy_next HH.out hk hl3 HR.out.1 hE2 ⟨pb, 0, none⟩
                have n4 : g4 ≠ hb := ty_ne HB.out.1 hE2.blk (by decide)
                have n5 : g5 ≠ hb := ty_ne HB.out.2 hE2.blk (by decide)
                have b4 : ((((wc.setCell ⟨hb, 4 + k * 4, none⟩ (.int .i64 1)).setCell ⟨hb, 4 + k * 4 + 1, none⟩ (.int .i64 j)).setCell ⟨hb, 4 + k * 4 + 2, none⟩ (.int .i64 top)).setCell ⟨hb, 4 + k * 4 + 3, none⟩ (.pointer (some ⟨pb, 0, none⟩))).heap[g4]? = some (.cells #[.int .i64 k] 3 (0, 0)) := blk_far (blk_far (blk_far (blk_far HB.out.1 n4 _) n4 _) n4 _) n4 _
                have b5 : ((((wc.setCell ⟨hb, 4 + k * 4, none⟩ (.int .i64 1)).setCell ⟨hb, 4 + k * 4 + 1, none⟩ (.int .i64 j)).setCell ⟨hb, 4 + k * 4 + 2, none⟩ (.int .i64 top)).setCell ⟨hb, 4 + k * 4 + 3, none⟩ (.pointer (some ⟨pb, 0, none⟩))).heap[g5]? = some (.cells #[.int .i64 0] 24 (0, 0)) := blk_far (blk_far (blk_far (blk_far HB.out.2 n5 _) n5 _) n5 _) n5 _
                refine leaves_cons (f := 18) (args := #[.pointer (some ⟨g5, 0, none⟩), .pointer (some ⟨g6, 0, none⟩), .pointer (some ⟨g2, 0, none⟩), .pointer (some ⟨g4, 0, none⟩)]) (by simp) (by simp [go_sem]) ?_
                generalize ((((wc.setCell ⟨hb, 4 + k * 4, none⟩ (.int .i64 1)).setCell ⟨hb, 4 + k * 4 + 1, none⟩ (.int .i64 j)).setCell ⟨hb, 4 + k * 4 + 2, none⟩ (.int .i64 top)).setCell ⟨hb, 4 + k * 4 + 3, none⟩ (.pointer (some ⟨pb, 0, none⟩))) = X at hy b4 b5 ⊢
                clear z0 z1 z2 z3 F0 L0 e2' e4' e6' eu
                refine (build1_idle ⟨g5, 0, none⟩ _ _ _ .returning _ ?_).mono ?_
                · exact blk_cell b5 0
                rintro e u' w'' ⟨rfl, rfl, rfl⟩
                have q4 : X.cell? ⟨g4, 0, none⟩ = some (.int .i64 k) := blk_cell b4 0
                have q5 : X.cell? ⟨g5, 0, none⟩ = some (.int .i64 0) := blk_cell b5 0
                refine ⟨.tuple #[.int .i64 k, .int .i64 0], ?_, rfl, s', rt', f', st', sz', tb', pp', hy.below (Below.refl _ _).drew, hs, hmn⟩
                simp [results, Try.f7, Try.results7, go_sem, q4, q5]
end
end Go.Proofs.Ytebhpmmibffbeaa.DfF
