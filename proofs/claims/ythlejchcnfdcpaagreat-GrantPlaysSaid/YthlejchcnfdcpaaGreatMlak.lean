/- Proved: how the laws' two worlds lie in memory while begin makes them (lemmas for the laws of the grants). Proved: what begin's calls do to the two worlds (contracts for the laws of the grants). -/
import Derived.Test.YthlejchcnfdcpaaGreatMlag
import Derived.Test.YthlejchcnfdcpaaGreatMlaj
namespace Go.Proofs.YthlejchcnfdcpaaGreat.GbA
open Go.RowKit Go.Maps Base GaA GaB GaC GaD GmA GpA GgA RpA RmA RmB RmC RgA GnA GfC GfD
set_option linter.unusedVariables false
set_option linter.unusedSimpArgs false

/-- Where things lie. -/
structure BA where
  xb : Nat
  mb : Nat
  fb : Nat
  gb : Nat
  mm : Nat
  hm : Nat
  rb : Nat
  Fb : Nat
  Bb : Nat
  cF : Nat
  cB : Nat
  bs : List Nat
  hb : Nat
  Db : Nat
  cD : Nat
  pb : Nat → Nat
  fm : Nat → Nat
  pm : Nat → Nat
  qb : Nat → Nat
  qr : Nat → Nat
  qc : Nat → Nat
def memG (pb : Nat → Nat) (k : Nat) : Int → Option (Int × Nat) := fun x => if 0 ≤ x ∧ x < k then some (4 * x, pb x.toNat) else none
theorem memG_put (pb : Nat → Nat) (k : Nat) : mput (memG pb k) k (((4 * k : Nat) : Int), pb k) = memG pb (k + 1) := by
  funext x
  unfold mput memG
  by_cases h : x = k
  · subst h
    rw [if_pos rfl, if_pos (by omega)]
    simp
  · rw [if_neg h]
    by_cases h2 : 0 ≤ x ∧ x < k
    · rw [if_pos h2, if_pos (by omega)]
    · rw [if_neg h2, if_neg (by omega)]
def memR (qb : Nat → Nat) (k : Nat) : Nat → Int × Option Nat := fun i => if i < k then (((4 * i : Nat) : Int), some (qb i)) else (-1, none)
theorem memR_put (qb : Nat → Nat) (k : Nat) : (fun i => if i = k then (((4 * k : Nat) : Int), some (qb k)) else memR qb k i) = memR qb (k + 1) := by
  funext i
  unfold memR
  by_cases h : i = k
  · subst h
    rw [if_pos rfl, if_pos (by omega)]
  · rw [if_neg h]
    by_cases h2 : i < k
    · rw [if_pos h2, if_pos (by omega)]
    · rw [if_neg h2, if_neg (by omega)]
def frD (e i : Nat) : Int → Option Int := fun x => if 0 ≤ x ∧ x < i then some (4 * e + x) else none
theorem frD_put (e i : Nat) : iput (frD e i) i ((4 * e + i : Nat) : Int) = frD e (i + 1) := by
  funext x
  unfold iput frD
  by_cases h : x = i
  · subst h
    rw [if_pos rfl, if_pos (by omega)]
    simp
  · rw [if_neg h]
    by_cases h2 : 0 ≤ x ∧ x < i
    · rw [if_pos h2, if_pos (by omega)]
    · rw [if_neg h2, if_neg (by omega)]
theorem frD_none (e i : Nat) : frD e i i = none := if_neg (by omega)
def plD (e i : Nat) : Int → Option Int := fun y => if 4 * (e : Int) ≤ y ∧ y < 4 * e + i then some (y - 4 * e) else none
theorem plD_put (e i : Nat) : iput (plD e i) ((4 * e + i : Nat) : Int) i = plD e (i + 1) := by
  funext x
  unfold iput plD
  by_cases h : x = ((4 * e + i : Nat) : Int)
  · subst h
    rw [if_pos rfl, if_pos (by omega)]
    congr 1
    omega
  · rw [if_neg h]
    by_cases h2 : 4 * (e : Int) ≤ x ∧ x < 4 * e + i
    · rw [if_pos h2, if_pos (by omega)]
    · rw [if_neg h2, if_neg (by omega)]
theorem plD_none (e i : Nat) : plD e i ((4 * e + i : Nat) : Int) = none := if_neg (by omega)
theorem plD_neg (e i : Nat) : plD e i (-1) = none := if_neg (by omega)
def lstD (e i : Nat) : List Int := (List.range 8).map fun j => if j < i then ((4 * e + j : Nat) : Int) else -1
theorem lstD_len (e i : Nat) : (lstD e i).length = 8 := by simp [lstD]
theorem lstD_get (e i j : Nat) (h : j < 8) : (lstD e i).getD j 0 = if j < i then ((4 * e + j : Nat) : Int) else -1 := by
  unfold lstD
  rw [List.getD_eq_getElem?_getD, List.getElem?_map, List.getElem?_range h]
  rfl
theorem lstD_put (e i : Nat) (h : i < 8) : (lstD e i).set i ((4 * e + i : Nat) : Int) = lstD e (i + 1) := by
  apply List.ext_getElem
  · simp [lstD]
  · intro j h1 h2
    have hj : j < 8 := by simpa [lstD] using h2
    rw [List.getElem_set]
    simp only [lstD, List.getElem_map, List.getElem_range]
    by_cases e1 : i = j
    · subst e1
      simp
    · rw [if_neg e1]
      by_cases h3 : j < i
      · have h4 : j < i + 1 := by omega
        simp only [if_pos h3, if_pos h4]
      · have h4 : ¬ j < i + 1 := by omega
        simp only [if_neg h3, if_neg h4]
theorem lstD_zero (e : Nat) : List.replicate 8 (-1 : Int) = lstD e 0 := by
  simp [lstD]
  rfl
/-- The machine after k domains and i frames of the next. -/
def msB (k i : Nat) : MS := ⟨13, fun j => if j < 4 * k + i then (if j % 4 = 0 ∧ j / 4 < k then ⟨((j / 4 : Nat) : Int), 1, 1, 1⟩ else ⟨((j / 4 : Nat) : Int), 0, 0, 0⟩) else ⟨-1, 0, 0, 0⟩, fun _ _ => 0⟩
theorem msB_zero : ms0 13 = msB 0 0 := by
  unfold ms0 msB
  congr 1
theorem msB_alloc (k i : Nat) (hi : i < 4) : give (msB k i) (4 * k + i) k = msB k (i + 1) := by
  unfold give MS.put1 msB
  congr 1
  funext j
  simp only
  by_cases h : j = 4 * k + i
  · subst h
    have h1 : ¬ 4 * k + i < 4 * k + i := by omega
    have h2 : 4 * k + i < 4 * k + (i + 1) := by omega
    have h3 : ¬ ((4 * k + i) % 4 = 0 ∧ (4 * k + i) / 4 < k) := by omega
    have h4 : (4 * k + i) / 4 = k := by omega
    simp only [if_true, if_neg h1, if_pos h2, if_neg h3]
    rw [h4]
  · rw [if_neg h]
    by_cases h2 : j < 4 * k + i
    · have h3 : j < 4 * k + (i + 1) := by omega
      simp only [if_pos h2, if_pos h3]
    · have h3 : ¬ j < 4 * k + (i + 1) := by omega
      simp only [if_neg h2, if_neg h3]
theorem msB_join (k : Nat) : MS.put1 (msB k 4) (4 * k) ⟨k, 1, 1, 1⟩ = msB (k + 1) 0 := by
  unfold MS.put1 msB
  congr 1
  funext j
  simp only
  by_cases h : j = 4 * k
  · subst h
    have h1 : 4 * k < 4 * (k + 1) + 0 := by omega
    have h2 : (4 * k) % 4 = 0 ∧ (4 * k) / 4 < k + 1 := by omega
    have h3 : (4 * k) / 4 = k := by omega
    rw [if_pos rfl, if_pos h1, if_pos h2, h3]
  · rw [if_neg h]
    by_cases h2 : j < 4 * k + 4
    · have h3 : j < 4 * (k + 1) + 0 := by omega
      rw [if_pos h2, if_pos h3]
      by_cases h4 : j % 4 = 0 ∧ j / 4 < k
      · have h5 : j % 4 = 0 ∧ j / 4 < k + 1 := by omega
        rw [if_pos h4, if_pos h5]
      · have h5 : ¬ (j % 4 = 0 ∧ j / 4 < k + 1) := by omega
        rw [if_neg h4, if_neg h5]
    · have h3 : ¬ j < 4 * (k + 1) + 0 := by omega
      rw [if_neg h2, if_neg h3]
theorem msB_own (k i : Nat) : ((msB k i).fr (4 * k + i)).own = -1 := by
  unfold msB
  simp only
  rw [if_neg (by omega)]
theorem msB_low (k i j : Nat) (h : j < 4 * k + i) : ((msB k i).fr j).own ≠ -1 := by
  unfold msB
  simp only
  rw [if_pos h]
  split <;> simp only <;> omega
theorem msB_first (k : Nat) : (msB k 4).fr (4 * k) = ⟨k, 0, 0, 0⟩ := by
  unfold msB
  simp only
  rw [if_pos (by omega), if_neg (by omega)]
  congr 1
  omega
/-- What kind of block it is. -/
def tyAt (W : World) (x : Nat) : Option TypeId := match W.heap[x]? with | some (.cells _ t _) => some t | _ => none
theorem ty_cells {W : World} {x : Nat} {cs : Array Value} {t : TypeId} {z : Nat × Nat} (h : W.heap[x]? = some (.cells cs t z)) : tyAt W x = some t := by unfold tyAt; rw [h]
theorem ty_map {W : World} {x : Nat} {es : Array MapEntry} {n : Nat} (h : W.heap[x]? = some (.map es n)) : tyAt W x = none := by unfold tyAt; rw [h]
theorem ty_imap {W : World} {x c : Nat} {f : Int → Option Value} (h : IMap W x f c) : tyAt W x = none := by
  obtain ⟨es, n, h1⟩ := h.is
  exact ty_map h1
theorem ty_row {W : World} {x b e size n : Nat} {v : Value} {xs : List Value} (h : W.ownsRow b e size v n xs) (hx : v.ownBlock = some x) : tyAt W x = some e := by
  obtain ⟨_, ⟨rfl, h0⟩ | ⟨g, c, cur, rfl, hb, hg, _⟩⟩ := h
  · simp [Value.ownBlock] at hx
  · simp only [Value.ownBlock, Option.some.injEq] at hx
    subst hx
    exact ty_cells hg
/-- The blocks of the two worlds, but for those of the machines' own. -/
def Bl (a : BA) (k : Nat) (P Q : Value) (x : Nat) : Prop :=
  x = a.xb ∨ x = a.gb ∨ x = a.mm ∨ x = a.hm ∨ x = a.hb ∨ x = a.Db ∨ P.ownBlock = some x ∨ Q.ownBlock = some x ∨ ∃ e, e < k ∧ (x = a.pb e ∨ x = a.fm e ∨ x = a.pm e ∨ x = a.qb e ∨ x = a.qr e)
def ptrs (pb : Nat → Nat) (k : Nat) : List Value := (List.range k).map fun e => .pointer (some ⟨pb e, 0, none⟩)
theorem ptrs_len (pb : Nat → Nat) (k : Nat) : (ptrs pb k).length = k := by simp [ptrs]
theorem ptrs_succ (pb : Nat → Nat) (k : Nat) : ptrs pb (k + 1) = ptrs pb k ++ [.pointer (some ⟨pb k, 0, none⟩)] := by simp [ptrs, List.range_succ]
/-- How far begin has come. -/
structure Cn where
  k : Nat
  kp : Nat
  kq : Nat
  kg : Nat
  kh : Nat
/-- What is told apart by its age. -/
structure Sep (B : Nat) (a : BA) (k : Nat) : Prop where
  hb : B ≤ a.hb
  ge : ∀ e, e < k → B ≤ a.fm e ∧ B ≤ a.pm e ∧ B ≤ a.qr e
  ne : ∀ e e', e < k → e' < k → e ≠ e' → a.qb e ≠ a.qb e' ∧ a.qr e ≠ a.qr e' ∧ a.fm e ≠ a.fm e' ∧ a.fm e ≠ a.pm e' ∧ a.pm e ≠ a.pm e'
/-- The two worlds, behind k domains: s and t: the machines. -/
structure Bo (B : Nat) (W : World) (a : BA) (s t : MS) (n : Cn) (P Q : Value) : Prop where
  blk : W.heap[a.xb]? = some (.cells #[.pointer (some ⟨a.mb, 0, none⟩), .pointer (some ⟨a.gb, 0, none⟩), P, .pointer (some ⟨a.rb, 0, none⟩), .pointer (some ⟨a.hb, 0, none⟩), Q] 47 (0, 0))
  m : Mach W a.mb a.fb s
  w : RMach W a.rb a.Fb a.Bb a.cF a.cB a.bs t
  g : G2 W a.gb a.mm a.hm a.mb (memG a.pb n.kg) n.kg
  hk : W.heap[a.hm]? = some (.map #[] 0)
  h : R6 W a.hb a.Db a.cD a.rb (memR a.qb n.kh)
  p : ∀ e, e < n.k → P2 W (a.pb e) (a.fm e) (a.pm e) 8 (frD e 4) (plD e 4) 4
  q : ∀ e, e < n.k → R3 W (a.qb e) (a.qr e) (a.qc e) (lstD e 4)
  rp : W.ownsRow B 55 1 P n.kp (ptrs a.pb n.kp)
  rq : W.ownsRow B 58 1 Q n.kq (ptrs a.qb n.kq)
  ge : B ≤ a.xb ∧ B ≤ a.fb ∧ B ≤ a.mm ∧ B ≤ a.hm ∧ B ≤ a.Fb ∧ B ≤ a.Db ∧ (∀ b ∈ a.bs, B ≤ b) ∧ B ≤ W.heap.size
  mh : a.mm ≠ a.hm
  ne : ∀ e, e < n.k → a.mm ≠ a.fm e ∧ a.mm ≠ a.pm e ∧ a.hm ≠ a.fm e ∧ a.hm ≠ a.pm e
  inj : ∀ e e', e < n.k → e' < n.k → a.pb e = a.pb e' → e = e'
  sep : Sep B a n.k
section
variable {B : Nat} {W W' : World} {a : BA} {s t s' t' : MS} {n : Cn} {P Q : Value}
theorem Bo.lt (h : Bo B W a s t n P Q) {x : Nat} (hx : Bl a n.k P Q x) : x < W.heap.size := by
  rcases hx with rfl | rfl | rfl | rfl | rfl | rfl | hp | hq | ⟨e, he, rfl | rfl | rfl | rfl | rfl⟩
  · exact blk_lt h.blk
  · exact blk_lt h.g.blk
  · exact h.g.mem.lt
  · exact blk_lt h.hk
  · exact h.h.lt.1
  · exact h.h.lt.2
  · exact (h.rp.lt _ hp).2
  · exact (h.rq.lt _ hq).2
  · exact (h.p e he).lt.1
  · exact (h.p e he).lt.2.1
  · exact (h.p e he).lt.2.2
  · exact (h.q e he).lt.1
  · exact (h.q e he).lt.2
def kinds : List (Option TypeId) := [some 47, some 117, none, some 120, some 122, some 55, some 58, some 125, some 128, some 3]
theorem Bo.ty (h : Bo B W a s t n P Q) {x : Nat} (hx : Bl a n.k P Q x) : tyAt W x ∈ kinds := by
  rcases hx with rfl | rfl | rfl | rfl | rfl | rfl | hp | hq | ⟨e, he, rfl | rfl | rfl | rfl | rfl⟩
  · rw [ty_cells h.blk]; decide
  · rw [ty_cells h.g.blk]; decide
  · rw [ty_imap h.g.mem]; decide
  · rw [ty_map h.hk]; decide
  · rw [ty_cells h.h.blk]; decide
  · obtain ⟨cs, h1, _⟩ := h.h.mem; rw [ty_cells h1]; decide
  · rw [ty_row h.rp hp]; decide
  · rw [ty_row h.rq hq]; decide
  · rw [ty_cells (h.p e he).blk]; decide
  · rw [ty_imap (h.p e he).mf]; decide
  · rw [ty_imap (h.p e he).mp]; decide
  · rw [ty_cells (h.q e he).blk]; decide
  · rw [ty_row (h.q e he).row rfl]; decide
/-- What no step turns, whatever it turns: by the kinds of the blocks that it turns. -/
structure Off (F : Nat → Prop) (a : BA) (k : Nat) : Prop where
  xb : ¬ F a.xb
  gb : ¬ F a.gb
  hb : ¬ F a.hb
  mb : ¬ F a.mb
  rb : ¬ F a.rb
  Bb : ¬ F a.Bb
  bs : ∀ b ∈ a.bs, ¬ F b
  hm : ¬ F a.hm
  p : ∀ e, e < k → ¬ F (a.pb e) ∧ ¬ F (a.fm e) ∧ ¬ F (a.pm e)
  q : ∀ e, e < k → ¬ F (a.qb e) ∧ ¬ F (a.qr e)
theorem ge_size (h : Bo B W a s t n P Q) {F : Nat → Prop} (hc : Chg F W W') : B ≤ a.xb ∧ B ≤ a.fb ∧ B ≤ a.mm ∧ B ≤ a.hm ∧ B ≤ a.Fb ∧ B ≤ a.Db ∧ (∀ b ∈ a.bs, B ≤ b) ∧ B ≤ W'.heap.size := by
  obtain ⟨g1, g2, g3, g4, g5, g6, g7, g8⟩ := h.ge
  exact ⟨g1, g2, g3, g4, g5, g6, g7, Nat.le_trans g8 hc.size⟩
/-- All but the machines stays. -/
theorem Bo.step (h : Bo B W a s t n P Q) {F : Nat → Prop} (hc : Chg F W W') (m' : Mach W' a.mb a.fb s') (w' : RMach W' a.rb a.Fb a.Bb a.cF a.cB a.bs t') (hF : ∀ x, Bl a n.k P Q x → ¬ F x) : Bo B W' a s' t' n P Q := by
  have hb : ∀ x, x = a.xb → ¬ F x := fun x hx => hF x (.inl hx)
  have kk : ∀ e x, e < n.k → (x = a.pb e ∨ x = a.fm e ∨ x = a.pm e ∨ x = a.qb e ∨ x = a.qr e) → ¬ F x := fun e x he hx => hF x (.inr (.inr (.inr (.inr (.inr (.inr (.inr (.inr ⟨e, he, hx⟩))))))))
  exact ⟨hc.blk h.blk (hb _ rfl), m', w', h.g.chg hc (hF _ (.inr (.inl rfl))) (hF _ (.inr (.inr (.inl rfl)))), hc.blk h.hk (hF _ (.inr (.inr (.inr (.inl rfl))))), h.h.chg hc (hF _ (.inr (.inr (.inr (.inr (.inl rfl)))))) (hF _ (.inr (.inr (.inr (.inr (.inr (.inl rfl))))))),
    fun e he => (h.p e he).chg hc (kk e _ he (.inl rfl)) (kk e _ he (.inr (.inl rfl))) (kk e _ he (.inr (.inr (.inl rfl)))), fun e he => (h.q e he).chg hc (kk e _ he (.inr (.inr (.inr (.inl rfl))))) (kk e _ he (.inr (.inr (.inr (.inr rfl))))),
    row_chg h.rp hc (fun g hg => hF _ (.inr (.inr (.inr (.inr (.inr (.inr (.inl hg)))))))), row_chg h.rq hc (fun g hg => hF _ (.inr (.inr (.inr (.inr (.inr (.inr (.inr (.inl hg))))))))), ge_size h hc, h.mh, h.ne, h.inj, h.sep⟩
theorem Bo.below (h : Bo B W a s t n P Q) (hb : Below W.heap.size W W') : Bo B W' a s t n P Q :=
  h.step (Chg.below (fun _ => False) hb) (h.m.below hb) (h.w.below hb) (fun _ _ h => h)
theorem Bo.ty_ne (h : Bo B W a s t n P Q) {x y : Nat} {u : TypeId} (hy : tyAt W y = some u) (hu : some u ∉ kinds) (hx : Bl a n.k P Q x) : x ≠ y := by
  rintro rfl
  exact hu (hy ▸ h.ty hx)
theorem Bo.page (h : Bo B W a s t n P Q) {b : Nat} (hb : b ∈ a.bs) : ∃ cs, W.heap[b]? = some (.cells cs 5 (0, 0)) := by
  obtain ⟨i, hi, rfl⟩ := List.mem_iff_getElem.1 hb
  have hpg := h.w.page i (by rw [← h.w.len]; exact hi)
  rw [List.getD_eq_getElem?_getD, List.getElem?_eq_getElem hi] at hpg
  exact ⟨_, hpg⟩
/-- The machine's frames turn. -/
theorem Bo.mach (h : Bo B W a s t n P Q) (hc : Chg (fun x => x = a.fb) W W') (m' : Mach W' a.mb a.fb s') : Bo B W' a s' t n P Q := by
  obtain ⟨cs, h1, h2⟩ := h.m.lst
  obtain ⟨cs1, f1, f2⟩ := h.w.frs
  obtain ⟨cs2, r1, r2⟩ := h.w.rows
  refine h.step hc m' (h.w.chg hc (blk_ne h.w.blk h1 (by decide)) (blk_ne f1 h1 (by decide)) (blk_ne r1 h1 (by decide)) ?_) (fun x hx => h.ty_ne (ty_cells h1) (by decide) hx)
  intro b hb
  obtain ⟨cs3, hp⟩ := h.page hb
  exact blk_ne hp h1 (by decide)
/-- The document's frames turn. -/
theorem Bo.rmach (h : Bo B W a s t n P Q) (hc : Chg (fun x => x = a.Fb) W W') (w' : RMach W' a.rb a.Fb a.Bb a.cF a.cB a.bs t') : Bo B W' a s t' n P Q := by
  obtain ⟨cs, h1, h2⟩ := h.m.lst
  obtain ⟨cs1, f1, f2⟩ := h.w.frs
  exact h.step hc (h.m.chg hc (blk_ne h.m.blk f1 (by decide)) (blk_ne h1 f1 (by decide))) w' (fun x hx => h.ty_ne (ty_cells f1) (by decide) hx)
/-- All that was there lies below N. -/
structure Old (a : BA) (k : Nat) (P Q : Value) (N : Nat) : Prop where
  bl : ∀ x, Bl a k P Q x → x < N
  m : a.mb < N ∧ a.fb < N ∧ a.rb < N ∧ a.Fb < N ∧ a.Bb < N ∧ ∀ b ∈ a.bs, b < N
theorem Bo.old (h : Bo B W a s t n P Q) : Old a n.k P Q W.heap.size :=
  ⟨fun x hx => h.lt hx, h.m.lt.1, h.m.lt.2, h.w.lt.1, h.w.lt.2.1, h.w.lt.2.2, fun b hb => by obtain ⟨cs, hp⟩ := h.page hb; exact blk_lt hp⟩
/-- Something turns that is younger. -/
theorem Bo.young (h : Bo B W a s t n P Q) {F : Nat → Prop} {N : Nat} (hc : Chg F W W') (hN : ∀ x, F x → N ≤ x) (ho : Old a n.k P Q N) : Bo B W' a s t n P Q := by
  obtain ⟨m1, m2, m3, m4, m5, m6⟩ := ho.m
  have hh : ∀ x, x < N → ¬ F x := fun x hx hf => by have := hN x hf; omega
  exact h.step hc (h.m.chg hc (hh _ m1) (hh _ m2)) (h.w.chg hc (hh _ m3) (hh _ m4) (hh _ m5) (fun b hb => hh _ (m6 b hb))) (fun x hx => hh x (ho.bl x hx))
/-- The next domain's places. -/
structure Cur (W : World) (a : BA) (k i j : Nat) (N : Nat) : Prop where
  p : P2 W (a.pb k) (a.fm k) (a.pm k) 8 (frD k i) (plD k i) i
  q : R3 W (a.qb k) (a.qr k) (a.qc k) (lstD k j)
  ge : N ≤ a.pb k ∧ N ≤ a.fm k ∧ N ≤ a.pm k ∧ N ≤ a.qb k ∧ N ≤ a.qr k
theorem Cur.chg {k i j N : Nat} (h : Cur W a k i j N) {F : Nat → Prop} (hc : Chg F W W') (hF : ∀ x, F x → x < N) : Cur W' a k i j N := by
  have hh : ∀ x, N ≤ x → ¬ F x := fun x hx hf => by have := hF x hf; omega
  obtain ⟨g1, g2, g3, g4, g5⟩ := h.ge
  exact ⟨h.p.chg hc (hh _ g1) (hh _ g2) (hh _ g3), h.q.chg hc (hh _ g4) (hh _ g5), h.ge⟩
theorem Cur.below {k i j N : Nat} (h : Cur W a k i j N) (hb : Below W.heap.size W W') : Cur W' a k i j N := ⟨h.p.below hb, h.q.below hb, h.ge⟩
theorem Bo.take (h : Bo B W a s t n P Q) {N : Nat} (hc : Cur W a n.k 4 4 N) (ho : Old a n.k P Q N) : Bo B W a s t ⟨n.k + 1, n.kp, n.kq, n.kg, n.kh⟩ P Q := by
  obtain ⟨g1, g2, g3, g4, g5⟩ := hc.ge
  have hmm := ho.bl a.mm (.inr (.inr (.inl rfl)))
  have hhm := ho.bl a.hm (.inr (.inr (.inr (.inl rfl))))
  have hpb : ∀ e, e < n.k → a.pb e < N := fun e he => ho.bl _ (.inr (.inr (.inr (.inr (.inr (.inr (.inr (.inr ⟨e, he, .inl rfl⟩))))))))
  refine ⟨h.blk, h.m, h.w, h.g, h.hk, h.h, fun e he => ?_, fun e he => ?_, h.rp, h.rq, h.ge, h.mh, fun e he => ?_, fun e e' he he' heq => ?_, ⟨h.sep.hb, fun e he => ?_, fun e e' he he' hne => ?_⟩⟩
  · by_cases h1 : e = n.k
    · subst h1; exact hc.p
    · exact h.p e (by have : e < n.k + 1 := he; omega)
  · by_cases h1 : e = n.k
    · subst h1; exact hc.q
    · exact h.q e (by have : e < n.k + 1 := he; omega)
  · by_cases h1 : e = n.k
    · subst h1; omega
    · exact h.ne e (by have : e < n.k + 1 := he; omega)
  · have h1 : e < n.k + 1 := he
    have h2 : e' < n.k + 1 := he'
    by_cases h3 : e = n.k
    · by_cases h4 : e' = n.k
      · omega
      · have := hpb e' (by omega)
        subst h3
        omega
    · by_cases h4 : e' = n.k
      · have := hpb e (by omega)
        subst h4
        omega
      · exact h.inj e e' (by omega) (by omega) heq
  · have hBN : B ≤ N := by have := ho.bl a.xb (.inl rfl); have := h.ge.1; omega
    by_cases h1 : e = n.k
    · subst h1; omega
    · exact h.sep.ge e (by have : e < n.k + 1 := he; omega)
  · have h1 : e < n.k + 1 := he
    have h2 : e' < n.k + 1 := he'
    have hall : ∀ e, e < n.k → a.fm e < N ∧ a.pm e < N ∧ a.qb e < N ∧ a.qr e < N := fun e he => ⟨ho.bl _ (.inr (.inr (.inr (.inr (.inr (.inr (.inr (.inr ⟨e, he, .inr (.inl rfl)⟩)))))))), ho.bl _ (.inr (.inr (.inr (.inr (.inr (.inr (.inr (.inr ⟨e, he, .inr (.inr (.inl rfl))⟩)))))))), ho.bl _ (.inr (.inr (.inr (.inr (.inr (.inr (.inr (.inr ⟨e, he, .inr (.inr (.inr (.inl rfl)))⟩)))))))), ho.bl _ (.inr (.inr (.inr (.inr (.inr (.inr (.inr (.inr ⟨e, he, .inr (.inr (.inr (.inr rfl)))⟩))))))))⟩
    by_cases h3 : e = n.k
    · have := hall e' (by omega)
      subst h3
      omega
    · by_cases h4 : e' = n.k
      · have := hall e (by omega)
        subst h4
        omega
      · exact h.sep.ne e e' (by omega) (by omega) hne
theorem grown_chg {r : Option Nat} (h : W.grownBy W' r) : Chg (fun x => r = some x) W W' := ⟨h.os, h.tape, h.output, h.size, fun k hk hf => h.block k hk (fun e => hf e.symm)⟩
theorem Bo.appP (h : Bo B W a s t n P Q) {P' : Value} (hc : Chg (fun x => P.ownBlock = some x) W W') (hr : W'.ownsRow B 55 1 P' (n.kp + 1) (ptrs a.pb n.kp ++ [.pointer (some ⟨a.pb n.kp, 0, none⟩)])) :
    W'.heap[a.xb]? = some (.cells #[.pointer (some ⟨a.mb, 0, none⟩), .pointer (some ⟨a.gb, 0, none⟩), P, .pointer (some ⟨a.rb, 0, none⟩), .pointer (some ⟨a.hb, 0, none⟩), Q] 47 (0, 0)) ∧ Bo B (W'.setCell ⟨a.xb, 2, none⟩ P') a s t ⟨n.k, n.kp + 1, n.kq, n.kg, n.kh⟩ P' Q := by
  have hn : ∀ {g : Nat} {cs : Array Value} {u : TypeId}, W.heap[g]? = some (.cells cs u (0, 0)) → u ≠ 55 → ¬ P.ownBlock = some g := fun hg hu => row_ne h.rp hg hu
  have hnm : ∀ {g : Nat}, tyAt W g = none → ¬ P.ownBlock = some g := fun hg e => by have := ty_row h.rp e; rw [hg] at this; cases this
  have hx := hc.blk h.blk (hn h.blk (by decide))
  have hs : Chg (fun x => x = a.xb) W' (W'.setCell ⟨a.xb, 2, none⟩ P') := Chg.set (F := fun x => x = a.xb) (p := ⟨a.xb, 2, none⟩) (Chg.refl _ W') (.inl rfl) _
  have hC : Chg (fun x => P.ownBlock = some x ∨ x = a.xb) W (W'.setCell ⟨a.xb, 2, none⟩ P') := (hc.mono fun _ h => .inl h).trans (hs.mono fun _ h => .inr h)
  have hne : ∀ {g : Nat} {u : TypeId}, tyAt W g = some u → u ≠ 47 → g ≠ a.xb := fun hg hu e => by subst e; rw [ty_cells h.blk] at hg; exact hu (Option.some.inj hg).symm
  have kc : ∀ {g : Nat} {cs : Array Value} {u : TypeId}, W.heap[g]? = some (.cells cs u (0, 0)) → u ≠ 55 → u ≠ 47 → ¬ (P.ownBlock = some g ∨ g = a.xb) := fun hg h1 h2 => by rintro (h3 | h3); exact hn hg h1 h3; exact hne (ty_cells hg) h2 h3
  have km : ∀ {g : Nat}, tyAt W g = none → ¬ (P.ownBlock = some g ∨ g = a.xb) := fun hg => by rintro (h3 | h3); exact hnm hg h3; subst h3; rw [ty_cells h.blk] at hg; cases hg
  obtain ⟨m1, m2⟩ := h.m.lst
  obtain ⟨f1, f2, _⟩ := h.w.frs
  obtain ⟨r1, r2, _⟩ := h.w.rows
  obtain ⟨d1, d2, _⟩ := h.h.mem
  refine ⟨hx, ⟨blk_put hx 2 _ (by simp), h.m.chg hC (kc h.m.blk (by decide) (by decide)) (kc m2.1 (by decide) (by decide)), h.w.chg hC (kc h.w.blk (by decide) (by decide)) (kc f2 (by decide) (by decide)) (kc r2 (by decide) (by decide)) (fun b hb => by obtain ⟨cs, hp⟩ := h.page hb; exact kc hp (by decide) (by decide)),
    h.g.chg hC (kc h.g.blk (by decide) (by decide)) (km (ty_imap h.g.mem)), hC.blk h.hk (km (ty_map h.hk)), h.h.chg hC (kc h.h.blk (by decide) (by decide)) (kc d2 (by decide) (by decide)),
    fun e he => (h.p e he).chg hC (kc (h.p e he).blk (by decide) (by decide)) (km (ty_imap (h.p e he).mf)) (km (ty_imap (h.p e he).mp)), fun e he => (h.q e he).chg hC (kc (h.q e he).blk (by decide) (by decide)) ?_, ?_, ?_, ge_size h hC, h.mh, h.ne, h.inj, h.sep⟩⟩
  · have ht := ty_row (h.q e he).row rfl
    rintro (h3 | h3)
    · have := ty_row h.rp h3
      rw [ht] at this
      exact absurd this (by decide)
    · exact hne ht (by decide) h3
  · rw [ptrs_succ]
    exact row_chg hr hs (by rintro g hg rfl; exact row_ne hr hx (by decide) hg)
  · refine row_chg h.rq hC ?_
    intro g hg
    have ht := ty_row h.rq hg
    rintro (h3 | h3)
    · have := ty_row h.rp h3
      rw [ht] at this
      exact absurd this (by decide)
    · exact hne ht (by decide) h3
theorem Bo.appQ (h : Bo B W a s t n P Q) {Q' : Value} (hc : Chg (fun x => Q.ownBlock = some x) W W') (hr : W'.ownsRow B 58 1 Q' (n.kq + 1) (ptrs a.qb n.kq ++ [.pointer (some ⟨a.qb n.kq, 0, none⟩)])) :
    W'.heap[a.xb]? = some (.cells #[.pointer (some ⟨a.mb, 0, none⟩), .pointer (some ⟨a.gb, 0, none⟩), P, .pointer (some ⟨a.rb, 0, none⟩), .pointer (some ⟨a.hb, 0, none⟩), Q] 47 (0, 0)) ∧ Bo B (W'.setCell ⟨a.xb, 5, none⟩ Q') a s t ⟨n.k, n.kp, n.kq + 1, n.kg, n.kh⟩ P Q' := by
  have hn : ∀ {g : Nat} {cs : Array Value} {u : TypeId}, W.heap[g]? = some (.cells cs u (0, 0)) → u ≠ 58 → ¬ Q.ownBlock = some g := fun hg hu => row_ne h.rq hg hu
  have hnm : ∀ {g : Nat}, tyAt W g = none → ¬ Q.ownBlock = some g := fun hg e => by have := ty_row h.rq e; rw [hg] at this; cases this
  have hx := hc.blk h.blk (hn h.blk (by decide))
  have hs : Chg (fun x => x = a.xb) W' (W'.setCell ⟨a.xb, 5, none⟩ Q') := Chg.set (F := fun x => x = a.xb) (p := ⟨a.xb, 5, none⟩) (Chg.refl _ W') (.inl rfl) _
  have hC : Chg (fun x => Q.ownBlock = some x ∨ x = a.xb) W (W'.setCell ⟨a.xb, 5, none⟩ Q') := (hc.mono fun _ h => .inl h).trans (hs.mono fun _ h => .inr h)
  have hne : ∀ {g : Nat} {u : TypeId}, tyAt W g = some u → u ≠ 47 → g ≠ a.xb := fun hg hu e => by subst e; rw [ty_cells h.blk] at hg; exact hu (Option.some.inj hg).symm
  have kc : ∀ {g : Nat} {cs : Array Value} {u : TypeId}, W.heap[g]? = some (.cells cs u (0, 0)) → u ≠ 58 → u ≠ 47 → ¬ (Q.ownBlock = some g ∨ g = a.xb) := fun hg h1 h2 => by rintro (h3 | h3); exact hn hg h1 h3; exact hne (ty_cells hg) h2 h3
  have km : ∀ {g : Nat}, tyAt W g = none → ¬ (Q.ownBlock = some g ∨ g = a.xb) := fun hg => by rintro (h3 | h3); exact hnm hg h3; subst h3; rw [ty_cells h.blk] at hg; cases hg
  obtain ⟨m1, m2⟩ := h.m.lst
  obtain ⟨f1, f2, _⟩ := h.w.frs
  obtain ⟨r1, r2, _⟩ := h.w.rows
  obtain ⟨d1, d2, _⟩ := h.h.mem
  refine ⟨hx, ⟨blk_put hx 5 _ (by simp), h.m.chg hC (kc h.m.blk (by decide) (by decide)) (kc m2.1 (by decide) (by decide)), h.w.chg hC (kc h.w.blk (by decide) (by decide)) (kc f2 (by decide) (by decide)) (kc r2 (by decide) (by decide)) (fun b hb => by obtain ⟨cs, hp⟩ := h.page hb; exact kc hp (by decide) (by decide)),
    h.g.chg hC (kc h.g.blk (by decide) (by decide)) (km (ty_imap h.g.mem)), hC.blk h.hk (km (ty_map h.hk)), h.h.chg hC (kc h.h.blk (by decide) (by decide)) (kc d2 (by decide) (by decide)),
    fun e he => (h.p e he).chg hC (kc (h.p e he).blk (by decide) (by decide)) (km (ty_imap (h.p e he).mf)) (km (ty_imap (h.p e he).mp)), fun e he => (h.q e he).chg hC (kc (h.q e he).blk (by decide) (by decide)) ?_, ?_, ?_, ge_size h hC, h.mh, h.ne, h.inj, h.sep⟩⟩
  · have ht := ty_row (h.q e he).row rfl
    rintro (h3 | h3)
    · have := ty_row h.rq h3
      rw [ht] at this
      exact absurd this (by decide)
    · exact hne ht (by decide) h3
  · refine row_chg h.rp hC ?_
    intro g hg
    have ht := ty_row h.rp hg
    rintro (h3 | h3)
    · have := ty_row h.rq h3
      rw [ht] at this
      exact absurd this (by decide)
    · exact hne ht (by decide) h3
  · rw [ptrs_succ]
    exact row_chg hr hs (by rintro g hg rfl; exact row_ne hr hx (by decide) hg)
/-- A domain has joined the program's grants. -/
theorem Bo.joinG (h : Bo B W a s t n P Q) (hc : Chg (fun x => x = a.fb ∨ x = a.mm) W W') (hg : G2 W' a.gb a.mm a.hm a.mb (memG a.pb (n.kg + 1)) (n.kg + 1)) (hm : Mach W' a.mb a.fb s') : Bo B W' a s' t ⟨n.k, n.kp, n.kq, n.kg + 1, n.kh⟩ P Q := by
  obtain ⟨m1, m2, _⟩ := h.m.lst
  have tm := ty_imap h.g.mem
  have kc : ∀ {g : Nat} {u : TypeId}, tyAt W g = some u → u ≠ 113 → ¬ (g = a.fb ∨ g = a.mm) := fun hg hu => by
    rintro (h3 | h3)
    · subst h3; rw [ty_cells m2] at hg; exact hu (Option.some.inj hg).symm
    · subst h3; rw [tm] at hg; cases hg
  have km : ∀ {g : Nat}, tyAt W g = none → g ≠ a.mm → ¬ (g = a.fb ∨ g = a.mm) := fun hg hu => by
    rintro (h3 | h3)
    · subst h3; rw [ty_cells m2] at hg; cases hg
    · exact hu h3
  obtain ⟨f1, f2, _⟩ := h.w.frs
  obtain ⟨r1, r2, _⟩ := h.w.rows
  obtain ⟨d1, d2, _⟩ := h.h.mem
  exact ⟨hc.blk h.blk (kc (ty_cells h.blk) (by decide)), hm, h.w.chg hc (kc (ty_cells h.w.blk) (by decide)) (kc (ty_cells f2) (by decide)) (kc (ty_cells r2) (by decide)) (fun b hb => by obtain ⟨cs, hp⟩ := h.page hb; exact kc (ty_cells hp) (by decide)), hg, hc.blk h.hk (km (ty_map h.hk) (fun e => h.mh e.symm)),
    h.h.chg hc (kc (ty_cells h.h.blk) (by decide)) (kc (ty_cells d2) (by decide)), fun e he => (h.p e he).chg hc (kc (ty_cells (h.p e he).blk) (by decide)) (km (ty_imap (h.p e he).mf) (fun e1 => (h.ne e he).1 e1.symm)) (km (ty_imap (h.p e he).mp) (fun e1 => (h.ne e he).2.1 e1.symm)),
    fun e he => (h.q e he).chg hc (kc (ty_cells (h.q e he).blk) (by decide)) (kc (ty_row (h.q e he).row rfl) (by decide)), row_chg h.rp hc (fun g hg => kc (ty_row h.rp hg) (by decide)), row_chg h.rq hc (fun g hg => kc (ty_row h.rq hg) (by decide)), ge_size h hc, h.mh, h.ne, h.inj, h.sep⟩
theorem Bo.joinH (h : Bo B W a s t n P Q) (hc : Chg (fun x => x = a.Fb ∨ x = a.Db) W W') (hg : R6 W' a.hb a.Db a.cD a.rb (memR a.qb (n.kh + 1))) (hw : RMach W' a.rb a.Fb a.Bb a.cF a.cB a.bs t') : Bo B W' a s t' ⟨n.k, n.kp, n.kq, n.kg, n.kh + 1⟩ P Q := by
  obtain ⟨m1, m2, _⟩ := h.m.lst
  obtain ⟨f1, f2, _⟩ := h.w.frs
  obtain ⟨d1, d2, _⟩ := h.h.mem
  have kc : ∀ {g : Nat} {u : TypeId}, tyAt W g = some u → u ≠ 95 → u ≠ 122 → ¬ (g = a.Fb ∨ g = a.Db) := fun hg hu hu2 => by
    rintro (h3 | h3)
    · subst h3; rw [ty_cells f2] at hg; exact hu (Option.some.inj hg).symm
    · subst h3; rw [ty_cells d2] at hg; exact hu2 (Option.some.inj hg).symm
  have km : ∀ {g : Nat}, tyAt W g = none → ¬ (g = a.Fb ∨ g = a.Db) := fun hg => by
    rintro (h3 | h3)
    · subst h3; rw [ty_cells f2] at hg; cases hg
    · subst h3; rw [ty_cells d2] at hg; cases hg
  exact ⟨hc.blk h.blk (kc (ty_cells h.blk) (by decide) (by decide)), h.m.chg hc (kc (ty_cells h.m.blk) (by decide) (by decide)) (kc (ty_cells m2) (by decide) (by decide)), hw, h.g.chg hc (kc (ty_cells h.g.blk) (by decide) (by decide)) (km (ty_imap h.g.mem)), hc.blk h.hk (km (ty_map h.hk)), hg,
    fun e he => (h.p e he).chg hc (kc (ty_cells (h.p e he).blk) (by decide) (by decide)) (km (ty_imap (h.p e he).mf)) (km (ty_imap (h.p e he).mp)), fun e he => (h.q e he).chg hc (kc (ty_cells (h.q e he).blk) (by decide) (by decide)) (kc (ty_row (h.q e he).row rfl) (by decide) (by decide)),
    row_chg h.rp hc (fun g hg => kc (ty_row h.rp hg) (by decide) (by decide)), row_chg h.rq hc (fun g hg => kc (ty_row h.rq hg) (by decide) (by decide)), ge_size h hc, h.mh, h.ne, h.inj, h.sep⟩
/-- Blocks that are not yet named may be named anew. -/
theorem Bo.name (h : Bo B W a s t n P Q) (hn : n.kp = n.k ∧ n.kq = n.k ∧ n.kg = n.k ∧ n.kh = n.k) (pb fm pm qb qr qc : Nat) : Bo B W { a with pb := fun e => if e = n.k then pb else a.pb e, fm := fun e => if e = n.k then fm else a.fm e, pm := fun e => if e = n.k then pm else a.pm e, qb := fun e => if e = n.k then qb else a.qb e, qr := fun e => if e = n.k then qr else a.qr e, qc := fun e => if e = n.k then qc else a.qc e } s t n P Q := by
  obtain ⟨n1, n2, n3, n4⟩ := hn
  have e1 : ∀ k, k ≤ n.k → memG (fun e => if e = n.k then pb else a.pb e) k = memG a.pb k := fun k hk => by
    funext x
    unfold memG
    by_cases hx : 0 ≤ x ∧ x < k
    · have hne : ¬ x.toNat = n.k := by omega
      rw [if_pos hx, if_pos hx]
      simp only [if_neg hne]
    · rw [if_neg hx, if_neg hx]
  have e2 : ∀ k, k ≤ n.k → memR (fun e => if e = n.k then qb else a.qb e) k = memR a.qb k := fun k hk => by
    funext x
    unfold memR
    by_cases hx : x < k
    · have hne : ¬ x = n.k := by omega
      rw [if_pos hx, if_pos hx]
      simp only [if_neg hne]
    · rw [if_neg hx, if_neg hx]
  have e3 : ∀ (f : Nat → Nat) (y k : Nat), k ≤ n.k → ptrs (fun e => if e = n.k then y else f e) k = ptrs f k := fun f y k hk => by
    unfold ptrs
    refine List.map_congr_left fun e he => ?_
    have hne : ¬ e = n.k := by have := List.mem_range.1 he; omega
    simp only [if_neg hne]
  refine ⟨h.blk, h.m, h.w, ?_, h.hk, ?_, fun e he => ?_, fun e he => ?_, ?_, ?_, h.ge, h.mh, fun e he => ?_, fun e e' he he' heq => ?_, ⟨h.sep.hb, fun e he => ?_, fun e e' he he' hne => ?_⟩⟩
  · rw [e1 _ (by omega)]; exact h.g
  · rw [e2 _ (by omega)]; exact h.h
  · have hne : e ≠ n.k := by omega
    simp only [if_neg hne]
    exact h.p e he
  · have hne : e ≠ n.k := by omega
    simp only [if_neg hne]
    exact h.q e he
  · rw [e3 _ _ _ (by omega)]; exact h.rp
  · rw [e3 _ _ _ (by omega)]; exact h.rq
  · have hne : e ≠ n.k := by omega
    simp only [if_neg hne]
    exact h.ne e he
  · have hne : e ≠ n.k := by omega
    have hne' : e' ≠ n.k := by omega
    simp only [if_neg hne, if_neg hne'] at heq
    exact h.inj e e' he he' heq
  · have hne : e ≠ n.k := by omega
    simp only [if_neg hne]
    exact h.sep.ge e he
  · have hne1 : e ≠ n.k := by omega
    have hne2 : e' ≠ n.k := by omega
    simp only [if_neg hne1, if_neg hne2]
    exact h.sep.ne e e' he he' hne
end
end Go.Proofs.YthlejchcnfdcpaaGreat.GbA
namespace Go.Proofs.YthlejchcnfdcpaaGreat.GbB
open Go.RowKit Go.Maps Base GaA GaB GaC GaD GmA GpA GgA RpA RmA RmB RmC RgA GnA GfC GfD GbA
set_option linter.unusedVariables false
set_option linter.unusedSimpArgs false

/-- The two worlds since w0. -/
structure Bd (w0 W : World) (a : BA) (s t : MS) (n : Cn) (P Q : Value) : Prop where
  bo : Bo w0.heap.size W a s t n P Q
  bel : Below w0.heap.size w0 W
/-- .. while a domain gets its frames and places. -/
structure In (w0 W : World) (a : BA) (s t : MS) (k i j : Nat) (P Q : Value) (N : Nat) : Prop where
  bd : Bd w0 W a s t ⟨k, k, k, k, k⟩ P Q
  cur : Cur W a k i j N
  old : Old a k P Q N
  ge : w0.heap.size ≤ N
section
variable {w0 W W' : World} {a : BA} {s t s' t' : MS} {n : Cn} {P Q : Value} {k i j N : Nat}
theorem Bd.below (h : Bd w0 W a s t n P Q) (hb : Below W.heap.size W W') : Bd w0 W' a s t n P Q := ⟨h.bo.below hb, h.bel.trans (hb.mono h.bel.size)⟩
theorem Bd.out (h : Bd w0 W a s t n P Q) {F : Nat → Prop} (hc : Chg F W W') (hF : ∀ x, F x → w0.heap.size ≤ x) : Below w0.heap.size w0 W' := hc.out h.bel h.bel.size hF
theorem In.below (h : In w0 W a s t k i j P Q N) (hb : Below W.heap.size W W') : In w0 W' a s t k i j P Q N := ⟨h.bd.below hb, h.cur.below hb, h.old, h.ge⟩
theorem In.drew (h : In w0 W a s t k i j P Q N) : In w0 W.drew a s t k i j P Q N := h.below (Below.refl _ _).drew
theorem in_alloc (h : In w0 W a (msB k i) t k i j P Q N) (hk : k < 3) (hi : i < 4) : Calls Tryz.prog 13 #[.pointer (some ⟨a.mb, 0, none⟩), .int .i64 k] W fun e w' => (∃ x : Int, e = .returned (.tuple #[.int .i64 x, .int .i64 0])) ∧ In w0 w' a (msB k (i + 1)) t k i j P Q N :=
  (GaD.alloc_calls W a.mb a.fb (msB k i) k (by omega) (by omega) h.bd.bo.m (4 * k + i) (by show 4 * k + i < 13; omega) (msB_own k i) (fun j hj => msB_low k i j hj)).mono fun e w' ⟨h1, h2, h3, h4⟩ => by
    rw [msB_alloc k i hi] at h2
    have hc : Chg (fun x => x = a.fb) W w' := ⟨h3.1, h3.2.1, h3.2.2.1, h3.2.2.2, fun x hx hn => h4 x hx hn⟩
    exact ⟨⟨_, h1⟩, ⟨h.bd.bo.mach hc h2, h.bd.out hc (by rintro x rfl; exact h.bd.bo.ge.2.1)⟩, h.cur.chg hc (by rintro x rfl; exact h.old.m.2.1), h.old, h.ge⟩
theorem in_ralloc (h : In w0 W a s (msB k i) k i j P Q N) (hk : k < 3) (hi : i < 4) : Calls Tryz.prog 14 #[.pointer (some ⟨a.rb, 0, none⟩), .int .i64 k] W fun e w' => (∃ x : Int, e = .returned (.tuple #[.int .i64 x, .int .i64 0])) ∧ In w0 w' a s (msB k (i + 1)) k i j P Q N :=
  (RmB.alloc_calls h.bd.bo.w k (by omega) (by omega) (4 * k + i) (by show 4 * k + i < 13; omega) (msB_own k i) (fun j hj => msB_low k i j hj)).mono fun e w' ⟨h1, h2, hc⟩ => by
    rw [msB_alloc k i hi] at h2
    exact ⟨⟨_, h1⟩, ⟨h.bd.bo.rmach hc h2, h.bd.out hc (by rintro x rfl; exact h.bd.bo.ge.2.2.2.2.1)⟩, h.cur.chg hc (by rintro x rfl; exact h.old.m.2.2.2.1), h.old, h.ge⟩
theorem in_pset (h : In w0 W a s t k i j P Q N) (hk : k < 3) (hi : i < 4) : Calls Tryz.prog 15 #[.pointer (some ⟨a.pb k, 0, none⟩), .int .i64 i, .int .i64 (4 * (k : Int) + i)] W fun e w' => e = .returned (.int .i64 0) ∧ In w0 w' a s t k (i + 1) j P Q N := by
  have hc := GpA.set_calls h.cur.p i (4 * k + i) (by omega) (by omega) (by omega) (frD_none k i) (plD_none k i) (by omega)
  rw [frD_put, plD_put] at hc
  rw [show ((4 * k + i : Nat) : Int) = 4 * (k : Int) + i by omega] at hc
  refine hc.mono fun e w' ⟨h1, h2, h3⟩ => ⟨h1, ⟨h.bd.bo.young h3 (by rintro x (rfl | rfl); exact h.cur.ge.2.1; exact h.cur.ge.2.2.1) h.old, h.bd.out h3 (by rintro x (rfl | rfl); exact Nat.le_trans h.ge h.cur.ge.2.1; exact Nat.le_trans h.ge h.cur.ge.2.2.1)⟩, ⟨h2, h.cur.q.chg h3 ?_ ?_, h.cur.ge⟩, h.old, h.ge⟩
  · rintro (e1 | e1)
    · have := ty_cells h.cur.q.blk; rw [e1, ty_imap h.cur.p.mf] at this; cases this
    · have := ty_cells h.cur.q.blk; rw [e1, ty_imap h.cur.p.mp] at this; cases this
  · rintro (e1 | e1)
    · have := ty_row h.cur.q.row rfl; rw [e1, ty_imap h.cur.p.mf] at this; cases this
    · have := ty_row h.cur.q.row rfl; rw [e1, ty_imap h.cur.p.mp] at this; cases this
theorem in_qset (h : In w0 W a s t k i j P Q N) (hk : k < 3) (hj : j < 4) : Calls Tryz.prog 16 #[.pointer (some ⟨a.qb k, 0, none⟩), .int .i64 j, .int .i64 (4 * (k : Int) + j)] W fun e w' => e = .returned (.int .i64 0) ∧ In w0 w' a s t k i (j + 1) P Q N := by
  have hc := RpA.set_calls h.cur.q (by rw [lstD_len]; omega) j (by rw [lstD_len]; omega) (by rw [lstD_get _ _ _ (by omega), if_neg (by omega)]; omega) (4 * k + j) (by omega) (by
    intro x hx
    rw [lstD_len] at hx
    rw [lstD_get _ _ _ hx]
    split <;> omega)
  rw [lstD_put k j (by omega)] at hc
  rw [show ((4 * k + j : Nat) : Int) = 4 * (k : Int) + j by omega] at hc
  refine hc.mono fun e w' ⟨h1, h2, h3⟩ => ⟨h1, ⟨h.bd.bo.young h3 (by rintro x rfl; exact h.cur.ge.2.2.2.2) h.old, h.bd.out h3 (by rintro x rfl; exact Nat.le_trans h.ge h.cur.ge.2.2.2.2)⟩, ⟨h.cur.p.chg h3 ?_ ?_ ?_, h2, h.cur.ge⟩, h.old, h.ge⟩
  · intro e1; have := ty_cells h.cur.p.blk; rw [e1, ty_row h.cur.q.row rfl] at this; exact absurd this (by decide)
  · intro e1; have := ty_imap h.cur.p.mf; rw [e1, ty_row h.cur.q.row rfl] at this; cases this
  · intro e1; have := ty_imap h.cur.p.mp; rw [e1, ty_row h.cur.q.row rfl] at this; cases this
theorem bd_joinG (h : Bd w0 W a (msB k 4) t ⟨k + 1, k + 1, k + 1, k, k⟩ P Q) (hk : k < 3) : Calls Tryz.prog 17 #[.pointer (some ⟨a.gb, 0, none⟩), .int .i64 k, .int .i64 (4 * (k : Int)), .pointer (some ⟨a.pb k, 0, none⟩)] W fun e w' => e = .returned (.int .i64 0) ∧ Bd w0 w' a (msB (k + 1) 0) t ⟨k + 1, k + 1, k + 1, k + 1, k⟩ P Q := by
  have hf := msB_first k
  obtain ⟨cs, m2, _⟩ := h.bo.m.lst
  have hc := GgA.join_calls h.bo.g h.bo.m (h.bo.p k (Nat.lt_succ_self k)) k (by omega) (by omega) (4 * k) (by show 4 * k < 13; omega) (plD_neg k 4) (if_neg (by simp)) (by show k < 1000; omega)
    (by rw [hf]; simp [getE]) (by rw [hf]; simp [Fr.few]) (blk_ne h.bo.g.blk m2 (by decide)) (fun e => by have := ty_imap h.bo.g.mem; rw [e, ty_cells m2] at this; cases this)
  rw [hf, memG_put] at hc
  have hg : getF ⟨(k : Int), 0, 0, 0⟩ 1 = ⟨k, 1, 1, 1⟩ := rfl
  rw [hg, msB_join] at hc
  rw [show ((4 * k : Nat) : Int) = 4 * (k : Int) by omega] at hc
  exact hc.mono fun e w' ⟨h1, h2, h3, h4⟩ => ⟨h1, h.bo.joinG h4 h2 h3, h.out h4 (by rintro x (rfl | rfl); exact h.bo.ge.2.1; exact h.bo.ge.2.2.1)⟩
theorem bd_joinH (h : Bd w0 W a s (msB k 4) ⟨k + 1, k + 1, k + 1, k + 1, k⟩ P Q) (hk : k < 3) : Calls Tryz.prog 18 #[.pointer (some ⟨a.hb, 0, none⟩), .int .i64 k, .int .i64 (4 * (k : Int)), .pointer (some ⟨a.qb k, 0, none⟩)] W fun e w' => e = .returned (.int .i64 0) ∧ Bd w0 w' a s (msB (k + 1) 0) ⟨k + 1, k + 1, k + 1, k + 1, k + 1⟩ P Q := by
  obtain ⟨f1, f2, _⟩ := h.bo.w.frs
  obtain ⟨r1, r2, _⟩ := h.bo.w.rows
  obtain ⟨d1, d2, _⟩ := h.bo.h.mem
  have hc := RgA.join_calls h.bo.h h.bo.w (blk_ne h.bo.h.blk f2 (by decide)) (blk_ne d2 f2 (by decide)) (blk_ne d2 h.bo.w.blk (by decide)) (blk_ne d2 r2 (by decide)) (fun b hb => by obtain ⟨cs, hp⟩ := h.bo.page hb; exact blk_ne hp d2 (by decide)) k (by omega) (if_neg (by simp)) (4 * k) (by show 4 * k < 13; omega) (msB_first k) (a.qb k)
  have e1 := memR_put a.qb k
  rw [msB_join] at hc
  have hc2 := hc.mono (R' := fun e w' => e = .returned (.int .i64 0) ∧ R6 w' a.hb a.Db a.cD a.rb (memR a.qb (k + 1)) ∧ RMach w' a.rb a.Fb a.Bb a.cF a.cB a.bs (msB (k + 1) 0) ∧ Chg (fun x => x = a.Fb ∨ x = a.Db) W w') (fun e w' ⟨h1, h2, h3, h4⟩ => ⟨h1, by rw [← e1]; exact h2, h3, h4⟩)
  rw [show ((4 * k : Nat) : Int) = 4 * (k : Int) by omega] at hc2
  exact hc2.mono fun e w' ⟨h1, h2, h3, h4⟩ => ⟨h1, h.bo.joinH h4 h2 h3, h.out h4 (by rintro x (rfl | rfl); exact h.bo.ge.2.2.2.2.1; exact h.bo.ge.2.2.2.2.2.1)⟩
end
end Go.Proofs.YthlejchcnfdcpaaGreat.GbB
