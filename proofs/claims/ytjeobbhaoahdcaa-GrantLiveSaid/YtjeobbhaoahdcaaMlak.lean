/- Proved: one caller's maps of one entry, and what its frame counts of them (lemmas for the laws of the grants). Proved: what the document's machine answers: Domain, Is, Owned, Alloc (contracts for the laws of the grants). Proved: the document's Get of a frame that nobody refers to (a contract for the laws of the grants). Proved: the document's grants as they lie in memory; New and a first Join (contracts for the laws of the grants). -/
import Derived.Test.YtjeobbhaoahdcaaMlaj
namespace Go.Proofs.Ytjeobbhaoahdcaa.GqA
open Go.RowKit Go.Maps Go.Proofs.Ytjeobbhaoahdcaa.Base Go.Proofs.Ytjeobbhaoahdcaa.GaA Go.Proofs.Ytjeobbhaoahdcaa.GaB Go.Proofs.Ytjeobbhaoahdcaa.GmA Go.Proofs.Ytjeobbhaoahdcaa.GmB Go.Proofs.Ytjeobbhaoahdcaa.GmC Go.Proofs.Ytjeobbhaoahdcaa.GeB Go.Proofs.Ytjeobbhaoahdcaa.GfC Go.Proofs.Ytjeobbhaoahdcaa.GjA Go.Proofs.Ytjeobbhaoahdcaa.GjB Go.Proofs.Ytjeobbhaoahdcaa.GjC Go.Proofs.Ytjeobbhaoahdcaa.GjD Go.Proofs.Ytjeobbhaoahdcaa.GjE Go.Proofs.Ytjeobbhaoahdcaa.GjF
set_option linter.unusedVariables false
set_option linter.unusedSimpArgs false

/-- Which handles are in use, and whether for writing. -/
abbrev Hn := Nat → Option Bool
def upd (b : Hn) (k : Nat) (v : Option Bool) : Hn := fun i => if i = k then v else b i
def pick (p : Bool → Bool) (v : Option Bool) : Bool := match v with | some x => p x | none => false
def cb (p : Bool → Bool) (b : Hn) : Nat := (List.range 16).countP fun i => pick p (b i)
def all1 : Bool → Bool := fun _ => true
theorem range_upd (q : Nat → Bool) (k : Nat) (v : Bool) : ∀ n : Nat, (List.range n).countP (fun i => if i = k then v else q i) + (if k < n ∧ q k = true then 1 else 0) = (List.range n).countP q + (if k < n ∧ v = true then 1 else 0)
  | 0 => by simp
  | n + 1 => by
    have ih := range_upd q k v n
    rw [List.range_succ, List.countP_append, List.countP_append]
    simp only [List.countP_cons, List.countP_nil, Nat.zero_add]
    by_cases e : n = k
    · subst e
      simp only [Nat.lt_irrefl, false_and, if_false, Nat.add_zero, Nat.lt_succ_self, true_and, if_true] at ih ⊢
      omega
    · rw [if_neg e]
      by_cases h : k < n
      · have h2 : k < n + 1 := by omega
        simp only [h, h2, true_and] at ih ⊢
        omega
      · have h2 : ¬ k < n + 1 := by omega
        simp only [h, h2, false_and, if_false, Nat.add_zero] at ih ⊢
        omega
theorem cb_upd (p : Bool → Bool) (b : Hn) {k : Nat} (hk : k < 16) (v : Option Bool) : cb p (upd b k v) + (if pick p (b k) = true then 1 else 0) = cb p b + (if pick p v = true then 1 else 0) := by
  have h := range_upd (fun i => pick p (b i)) k (pick p v) 16
  simp only [hk, true_and] at h
  unfold cb upd
  rw [← h]
  congr 2
  funext i
  split <;> rfl
theorem cb_le (b : Hn) : cb id b ≤ cb all1 b := by
  unfold cb
  refine List.countP_mono_left fun i _ h => ?_
  cases hb : b i with
  | none => rw [hb] at h; cases h
  | some x => rfl
theorem cb_16 (p : Bool → Bool) (b : Hn) : cb p b ≤ 16 := by
  unfold cb
  have := List.countP_le_length (p := fun i => pick p (b i)) (l := List.range 16)
  rwa [List.length_range] at this
section
variable {cl ow rf mf : Int} {b : Hn}
/-- The maps themselves. -/
def HF (cl ow rf mf : Int) (b : Hn) : Int × Int → Option Mp := fun p => if p.1 = cl ∧ 0 ≤ p.2 ∧ p.2 < 16 then (b p.2.toNat).map (fun wr => ⟨p.2, cl, ow, rf, mf, wr⟩) else none
theorem hf_at {i : Nat} (hi : i < 16) : HF cl ow rf mf b (cl, (i : Int)) = (b i).map fun wr => ⟨(i : Int), cl, ow, rf, mf, wr⟩ := by
  unfold HF
  rw [if_pos ⟨rfl, by simp only; omega, by simp only; omega⟩]
  simp
theorem hf_h (c h : Int) (m : Mp) (e : HF cl ow rf mf b (c, h) = some m) : m.h = h := by
  unfold HF at e
  split at e
  · cases hb : b ((c, h) : Int × Int).2.toNat with
    | none => rw [hb] at e; cases e
    | some x => rw [hb] at e; cases e; rfl
  · cases e
theorem hf_put {k : Nat} (hk : k < 16) (wr : Bool) : kput (HF cl ow rf mf b) (cl, (k : Int)) ⟨(k : Int), cl, ow, rf, mf, wr⟩ = HF cl ow rf mf (upd b k (some wr)) := by
  funext p
  obtain ⟨c, h⟩ := p
  unfold kput
  by_cases e : (c, h) = (cl, (k : Int))
  · rw [if_pos e, e, hf_at hk]
    unfold upd
    rw [if_pos rfl]
    rfl
  · rw [if_neg e]
    unfold HF upd
    simp only
    by_cases e2 : c = cl ∧ 0 ≤ h ∧ h < 16
    · rw [if_pos e2, if_pos e2, if_neg]
      intro e3
      exact e (by rw [e2.1]; congr 1; omega)
    · rw [if_neg e2, if_neg e2]
theorem hf_del {k : Nat} (hk : k < 16) : kdel (HF cl ow rf mf b) (cl, (k : Int)) = HF cl ow rf mf (upd b k none) := by
  funext p
  obtain ⟨c, h⟩ := p
  unfold kdel
  by_cases e : (c, h) = (cl, (k : Int))
  · rw [if_pos e, e, hf_at hk]
    unfold upd
    rw [if_pos rfl]
    rfl
  · rw [if_neg e]
    unfold HF upd
    simp only
    by_cases e2 : c = cl ∧ 0 ≤ h ∧ h < 16
    · rw [if_pos e2, if_pos e2, if_neg]
      intro e3
      exact e (by rw [e2.1]; congr 1; omega)
    · rw [if_neg e2, if_neg e2]
theorem hf_lead {j : Nat} (hj : j < 16) (h1 : ∀ i, i < j → (b i).isSome = true) (h2 : b j = none) : lead 0 (mapsL (HF cl ow rf mf b) cl 16) = j ∧ (mapsL (HF cl ow rf mf b) cl 16).length < 16 := by
  obtain ⟨i1, i2, i3, i4⟩ := lead_spec (F := HF cl ow rf mf b) hf_h cl 16
  have hl := mapsL_len (HF cl ow rf mf b) cl 16
  have hjn : HF cl ow rf mf b (cl, (j : Int)) = none := by rw [hf_at hj, h2]; rfl
  generalize lead 0 (mapsL (HF cl ow rf mf b) cl 16) = e at i1 i2 i3 i4
  have he : e = j := by
    by_cases a1 : j < e
    · have := i2 j a1
      rw [hjn] at this
      cases this
    · by_cases a2 : e < j
      · have h3 := i3 (by omega)
        rw [hf_at (by omega)] at h3
        have h4 := h1 e a2
        cases hb : b e with
        | none => rw [hb] at h4; cases h4
        | some x => rw [hb] at h3; cases h3
      · omega
  refine ⟨he, ?_⟩
  by_cases a : (mapsL (HF cl ow rf mf b) cl 16).length = 16
  · have := i4 a
    omega
  · omega
theorem hf_full (h : ∀ i, i < 16 → (b i).isSome = true) : (mapsL (HF cl ow rf mf b) cl 16).length = 16 := by
  have key : ∀ k : Nat, k ≤ 16 → (mapsL (HF cl ow rf mf b) cl k).length = k := by
    intro k
    induction k with
    | zero => intro _; rfl
    | succ k ih =>
      intro hk
      have h1 := h k (by omega)
      cases hb : b k with
      | none => rw [hb] at h1; cases h1
      | some x =>
        rw [mapsL_hit (m := ⟨(k : Int), cl, ow, rf, mf, x⟩) (by rw [hf_at (by omega), hb]; rfl), List.length_append, ih (by omega)]
        rfl
  exact key 16 (by omega)
/-- The keys in use. -/
def hL (cl : Int) (b : Hn) : List (Int × Int) := ((List.range 16).filter fun i : Nat => (b i).isSome).map fun i : Nat => (cl, (i : Int))
theorem hL_len : (hL cl b).length = cb all1 b := by
  unfold hL cb
  rw [List.length_map, ← List.countP_eq_length_filter]
  congr 1
  funext i
  cases b i <;> rfl
theorem hL_keys (hc : okI cl) : Keys (HF cl ow rf mf b) (hL cl b) := by
  refine ⟨?_, fun k hk => ?_, fun k hk => ?_⟩
  · unfold hL
    refine List.Pairwise.map _ (fun x y hxy e => hxy ?_) (List.Pairwise.filter _ (List.nodup_range (n := 16)))
    have := congrArg Prod.snd e
    simp only at this
    omega
  · unfold hL at hk
    rw [List.mem_map] at hk
    obtain ⟨i, hi, rfl⟩ := hk
    have := List.mem_range.1 (List.mem_filter.1 hi).1
    exact ⟨hc, by unfold okI; simp only; omega⟩
  · obtain ⟨c, h⟩ := k
    unfold HF hL
    simp only
    rw [List.mem_map]
    constructor
    · intro h1
      split at h1
      · rename_i h2
        refine ⟨h.toNat, List.mem_filter.2 ⟨List.mem_range.2 (by omega), by simpa using h1⟩, ?_⟩
        rw [h2.1]
        congr 1
        omega
      · cases h1
    · rintro ⟨i, hi, e⟩
      obtain ⟨h1, h2⟩ := List.mem_filter.1 hi
      have h3 := List.mem_range.1 h1
      cases e
      rw [if_pos ⟨rfl, by omega, by omega⟩]
      simpa using h2
theorem hL_own : (hL cl b).countP (ownIs (HF cl ow rf mf b) ow) = cb all1 b := by
  rw [← hL_len (cl := cl), List.countP_eq_length]
  intro k hk
  unfold hL at hk
  rw [List.mem_map] at hk
  obtain ⟨i, hi, rfl⟩ := hk
  obtain ⟨h1, h2⟩ := List.mem_filter.1 hi
  have h3 := List.mem_range.1 h1
  unfold ownIs
  rw [hf_at h3]
  cases hb : b i with
  | none => rw [hb] at h2; cases h2
  | some x => simp
end
/-- What the frame counts. -/
def frB (d : Int) (b : Hn) : Fr := ⟨d, if cb id b = 0 then 0 else 1, (cb id b : Nat), (cb all1 b : Nat)⟩
theorem frB_few (d : Int) (b : Hn) : Fr.few (frB d b) := by
  have h1 := cb_16 id b
  have h2 := cb_16 all1 b
  unfold Fr.few frB
  simp only
  omega
theorem frB_getE (d : Int) (hd : d ≠ -1) (b : Hn) (wr : Bool) : getE (frB d b) d (kindI wr) = 0 := by
  unfold getE frB
  simp only
  rw [if_neg hd, if_neg (by simp), if_neg]
  rintro ⟨h1, h2, h3⟩
  cases wr
  · exact h1 rfl
  · by_cases e : cb id b = 0
    · rw [if_pos e] at h2; exact h2 rfl
    · rw [if_neg e] at h3; exact h3 rfl
theorem frB_get (d : Int) (b : Hn) {k : Nat} (hk : k < 16) (h : b k = none) (wr : Bool) : getF (frB d b) (kindI wr) = frB d (upd b k (some wr)) := by
  have u1 := cb_upd id b hk (some wr)
  have u2 := cb_upd all1 b hk (some wr)
  rw [h] at u1 u2
  unfold getF frB kindI
  cases wr
  · simp [pick, all1] at u1 u2 ⊢
    rw [u1, u2]
    simp
  · simp [pick, all1] at u1 u2 ⊢
    rw [u1, u2]
    simp
theorem frB_put (d : Int) (b : Hn) {k : Nat} (hk : k < 16) (wr : Bool) (h : b k = some wr) : putE (frB d b) (kindI wr) = 0 ∧ putF (frB d b) (kindI wr) = frB d (upd b k none) := by
  have u1 := cb_upd id b hk none
  have u2 := cb_upd all1 b hk none
  have u3 := cb_le (upd b k none)
  rw [h] at u1 u2
  unfold putE putF frB kindI
  cases wr
  · simp [pick, all1] at u1 u2 ⊢
    refine ⟨by omega, by rw [u1]; split <;> simp_all, by omega, by omega⟩
  · simp [pick, all1] at u1 u2 ⊢
    refine ⟨by omega, ?_, by omega, by omega⟩
    by_cases e : cb id (upd b k none) = 0
    · rw [if_pos (by omega), if_pos e]
    · rw [if_neg (by omega), if_neg (by omega), if_neg e]
end Go.Proofs.Ytjeobbhaoahdcaa.GqA
namespace Go.Proofs.Ytjeobbhaoahdcaa.RmB
open Go.RowKit Go.Maps Go.Proofs.Ytjeobbhaoahdcaa.Base Go.Proofs.Ytjeobbhaoahdcaa.GaA Go.Proofs.Ytjeobbhaoahdcaa.GaB Go.Proofs.Ytjeobbhaoahdcaa.GaC Go.Proofs.Ytjeobbhaoahdcaa.GaD Go.Proofs.Ytjeobbhaoahdcaa.RpA Go.Proofs.Ytjeobbhaoahdcaa.RmA
set_option linter.unusedVariables false
set_option linter.unusedSimpArgs false

section
variable {w w' : World} {rb Fb Bb cF cB : Nat} {bs : List Nat} {s : MS}
theorem _root_.Go.Proofs.Ytjeobbhaoahdcaa.RmA.RMach.lt (h : RMach w rb Fb Bb cF cB bs s) : rb < w.heap.size ∧ Fb < w.heap.size ∧ Bb < w.heap.size := by
  obtain ⟨cs, h1, _⟩ := h.frs
  obtain ⟨cs2, h2, _⟩ := h.rows
  exact ⟨blk_lt h.blk, blk_lt h1, blk_lt h2⟩
theorem blk_ne {g k : Nat} {t u : TypeId} {cs ds : Array Value} (h : w.heap[g]? = some (.cells cs t (0, 0))) (h2 : w.heap[k]? = some (.cells ds u (0, 0))) (hn : t ≠ u) : g ≠ k := by
  rintro rfl
  rw [h] at h2
  have e := Option.some.inj h2
  injection e with e1 e2 e3
  exact hn e2
theorem _root_.Go.Proofs.Ytjeobbhaoahdcaa.RmA.RMach.ne (h : RMach w rb Fb Bb cF cB bs s) : rb ≠ Fb ∧ rb ≠ Bb ∧ Fb ≠ Bb := by
  obtain ⟨cs, h1, _⟩ := h.frs
  obtain ⟨cs2, h2, _⟩ := h.rows
  exact ⟨blk_ne h.blk h1 (by decide), blk_ne h.blk h2 (by decide), blk_ne h1 h2 (by decide)⟩
theorem _root_.Go.Proofs.Ytjeobbhaoahdcaa.RmA.RMach.chg {F : Nat → Prop} (h : RMach w rb Fb Bb cF cB bs s) (hc : Chg F w w') (h1 : ¬ F rb) (h2 : ¬ F Fb) (h3 : ¬ F Bb) (h4 : ∀ b ∈ bs, ¬ F b) : RMach w' rb Fb Bb cF cB bs s := by
  obtain ⟨cs, g1, g2⟩ := h.frs
  obtain ⟨cs2, g3, g4⟩ := h.rows
  refine ⟨hc.blk h.blk h1, ⟨cs, hc.blk g1 h2, g2⟩, ⟨cs2, hc.blk g3 h3, g4⟩, h.len, h.nodup, fun i hi => hc.blk (h.page i hi) (h4 _ ?_), h.few⟩
  rw [List.getD_eq_getElem?_getD, List.getElem?_eq_getElem (by rw [h.len]; exact hi)]
  exact List.getElem_mem _
theorem _root_.Go.Proofs.Ytjeobbhaoahdcaa.RmA.RMach.below (h : RMach w rb Fb Bb cF cB bs s) (hb : Below w.heap.size w w') : RMach w' rb Fb Bb cF cB bs s := h.chg (Chg.below (fun _ => False) hb) (fun h => h) (fun h => h) (fun h => h) (fun _ _ h => h)
theorem _root_.Go.Proofs.Ytjeobbhaoahdcaa.RmA.RMach.cell (h : RMach w rb Fb Bb cF cB bs s) (i j : Nat) (hi : i < s.n) (hj : j < 4) : w.cell? ⟨Fb, i * 4 + j, none⟩ = some (cellM s i j) := by
  obtain ⟨cs, g1, g2⟩ := h.frs
  rw [blk_cell g1, g2 i j hi hj]
theorem _root_.Go.Proofs.Ytjeobbhaoahdcaa.RmA.RMach.own (h : RMach w rb Fb Bb cF cB bs s) (i : Nat) (hi : i < s.n) : w.cell? ⟨Fb, i * 4, none⟩ = some (.int .i64 (s.fr i).own) := h.cell i 0 hi (by omega)
theorem _root_.Go.Proofs.Ytjeobbhaoahdcaa.RmA.RMach.frozen (h : RMach w rb Fb Bb cF cB bs s) (i : Nat) : w.frozen? ⟨Fb, i, none⟩ = false := by
  obtain ⟨cs, g1, g2⟩ := h.frs
  exact blk_frozen g1 i
theorem domain_in (d : Int) (d0 : 0 ≤ d) (d8 : d < 8) (w : World) : Calls Try.prog 73 #[.int .i64 d] w fun e w' => e = .returned (.bool true) ∧ w' = w := by
  have k0 : decide (0 ≤ d) = true := decide_eq_true d0
  have k1 : decide (d < 8) = true := decide_eq_true d8
  go_enter Try.func73, Try.ntmps73
  go_wp2
  go_ret
  exact ⟨by first | rfl | (simp; done), rfl⟩
set_option maxHeartbeats 2000000 in
set_option maxRecDepth 100000 in
theorem is_calls (h : RMach w rb Fb Bb cF cB bs s) (k : Nat) (hk : k < s.n) : Calls Try.prog 85 #[.pointer (some ⟨rb, 0, none⟩), .int .i64 k] w fun e w' => e = .returned (.bool true) ∧ w' = w := by
  have C0 := fun i => blk_cell h.blk i
  have L0 := blk_lt h.blk
  have k0 : decide ((0 : Int) ≤ (k : Int)) = true := decide_eq_true (by omega)
  have k1 : decide ((k : Int) < (s.n : Int)) = true := decide_eq_true (by omega)
  clear h
  go_enter Try.func85, Try.ntmps85
  go_wp2
  go_ret
  exact ⟨by first | rfl | (simp; done), rfl⟩
def OwnedOut (w : World) (s : MS) (x : Int) (e : Ending) (w' : World) : Prop := ∃ v, e = .returned v ∧ w'.ownsRow w.heap.size 3 1 v (mine (owners s) x s.n).length ((mine (owners s) x s.n).map (Value.int .i64)) ∧ Below w.heap.size w w'
set_option maxHeartbeats 4000000 in
set_option maxRecDepth 100000 in
theorem owned_calls (h : RMach w rb Fb Bb cF cB bs s) (x : Int) : Calls Try.prog 74 #[.pointer (some ⟨rb, 0, none⟩), .int .i64 x] w (OwnedOut w s x) := by
  obtain ⟨i0, hi, hz0, hz1, hz2⟩ := info_parts info3
  have hfew := h.few
  obtain ⟨n, hn⟩ : ∃ n, n = s.n := ⟨_, rfl⟩
  go_enter Try.func74, Try.ntmps74
  go_wp2
  go_loopw [5, 6] (fun v i wr => ∃ (k : Nat) (W2 : World), k ≤ n ∧ i = .int .i64 k ∧ wr = W2 ∧ Base.Aside (W2.ownsRow w.heap.size 3 1 v (mine (owners s) x k).length ((mine (owners s) x k).map (Value.int .i64)) ∧ Below w.heap.size w W2)) (fun _ i _ => n - (intOf i).toNat)
  case atStart => exact ⟨0, w, Nat.zero_le _, rfl, rfl, ⟨World.ownsRow_nil _ _ _ _, Below.refl _ _⟩⟩
  case round =>
    obtain ⟨k, W2, hk, rfl, hwr, hA⟩ := hrel
    obtain rfl := hwr.symm
    have h2 := h.below hA.out.2
    have C2 := fun i => blk_cell h2.blk i
    have L2 := blk_lt h2.blk
    have L3 := h2.lt.2.1
    by_cases hlt : k < n
    · have hcell := h2.own k (by omega)
      have hl := mine_len (owners s) x k
      obtain ⟨y, hy⟩ : ∃ y, y = (s.fr k).own := ⟨_, rfl⟩
      have hyo : y = owners s k := hy
      rw [← hy] at hcell
      have k1 : (0 : Int) ≤ (k : Int) := Int.natCast_nonneg _
      have k2 : (k : Int) < (s.n : Int) := by omega
      have HY := Base.Aside.mk hyo
      clear hy hyo h2
      by_cases hx : y = x
      · subst hx
        go_wp2_with (first
          | (at_builtin; refine wpList_append_own_at _ rfl _ _ 158 rfl w.heap.size 3 i0 (.int .i64 0) 1 8 Try.underlying158 hi hz0 hz1 hz2 rfl (by decide) _ _ _ rfl (hA.out.1.alloc _) ⟨W2.heap.size, 0, none⟩ 1 1 [.int .i64 k] rfl rfl (cell_one_new _ _ _) (ints_oneCell .i64 [(k : Int)]) (by unfold maxLen; omega) (by omega) (by have := hA.out.2.size; simp; omega) ?_; intro v' w3 hown' hg3 hnil3 hloc3; go_frame)
          | go_in)
        refine ⟨⟨k + 1, w3, by omega, by simp, rfl, ⟨?_, ?_⟩⟩, by simp [intOf]; omega⟩
        · rw [mine_hit (by rw [← HY.out]; simp)]
          simpa using hown'
        · exact (below_alloc hA.out.2 _).grown hg3 (by have := hA.out.2.size; simp; omega) (fun j hj => (hA.out.1.lt j hj).1)
      · have hb2 : (y == x) = false := beq_eq_false_iff_ne.2 hx
        go_wp2
        refine ⟨⟨k + 1, W2, by omega, by simp, rfl, ⟨?_, hA.out.2⟩⟩, by simp [intOf]; omega⟩
        rw [mine_miss (by rw [← HY.out]; exact hb2)]
        exact hA.out.1
    · obtain rfl : k = n := by omega
      have HN := Base.Aside.mk hn
      have k2 : decide ((k : Int) < (s.n : Int)) = false := decide_eq_false (by omega)
      go_wp2
      go_ret
      refine ⟨_, rfl, ?_, hA.out.2⟩
      rw [← HN.out]
      exact hA.out.1
theorem mine_none {o : Nat → Int} {x : Int} : ∀ k, (∀ j, j < k → o j ≠ x) → mine o x k = []
  | 0, _ => rfl
  | k + 1, h => by
      rw [mine_miss (beq_eq_false_iff_ne.2 (h k (by omega)))]
      exact mine_none k fun j hj => h j (by omega)
theorem mine_first {o : Nat → Int} {x : Int} {k : Nat} (hok : o k = x) (hlow : ∀ j, j < k → o j ≠ x) : ∀ n, k < n → ∃ r, mine o x n = (k : Int) :: r
  | n + 1, hn => by
      by_cases he : k = n
      · subst he
        refine ⟨[], ?_⟩
        rw [mine_hit (by simp [hok]), mine_none k hlow]
        rfl
      · obtain ⟨r, hr⟩ := mine_first hok hlow n (by omega)
        by_cases hx : o n = x
        · exact ⟨r ++ [(n : Int)], by rw [mine_hit (by simp [hx]), hr]; rfl⟩
        · exact ⟨r, by rw [mine_miss (beq_eq_false_iff_ne.2 hx), hr]⟩
/-- A frame's words are written anew. -/
theorem frs_put {f : Fr} {k : Nat} (h : RMach w rb Fb Bb cF cB bs s) (hk : k < s.n) {cs' : Array Value} (hw : w'.heap[Fb]? = some (.cells cs' 46 (0, 0))) (hc : Chg (fun x => x = Fb) w w') (hcs : ∀ i j, i < s.n → j < 4 → cs'[i * 4 + j]? = some (cellM (MS.put1 s k f) i j)) : RMach w' rb Fb Bb cF cB bs (MS.put1 s k f) := by
  obtain ⟨cs, g1, g2⟩ := h.frs
  obtain ⟨cs2, g3, g4⟩ := h.rows
  refine ⟨hc.blk h.blk h.ne.1, ⟨cs', hw, hcs⟩, ⟨cs2, hc.blk g3 (fun e => h.ne.2.2 e.symm), g4⟩, h.len, h.nodup, fun i hi => ?_, h.few⟩
  exact hc.blk (h.page i hi) (fun e => blk_ne (h.page i hi) g1 (by decide) e)
theorem RMach.give (h : RMach w rb Fb Bb cF cB bs s) (k : Nat) (hk : k < s.n) (d : Int) : RMach (w.setCell ⟨Fb, k * 4, none⟩ (.int .i64 d)) rb Fb Bb cF cB bs (give s k d) := by
  obtain ⟨cs, g1, g2⟩ := h.frs
  refine frs_put h hk (blk_put g1 (k * 4) _ rfl) (Chg.set (F := fun x => x = Fb) (p := ⟨Fb, k * 4, none⟩) (Chg.refl _ w) (.inl rfl) _) ?_
  intro i j hi hj
  have hsz : k * 4 < cs.size := by
    have := g2 k 0 hk (by omega)
    exact (Array.getElem?_eq_some_iff.1 this).1
  rw [Array.getElem?_setIfInBounds]
  by_cases e : k * 4 = i * 4 + j
  · have hij : i = k ∧ j = 0 := by omega
    rw [if_pos e, if_pos (by omega)]
    obtain ⟨rfl, rfl⟩ := hij
    simp [cellM, MS.put1]
  · rw [if_neg e, g2 i j hi hj]
    unfold cellM MS.put1
    by_cases hik : i = k
    · subst hik
      have hj0 : j ≠ 0 := by omega
      simp [hj0]
    · simp [hik]
theorem cell_first {W : World} {b g cap n : Nat} {x : Int} {r : List Int} (h : W.ownsRow b 3 1 (.slice (some ⟨g, 0, none⟩) n cap) n ((x :: r).map (Value.int .i64))) : W.cell? ⟨g, 0, none⟩ = some (.int .i64 x) := by
  have hl := h.1
  rw [List.length_map, List.length_cons] at hl
  rw [World.ownsRow.cellAt h 0 (by omega)]
  rfl
set_option maxHeartbeats 4000000 in
set_option maxRecDepth 100000 in
theorem alloc_calls (h : RMach w rb Fb Bb cF cB bs s) (d : Int) (d0 : 0 ≤ d) (d8 : d < 8) (k : Nat) (hk : k < s.n) (hok : (s.fr k).own = -1) (hlow : ∀ j, j < k → (s.fr j).own ≠ -1) : Calls Try.prog 40 #[.pointer (some ⟨rb, 0, none⟩), .int .i64 d] w fun e w' => e = .returned (.tuple #[.int .i64 k, .int .i64 0]) ∧ RMach w' rb Fb Bb cF cB bs (give s k d) ∧ Chg (fun x => x = Fb) w w' := by
  have hd := domain_in d d0 d8
  have ho := owned_calls h (-1)
  obtain ⟨r, hr⟩ := mine_first (o := owners s) (x := -1) hok hlow s.n hk
  have LF := h.lt.2.1
  have e0 : ((r.length : Int) + 1 == 0) = false := by simp; omega
  have e1 : (0 : Int) < (r.length : Int) + 1 := by omega
  have e2 : (0 : Int) ≤ (k : Int) := Int.natCast_nonneg _
  have e3 : (k : Int) < (s.n : Int) := by omega
  go_enter Try.func40, Try.ntmps40
  go_wp2_with (first
    | (go_at_call 73; refine (hd _).mono ?_; rintro z w1 ⟨rfl, hw1⟩; obtain rfl := hw1.symm)
    | (go_at_call 74; refine ho.mono ?_; rintro z w1 ⟨v, rfl, h1, h2⟩; rw [hr] at h1; obtain ⟨g, cap, rfl, hg⟩ := row_full h1 (by simp); have gn : g ≠ Fb := Nat.ne_of_gt (Nat.lt_of_lt_of_le LF hg); have gn2 := gn.symm; have c0 := cell_first h1; have l0 := (h1.lt g rfl).2; have hM := h.below h2; have C1 := fun i => blk_cell hM.blk i; have L1 := blk_lt hM.blk; have L2 := hM.lt.2.1; have f2 := hM.frozen (k * 4); have c2 := hM.own k hk; have E1 := Base.Aside.mk (And.intro h2 (And.intro (RMach.give hM k hk d) (Chg.set (F := fun x => x = Fb) (p := ⟨Fb, k * 4, none⟩) (Chg.refl _ w1) (.inl rfl) (.int .i64 d)))); clear h1 h2 hM)
    | go_in)
  go_region
  go_wp2
  go_ret2
  exact ⟨by first | rfl | (simp; done), E1.out.2.1.below ((Below.refl _ _).drew), (Chg.below _ E1.out.1).trans (E1.out.2.2.trans (Chg.below _ ((Below.refl _ _).drew)))⟩
end
end Go.Proofs.Ytjeobbhaoahdcaa.RmB
namespace Go.Proofs.Ytjeobbhaoahdcaa.RmC
open Go.RowKit Go.Maps Go.Proofs.Ytjeobbhaoahdcaa.Base Go.Proofs.Ytjeobbhaoahdcaa.GaA Go.Proofs.Ytjeobbhaoahdcaa.GaB Go.Proofs.Ytjeobbhaoahdcaa.GaC Go.Proofs.Ytjeobbhaoahdcaa.GaD Go.Proofs.Ytjeobbhaoahdcaa.RpA Go.Proofs.Ytjeobbhaoahdcaa.RmA Go.Proofs.Ytjeobbhaoahdcaa.RmB
set_option linter.unusedVariables false
set_option linter.unusedSimpArgs false

section
variable {w w' : World} {rb Fb Bb cF cB : Nat} {bs : List Nat} {s : MS}
theorem put4 (h : RMach w rb Fb Bb cF cB bs s) (k : Nat) (hk : k < s.n) (f : Fr) : RMach ((((w.setCell ⟨Fb, k * 4, none⟩ (.int .i64 f.own)).setCell ⟨Fb, k * 4 + 1, none⟩ (.int .i64 f.typ)).setCell ⟨Fb, k * 4 + 2, none⟩ (.int .i64 f.cnt)).setCell ⟨Fb, k * 4 + 3, none⟩ (.int .i64 f.tot)) rb Fb Bb cF cB bs (MS.put1 s k f) ∧ Chg (fun x => x = Fb) w ((((w.setCell ⟨Fb, k * 4, none⟩ (.int .i64 f.own)).setCell ⟨Fb, k * 4 + 1, none⟩ (.int .i64 f.typ)).setCell ⟨Fb, k * 4 + 2, none⟩ (.int .i64 f.cnt)).setCell ⟨Fb, k * 4 + 3, none⟩ (.int .i64 f.tot)) := by
  obtain ⟨cs, g1, g2⟩ := h.frs
  have hc := chg_fb (chg_fb (chg_fb (chg_fb (Chg.refl (fun x => x = Fb) w) (k * 4) (.int .i64 f.own)) (k * 4 + 1) (.int .i64 f.typ)) (k * 4 + 2) (.int .i64 f.cnt)) (k * 4 + 3) (.int .i64 f.tot)
  refine ⟨frs_put h hk (blk_put (blk_put (blk_put (blk_put g1 (k * 4) _ rfl) (k * 4 + 1) _ rfl) (k * 4 + 2) _ rfl) (k * 4 + 3) _ rfl) hc ?_, hc⟩
  intro i j hi hj
  have hsz : k * 4 + 3 < cs.size := by
    have := g2 k 3 hk (by omega)
    exact (Array.getElem?_eq_some_iff.1 this).1
  simp only [Array.getElem?_setIfInBounds, Array.size_setIfInBounds]
  by_cases hik : i = k
  · subst hik
    match j, hj with
    | 0, _ =>
      rw [if_neg (by omega), if_neg (by omega), if_neg (by omega), if_pos (by omega), if_pos (by omega)]
      simp [cellM, MS.put1]
    | 1, _ =>
      rw [if_neg (by omega), if_neg (by omega), if_pos (by omega), if_pos (by omega)]
      simp [cellM, MS.put1]
    | 2, _ =>
      rw [if_neg (by omega), if_pos (by omega), if_pos (by omega)]
      simp [cellM, MS.put1]
    | 3, _ =>
      rw [if_pos (by omega), if_pos (by omega)]
      simp [cellM, MS.put1]
  · rw [if_neg (by omega), if_neg (by omega), if_neg (by omega), if_neg (by omega), g2 i j hi hj]
    simp [cellM, MS.put1, hik]
set_option maxHeartbeats 8000000 in
set_option maxRecDepth 100000 in
theorem get_first (h : RMach w rb Fb Bb cF cB bs s) (k : Nat) (hk : k < s.n) (d : Nat) (hf : s.fr k = ⟨d, 0, 0, 0⟩) : Calls Try.prog 77 #[.pointer (some ⟨rb, 0, none⟩), .int .i64 k, .int .i64 d, .int .i64 1] w fun e w' => e = .returned (.int .i64 0) ∧ RMach w' rb Fb Bb cF cB bs (MS.put1 s k ⟨d, 1, 1, 1⟩) ∧ Chg (fun x => x = Fb) w w' := by
  have hi := is_calls h k hk
  have C0 := fun i => blk_cell h.blk i
  have L0 := blk_lt h.blk
  have LF := h.lt.2.1
  have c0 := h.cell k 0 hk (by omega)
  have c1 := h.cell k 1 hk (by omega)
  have c2 := h.cell k 2 hk (by omega)
  have c3 := h.cell k 3 hk (by omega)
  simp only [cellM, hf] at c0 c1 c2 c3
  simp at c0 c1 c2 c3
  have F0 := h.frozen
  have e2 : (0 : Int) ≤ (k : Int) := Int.natCast_nonneg _
  have e3 : (k : Int) < (s.n : Int) := by omega
  have d1 : ((d : Int) == -1) = false := by simp
  have HH := Base.Aside.mk h
  clear h
  go_enter Try.func77, Try.ntmps77
  go_wp2_with (first
    | (go_at_call 85; refine hi.mono ?_; rintro z w1 ⟨rfl, hw1⟩; obtain rfl := hw1.symm)
    | go_in)
  go_region
  go_wp2
  go_ret
  exact ⟨by first | rfl | (simp; done), ((put4 HH.out k hk ⟨d, 1, 1, 1⟩).1.below (below_alloc (Below.refl _ _) _)).below ((Below.refl _ _).drew), ((put4 HH.out k hk ⟨d, 1, 1, 1⟩).2.alloc _).drew⟩
end
end Go.Proofs.Ytjeobbhaoahdcaa.RmC
namespace Go.Proofs.Ytjeobbhaoahdcaa.RgA
open Go.RowKit Go.Maps Go.Proofs.Ytjeobbhaoahdcaa.Base Go.Proofs.Ytjeobbhaoahdcaa.GaA Go.Proofs.Ytjeobbhaoahdcaa.GaB Go.Proofs.Ytjeobbhaoahdcaa.GaC Go.Proofs.Ytjeobbhaoahdcaa.GaD Go.Proofs.Ytjeobbhaoahdcaa.RpA Go.Proofs.Ytjeobbhaoahdcaa.RmA Go.Proofs.Ytjeobbhaoahdcaa.RmB Go.Proofs.Ytjeobbhaoahdcaa.RmC
set_option linter.unusedVariables false
set_option linter.unusedSimpArgs false

theorem infoM : (Try.prog.info? 157).map (fun i => (i.zero, i.size, i.bytes)) = some (some (.agg #[.int .i64 0, .pointer none]), 2, 16) := by kernel_rfl
/-- A member's words. -/
def memC (x : Int × Option Nat) : List Value := [.int .i64 x.1, .pointer (x.2.map fun q => ⟨q, 0, none⟩)]
/-- The document's grants in memory, no map made. -/
structure R6 (w : World) (hb Db cD rb : Nat) (f : Nat → Int × Option Nat) : Prop where
  blk : w.heap[hb]? = some (.cells #[.pointer (some ⟨rb, 0, none⟩), .slice (some ⟨Db, 0, none⟩) 8 cD, .slice none 0 0] 155 (0, 0))
  mem : ∃ cs, w.heap[Db]? = some (.cells cs 157 (0, 0)) ∧ ∀ i j, i < 8 → j < 2 → cs[i * 2 + j]? = (memC (f i))[j]?
theorem rep2 (x : List Value) (hx : x.length = 2) : ∀ (i k j : Nat), i < k → j < 2 → (List.replicate k x).flatten[i * 2 + j]? = x[j]?
  | 0, k + 1, j, _, hj => by
      rw [List.replicate_succ, List.flatten_cons, Nat.zero_mul, Nat.zero_add, List.getElem?_append_left (by omega)]
  | i + 1, k + 1, j, hi, hj => by
      rw [List.replicate_succ, List.flatten_cons, List.getElem?_append_right (by omega), hx, show (i + 1) * 2 + j - 2 = i * 2 + j by omega]
      exact rep2 x hx i k j (by omega) hj
theorem cell_two_new (w : World) (a b : Value) (t : TypeId) : ∀ j u, [a, b][j]? = some u → (w.alloc (.cells #[a, b] t)).cell? ((⟨w.heap.size, 0, none⟩ : Addr).add j) = some u := by
  intro j u h
  rw [show ((⟨w.heap.size, 0, none⟩ : Addr).add j) = ⟨w.heap.size, j, none⟩ by unfold Addr.add; split <;> simp_all, blk_cell (blk_new w (.cells #[a, b] t)) j]
  rw [← h]
  simp
section
variable {w w' : World} {hb Db cD rb : Nat} {f : Nat → Int × Option Nat}
theorem R6.lt (h : R6 w hb Db cD rb f) : hb < w.heap.size ∧ Db < w.heap.size := by
  obtain ⟨cs, h1, _⟩ := h.mem
  exact ⟨blk_lt h.blk, blk_lt h1⟩
theorem R6.ne (h : R6 w hb Db cD rb f) : hb ≠ Db := by
  obtain ⟨cs, h1, _⟩ := h.mem
  exact blk_ne h.blk h1 (by decide)
theorem R6.chg {F : Nat → Prop} (h : R6 w hb Db cD rb f) (hc : Chg F w w') (h1 : ¬ F hb) (h2 : ¬ F Db) : R6 w' hb Db cD rb f := by
  obtain ⟨cs, g1, g2⟩ := h.mem
  exact ⟨hc.blk h.blk h1, cs, hc.blk g1 h2, g2⟩
theorem R6.below (h : R6 w hb Db cD rb f) (hbe : Below w.heap.size w w') : R6 w' hb Db cD rb f := h.chg (Chg.below (fun _ => False) hbe) (fun h => h) (fun h => h)
theorem R6.mfn (h : R6 w hb Db cD rb f) (i : Nat) (hi : i < 8) : w.cell? ⟨Db, i * 2, none⟩ = some (.int .i64 (f i).1) := by
  obtain ⟨cs, g1, g2⟩ := h.mem
  rw [blk_cell g1]
  exact g2 i 0 hi (by omega)
theorem R6.ptr (h : R6 w hb Db cD rb f) (i : Nat) (hi : i < 8) : w.cell? ⟨Db, i * 2 + 1, none⟩ = some (.pointer ((f i).2.map fun q => ⟨q, 0, none⟩)) := by
  obtain ⟨cs, g1, g2⟩ := h.mem
  rw [blk_cell g1]
  exact g2 i 1 hi (by omega)
theorem R6.frozen (h : R6 w hb Db cD rb f) (i : Nat) : w.frozen? ⟨Db, i, none⟩ = false := by
  obtain ⟨cs, g1, g2⟩ := h.mem
  exact blk_frozen g1 i
def NewOut (w : World) (rb : Nat) (e : Ending) (w' : World) : Prop := ∃ hb Db cD, e = .returned (.pointer (some ⟨hb, 0, none⟩)) ∧ w.heap.size ≤ hb ∧ w.heap.size ≤ Db ∧ R6 w' hb Db cD rb (fun _ => (-1, none)) ∧ Below w.heap.size w w'
set_option maxHeartbeats 4000000 in
set_option maxRecDepth 100000 in
theorem new_calls (w : World) (rb : Nat) : Calls Try.prog 37 #[.pointer (some ⟨rb, 0, none⟩)] w (NewOut w rb) := by
  obtain ⟨i0, hi, hz0, hz1, hz2⟩ := info_parts infoM
  go_enter Try.func37, Try.ntmps37
  go_wp2
  go_loopw [4] (fun i wr => ∃ (k : Nat) (v : Value) (W2 : World), k ≤ 8 ∧ i = .int .i64 k ∧ wr = W2 ∧ Base.Aside (W2.heap[w.heap.size]? = some (.cells #[.pointer (some ⟨rb, 0, none⟩), v, .slice none 0 0] 155 (0, 0)) ∧ W2.ownsRow w.heap.size 157 2 v k (List.replicate k (memC (-1, none))).flatten ∧ Below w.heap.size w W2)) (fun i _ => 8 - (intOf i).toNat)
  case atStart => exact ⟨0, _, _, Nat.zero_le _, rfl, rfl, ⟨blk_new _ _, World.ownsRow_nil _ _ _ _, below_alloc (Below.refl _ _) _⟩⟩
  case round =>
    obtain ⟨k, v, W2, hk, rfl, hwr, hA⟩ := hrel
    obtain rfl := hwr.symm
    have C2 := fun i => blk_cell hA.out.1 i
    have F2 := fun i => blk_frozen hA.out.1 i
    have L2 := blk_lt hA.out.1
    by_cases hlt : k < 8
    · go_wp2_with (first
        | (at_builtin; refine wpList_append_own_at _ rfl _ _ 153 rfl w.heap.size 157 i0 (.agg #[.int .i64 0, .pointer none]) 2 16 Try.underlying153 hi hz0 hz1 hz2 rfl (by decide) _ k _ rfl (hA.out.2.1.alloc _) ⟨W2.heap.size, 0, none⟩ 1 1 (memC (-1, none)) rfl rfl (cell_two_new _ _ _ _) (by intro u hu; simp [memC] at hu; rcases hu with rfl | rfl <;> rfl) (by unfold maxLen; omega) (by omega) (by have := hA.out.2.2.size; simp; omega) ?_)
        | go_in)
      intro v' w3 hown hg hnil hloc
      obtain ⟨g2, cap2, rfl, hg2⟩ := row_full hown (by omega)
      have hne := row_ne (hA.out.2.1) hA.out.1 (by decide)
      have hb3 : w3.heap[w.heap.size]? = some (.cells #[.pointer (some ⟨rb, 0, none⟩), v, .slice none 0 0] 155 (0, 0)) := (hg.block _ (by simp; omega) (fun e => hne e.symm)).trans (blk_alloc hA.out.1 _)
      have hB3 : Below w.heap.size w w3 := (below_alloc hA.out.2.2 _).grown hg (by have := hA.out.2.2.size; simp; omega) (fun j hj => (hA.out.2.1.lt j hj).1)
      have C3 := fun i => blk_cell hb3 i
      have F3 := fun i => blk_frozen hb3 i
      have L3 := blk_lt hb3
      have H3 := Base.Aside.mk (And.intro hb3 (And.intro hown hB3))
      clear hb3 hown hB3 hg hnil hloc hne
      go_wp2
      have hne3 := row_ne H3.out.2.1 H3.out.1 (by decide)
      refine ⟨⟨k + 1, .slice (some ⟨g2, 0, none⟩) ((k + 1 : Nat)) cap2, _, by omega, by simp, rfl, ⟨blk_put H3.out.1 1 _ (by simp), ?_, ?_⟩⟩, by simp [intOf]; omega⟩
      · rw [rep4_snoc]
        exact row_chg H3.out.2.1 (Chg.set (F := fun x => x = w.heap.size) (p := ⟨w.heap.size, 1, none⟩) (Chg.refl _ w3) (.inl rfl) _) (by rintro g hg rfl; exact hne3 hg)
      · exact below_set H3.out.2.2 (Nat.le_refl _) _
    · obtain rfl : k = 8 := by omega
      go_wp2
      go_ret
      obtain ⟨hh, ⟨_, h2⟩ | ⟨g, c, cur, rfl, hb, hg, hr1, hr2, hr3, hr4⟩⟩ := hA.out.2.1
      · omega
      · refine ⟨_, g, c, rfl, Nat.le_refl _, hb, ⟨hA.out.1, cur, hg, ?_⟩, hA.out.2.2⟩
        intro i j hi hj
        have := rep2 (memC (-1, none)) rfl i 8 j hi hj
        rw [← hr4, List.getElem?_take, if_pos (by omega), Array.getElem?_toList] at this
        exact this
theorem R6.put (h : R6 w hb Db cD rb f) (d : Nat) (hd : d < 8) (x : Int × Option Nat) (a b : Value) (ha : memC x = [a, b]) : R6 ((w.setCell ⟨Db, d * 2, none⟩ a).setCell ⟨Db, d * 2 + 1, none⟩ b) hb Db cD rb (fun i => if i = d then x else f i) ∧ Chg (fun x => x = Db) w ((w.setCell ⟨Db, d * 2, none⟩ a).setCell ⟨Db, d * 2 + 1, none⟩ b) := by
  obtain ⟨cs, g1, g2⟩ := h.mem
  have hc := chg_fb (chg_fb (Chg.refl (fun x => x = Db) w) (d * 2) a) (d * 2 + 1) b
  refine ⟨⟨hc.blk h.blk h.ne, _, blk_put (blk_put g1 (d * 2) _ rfl) (d * 2 + 1) _ rfl, ?_⟩, hc⟩
  intro i j hi hj
  have hsz : d * 2 + 1 < cs.size := by
    have := g2 d 1 hd (by omega)
    have e : (memC (f d))[1]? = some (.pointer ((f d).2.map fun q => ⟨q, 0, none⟩)) := rfl
    rw [e] at this
    exact (Array.getElem?_eq_some_iff.1 this).1
  simp only [Array.getElem?_setIfInBounds, Array.size_setIfInBounds]
  by_cases hik : i = d
  · subst hik
    rw [if_pos rfl, ha]
    match j, hj with
    | 0, _ =>
      rw [if_neg (by omega), if_pos (by omega), if_pos (by omega)]
      rfl
    | 1, _ =>
      rw [if_pos (by omega), if_pos (by omega)]
      rfl
  · rw [if_neg (by omega), if_neg (by omega), g2 i j hi hj, if_neg hik]
set_option maxHeartbeats 8000000 in
set_option maxRecDepth 100000 in
theorem join_calls {Fb Bb cF cB : Nat} {bs : List Nat} {s : MS} (h : R6 w hb Db cD rb f) (hM : RMach w rb Fb Bb cF cB bs s) (hhF : hb ≠ Fb) (hDF : Db ≠ Fb) (hDr : Db ≠ rb) (hDB : Db ≠ Bb) (hDb : ∀ b ∈ bs, b ≠ Db) (d : Nat) (hd : d < 8) (hf : f d = (-1, none)) (k : Nat) (hk : k < s.n) (hs : s.fr k = ⟨d, 0, 0, 0⟩) (qb : Nat) :
    Calls Try.prog 43 #[.pointer (some ⟨hb, 0, none⟩), .int .i64 d, .int .i64 k, .pointer (some ⟨qb, 0, none⟩)] w fun e w' => e = .returned (.int .i64 0) ∧ R6 w' hb Db cD rb (fun i => if i = d then ((k : Int), some qb) else f i) ∧ RMach w' rb Fb Bb cF cB bs (MS.put1 s k ⟨d, 1, 1, 1⟩) ∧ Chg (fun x => x = Fb ∨ x = Db) w w' := by
  have hdm := RmB.domain_in d (by omega) (by omega)
  have hg := get_first hM k hk d hs
  have C0 := fun i => blk_cell h.blk i
  have L0 := blk_lt h.blk
  have LD := h.lt.2
  have c0 := h.mfn d hd
  rw [hf] at c0
  have e2 : (0 : Int) ≤ (d : Int) := Int.natCast_nonneg _
  have e3 : (d : Int) < 8 := by omega
  have HH := Base.Aside.mk h
  clear h hM
  go_enter Try.func43, Try.ntmps43
  go_wp2_with (first
    | (go_at_call 73; refine (hdm _).mono ?_; rintro z w1 ⟨rfl, hw1⟩; obtain rfl := hw1.symm)
    | (go_at_call 77; refine hg.mono ?_; rintro z w1 ⟨rfl, h1, h2⟩; have h3 := HH.out.chg h2 hhF hDF; have C1 := fun i => blk_cell h3.blk i; have L1 := blk_lt h3.blk; have LD1 := h3.lt.2; have F1 := h3.frozen; have c4 := h3.mfn d hd; have c5 := h3.ptr d hd; have hp := h3.put d hd ((k : Int), some qb) (.int .i64 k) (.pointer (some ⟨qb, 0, none⟩)) rfl; have E1 := Base.Aside.mk (And.intro h1 (And.intro h2 hp)); clear h1 h2 h3 hp)
    | go_in)
  go_ret
  exact ⟨by first | rfl | (simp; done), E1.out.2.2.1, E1.out.1.chg E1.out.2.2.2 (fun e => hDr e.symm) (fun e => hDF e.symm) (fun e => hDB e.symm) hDb, (E1.out.2.1.mono fun _ h => .inl h).trans (E1.out.2.2.2.mono fun _ h => .inr h)⟩
end
end Go.Proofs.Ytjeobbhaoahdcaa.RgA
