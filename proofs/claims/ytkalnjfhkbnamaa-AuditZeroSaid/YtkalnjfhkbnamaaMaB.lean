/- Proved: what a machine's Alloc does (a contract for the laws). -/
import Derived.Test.YtkalnjfhkbnamaaMaA
namespace Go.Proofs.Ytkalnjfhkbnamaa.MaB
open Go.RowKit Go.Shelf Go.Proofs.Ytkalnjfhkbnamaa.Base Go.Proofs.Ytkalnjfhkbnamaa.Phys Go.Proofs.Ytkalnjfhkbnamaa.MaA
attribute [local go_sem] Oper.semAt_some
set_option linter.unusedVariables false

/-- A frame of an owner's. -/
def Own1 (o : Nat → Int) (owner : Int) (n : Nat) : Type := { k : Nat // k < n ∧ o k = owner }
def ints {o : Nat → Int} {owner : Int} {n : Nat} (l : List (Own1 o owner n)) : List Int := l.map (fun a => (a.1 : Int))
theorem ints_snoc {o : Nat → Int} {owner : Int} {n : Nat} (l : List (Own1 o owner n)) (a : Own1 o owner n) : ints (l ++ [a]) = ints l ++ [(a.1 : Int)] := List.map_append
theorem of_stops (m : Nat) (hm : 1 ≤ m) (B1 B2 mb fb n n₀ : Nat) (o : Nat → Int) (owner : Int) (hn : n ≤ 1000) (hmb : mb < n₀) (hfb : fb < n₀) (hB1 : B1 < n₀) (hB2 : B2 < n₀) (w0 : World) (h0 : n₀ ≤ w0.heap.size)
    (hb1 : w0.cell? ⟨B1, 0, none⟩ = some (.pointer (some ⟨mb, 0, none⟩))) (hb2 : w0.cell? ⟨B2, 0, none⟩ = some (.int .i64 owner)) (hM : Mach w0 mb fb n o) :
    SeqStopsK Fence.wide m Try.prog 58 #[.pointer (some ⟨B1, 0, none⟩), .pointer (some ⟨B2, 0, none⟩)] (fun x : Own1 o owner n => #[.int .i64 x.1]) (Below n₀)
      (fun ys => ints ys = mine o owner n) (fun pre => ∃ k, k < n ∧ o k = owner ∧ ints pre = mine o owner k ++ [(k : Int)]) n w0 := by
  intro l J Jx W hW hJ hJx hY hJ0
  have hW' : Below n₀ w0 W := hW.mono h0
  refine (of1_in m hm l B1 B2 mb fb n n₀ o owner hn hmb hfb hB1 hB2 (fun s W => ∃ la, ints la = s ∧ J la W) (fun s W => ∃ la, ints la = s ∧ Jx la W) W (fun s A B row ⟨la, h1, h2⟩ hg hr => ⟨la, h1, hJ la A B row h2 hg hr⟩) ?_
    ((hW'.cell (p := ⟨B1, 0, none⟩) hB1).trans hb1) ((hW'.cell (p := ⟨B2, 0, none⟩) hB2).trans hb2) (hM.below hmb hfb hW') ⟨[], rfl, hJ0⟩).mono ?_
  · rintro pre x W1 hx ho ⟨la, rfl, hla⟩ hlen
    have hy := hY la ⟨x, hx, ho⟩ W1 hla (by simpa [ints] using hlen)
    obtain ⟨fn, tmps, assign, body, h1, h2⟩ := hy
    refine ⟨fn, tmps, assign, body, h1, h2.mono ?_⟩
    rintro e W' (⟨he, hj, hk⟩ | ⟨he, hj⟩)
    · exact .inl ⟨he, ⟨_, ints_snoc la ⟨x, hx, ho⟩, hj⟩, hk⟩
    · exact .inr ⟨he, ⟨_, ints_snoc la ⟨x, hx, ho⟩, hj⟩⟩
  · rintro e W' ⟨hv, ⟨ys, rfl, la, h1, h2⟩ | ⟨pre, ⟨k, hk, ho, rfl⟩, la, h1, h2⟩⟩
    · exact ⟨hv, .inl ⟨la, h1, h2⟩⟩
    · exact ⟨hv, .inr ⟨la, ⟨k, hk, ho, h1⟩, h2⟩⟩

set_option maxHeartbeats 2000000 in
set_option maxRecDepth 100000 in
theorem domain_calls (n : Int) (w : World) : Calls Try.prog 36 #[.int .i64 n] w fun e w' => e = .returned (.bool (decide (0 ≤ n) && decide (n < 8))) ∧ w' = w := by
  by_cases h : 0 ≤ n
  · have h1 : decide (0 ≤ n) = true := decide_eq_true h
    go_enter Try.func36, Try.ntmps36
    go_wp2
    go_ret
    exact ⟨by first | rfl | (rw [h1]; first | rfl | (simp; done)) | (simp [h1]; done), rfl⟩
  · have h1 : decide (0 ≤ n) = false := decide_eq_false h
    go_enter Try.func36, Try.ntmps36
    go_wp2
    go_ret
    exact ⟨by first | rfl | (rw [h1]; first | rfl | (simp; done)) | (simp [h1]; done), rfl⟩
/-- One frame gets an owner. -/
def give (o : Nat → Int) (k : Nat) (owner : Int) : Nat → Int := fun j => if j = k then owner else o j
theorem Mach.give {w : World} {mb fb n : Nat} {o : Nat → Int} (h : Mach w mb fb n o) (hne : mb ≠ fb) (k : Nat) (hk : k < n) (owner : Int) : Mach (w.setCell ⟨fb, k * 260, none⟩ (.int .i64 owner)) mb fb n (give o k owner) := by
  obtain ⟨cs, h1, h2⟩ := h.lst
  refine ⟨blk_far h.blk hne _, cs.setIfInBounds (k * 260) (.int .i64 owner), blk_put h1 _ _ rfl, by simpa using h2.1, fun i j hi hj => ?_⟩
  rw [Array.getElem?_setIfInBounds]
  by_cases e : k * 260 = i * 260 + j
  · have : i = k ∧ j = 0 := by omega
    obtain ⟨rfl, rfl⟩ := this
    rw [if_pos e, if_pos (by rw [h2.1]; omega)]
    simp [MaB.give]
  · rw [if_neg e, h2.2 i j hi hj]
    show some (if j = 0 then Value.int .i64 (o i) else frame0 j) = some (if j = 0 then Value.int .i64 (if i = k then owner else o i) else frame0 j)
    by_cases c : j = 0
    · rw [if_pos c, if_pos c, if_neg (by omega)]
    · rw [if_neg c, if_neg c]

theorem keep_blk {B : Nat} {W W' : World} {row : Option Nat} {k : Nat} {o : Obj} (h : W.heap[k]? = some o) (hk : k < B) (hg : W.grownBy W' row) (hr : ∀ r, row = some r → B ≤ r ∧ ∃ o : Obj, W.heap[r]? = some o ∧ o.isCells = false) : W'.heap[k]? = some o :=
  (hg.block k (blk_lt h) (fun e => by have := (hr k e.symm).1; omega)).trans h
/-- What lies behind Alloc, or at its start. -/
structure AllocAt (w W : World) (mb fb n : Nat) (o : Nat → Int) (owner : Int) (r e : Int) : Prop where
  mach : Mach W mb fb n o
  b0 : W.heap[w.heap.size]? = some (.cells #[.pointer (some ⟨mb, 0, none⟩)] 30 (0, 0))
  b1 : W.heap[w.heap.size + 1]? = some (.cells #[.int .i64 owner] 3 (0, 0))
  b2 : W.heap[w.heap.size + 1 + 1]? = some (.cells #[.int .i64 r] 3 (0, 0))
  b3 : W.heap[w.heap.size + 1 + 1 + 1]? = some (.cells #[.int .i64 e] 23 (0, 0))
  size : w.heap.size ≤ W.heap.size
  os : W.os = w.os
  tape : W.tape = w.tape
  output : W.output = w.output
  block : ∀ k, k < w.heap.size → k ≠ fb → W.heap[k]? = w.heap[k]?
theorem AllocAt.own {w : World} {mb fb n : Nat} {o : Nat → Int} {owner r e : Int} {B : Nat} (hm : mb < w.heap.size) (hf : fb < w.heap.size) (hB : w.heap.size + 4 ≤ B) {β : Type} : OwnFrom B (fun (_ : β) W => AllocAt w W mb fb n o owner r e) := by
  intro s A C row h hg hr
  have low : ∀ k, k < B → k < A.heap.size → C.heap[k]? = A.heap[k]? := fun k hk hs => hg.block k hs (fun e => by have := (hr k e.symm).1; omega)
  obtain ⟨cs, h1, h2⟩ := h.mach.lst
  exact ⟨⟨keep_blk h.mach.blk (by omega) hg hr, cs, keep_blk h1 (by omega) hg hr, h2⟩, keep_blk h.b0 (by omega) hg hr, keep_blk h.b1 (by omega) hg hr, keep_blk h.b2 (by omega) hg hr, keep_blk h.b3 (by omega) hg hr, Nat.le_trans h.size hg.size, hg.os.trans h.os, hg.tape.trans h.tape, hg.output.trans h.output, fun k hk hn => (low k (by omega) (by have := h.size; omega)).trans (h.block k hk hn)⟩

theorem Mach.far {w : World} {mb fb n : Nat} {o : Nat → Int} (h : Mach w mb fb n o) {p : Addr} (h1 : mb ≠ p.block) (h2 : fb ≠ p.block) (u : Value) : Mach (w.setCell p u) mb fb n o := by
  obtain ⟨cs, h3, h4⟩ := h.lst
  exact ⟨blk_far h.blk h1 _, cs, blk_far h3 h2 _, h4⟩
theorem Mach.drew {w : World} {mb fb n : Nat} {o : Nat → Int} (h : Mach w mb fb n o) : Mach w.drew mb fb n o := ⟨h.blk, h.lst⟩
theorem AllocAt.step {w W : World} {mb fb n : Nat} {o : Nat → Int} (h : AllocAt w W mb fb n o (-2) 0 0) (hm : mb < w.heap.size) (hf : fb < w.heap.size) (hne : mb ≠ fb) (x : Nat) (hx : x < n) :
    AllocAt w (((W.drew.setCell ⟨fb, x * 260, none⟩ (.int .i64 (-2))).setCell ⟨w.heap.size + 1 + 1, 0, none⟩ (.int .i64 x)).setCell ⟨w.heap.size + 1 + 1 + 1, 0, none⟩ (.int .i64 0)) mb fb n (give o x (-2)) (-2) x 0 := by
  have e0 : ∀ {g : Nat} {ob : Obj}, W.heap[g]? = some ob → g ≠ fb → (W.drew.setCell ⟨fb, x * 260, none⟩ (.int .i64 (-2))).heap[g]? = some ob := fun h hg => blk_far (blk_drew h) hg _
  refine ⟨Mach.far (Mach.far (Mach.give (Mach.drew h.mach) hne x hx (-2)) (p := ⟨w.heap.size + 1 + 1, 0, none⟩) (by show mb ≠ w.heap.size + 1 + 1; omega) (by show fb ≠ w.heap.size + 1 + 1; omega) _) (p := ⟨w.heap.size + 1 + 1 + 1, 0, none⟩) (by show mb ≠ w.heap.size + 1 + 1 + 1; omega) (by show fb ≠ w.heap.size + 1 + 1 + 1; omega) _, blk_far (blk_far (e0 h.b0 (by omega)) (by show w.heap.size ≠ w.heap.size + 1 + 1; omega) _) (by show w.heap.size ≠ w.heap.size + 1 + 1 + 1; omega) _, blk_far (blk_far (e0 h.b1 (by omega)) (by show w.heap.size + 1 ≠ w.heap.size + 1 + 1; omega) _) (by show w.heap.size + 1 ≠ w.heap.size + 1 + 1 + 1; omega) _, blk_far (blk_put (e0 h.b2 (by omega)) 0 _ rfl) (by show w.heap.size + 1 + 1 ≠ w.heap.size + 1 + 1 + 1; omega) _, blk_put (blk_far (e0 h.b3 (by omega)) (by show w.heap.size + 1 + 1 + 1 ≠ w.heap.size + 1 + 1; omega) _) 0 _ rfl, by simp; exact h.size, h.os, h.tape, h.output, fun k hk hn => ?_⟩
  rw [Below.heap_setCell _ _ _ k (by show k ≠ w.heap.size + 1 + 1 + 1; omega), Below.heap_setCell _ _ _ k (by show k ≠ w.heap.size + 1 + 1; omega), Below.heap_setCell _ _ _ k hn]
  exact h.block k hk hn
theorem mine_nil {o : Nat → Int} {owner : Int} {k : Nat} (h : mine o owner k = []) : ∀ j, j < k → o j ≠ owner := by
  intro j hj ho
  unfold mine at h
  rw [List.map_eq_nil_iff, List.filter_eq_nil_iff] at h
  exact h j (List.mem_range.2 hj) (by simpa using ho)
set_option maxRecDepth 100000 in
set_option maxHeartbeats 8000000 in
/-- The hypervisor takes the least free frame. -/
theorem alloc_in (m : Nat) (hm : 6 ≤ m) (w : World) (mb fb n : Nat) (o : Nat → Int) (hM : Mach w mb fb n o) (hne : mb ≠ fb) (hn : n ≤ 1000) (k : Nat) (hk : k < n) (hok : o k = -1) (hlow : ∀ j, j < k → o j ≠ -1) :
    CallsIn Fence.wide m Try.prog 16 #[.pointer (some ⟨mb, 0, none⟩), .int .i64 (-2)] w fun e w' => e = .returned (.tuple #[.int .i64 k, .int .i64 0]) ∧ Mach w' mb fb n (give o k (-2)) ∧ (w'.os = w.os ∧ w'.tape = w.tape ∧ w'.output = w.output ∧ w.heap.size ≤ w'.heap.size) ∧ ∀ j, j < w.heap.size → j ≠ fb → w'.heap[j]? = w.heap[j]? := by
  have hfn : ∀ f, Fence.wide.fn f := fun _ => trivial
  have hro : Fence.wide.round = none := rfl
  have hm1 : 1 ≤ m := by omega
  have hm2 : 1 ≤ m - 1 := by omega
  refine callsIn_of_wp_marks Try.func16 rfl trivial ?_ rfl
  simp only [Try.ntmps16, List.size_toArray, List.length_cons, List.length_nil, Nat.reduceAdd, Nat.reduceSub, Array.replicate_succ, Array.replicate_zero, List.push_toArray, List.append_toArray, List.nil_append, List.cons_append]
  have hbm := hM.lt
  have hb0 : Below w.heap.size w ((((w.alloc (.cells #[.pointer (some ⟨mb, 0, none⟩)] 30)).alloc (.cells #[.int .i64 (-2)] 3)).alloc (.cells #[.int .i64 0] 3)).alloc (.cells #[.int .i64 0] 23)) := below_alloc (below_alloc (below_alloc (below_alloc (Below.refl _ _) _) _) _) _
  have hM4 := hM.below hM.lt.1 hM.lt.2 hb0
  have hno := fun m => callsIn_wide (n := m).2 (none_calls hM4)
  have hof := fun m => callsIn_wide (n := m).2 (of_calls mb (-1) ((((w.alloc (.cells #[.pointer (some ⟨mb, 0, none⟩)] 30)).alloc (.cells #[.int .i64 (-2)] 3)).alloc (.cells #[.int .i64 0] 3)).alloc (.cells #[.int .i64 0] 23)))
  have hdm := fun m n w => callsIn_wide (n := m).2 (domain_calls n w)
  gi_wp2_with (first
    | (gi_at_call 36; refine (hdm _ _ _).mono ?_; rintro z w1 ⟨rfl, hw1⟩; obtain rfl := hw1.symm)
    | (gi_at_call 31; refine (hno _).mono ?_; rintro z w1 ⟨rfl, hw1⟩; obtain rfl := hw1.symm)
    | (gi_at_call 37; refine (hof _).mono ?_; rintro z w1 ⟨rfl, hw1⟩; obtain rfl := hw1)
    | gi_in)
  have hA : AllocAt w ((((((w.alloc (.cells #[.pointer (some ⟨mb, 0, none⟩)] 30)).alloc (.cells #[.int .i64 (-2)] 3)).alloc (.cells #[.int .i64 0] 3)).alloc (.cells #[.int .i64 0] 23)).alloc (.cells #[.pointer (some ⟨mb, 0, none⟩)] 30)).alloc (.cells #[.int .i64 (-1)] 3)) mb fb n o (-2) 0 0 := by
    have hb6 := below_alloc (below_alloc hb0 (.cells #[.pointer (some ⟨mb, 0, none⟩)] 30)) (.cells #[.int .i64 (-1)] 3)
    exact ⟨hM.below hbm.1 hbm.2 hb6, blk_alloc (blk_alloc (blk_alloc (blk_alloc (blk_alloc (blk_new _ _) _) _) _) _) _, blk_alloc (blk_alloc (blk_alloc (blk_alloc (blk_newest (by simp) _) _) _) _) _, blk_alloc (blk_alloc (blk_alloc (blk_newest (by simp) _) _) _) _, blk_alloc (blk_alloc (blk_newest (by simp) _) _) _, hb6.size, hb6.os, hb6.tape, hb6.output, fun j hj _ => hb6.block j hj⟩
  have hc4 : ((((((w.alloc (.cells #[.pointer (some ⟨mb, 0, none⟩)] 30)).alloc (.cells #[.int .i64 (-2)] 3)).alloc (.cells #[.int .i64 0] 3)).alloc (.cells #[.int .i64 0] 23)).alloc (.cells #[.pointer (some ⟨mb, 0, none⟩)] 30)).alloc (.cells #[.int .i64 (-1)] 3)).cell? ⟨w.heap.size + 1 + 1 + 1 + 1, 0, none⟩ = some (.pointer (some ⟨mb, 0, none⟩)) :=
    blk_cell (blk_alloc (blk_newest (by simp) _) _) 0
  have hc5 : ((((((w.alloc (.cells #[.pointer (some ⟨mb, 0, none⟩)] 30)).alloc (.cells #[.int .i64 (-2)] 3)).alloc (.cells #[.int .i64 0] 3)).alloc (.cells #[.int .i64 0] 23)).alloc (.cells #[.pointer (some ⟨mb, 0, none⟩)] 30)).alloc (.cells #[.int .i64 (-1)] 3)).cell? ⟨w.heap.size + 1 + 1 + 1 + 1 + 1, 0, none⟩ = some (.int .i64 (-1)) :=
    blk_cell (blk_newest (by simp) _) 0
  have hsz : ((((((w.alloc (.cells #[.pointer (some ⟨mb, 0, none⟩)] 30)).alloc (.cells #[.int .i64 (-2)] 3)).alloc (.cells #[.int .i64 0] 3)).alloc (.cells #[.int .i64 0] 23)).alloc (.cells #[.pointer (some ⟨mb, 0, none⟩)] 30)).alloc (.cells #[.int .i64 (-1)] 3)).heap.size = w.heap.size + 6 := by simp
  generalize ((((((w.alloc (.cells #[.pointer (some ⟨mb, 0, none⟩)] 30)).alloc (.cells #[.int .i64 (-2)] 3)).alloc (.cells #[.int .i64 0] 3)).alloc (.cells #[.int .i64 0] 23)).alloc (.cells #[.pointer (some ⟨mb, 0, none⟩)] 30)).alloc (.cells #[.int .i64 (-1)] 3)) = W0 at hA hc4 hc5 hsz ⊢
  clear hM4 hno hof hb0
  have hst := of_stops (m - 1) hm2 (w.heap.size + 1 + 1 + 1 + 1) (w.heap.size + 1 + 1 + 1 + 1 + 1) mb fb n W0.heap.size o (-1) hn (by omega) (by omega) (by omega) (by omega) W0 (Nat.le_refl _) hc4 hc5 hA.mach
  refine wpIn_rangeFunc_ownF hro hm1 (gf := 58) (lb := #[.pointer (some ⟨w.heap.size + 1 + 1 + 1 + 1, 0, none⟩), .pointer (some ⟨w.heap.size + 1 + 1 + 1 + 1 + 1, 0, none⟩)]) rfl trivial (enters_of Try.func58 (by kernel_rfl) rfl)
    hst belowK_t (belowK_b (Nat.le_refl _)) (Below.refl _ _) (fun _ => rfl)
    (fun pre W => pre = [] ∧ AllocAt w W mb fb n o (-2) 0 0)
    (fun c pre W => c = .ret ∧ ∃ j, j < n ∧ o j = -1 ∧ ints pre = [(j : Int)] ∧ AllocAt w W mb fb n (give o j (-2)) (-2) j 0)
    (OwnFrom.and (fun s A B row hs hg hr => hs) (AllocAt.own hbm.1 hbm.2 (by omega)))
    (fun c s A B row hs hg hr => ⟨hs.1, hs.2.choose, hs.2.choose_spec.1, hs.2.choose_spec.2.1, hs.2.choose_spec.2.2.1, AllocAt.own (β := Unit) (B := W0.heap.size) hbm.1 hbm.2 (by omega) () A B row hs.2.choose_spec.2.2.2 hg hr⟩)
    ⟨rfl, hA⟩
    (fun x => { tmps := #[.pointer (some ⟨mb, 0, none⟩), .int .i64 (-2), .pointer (some ⟨w.heap.size, 0, none⟩), .pointer (some ⟨w.heap.size + 1, 0, none⟩), .pointer (some ⟨w.heap.size + 1 + 1, 0, none⟩), .pointer (some ⟨w.heap.size + 1 + 1 + 1, 0, none⟩), .int .i64 x.1, .bool false, .pointer (some ⟨mb, 0, none⟩), .bool false, .bool false, .int .i64 (-2), .bool false, .bool true, .bool true, .int .i64 (-2), .bool false, .bool false, .pointer (some ⟨mb, 0, none⟩), .func (.func 58) #[] #[.pointer (some ⟨w.heap.size + 1 + 1 + 1 + 1, 0, none⟩), .pointer (some ⟨w.heap.size + 1 + 1 + 1 + 1 + 1, 0, none⟩)], .int .i64 x.1, undef, undef, undef, undef, undef, undef, undef, undef, undef, undef], defers := [] }) ?assign ?body ?done ?stop
  case assign =>
    intro l x W K hK
    gi_wp2
    exact hK
  case body =>
    rintro l pre x W ⟨rfl, hW⟩ _
    have hx := x.2.1
    have hox := x.2.2
    have C0 := fun i => blk_cell hW.b0 i
    have C1 := fun i => blk_cell hW.b1 i
    have C2 := fun i => blk_cell hW.b2 i
    have C3 := fun i => blk_cell hW.b3 i
    have F2 := fun i => blk_frozen hW.b2 i
    have F3 := fun i => blk_frozen hW.b3 i
    have CM := fun i => blk_cell hW.mach.blk i
    have CO := hW.mach.owner x.1 hx
    have FO : ∀ i, W.frozen? ⟨fb, i, none⟩ = false := fun i => by
      obtain ⟨cs, h1, h2⟩ := hW.mach.lst
      exact blk_frozen h1 i
    have hns : w.heap.size + 1 + 1 ≠ fb := by omega
    have hns3 : w.heap.size + 1 + 1 + 1 ≠ fb := by omega
    have hst2 := hW.step hbm.1 hbm.2 hne x.1 hx
    have HS := Aside.mk (And.intro hW hst2)
    clear hW hst2 hst
    gi_wp2
    gi_region_with (fail)
    all_goals gi_wp2
    all_goals exact ⟨(KeepsOthers.setCell W _ _).trans (((KeepsOthers.drew _).trans (KeepsOthers.setCell _ _ _)).trans (KeepsOthers.setCell _ _ _)), rfl, x.1, hx, hox, rfl, HS.out.2⟩
  case done =>
    rintro D ys W hD hys ⟨rfl, hW⟩ hK
    exact absurd hok (mine_nil hys.symm k hk)
  case stop =>
    rintro D c pre W hD ⟨k', hk', hok', hpre⟩ ⟨rfl, j, hj, hoj, hpj, hW⟩ hK
    rw [hpj] at hpre
    have hlen : (mine o (-1) k').length = 0 := by
      have := congrArg List.length hpre
      rw [List.length_append] at this
      simp only [List.length_cons, List.length_nil] at this
      omega
    have hmn : mine o (-1) k' = [] := List.length_eq_zero_iff.1 hlen
    rw [hmn] at hpre
    have hjk : j = k' := by
      have : (j : Int) = (k' : Int) := by simpa using hpre
      omega
    have hkk : j = k := by
      subst hjk
      rcases Nat.lt_trichotomy j k with h | h | h
      · exact absurd hoj (hlow j h)
      · exact h
      · exact absurd hok (mine_nil hmn k h)
    subst hkk
    have hP : AllocAt w (W.putObj D (.deferred none)) mb fb n (MaB.give o j (-2)) (-2) j 0 := AllocAt.own (β := Unit) (B := W0.heap.size) hbm.1 hbm.2 (by omega) () W _ (some D) hW (grownBy_putObj' W D _) (fun r e => by cases e; exact ⟨hD, _, hK, rfl⟩)
    have C2 := blk_cell hP.b2 0
    have C3 := blk_cell hP.b3 0
    simp only [List.getElem?_toArray, List.getElem?_cons_zero] at C2 C3
    gi_wp2
    refine ⟨by simp, .inl ⟨_, _, rfl, run_takeDeferred hK, ?_⟩⟩
    refine ⟨.tuple #[.int .i64 j, .int .i64 0], ?_, rfl, hP.mach, ⟨hP.os, hP.tape, hP.output, hP.size⟩, hP.block⟩
    simp [results, Try.f16, go_sem, C2, C3]
/-- The hypervisor takes the least free frame. -/
theorem alloc_calls (w : World) (mb fb n : Nat) (o : Nat → Int) (hM : Mach w mb fb n o) (hne : mb ≠ fb) (hn : n ≤ 1000) (k : Nat) (hk : k < n) (hok : o k = -1) (hlow : ∀ j, j < k → o j ≠ -1) :
    Calls Try.prog 16 #[.pointer (some ⟨mb, 0, none⟩), .int .i64 (-2)] w fun e w' => e = .returned (.tuple #[.int .i64 k, .int .i64 0]) ∧ Mach w' mb fb n (give o k (-2)) ∧ (w'.os = w.os ∧ w'.tape = w.tape ∧ w'.output = w.output ∧ w.heap.size ≤ w'.heap.size) ∧ ∀ j, j < w.heap.size → j ≠ fb → w'.heap[j]? = w.heap[j]? :=
  callsIn_wide.1 (alloc_in 6 (Nat.le_refl _) w mb fb n o hM hne hn k hk hok hlow)
end Go.Proofs.Ytkalnjfhkbnamaa.MaB
