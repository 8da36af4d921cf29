/- Proved: what a machine's Frame, Get, Put do (contracts for the laws of the grants). -/
import Derived.Test.YtebhpmmibffbeaaGaA
namespace Go.Proofs.Ytebhpmmibffbeaa.GaB
open Go.RowKit Go.Proofs.Ytebhpmmibffbeaa.Base Go.Proofs.Ytebhpmmibffbeaa.GaA
set_option linter.unusedVariables false
set_option linter.unusedSimpArgs false

def MS.put1 (s : MS) (k : Nat) (f : Fr) : MS := { s with fr := fun i => if i = k then f else s.fr i }
def getE (f : Fr) (owner kind : Int) : Int := if f.own = -1 then 11 else if f.own ≠ owner then 12 else if kind ≠ 0 ∧ f.typ ≠ 0 ∧ f.typ ≠ kind then 13 else 0
def getF (f : Fr) (kind : Int) : Fr := if kind = 0 then ⟨f.own, f.typ, f.cnt, f.tot + 1⟩ else ⟨f.own, kind, f.cnt + 1, f.tot + 1⟩
def getS (s : MS) (k : Nat) (owner kind : Int) : MS := if getE (s.fr k) owner kind = 0 then MS.put1 s k (getF (s.fr k) kind) else s
/-- How many references there are: far from what an int holds. -/
def Fr.few (f : Fr) : Prop := -1000000000 ≤ f.cnt ∧ f.cnt ≤ 1000000000 ∧ -1000000000 ≤ f.tot ∧ f.tot ≤ 1000000000
section
variable {w w' : World} {mb fb : Nat} {s : MS}
theorem cells_put1 {cs : Array Value} {n k : Nat} {f g : Nat → Nat → Value} (h : CellsAre cs n f) (h2 : ∀ i j, i < n → j < 260 → f i j = g i j) : CellsAre cs n g := h.of h2
set_option maxHeartbeats 2000000 in
set_option maxRecDepth 100000 in
theorem frame_calls (h : Mach w mb fb s) (k : Nat) (hk : k < s.n) : Calls Try.prog 56 #[.pointer (some ⟨mb, 0, none⟩), .int .i64 k] w fun e w' =>
    e = .returned (.tuple #[.agg #[.int .i64 (s.fr k).own, .int .i64 (s.fr k).typ, .int .i64 (s.fr k).cnt, .int .i64 (s.fr k).tot], .int .i64 0]) ∧ Below w.heap.size w w' := by
  have hb0 := below_alloc (Below.refl w.heap.size w) (.cells #[.int .i64 0, .int .i64 0, .int .i64 0, .int .i64 0] 72)
  have h1 := h.below hb0
  have ha := at_calls h1 k hk
  have c0 := h1.own k hk
  have c1 := h1.typ k hk
  have c2 := h1.cnt k hk
  have c3 := h1.tot k hk
  have L1 := h1.lt.2
  clear hb0 h1 h
  go_enter Try.func56, Try.ntmps56
  go_wp2_with (first
    | (go_at_call 43; refine ha.mono ?_; rintro z w1 ⟨rfl, hw1⟩; obtain rfl := hw1.symm)
    | go_in)
  refine bodyPost_ret (v := .tuple #[.agg #[.int .i64 (s.fr k).own, .int .i64 (s.fr k).typ, .int .i64 (s.fr k).cnt, .int .i64 (s.fr k).tot], .int .i64 0]) ?_ rfl ⟨rfl, ?_⟩
  · simp only [results, Try.results56]; go_simp
  · exact below_alloc (Below.refl w.heap.size w) _
set_option maxHeartbeats 2000000 in
set_option maxRecDepth 100000 in
theorem frame_out (h : Mach w mb fb s) (k : Int) (hk : k < 0 ∨ (s.n : Int) ≤ k) : Calls Try.prog 56 #[.pointer (some ⟨mb, 0, none⟩), .int .i64 k] w fun e w' =>
    e = .returned (.tuple #[.agg #[.int .i64 0, .int .i64 0, .int .i64 0, .int .i64 0], .int .i64 1]) ∧ Below w.heap.size w w' := by
  have hb0 := below_alloc (Below.refl w.heap.size w) (.cells #[.int .i64 0, .int .i64 0, .int .i64 0, .int .i64 0] 72)
  have ha := at_out (h.below hb0) k hk
  clear hb0 h
  go_enter Try.func56, Try.ntmps56
  go_wp2_with (first
    | (go_at_call 43; refine ha.mono ?_; rintro z w1 ⟨rfl, hw1⟩; obtain rfl := hw1.symm)
    | go_in)
  refine bodyPost_ret (v := .tuple #[.agg #[.int .i64 0, .int .i64 0, .int .i64 0, .int .i64 0], .int .i64 1]) ?_ rfl ⟨rfl, ?_⟩
  · simp only [results, Try.results56]; go_simp
  · exact below_alloc (Below.refl w.heap.size w) _
set_option maxHeartbeats 2000000 in
set_option maxRecDepth 100000 in
theorem kinds_calls (h : Mach w mb fb s) (k : Nat) (hk : k < s.n) (kind : Int) (h0 : 0 ≤ kind) (h3 : kind ≤ 3) : Calls Try.prog 55 #[.pointer (some ⟨mb, 0, none⟩), .int .i64 k, .int .i64 kind] w fun e w' => e = .returned (.tuple #[.pointer (some ⟨fb, k * 260, none⟩), .int .i64 0]) ∧ w' = w := by
  have ha := at_calls h k hk
  have d0 : decide (kind < 0) = false := decide_eq_false (by omega)
  have d1 : decide (3 < kind) = false := decide_eq_false (by omega)
  clear h
  go_enter Try.func55, Try.ntmps55
  go_wp2_with (first
    | (go_at_call 43; refine ha.mono ?_; rintro z w1 ⟨rfl, hw1⟩; obtain rfl := hw1.symm)
    | go_in)
  go_ret2
  exact ⟨by first | rfl | (simp; done), rfl⟩
set_option maxHeartbeats 2000000 in
set_option maxRecDepth 100000 in
theorem kinds_out (h : Mach w mb fb s) (k : Int) (hk : k < 0 ∨ (s.n : Int) ≤ k) (kind : Int) : Calls Try.prog 55 #[.pointer (some ⟨mb, 0, none⟩), .int .i64 k, .int .i64 kind] w fun e w' => e = .returned (.tuple #[.pointer none, .int .i64 1]) ∧ w' = w := by
  have ha := at_out h k hk
  clear h
  go_enter Try.func55, Try.ntmps55
  go_wp2_with (first
    | (go_at_call 43; refine ha.mono ?_; rintro z w1 ⟨rfl, hw1⟩; obtain rfl := hw1.symm)
    | go_in)
  go_ret2
  exact ⟨by first | rfl | (simp; done), rfl⟩
theorem put1_cells {cs : Array Value} {n k : Nat} (hk : k < n) {s : MS} (hn : s.n = n) (f : Fr) {v1 v2 v3 : Value} (h : CellsAre cs n (cellM s)) (e0 : f.own = (s.fr k).own) :
    CellsAre (((cs.setIfInBounds (k * 260 + 3) (.int .i64 f.tot)).setIfInBounds (k * 260 + 1) (.int .i64 f.typ)).setIfInBounds (k * 260 + 2) (.int .i64 f.cnt)) n (cellM (MS.put1 s k f)) := by
  refine (((h.set k 3 hk (by decide) _).set k 1 hk (by decide) _).set k 2 hk (by decide) _).of fun i j hi hj => ?_
  unfold cellM MS.put1
  by_cases hik : i = k
  · subst hik
    by_cases j0 : j = 0
    · subst j0
      simp [e0]
    · by_cases j1 : j = 1
      · subst j1
        simp
      · by_cases j2 : j = 2
        · subst j2
          simp
        · by_cases j3 : j = 3
          · subst j3
            simp
          · simp [j0, j1, j2, j3]
  · simp [hik]
theorem put1_tot {cs : Array Value} {n k : Nat} (hk : k < n) {s : MS} (h : CellsAre cs n (cellM s)) (t : Int) :
    CellsAre (cs.setIfInBounds (k * 260 + 3) (.int .i64 t)) n (cellM (MS.put1 s k ⟨(s.fr k).own, (s.fr k).typ, (s.fr k).cnt, t⟩)) := by
  refine (h.set k 3 hk (by decide) _).of fun i j hi hj => ?_
  unfold cellM MS.put1
  by_cases hik : i = k
  · subst hik
    by_cases j0 : j = 0
    · subst j0
      simp
    · by_cases j1 : j = 1
      · subst j1
        simp
      · by_cases j2 : j = 2
        · subst j2
          simp
        · by_cases j3 : j = 3
          · subst j3
            simp
          · simp [j0, j1, j2, j3]
  · simp [hik]
theorem chg_fb {W : World} (h : Chg (fun x => x = fb) w W) (i : Nat) (u : Value) : Chg (fun x => x = fb) w (W.setCell ⟨fb, i, none⟩ u) := h.set (p := ⟨fb, i, none⟩) (.inl rfl) u
theorem mach_tot (h : Mach w mb fb s) (k : Nat) (hk : k < s.n) (t : Int) : Mach (w.setCell ⟨fb, k * 260 + 3, none⟩ (.int .i64 t)) mb fb (MS.put1 s k ⟨(s.fr k).own, (s.fr k).typ, (s.fr k).cnt, t⟩) := by
  obtain ⟨cs, h1, h2⟩ := h.lst
  exact ⟨blk_far h.blk h.ne _, ⟨_, blk_put h1 _ _ rfl, put1_tot hk h2 t⟩, h.few⟩
theorem mach_three (h : Mach w mb fb s) (k : Nat) (hk : k < s.n) (y c t : Int) : Mach (((w.setCell ⟨fb, k * 260 + 3, none⟩ (.int .i64 t)).setCell ⟨fb, k * 260 + 1, none⟩ (.int .i64 y)).setCell ⟨fb, k * 260 + 2, none⟩ (.int .i64 c)) mb fb (MS.put1 s k ⟨(s.fr k).own, y, c, t⟩) := by
  obtain ⟨cs, h1, h2⟩ := h.lst
  exact ⟨blk_far (blk_far (blk_far h.blk h.ne _) h.ne _) h.ne _, ⟨_, blk_put (blk_put (blk_put h1 _ _ rfl) _ _ rfl) _ _ rfl, put1_cells (v1 := .bool true) (v2 := .bool true) (v3 := .bool true) hk rfl ⟨(s.fr k).own, y, c, t⟩ h2 rfl⟩, h.few⟩
/-- What Get comes to. -/
def GetOut (mb fb : Nat) (s : MS) (k : Nat) (owner kind : Int) (w : World) (e : Ending) (w' : World) : Prop := e = .returned (.int .i64 (getE (s.fr k) owner kind)) ∧ Mach w' mb fb (getS s k owner kind) ∧ Chg (· = fb) w w'
set_option maxHeartbeats 4000000 in
set_option maxRecDepth 100000 in
theorem get_calls (h : Mach w mb fb s) (k : Nat) (hk : k < s.n) (owner kind : Int) (h0 : 0 ≤ kind) (h3 : kind ≤ 3) (hf : Fr.few (s.fr k)) : Calls Try.prog 36 #[.pointer (some ⟨mb, 0, none⟩), .int .i64 k, .int .i64 owner, .int .i64 kind] w (GetOut mb fb s k owner kind w) := by
  have ha := kinds_calls h k hk kind h0 h3
  have c0 := h.own k hk
  have c1 := h.typ k hk
  have c2 := h.cnt k hk
  have c3 := h.tot k hk
  have F0 := h.frozen
  have L1 := h.lt.2
  have HH := Base.Aside.mk h
  obtain ⟨b0, b1, b2, b3⟩ := hf
  clear h
  by_cases e1 : (s.fr k).own = -1
  · have d1 : ((s.fr k).own == -1) = true := by simp [e1]
    have HE := Base.Aside.mk e1
    clear e1
    go_enter Try.func36, Try.ntmps36
    go_wp2_with (first
      | (go_at_call 55; refine ha.mono ?_; rintro z w1 ⟨rfl, hw1⟩; obtain rfl := hw1.symm)
      | go_in)
    go_ret
    have hg : getE (s.fr k) owner kind = 11 := by unfold getE; rw [if_pos HE.out]
    exact ⟨by rw [hg]; first | rfl | (simp; done), by unfold getS; rw [hg]; exact HH.out, Chg.refl _ _⟩
  · have d1 : ((s.fr k).own == -1) = false := by simp [e1]
    have HE := Base.Aside.mk e1
    clear e1
    by_cases e2 : (s.fr k).own = owner
    · have d2 : ((s.fr k).own == owner) = true := by simp [e2]
      have d2' : ((s.fr k).own != owner) = false := by simp [e2]
      have HE2 := Base.Aside.mk e2
      clear e2
      by_cases e3 : kind = 0
      · subst e3
        go_enter Try.func36, Try.ntmps36
        go_wp2_with (first
          | (go_at_call 55; refine ha.mono ?_; rintro z w1 ⟨rfl, hw1⟩; obtain rfl := hw1.symm)
          | go_in)
        go_ret
        have hg : getE (s.fr k) owner 0 = 0 := by unfold getE; rw [if_neg HE.out, if_neg (by simp [HE2.out]), if_neg (by simp)]
        refine ⟨by rw [hg]; first | rfl | (simp; done), ?_, ?_⟩
        · unfold getS
          rw [hg, if_pos rfl]
          unfold getF
          rw [if_pos rfl]
          exact mach_tot HH.out k hk _
        · exact chg_fb (Chg.refl _ w) _ _
      · have d3 : (kind == 0) = false := by simp [e3]
        have d3' : (kind != 0) = true := by simp [e3]
        have HK := Base.Aside.mk e3
        clear e3
        by_cases e4 : (s.fr k).typ = 0
        · have d4 : ((s.fr k).typ == 0) = true := by simp [e4]
          have d4' : ((s.fr k).typ != 0) = false := by simp [e4]
          have HT := Base.Aside.mk e4
          clear e4
          go_enter Try.func36, Try.ntmps36
          go_wp2_with (first
            | (go_at_call 55; refine ha.mono ?_; rintro z w1 ⟨rfl, hw1⟩; obtain rfl := hw1.symm)
            | go_in)
          go_ret
          have hg : getE (s.fr k) owner kind = 0 := by unfold getE; rw [if_neg HE.out, if_neg (by simp [HE2.out]), if_neg (by simp [HT.out])]
          refine ⟨by rw [hg]; first | rfl | (simp; done), ?_, ?_⟩
          · unfold getS
            rw [hg, if_pos rfl]
            unfold getF
            rw [if_neg HK.out]
            exact mach_three HH.out k hk _ _ _
          · exact chg_fb (chg_fb (chg_fb (Chg.refl _ w) _ _) _ _) _ _
        · have d4 : ((s.fr k).typ == 0) = false := by simp [e4]
          have d4' : ((s.fr k).typ != 0) = true := by simp [e4]
          have HT := Base.Aside.mk e4
          clear e4
          by_cases e5 : (s.fr k).typ = kind
          · have d5 : ((s.fr k).typ == kind) = true := by simp [e5]
            have d5' : ((s.fr k).typ != kind) = false := by simp [e5]
            have HT5 := Base.Aside.mk e5
            clear e5
            go_enter Try.func36, Try.ntmps36
            go_wp2_with (first
              | (go_at_call 55; refine ha.mono ?_; rintro z w1 ⟨rfl, hw1⟩; obtain rfl := hw1.symm)
              | go_in)
            go_ret
            have hg : getE (s.fr k) owner kind = 0 := by unfold getE; rw [if_neg HE.out, if_neg (by simp [HE2.out]), if_neg (by simp [HT5.out])]
            refine ⟨by rw [hg]; first | rfl | (simp; done), ?_, ?_⟩
            · unfold getS
              rw [hg, if_pos rfl]
              unfold getF
              rw [if_neg HK.out]
              exact mach_three HH.out k hk _ _ _
            · exact chg_fb (chg_fb (chg_fb (Chg.refl _ w) _ _) _ _) _ _
          · have d5 : ((s.fr k).typ == kind) = false := by simp [e5]
            have d5' : ((s.fr k).typ != kind) = true := by simp [e5]
            have HT5 := Base.Aside.mk e5
            clear e5
            go_enter Try.func36, Try.ntmps36
            go_wp2_with (first
              | (go_at_call 55; refine ha.mono ?_; rintro z w1 ⟨rfl, hw1⟩; obtain rfl := hw1.symm)
              | go_in)
            go_ret
            have hg : getE (s.fr k) owner kind = 13 := by unfold getE; rw [if_neg HE.out, if_neg (by simp [HE2.out]), if_pos ⟨HK.out, HT.out, HT5.out⟩]
            exact ⟨by rw [hg]; first | rfl | (simp; done), by unfold getS; rw [hg]; exact HH.out, Chg.refl _ _⟩
    · have d2 : ((s.fr k).own == owner) = false := by simp [e2]
      have d2' : ((s.fr k).own != owner) = true := by simp [e2]
      have HE2 := Base.Aside.mk e2
      clear e2
      go_enter Try.func36, Try.ntmps36
      go_wp2_with (first
        | (go_at_call 55; refine ha.mono ?_; rintro z w1 ⟨rfl, hw1⟩; obtain rfl := hw1.symm)
        | go_in)
      go_ret
      have hg : getE (s.fr k) owner kind = 12 := by unfold getE; rw [if_neg HE.out, if_pos HE2.out]
      exact ⟨by rw [hg]; first | rfl | (simp; done), by unfold getS; rw [hg]; exact HH.out, Chg.refl _ _⟩
end
end Go.Proofs.Ytebhpmmibffbeaa.GaB
