/- Proved: the document's Unmap (contracts for the laws of the grants). Proved: the document's Transfer where it is refused (contracts for the laws of the grants). Proved: the document's Transfer behind an entry's read (contracts for the laws of the grants). -/
import Derived.Test.YthlejchcnfdcpaaGreatMlba
import Derived.Test.YthlejchcnfdcpaaGreatMlbb
import Derived.Deep.QuietTactic
import Derived.BigQuiet
import Derived.IntWalk
namespace Go.Proofs.YthlejchcnfdcpaaGreat.GyP
open Go.RowKit Go.Maps Base GaA GaB GaC GaD GmB GmC GpA GgA GeA GeB GfA GfB GfC GfD GjA GjB GjC GjK GwA GwB GwQ RpA RmA RmB RgA GxA GxB GxC GxD GyA GyB GyC GyO GyQ
set_option linter.unusedVariables false
set_option linter.unusedSimpArgs false

theorem cells_take {W : World} {g : Nat} {L : List Mp} (h : ∀ i (hi : i < L.length), W.cell? ⟨g, i * 6, none⟩ = some (.int .i64 L[i].h) ∧ W.cell? ⟨g, i * 6 + 1, none⟩ = some (.int .i64 L[i].caller) ∧ W.cell? ⟨g, i * 6 + 2, none⟩ = some (.int .i64 L[i].owner) ∧ W.cell? ⟨g, i * 6 + 3, none⟩ = some (.int .i64 L[i].ref) ∧ W.cell? ⟨g, i * 6 + 4, none⟩ = some (.int .i64 L[i].mfn) ∧ W.cell? ⟨g, i * 6 + 5, none⟩ = some (.bool L[i].wr)) (j : Nat) (u : Value) (hj : (L.flatMap mcells)[j]? = some u) : W.cell? ⟨g, j, none⟩ = some u := by
  have hlen : (L.flatMap mcells).length = L.length * 6 := by
    clear h hj
    induction L with
    | nil => rfl
    | cons m t ih => rw [List.flatMap_cons, List.length_append, ih]; simp [mcells]; omega
  have hjl := (List.getElem?_eq_some_iff.1 hj).1
  obtain ⟨i, k, rfl, hk⟩ : ∃ i k, j = i * 6 + k ∧ k < 6 := ⟨j / 6, j % 6, by omega, by omega⟩
  have hi : i < L.length := by omega
  rw [flat_six L i k hi hk] at hj
  obtain ⟨h0, h1, h2, h3, h4, h5⟩ := h i hi
  match k, hk with
  | 0, _ => rw [Nat.add_zero, h0, ← hj]; rfl
  | 1, _ => rw [h1, ← hj]; rfl
  | 2, _ => rw [h2, ← hj]; rfl
  | 3, _ => rw [h3, ← hj]; rfl
  | 4, _ => rw [h4, ← hj]; rfl
  | 5, _ => rw [h5, ← hj]; rfl
theorem row_zero {W : World} {b e size n : Nat} {v : Value} {xs : List Value} (h : W.ownsRow b e size v n xs) : W.ownsRow 0 e size v n xs := by
  obtain ⟨h1, h2 | ⟨g, cap, cur, h2, _, h3⟩⟩ := h
  · exact ⟨h1, .inl h2⟩
  · exact ⟨h1, .inr ⟨g, cap, cur, h2, Nat.zero_le _, h3⟩⟩
theorem row_len {W : World} {b e size n : Nat} {v : Value} {xs : List Value} (h : W.ownsRow b e size v n xs) : ∃ A cap, v = .slice A n cap := by
  obtain ⟨h1, ⟨h2, rfl⟩ | ⟨g, cap, cur, h2, _, h3⟩⟩ := h
  · exact ⟨_, _, h2⟩
  · exact ⟨_, _, h2⟩
theorem flat_len : ∀ L : List Mp, (L.flatMap mcells).length = L.length * 6
  | [] => rfl
  | m :: t => by rw [List.flatMap_cons, List.length_append, flat_len t]; simp [mcells]; omega
theorem flat_one (L : List Mp) : ∀ u ∈ L.flatMap mcells, u.oneCell' = true := by
  intro u hu
  obtain ⟨m, _, h⟩ := List.mem_flatMap.1 hu
  exact mcells_one m u h
theorem flat_take (L : List Mp) (i j : Nat) (u : Value) (hj : ((L.take i).flatMap mcells)[j]? = some u) : (L.flatMap mcells)[j]? = some u := by
  have : L.flatMap mcells = (L.take i).flatMap mcells ++ (L.drop i).flatMap mcells := by rw [← List.flatMap_append, List.take_append_drop]
  rw [this, List.getElem?_append_left (List.getElem?_eq_some_iff.1 hj).1]
  exact hj
theorem flat_drop (L : List Mp) (i j : Nat) (hi : i ≤ L.length) : (L.flatMap mcells)[i * 6 + j]? = ((L.drop i).flatMap mcells)[j]? := by
  have : L.flatMap mcells = (L.take i).flatMap mcells ++ (L.drop i).flatMap mcells := by rw [← List.flatMap_append, List.take_append_drop]
  have hl : ((L.take i).flatMap mcells).length = i * 6 := by rw [flat_len, List.length_take]; congr 1; omega
  rw [this, List.getElem?_append_right (by omega), hl]
  congr 1
  omega
section
variable {w0 w w' W W0 W' : World} {a : DA} {A A2 : Option Addr} {cap c2 : Nat} {s s' : MS} {f f' : Int → Option (Int × Nat)} {pi : Nat → PI} {qq : Nat → Nat × Nat × Nat} {L L2 : List Mp} {F : Int × Int → Option Mp}
/-- Another list of maps. -/
theorem DW.repl (h : DW W a A cap s f pi qq L) {w4 : World} {n : Nat} (hb : Below W.heap.size W w4) (hn : n = L2.length) (hown : w4.ownsRow 0 102 6 (.slice A2 n c2) n (L2.flatMap mcells)) (hl : L2.length ≤ 128) :
    DW (w4.setCell ⟨a.hb, 2, none⟩ (.slice A2 n c2)) a A2 c2 s f pi qq L2 ∧ Chg (fun x => x = a.hb) W (w4.setCell ⟨a.hb, 2, none⟩ (.slice A2 n c2)) := by
  have h4 := h.below hb
  have hcs : Chg (fun x => x = a.hb) w4 (w4.setCell ⟨a.hb, 2, none⟩ (.slice A2 n c2)) := Chg.set (F := fun x => x = a.hb) (p := ⟨a.hb, 2, none⟩) (Chg.refl _ w4) (.inl rfl) _
  obtain ⟨k1, k2, k3⟩ := DW.rest h4 hcs (fun x hx cs t hh => by
    subst hx
    rw [h4.blk] at hh
    injection hh with hh
    injection hh with _ hh
    exact .inl hh.symm)
  refine ⟨⟨blk_put h4.blk 2 _ (by rw [hn]; rfl), k1, ?_, k2, k3, h.d, hl⟩, (Chg.below _ hb).trans hcs⟩
  rw [← hn]
  refine row_chg hown hcs (fun x hx e => ?_)
  subst e
  exact (row_ne hown h4.blk (by decide)) hx
set_option maxHeartbeats 8000000 in
set_option maxRecDepth 100000 in
theorem runmap_no (h : DW W a A cap s f pi qq L) (hL : Lk F L) (d k : Int) (hne : (heldR F d k).2 ≠ 0) :
    Calls Tryz.prog 26 #[.pointer (some ⟨a.hb, 0, none⟩), .int .i64 d, .int .i64 k] W fun e w' => e = .returned (.int .i64 (heldR F d k).2) ∧ w' = W := by
  have hdo := fun W => domain_any d W
  have hfi := rfind h hL d k
  unfold heldR at hne ⊢
  by_cases hc : 0 ≤ d ∧ d < 8
  · have hb : (decide (0 ≤ d) && decide (d < 8)) = true := by simp [hc]
    rw [hb] at hdo
    rw [if_neg (fun h => h hc)] at hne ⊢
    cases hf : F (d, k) with
    | some m => rw [hf] at hne; exact absurd rfl hne
    | none =>
      have hfi2 : Calls Tryz.prog 70 #[.pointer (some ⟨a.hb, 0, none⟩), .int .i64 d, .int .i64 k] W fun e w' => e = .returned (.int .i64 (-1)) ∧ w' = W := by
        refine hfi.mono ?_
        rintro e w' ⟨⟨i, hi, h1, _⟩ | ⟨_, h2⟩, hw⟩
        · rw [hf] at h1; cases h1
        · exact ⟨h2, hw⟩
      clear hfi hne hf h hb
      go_enter Tryz.func26, Tryz.ntmps26
      go_wp2_with (first
        | (go_at_call 48; (with_reducible refine (hdo _).mono ?_); rintro z w9 ⟨rfl, hw9⟩; obtain rfl := hw9.symm)
        | (go_at_call 70; (with_reducible refine hfi2.mono ?_); rintro z w9 ⟨rfl, hw9⟩; obtain rfl := hw9.symm)
        | go_in)
      go_ret
      exact ⟨by first | rfl | (simp; done), by first | rfl | trivial⟩
  · have hb : (decide (0 ≤ d) && decide (d < 8)) = false := by simp; omega
    rw [hb] at hdo
    rw [if_pos hc]
    clear hfi hne h hb
    go_enter Tryz.func26, Tryz.ntmps26
    go_wp2_with (first
      | (go_at_call 48; (with_reducible refine (hdo _).mono ?_); rintro z w9 ⟨rfl, hw9⟩; obtain rfl := hw9.symm)
      | go_in)
    go_ret
    exact ⟨by first | rfl | (simp; done), by first | rfl | trivial⟩
def RuOut (W : World) (a : DA) (s : MS) (f : Int → Option (Int × Nat)) (pi : Nat → PI) (qq : Nat → Nat × Nat × Nat) (F : Int × Int → Option Mp) (L : List Mp) (d k : Int) (e : Ending) (w' : World) : Prop :=
  e = .returned (.int .i64 0) ∧ ∃ (i : Nat) (hi : i < L.length) (A2 : Option Addr) (c2 : Nat), F (d, k) = some L[i] ∧ DW w' a A2 c2 s f pi qq (L.take i ++ L.drop (i + 1)) ∧ Chg (fun x => x = a.Fb ∨ x = a.hb) W w' ∧ (∀ x, A2 = some x → W.heap.size ≤ x.block)
set_option maxHeartbeats 8000000 in
set_option maxRecDepth 100000 in
theorem runmap_ok (h : DW W a A cap s f pi qq L) (hL : Lk F L) (d k : Int) (hc : 0 ≤ d ∧ d < 8) (m : Mp) (hm : F (d, k) = some m) (mf : Nat) (hmf : m.mfn = mf) (hk : mf < s.n) (hfew : Fr.few (s.fr mf)) (htk : Fr.tk (s.fr mf)) (hp : putE (s.fr mf) (kindI m.wr) = 0) :
    Calls Tryz.prog 26 #[.pointer (some ⟨a.hb, 0, none⟩), .int .i64 d, .int .i64 k] W (RuOut W a (putS s mf (kindI m.wr)) f pi qq F L d k) := by
  obtain ⟨i0, hi, hz0, hz1, hz2⟩ := info_parts infoMp
  have hdo := fun W => domain_any d W
  have hb : (decide (0 ≤ d) && decide (d < 8)) = true := by simp [hc]
  rw [hb] at hdo
  have hlen : 0 < L.length := by
    obtain ⟨i, hi, _⟩ := hL.get hm
    omega
  obtain ⟨g, hA, hgl, _⟩ := h.words hlen
  subst hA
  have hcap : L.length ≤ cap := by
    obtain ⟨_, ⟨h1, _⟩ | ⟨g', cap', cur, h1, _, _, h2, _⟩⟩ := h.row
    · cases h1
    · injection h1 with _ _ h1
      omega
  obtain ⟨n, hn⟩ : ∃ n, n = L.length := ⟨_, rfl⟩
  have C0 := fun i => blk_cell h.blk i
  have L0 := blk_lt h.blk
  rw [← hn] at C0 hcap hlen
  have hfew2 := h.few
  rw [← hn] at hfew2
  have hfi : Calls Tryz.prog 70 #[.pointer (some ⟨a.hb, 0, none⟩), .int .i64 d, .int .i64 k] W fun e w' => (∃ (i : Nat), e = .returned (.int .i64 i) ∧ i < n ∧ L[i]? = some m) ∧ w' = W := by
    refine (rfind h hL d k).mono ?_
    rintro e w' ⟨⟨i, hi, h1, h2⟩ | ⟨h1, _⟩, hw⟩
    · rw [hm] at h1
      injection h1 with h1
      exact ⟨⟨i, h2, by omega, by rw [h1]; exact List.getElem?_eq_getElem hi⟩, hw⟩
    · rw [hm] at h1; cases h1
  have S0 : ∀ W' s', DW W' a (some ⟨g, 0, none⟩) cap s' f pi qq L → W'.cell? ⟨a.hb, 0, none⟩ = some (.pointer (some ⟨a.rb, 0, none⟩)) ∧ W'.cell? ⟨a.hb, 2, none⟩ = some (.slice (some ⟨g, 0, none⟩) n cap) := fun W' s' h2 => ⟨blk_cell h2.blk 0, by have := blk_cell h2.blk 2; rw [hn]; exact this⟩
  have S1 : ∀ W' s', DW W' a (some ⟨g, 0, none⟩) cap s' f pi qq L → ∀ i, L[i]? = some m → W'.cell? ⟨g, i * 6 + 4, none⟩ = some (.int .i64 mf) ∧ W'.cell? ⟨g, i * 6 + 5, none⟩ = some (.bool m.wr) := fun W' s' h2 i hi => by
    have hil := (List.getElem?_eq_some_iff.1 hi).1
    have e1 := (List.getElem?_eq_some_iff.1 hi).2
    obtain ⟨g', hg, _, hw⟩ := h2.words (by omega)
    injection hg with hg
    injection hg with hg
    subst hg
    have := hw i hil
    rw [e1, hmf] at this
    exact this.2.2.2.2
  have m0 : (0 : Int) ≤ (mf : Int) := Int.natCast_nonneg _
  obtain ⟨kk, hkk⟩ : ∃ kk : Int, kk = if m.wr then 1 else 0 := ⟨_, rfl⟩
  have hkd : ∀ W, Calls Tryz.prog 72 #[.bool m.wr] W fun e w' => e = .returned (.int .i64 kk) ∧ w' = W := fun W => by rw [hkk]; exact rkind m.wr W
  unfold kindI at hp ⊢
  have hpp := fun W' (hW : Below W.heap.size W W') => dput (h.below hW) mf hk m.wr hfew htk hp
  rw [← hkk] at hpp ⊢
  unfold DpOut at hpp
  obtain ⟨wr, hwr⟩ : ∃ wr, wr = m.wr := ⟨_, rfl⟩
  rw [← hwr] at hkd S1
  have HP := Base.Aside.mk (And.intro h (And.intro hn (And.intro hm hL)))
  have HM := Base.Aside.mk hm
  clear h hb hkk hp hfew htk hmf hwr hL hm
  unfold RuOut
  go_enter Tryz.func26, Tryz.ntmps26
  go_wp2_with (first
    | (go_at_call 48; (with_reducible refine (hdo _).mono ?_); rintro z w9 ⟨rfl, hw9⟩; obtain rfl := hw9.symm)
    | (go_at_call 70; (with_reducible refine hfi.mono ?_); rintro z w9 ⟨⟨i, rfl, hin, hLi⟩, hw9⟩; obtain rfl := hw9.symm; have e2 : (0 : Int) ≤ (i : Int) := Int.natCast_nonneg _; have e3 : (i : Int) < (n : Int) := by omega)
    | go_in)
  have HI := Base.Aside.mk hLi
  obtain ⟨c0, c2⟩ := S0 W s HP.out.1
  obtain ⟨c4, c5⟩ := S1 W s HP.out.1 i hLi
  have S9 : ∀ W' s', DW W' a (some ⟨g, 0, none⟩) cap s' f pi qq L → W'.cell? ⟨a.hb, 0, none⟩ = some (.pointer (some ⟨a.rb, 0, none⟩)) ∧ W'.cell? ⟨a.hb, 2, none⟩ = some (.slice (some ⟨g, 0, none⟩) n cap) ∧ W'.cell? ⟨g, i * 6 + 4, none⟩ = some (.int .i64 mf) ∧ W'.cell? ⟨g, i * 6 + 5, none⟩ = some (.bool wr) := fun W' s' h2 => ⟨(S0 W' s' h2).1, (S0 W' s' h2).2, S1 W' s' h2 i hLi⟩
  clear hn hLi S0 C0
  go_cut [] from 18 to 40 (fun wx => Base.Aside (DW wx a (some ⟨g, 0, none⟩) cap (putS s mf kk) f pi qq L ∧ Chg (fun x => x = a.Fb) W wx))
  case first =>
    go_region_held3 (fun W' => W'.cell? ⟨a.hb, 0, none⟩ = some (.pointer (some ⟨a.rb, 0, none⟩)) ∧ W'.cell? ⟨a.hb, 2, none⟩ = some (.slice (some ⟨g, 0, none⟩) n cap) ∧ W'.cell? ⟨g, i * 6 + 4, none⟩ = some (.int .i64 mf) ∧ W'.cell? ⟨g, i * 6 + 5, none⟩ = some (.bool wr))
      (first
        | go_keep
        | (with_reducible exact ⟨c0, c2, c4, c5⟩)
        | (with_reducible exact S9 _ _ E3.out.1)
        | (refine S9 _ _ (HP.out.1.below ?_); (repeat (with_reducible first | exact Below.refl _ _ | refine below_drew ?_ | refine below_alloc ?_ _)); done))
      ((first
        | (go_at_call 72; (with_reducible refine (hkd _).mono ?_); rintro z w6 ⟨rfl, hw6⟩; obtain rfl := hw6.symm)
        | (go_at_call 76; (with_reducible refine (hpp _ ?_).mono ?_); (focus (repeat (with_reducible first | exact Below.refl _ _ | refine below_drew ?_ | refine below_alloc ?_ _))); rintro z w3 ⟨⟨u, rfl⟩, hM3, hC3⟩; have E3 := Base.Aside.mk (And.intro hM3 hC3); clear hM3 hC3)))
    all_goals
      go_wp2_with fail
      go_meet
    case rel =>
      refine ⟨⟨E3.out.1, (Chg.below _ ?_).trans E3.out.2⟩⟩
      (repeat (with_reducible first | exact Below.refl _ _ | refine below_drew ?_ | refine below_alloc ?_ _))
  case rest =>
    have hD := hcut.out.1
    obtain ⟨c0, c2, _⟩ := S9 _ _ hD
    have L5 := blk_lt hD.blk
    have F5 := fun i => blk_frozen hD.blk i
    have HC := Base.Aside.mk (And.intro hD hcut.out.2)
    have C5 := fun i => blk_cell hD.blk i
    rw [← HP.out.2.1] at C5
    obtain ⟨g', hg', hgl5, hw5⟩ := hD.words (by have := HP.out.2.1; omega)
    injection hg' with hg'
    injection hg' with hg'
    subst hg'
    have hrow := hD.row
    have h9 : World.ownsRow wc 0 102 6 (.slice none 0 0) 0 [] := World.ownsRow_nil _ _ _ _
    clear hD hcut hpp S1 S9 hkd hfi c4 c5
    have hn2 := HP.out.2.1
    have hct := cells_take hw5
    have hl1 : ((L.take i).flatMap mcells).length = i * 6 := by rw [flat_len, List.length_take]; congr 1; omega
    have hl2 : ((L.drop (i + 1)).flatMap mcells).length = (n - (i + 1)) * 6 := by rw [flat_len, List.length_drop, ← hn2]
    have hnw : ∀ j u, ((L.take i).flatMap mcells)[j]? = some u → wc.cell? ((⟨g, 0, none⟩ : Addr).add j) = some u := fun j u hj => by rw [addB, Nat.zero_add]; exact hct _ _ (flat_take L i j u hj)
    have hnw2 : ∀ w1, Below wc.heap.size wc w1 → ∀ j u, ((L.drop (i + 1)).flatMap mcells)[j]? = some u → w1.cell? ((⟨g, (i + 1) * 6, none⟩ : Addr).add j) = some u := fun w1 hB j u hj => by
      have := cell_below hB (hct ((i + 1) * 6 + j) u (by rw [flat_drop L (i + 1) j (by omega)]; exact hj))
      rw [addB]
      exact this
    have H2 := Base.Aside.mk (And.intro hl1 (And.intro hl2 (And.intro hnw (And.intro hnw2 (And.intro hgl5 hn2)))))
    clear hw5 hct hl1 hl2 hnw hnw2 hrow hn2
    go_wp2_with (first
      | (at_builtin; refine wpList_append_own_at _ rfl _ _ 99 rfl wc.heap.size 102 i0 (.agg #[.int .i64 0, .int .i64 0, .int .i64 0, .int .i64 0, .int .i64 0, .bool false]) 6 48 Tryz.underlying99 (by assumption) hz0 hz1 hz2 rfl (by decide) _ 0 [] rfl (World.ownsRow_nil _ _ _ _) ⟨g, 0, none⟩ i _ ((L.take i).flatMap mcells) rfl H2.out.1 H2.out.2.2.1 (flat_one _) (by unfold maxLen; omega) (by omega) (Nat.le_refl _) ?_)
      | go_in)
    intro v1 w1 hr1 hg1 _ _
    obtain ⟨A1, k1, rfl⟩ := row_len hr1
    have hB1 : Below wc.heap.size wc w1 := (Below.refl _ _).grown hg1 (Nat.le_refl _) (fun j hj => by cases hj)
    have h1D := HC.out.1.below hB1
    have C6 := fun j => blk_cell h1D.blk j
    rw [← H2.out.2.2.2.2.2] at C6
    have F6 := fun i => blk_frozen h1D.blk i
    have L6 := blk_lt h1D.blk
    have E1 := Base.Aside.mk (And.intro hr1 hB1)
    clear hr1 hg1 h1D C5 F5 L5
    by_cases lst : i + 1 = n
    · subst lst
      have e4 : ((i : Int) + 1) ≤ ((i + 1 : Nat) : Int) := by omega
      have hd0 : (L.drop (i + 1)).flatMap mcells = [] := by rw [List.drop_eq_nil_of_le (by have := H2.out.2.2.2.2.2; omega)]; rfl
      have hcs : cap = i + 1 ∨ ((cap == i + 1) = false ∧ cap ≠ i + 1 ∧ ((i : Int) + 1) < (cap : Int)) := by
        by_cases e : cap = i + 1
        · exact .inl e
        · exact .inr ⟨by simp [e], e, by omega⟩
      rcases hcs with rfl | ⟨e5, e6, e7⟩
      all_goals
        go_wp2_with (first
          | (at_builtin; refine wpList_append_own_at _ rfl _ _ 99 rfl wc.heap.size 102 i0 (.agg #[.int .i64 0, .int .i64 0, .int .i64 0, .int .i64 0, .int .i64 0, .bool false]) 6 48 Tryz.underlying99 (by assumption) hz0 hz1 hz2 rfl (by decide) _ i ((L.take i).flatMap mcells) rfl E1.out.1 _ 0 _ [] rfl rfl (fun j u hj => by cases hj) (fun u hu => by cases hu) (by unfold maxLen; omega) (by omega) E1.out.2.size ?_)
          | go_in)
        intro v2 w2 hr2 hg2 _ _
        obtain ⟨A2, k2, rfl⟩ := row_len hr2
        have hB2 : Below wc.heap.size wc w2 := E1.out.2.grown hg2 E1.out.2.size (fun j hj => (E1.out.1.lt j hj).1)
        have h2D := HC.out.1.below hB2
        have C7 := fun j => blk_cell h2D.blk j
        have F7 := fun i => blk_frozen h2D.blk i
        have L7 := blk_lt h2D.blk
        have hx : L.take i ++ L.drop (i + 1) = L.take i ++ L.drop (i + 1) := rfl
        have hil : i < L.length := by have := H2.out.2.2.2.2.2; omega
        have HX := DW.repl (A2 := A2) (c2 := k2) (n := i) (L2 := L.take i ++ L.drop (i + 1)) HC.out.1 hB2 (by rw [List.length_append, List.length_take, List.length_drop]; have := H2.out.2.2.2.2.2; omega) (by rw [List.flatMap_append, hd0, List.append_nil]; exact row_zero hr2) (by rw [List.length_append, List.length_take, List.length_drop]; have := H2.out.2.2.2.2.2; omega)
        have HO := fun x (hx : A2 = some x) => (hr2.lt x.block (by rw [hx]; rfl)).1
        have HY := Base.Aside.mk (And.intro HX (And.intro HO hil))
        clear hr2 hg2 h2D HX HO C6 F6 L6 hx hil
        go_wp2
        go_ret
        refine ⟨by first | rfl | (simp; done), i, HY.out.2.2, A2, k2, ?_, HY.out.1.1, (HC.out.2.mono fun _ h => .inl h).trans (HY.out.1.2.mono fun _ h => .inr h), fun x hx => Nat.le_trans HC.out.2.size (HY.out.2.1 x hx)⟩
        have := HI.out
        rw [List.getElem?_eq_getElem HY.out.2.2] at this
        injection this with this
        rw [this]
        exact HM.out
    · have e4 : ((i : Int) + 1) < (n : Int) := by omega
      go_wp2_with (first
        | (at_builtin; refine wpList_append_own_at _ rfl _ _ 99 rfl wc.heap.size 102 i0 (.agg #[.int .i64 0, .int .i64 0, .int .i64 0, .int .i64 0, .int .i64 0, .bool false]) 6 48 Tryz.underlying99 (by assumption) hz0 hz1 hz2 rfl (by decide) _ i ((L.take i).flatMap mcells) rfl E1.out.1 ⟨g, (i + 1) * 6, none⟩ (n - (i + 1)) _ ((L.drop (i + 1)).flatMap mcells) rfl H2.out.2.1 (H2.out.2.2.2.1 _ E1.out.2) (flat_one _) (by unfold maxLen; omega) (by omega) E1.out.2.size ?_)
        | go_in)
      intro v2 w2 hr2 hg2 _ _
      obtain ⟨A2, k2, rfl⟩ := row_len hr2
      have hB2 : Below wc.heap.size wc w2 := E1.out.2.grown hg2 E1.out.2.size (fun j hj => (E1.out.1.lt j hj).1)
      have h2D := HC.out.1.below hB2
      have C7 := fun j => blk_cell h2D.blk j
      have F7 := fun i => blk_frozen h2D.blk i
      have L7 := blk_lt h2D.blk
      have hx : L.take i ++ L.drop (i + 1) = L.take i ++ L.drop (i + 1) := rfl
      have hil : i < L.length := by have := H2.out.2.2.2.2.2; omega
      have HX := DW.repl (A2 := A2) (c2 := k2) (n := i + (n - (i + 1))) (L2 := L.take i ++ L.drop (i + 1)) HC.out.1 hB2 (by rw [List.length_append, List.length_take, List.length_drop]; have := H2.out.2.2.2.2.2; omega) (by rw [List.flatMap_append]; exact row_zero hr2) (by rw [List.length_append, List.length_take, List.length_drop]; have := H2.out.2.2.2.2.2; omega)
      have HO := fun x (hx : A2 = some x) => (hr2.lt x.block (by rw [hx]; rfl)).1
      have HY := Base.Aside.mk (And.intro HX (And.intro HO hil))
      clear hr2 hg2 h2D HX HO C6 F6 L6 hx hil
      go_wp2
      go_ret
      refine ⟨by first | rfl | (simp; done), i, HY.out.2.2, A2, k2, ?_, HY.out.1.1, (HC.out.2.mono fun _ h => .inl h).trans (HY.out.1.2.mono fun _ h => .inr h), fun x hx => Nat.le_trans HC.out.2.size (HY.out.2.1 x hx)⟩
      have := HI.out
      rw [List.getElem?_eq_getElem HY.out.2.2] at this
      injection this with this
      rw [this]
      exact HM.out
end
end Go.Proofs.YthlejchcnfdcpaaGreat.GyP
namespace Go.Proofs.YthlejchcnfdcpaaGreat.GyR
open Go.RowKit Go.Maps Base GaA GaB GaC GaD GmB GmC GpA GeA GeB GfA GfB GfC GfD GjA GjC GwA GwB GwF GwO GwR RpA RmA RmB RgA GxA GxB GxC GxD GyA GyB GyC GyD GyE GyF
set_option linter.unusedVariables false
set_option linter.unusedSimpArgs false

section
variable {w0 w w' W W0 W' : World} {a : DA} {v : DVA} {A : Option Addr} {cap : Nat} {s s' : MS} {f : Int → Option (Int × Nat)} {pi : Nat → PI} {qq : Nat → Nat × Nat × Nat} {L : List Mp} {F : Int × Int → Option Mp} {r : Nat}
set_option maxHeartbeats 8000000 in
set_option maxRecDepth 100000 in
theorem rtransfer_arg (h : DW W a A cap s f pi qq L) (ub : Nat) (d gp e ref : Int) (hb : f d = none ∨ f e = none ∨ d = e ∨ slotB ref = false) :
    Calls Tryz.prog 85 #[.pointer (some ⟨a.hb, 0, none⟩), .pointer (some ⟨ub, 0, none⟩), .int .i64 d, .int .i64 gp, .int .i64 e, .int .i64 ref] W fun z w' => z = .returned (.int .i64 1) ∧ w' = W := by
  have hjo1 := rjoined h d
  have hjo2 := rjoined h e
  have hso := rslot_any ref
  have hcase : (f d).isSome = false ∨ ((f d).isSome = true ∧ (f e).isSome = false) ∨ ((f d).isSome = true ∧ (f e).isSome = true ∧ (d == e) = true) ∨ ((f d).isSome = true ∧ (f e).isSome = true ∧ (d == e) = false ∧ slotB ref = false) := by
    cases h1 : f d with
    | none => exact .inl rfl
    | some x =>
      cases h2 : f e with
      | none => exact .inr (.inl ⟨rfl, rfl⟩)
      | some y =>
        by_cases h3 : d = e
        · exact .inr (.inr (.inl ⟨rfl, rfl, by simp [h3]⟩))
        · refine .inr (.inr (.inr ⟨rfl, rfl, by simp [h3], ?_⟩))
          rcases hb with hb | hb | hb | hb
          · rw [h1] at hb; cases hb
          · rw [h2] at hb; cases hb
          · exact absurd hb h3
          · exact hb
  generalize (f d).isSome = b1 at hjo1 hcase
  generalize (f e).isSome = b2 at hjo2 hcase
  generalize slotB ref = b3 at hso hcase
  clear h hb
  rcases hcase with rfl | ⟨rfl, rfl⟩ | ⟨rfl, rfl, h3⟩ | ⟨rfl, rfl, h3, rfl⟩
  all_goals
    go_enter Tryz.func85, Tryz.ntmps85
    go_wp2_with (first
      | (go_at_call 68; (with_reducible refine hjo1.mono ?_); rintro z w1 ⟨rfl, hw1⟩; obtain rfl := hw1.symm)
      | (go_at_call 68; (with_reducible refine hjo2.mono ?_); rintro z w1 ⟨rfl, hw1⟩; obtain rfl := hw1.symm)
      | (go_at_call 69; (with_reducible refine (hso _).mono ?_); rintro z w9 ⟨rfl, hw9⟩; obtain rfl := hw9.symm)
      | go_in)
    go_ret
    exact ⟨by first | rfl | (simp; done), by first | rfl | trivial⟩
set_option maxHeartbeats 8000000 in
set_option maxRecDepth 100000 in
theorem rtransfer_a (h : DW W a A cap s f pi qq L) (ub : Nat) (d e : Nat) (gp ref : Int) (x y : Int × Nat) (hx : f d = some x) (hy : f e = some y) (hde : d ≠ e) (hsl : slotB ref = true) (hne : trA s f pi d gp e ref ≠ 0) :
    Calls Tryz.prog 85 #[.pointer (some ⟨a.hb, 0, none⟩), .pointer (some ⟨ub, 0, none⟩), .int .i64 d, .int .i64 gp, .int .i64 e, .int .i64 ref] W fun z w' => z = .returned (.int .i64 (trA s f pi d gp e ref)) ∧ w' = W := by
  have hjo1 := rjoined h d
  have hjo2 := rjoined h e
  have hso := rslot_any ref
  rw [hx] at hjo1
  rw [hy] at hjo2
  rw [hsl] at hso
  simp only [Option.isSome_some] at hjo1 hjo2
  have d1 : ((d : Int) == (e : Int)) = false := by simp; omega
  have d8 := (h.d d _ hx).1
  have e8 := (h.d e _ hy).1
  have i0 : (0 : Int) ≤ (d : Int) := d8.1
  have i1 : (d : Int) < 8 := d8.2
  have C0 := fun i => blk_cell h.blk i
  have L0 := blk_lt h.blk
  have LD := h.ldb
  have c1 := h.ptr d (by omega)
  have hfD : fD f qq d = (x.1, some (qq x.2).1) := by unfold fD; rw [hx]
  rw [hfD] at c1
  simp only [Option.map_some] at c1
  have hge := get_any (h.q d x hx) gp
  have D0 := fun i => blk_cell h.m.blk i
  have M0 := blk_lt h.m.blk
  have M1 := h.m.lt.2.1
  have hA : trA s f pi d gp e ref = if (getV (pi x.2).size (pi x.2).fr gp).2 ≠ 0 then (getV (pi x.2).size (pi x.2).fr gp).2 else if (frV s (getV (pi x.2).size (pi x.2).fr gp).1).2 ≠ 0 ∨ (frV s (getV (pi x.2).size (pi x.2).fr gp).1).1.own ≠ d then 12 else if (frV s (getV (pi x.2).size (pi x.2).fr gp).1).1.tot ≠ 0 then 9 else 0 := by
    unfold trA
    rw [hx]
    simp only
    rw [if_neg (by rw [hy, hsl]; simp; omega)]
  rw [hA] at hne ⊢
  generalize getV (pi x.2).size (pi x.2).fr gp = q at hge hne ⊢
  obtain ⟨q1, q2⟩ := q
  simp only at hge hne ⊢
  have his := is_any h.m q1
  have hown := fun m hm => h.m.own m hm
  have htot : ∀ m, m < s.n → W.cell? ⟨a.Fb, m * 4 + 3, none⟩ = some (.int .i64 (s.fr m).tot) := fun m hm => h.m.cell m 3 hm (by omega)
  clear hx hy hsl hA hfD h
  by_cases h1 : q2 = 0
  · have b1 : (q2 != 0) = false := by simp [h1]
    rw [if_neg (by simp [h1])] at hne ⊢
    by_cases hin : 0 ≤ q1 ∧ q1 < s.n
    · obtain ⟨m, rfl⟩ : ∃ m : Nat, q1 = m := ⟨q1.toNat, by omega⟩
      have hmn : m < s.n := by omega
      have hv : frV s m = (s.fr m, 0) := by unfold frV; rw [if_pos hin, Int.toNat_natCast]
      rw [hv] at hne ⊢
      simp only at hne ⊢
      have hbt : (decide (0 ≤ (m : Int)) && decide ((m : Int) < s.n)) = true := by simp; omega
      rw [hbt] at his
      have c5 := hown m hmn
      have c6 := htot m hmn
      have i4 : (m : Int) < (s.n : Int) := hin.2
      have i5 : (0 : Int) ≤ (m : Int) := hin.1
      generalize (s.fr m).own = ow at c5 hne ⊢
      generalize (s.fr m).tot = tt at c6 hne ⊢
      clear hown htot hv hbt hmn hin
      by_cases h2 : ow = d
      · have b3 : (ow != (d : Int)) = false := by simp [h2]
        rw [if_neg (by simp [h2])] at hne ⊢
        by_cases h3 : tt = 0
        · rw [if_neg (by simp [h3])] at hne
          exact absurd rfl hne
        · have b4 : (tt != 0) = true := by simp [h3]
          rw [if_pos h3]
          clear h1 h2 h3 hne
          go_enter Tryz.func85, Tryz.ntmps85
          go_wp2_with (first
      | (go_at_call 68; (with_reducible refine hjo1.mono ?_); rintro z w1 ⟨rfl, hw1⟩; obtain rfl := hw1.symm)
      | (go_at_call 68; (with_reducible refine hjo2.mono ?_); rintro z w1 ⟨rfl, hw1⟩; obtain rfl := hw1.symm)
      | (go_at_call 69; (with_reducible refine (hso _).mono ?_); rintro z w9 ⟨rfl, hw9⟩; obtain rfl := hw9.symm)
            | (go_at_call 102; (with_reducible refine hge.mono ?_); rintro z w9 ⟨rfl, hw9⟩; obtain rfl := hw9.symm)
            | (go_at_call 96; (with_reducible refine his.mono ?_); rintro z w4 ⟨rfl, hw4⟩; obtain rfl := hw4.symm)
            | go_in)
          go_ret
          exact ⟨by first | rfl | (simp; done), by first | rfl | trivial⟩
      · have b3 : (ow != (d : Int)) = true := by simp [h2]
        rw [if_pos (by simp [h2])]
        clear h1 h2 hne
        go_enter Tryz.func85, Tryz.ntmps85
        go_wp2_with (first
      | (go_at_call 68; (with_reducible refine hjo1.mono ?_); rintro z w1 ⟨rfl, hw1⟩; obtain rfl := hw1.symm)
      | (go_at_call 68; (with_reducible refine hjo2.mono ?_); rintro z w1 ⟨rfl, hw1⟩; obtain rfl := hw1.symm)
      | (go_at_call 69; (with_reducible refine (hso _).mono ?_); rintro z w9 ⟨rfl, hw9⟩; obtain rfl := hw9.symm)
          | (go_at_call 102; (with_reducible refine hge.mono ?_); rintro z w9 ⟨rfl, hw9⟩; obtain rfl := hw9.symm)
          | (go_at_call 96; (with_reducible refine his.mono ?_); rintro z w4 ⟨rfl, hw4⟩; obtain rfl := hw4.symm)
          | go_in)
        go_ret
        exact ⟨by first | rfl | (simp; done), by first | rfl | trivial⟩
    · have hv : frV s q1 = (⟨0, 0, 0, 0⟩, 1) := by unfold frV; rw [if_neg hin]
      rw [hv, if_pos (by simp)]
      have hbt : (decide (0 ≤ q1) && decide (q1 < s.n)) = false := by simp; omega
      rw [hbt] at his
      clear hown htot hv hbt hin hne h1
      go_enter Tryz.func85, Tryz.ntmps85
      go_wp2_with (first
      | (go_at_call 68; (with_reducible refine hjo1.mono ?_); rintro z w1 ⟨rfl, hw1⟩; obtain rfl := hw1.symm)
      | (go_at_call 68; (with_reducible refine hjo2.mono ?_); rintro z w1 ⟨rfl, hw1⟩; obtain rfl := hw1.symm)
      | (go_at_call 69; (with_reducible refine (hso _).mono ?_); rintro z w9 ⟨rfl, hw9⟩; obtain rfl := hw9.symm)
        | (go_at_call 102; (with_reducible refine hge.mono ?_); rintro z w9 ⟨rfl, hw9⟩; obtain rfl := hw9.symm)
        | (go_at_call 96; (with_reducible refine his.mono ?_); rintro z w4 ⟨rfl, hw4⟩; obtain rfl := hw4.symm)
        | go_in)
      go_ret
      exact ⟨by first | rfl | (simp; done), by first | rfl | trivial⟩
  · have b1 : (q2 != 0) = true := by simp [h1]
    rw [if_pos h1]
    clear h1 hne hown htot
    go_enter Tryz.func85, Tryz.ntmps85
    go_wp2_with (first
      | (go_at_call 68; (with_reducible refine hjo1.mono ?_); rintro z w1 ⟨rfl, hw1⟩; obtain rfl := hw1.symm)
      | (go_at_call 68; (with_reducible refine hjo2.mono ?_); rintro z w1 ⟨rfl, hw1⟩; obtain rfl := hw1.symm)
      | (go_at_call 69; (with_reducible refine (hso _).mono ?_); rintro z w9 ⟨rfl, hw9⟩; obtain rfl := hw9.symm)
      | (go_at_call 102; (with_reducible refine hge.mono ?_); rintro z w9 ⟨rfl, hw9⟩; obtain rfl := hw9.symm)
      | go_in)
    go_ret
    exact ⟨by first | rfl | (simp; done), by first | rfl | trivial⟩
end
end Go.Proofs.YthlejchcnfdcpaaGreat.GyR
namespace Go.Proofs.YthlejchcnfdcpaaGreat.GyS
open Go.RowKit Go.Maps Base GaA GaB GaC GaD GmB GmC GpA GeA GeB GfA GfB GfC GfD GjA GjC GwA GwB GwF GwO GwR RpA RmA RmB RgA GxA GxB GxC GxD GyA GyB GyC GyD GyE GyF GyR
set_option linter.unusedVariables false
set_option linter.unusedSimpArgs false

section
variable {w0 w w' W W0 W' : World} {a : DA} {v : DVA} {A : Option Addr} {cap : Nat} {s s' : MS} {f : Int → Option (Int × Nat)} {pi : Nat → PI} {qq : Nat → Nat × Nat × Nat} {L : List Mp} {F : Int × Int → Option Mp} {r : Nat}
set_option maxHeartbeats 8000000 in
set_option maxRecDepth 100000 in
theorem rtransfer_b (h : DV w0 a v W W A cap s f pi qq L r) (d e : Nat) (gp : Int) (ref : Nat) (h32 : ref < 32) (x : Int × Nat) (k pb : Nat) (hx : f d = some x) (hy : f e = some ((k : Int), pb)) (hde : d ≠ e) (m : Nat) (hq : getV (pi x.2).size (pi x.2).fr gp = ((m : Int), 0)) (hms : m < s.n) (ho : (s.fr m).own = d) (ht : (s.fr m).tot = 0)
    (er : Int) (her : er = if entE (ent (pokeS s v.ps r) k ref) ≠ 0 ∨ (entG (ent (pokeS s v.ps r) k ref)).kd ≠ 2 ∨ (entG (ent (pokeS s v.ps r) k ref)).dom ≠ d then 60 else setE (pi pb).size (pi pb).fr (pi pb).pl (entG (ent (pokeS s v.ps r) k ref)).gp m) (hne : er ≠ 0) :
    Calls Tryz.prog 85 #[.pointer (some ⟨a.hb, 0, none⟩), .pointer (some ⟨v.ub, 0, none⟩), .int .i64 d, .int .i64 gp, .int .i64 e, .int .i64 ref] W fun z w' => z = .returned (.int .i64 er) ∧ DV w0 a v W w' A cap (pokeS s v.ps r) f pi qq L (r + 1) := by
  have hsl : slotB (ref : Int) = true := by unfold slotB; simp; omega
  have hjo1 := rjoined h.dw d
  have hjo2 := rjoined h.dw e
  have hso := rslot_any (ref : Int)
  rw [hx] at hjo1
  rw [hy] at hjo2
  rw [hsl] at hso
  simp only [Option.isSome_some] at hjo1 hjo2
  have d1 : ((d : Int) == (e : Int)) = false := by simp; omega
  have d8 := (h.dw.d d _ hx).1
  have e8 := (h.dw.d e _ hy).1
  have i0 : (0 : Int) ≤ (d : Int) := d8.1
  have i1 : (d : Int) < 8 := d8.2
  have C0 := fun i => blk_cell h.dw.blk i
  have L0 := blk_lt h.dw.blk
  have LD := h.dw.ldb
  have c1 := h.dw.ptr d (by omega)
  have hfD : fD f qq d = (x.1, some (qq x.2).1) := by unfold fD; rw [hx]
  rw [hfD] at c1
  simp only [Option.map_some] at c1
  have hge := get_any (h.dw.q d x hx) gp
  have D0 := fun i => blk_cell h.dw.m.blk i
  have M0 := blk_lt h.dw.m.blk
  have M1 := h.dw.m.lt.2.1
  have e0 : (0 : Int) ≤ (e : Int) := e8.1
  have e1 : (e : Int) < 8 := e8.2
  have r0 : (0 : Int) ≤ ref := Int.natCast_nonneg _
  have r1 : (ref : Int) < 32 := by omega
  have hkn : k < s.n := by obtain ⟨k2, e1, e2⟩ := (h.dw.d e _ hy).2; simp only at e1; omega
  rw [hq] at hge
  simp only at hge
  have his := is_any h.dw.m m
  have hbt : (decide (0 ≤ (m : Int)) && decide ((m : Int) < s.n)) = true := by simp; omega
  rw [hbt] at his
  have c5 := h.dw.m.own m hms
  have c6 : W.cell? ⟨a.Fb, m * 4 + 3, none⟩ = some (.int .i64 (s.fr m).tot) := h.dw.m.cell m 3 hms (by omega)
  rw [ho] at c5
  rw [ht] at c6
  have i4 : (m : Int) < (s.n : Int) := by omega
  have i5 : (0 : Int) ≤ (m : Int) := Int.natCast_nonneg _
  have c7 := h.dw.mfn e (by omega)
  have hfE : fD f qq e = ((k : Int), some (qq pb).1) := by unfold fD; rw [hy]
  rw [hfE] at c7
  simp only at c7
  have dd : ((d : Int) != (d : Int)) = false := by simp
  obtain ⟨s1, hs1⟩ : ∃ s1, s1 = pokeS s v.ps r := ⟨_, rfl⟩
  have hn1 : s1.n = s.n := by rw [hs1, pokeS_n]
  have hrd := dvent h k ref hkn h32
  unfold ReOut at hrd
  rw [← hs1] at hrd her ⊢
  generalize ent s1 k ref = l at hrd her
  have hun := fun (x : Addr) (c : Nat) W' (hB : GuA.Bytes W' x 8 l) => refunpack_any x c l W' hB
  generalize entG l = g at hun her
  generalize entE l = ee at hun her
  unfold aggv at hun
  obtain ⟨g1, g2, g3, g4, g5, g6, g7⟩ := g
  simp only at hun her
  have hcase : ((ee != 0) = true ∧ er = 60) ∨ ((ee != 0) = false ∧ (g1 != 2) = true ∧ er = 60) ∨ ((ee != 0) = false ∧ (g1 != 2) = false ∧ (g4 != (d : Int)) = true ∧ er = 60) ∨ ((ee != 0) = false ∧ (g1 != 2) = false ∧ (g4 != (d : Int)) = false ∧ er = setE (pi pb).size (pi pb).fr (pi pb).pl g5 m) := by
    by_cases h1 : ee = 0
    · by_cases h2 : g1 = 2
      · by_cases h3 : g4 = d
        · exact .inr (.inr (.inr ⟨by simp [h1], by simp [h2], by simp [h3], by rw [her, if_neg (by simp [h1, h2, h3])]⟩))
        · exact .inr (.inr (.inl ⟨by simp [h1], by simp [h2], by simp [h3], by rw [her, if_pos (.inr (.inr h3))]⟩))
      · exact .inr (.inl ⟨by simp [h1], by simp [h2], by rw [her, if_pos (.inr (.inl h2))]⟩)
    · exact .inl ⟨by simp [h1], by rw [her, if_pos (.inl h1)]⟩
  have hset : ∀ W', DV w0 a v W W' A cap s1 f pi qq L (r + 1) → setE (pi pb).size (pi pb).fr (pi pb).pl g5 m ≠ 0 → Calls Tryz.prog 16 #[.pointer (some ⟨(qq pb).1, 0, none⟩), .int .i64 g5, .int .i64 m] W' fun e w' => e = .returned (.int .i64 (setE (pi pb).size (pi pb).fr (pi pb).pl g5 m)) ∧ w' = W' := fun W' hW hq => (GyA.set_any (hW.dw.q e _ hy) g5 m).mono fun e w' h => ⟨h.1, by have h2 := h.2; rw [if_neg hq] at h2; exact h2⟩
  have hP := Base.Aside.mk (And.intro hfE trivial)
  clear her h hx hy hsl hq ho ht hs1 hn1 hkn hfD hfE hbt hde
  rcases hcase with ⟨k1, rfl⟩ | ⟨k1, k2, rfl⟩ | ⟨k1, k2, k3, rfl⟩ | ⟨k1, k2, k3, hse⟩
  rotate_left 3
  · have hset2 := fun W' hW => hset W' hW (by rw [← hse]; exact hne)
    rw [← hse] at hset2
    have b1 : (er != 0) = true := by simp [hne]
    clear hset hse hne
    go_enter Tryz.func85, Tryz.ntmps85
    go_wp2_with (first
      | (go_at_call 68; (with_reducible refine hjo1.mono ?_); rintro z w1 ⟨rfl, hw1⟩; obtain rfl := hw1.symm)
      | (go_at_call 68; (with_reducible refine hjo2.mono ?_); rintro z w1 ⟨rfl, hw1⟩; obtain rfl := hw1.symm)
      | (go_at_call 69; (with_reducible refine (hso _).mono ?_); rintro z w9 ⟨rfl, hw9⟩; obtain rfl := hw9.symm)
      | (go_at_call 102; (with_reducible refine hge.mono ?_); rintro z w9 ⟨rfl, hw9⟩; obtain rfl := hw9.symm)
      | (go_at_call 96; (with_reducible refine his.mono ?_); rintro z w4 ⟨rfl, hw4⟩; obtain rfl := hw4.symm)
      | (go_at_call 81; (with_reducible refine hrd.mono ?_); rintro z w2 ⟨ad, cc, rfl, hB2, hV2⟩; have hun2 := hun ad cc w2 hB2; have E1 := Base.Aside.mk hV2; clear hV2 hB2)
      | (go_at_call 101; (with_reducible refine hun2.mono ?_); rintro z w3 ⟨rfl, hB3⟩; have E2 := Base.Aside.mk (E1.out.below hB3); clear hB3)
      | go_in)
    have hv5 := E2.out.below (below_alloc (Below.refl w3.heap.size w3) (.cells #[.int .i64 g1, .bool g2, .bool g3, .int .i64 g4, .int .i64 g5, .int .i64 g6, .int .i64 g7] 32))
    have C3 := fun i => blk_cell hv5.dw.blk i
    have L3 := blk_lt hv5.dw.blk
    have L4 := hv5.dw.ldb
    have k4 := hv5.dw.ptr e (by omega)
    rw [hP.out.1] at k4
    simp only [Option.map_some] at k4
    have st5 := fun n => hset2 _ (hv5.below (below_drewN (Below.refl _ _) n))
    have E5 := Base.Aside.mk hv5
    clear hv5
    go_quiet ((go_at_call 16; refine Calls.quiet_of_same (st5 _)))
    go_wp2
    go_ret
    exact ⟨by first | rfl | (simp; done), E5.out.below (below_drewN (Below.refl _ _) _)⟩
  all_goals
    clear hset
    go_enter Tryz.func85, Tryz.ntmps85
    go_wp2_with (first
      | (go_at_call 68; (with_reducible refine hjo1.mono ?_); rintro z w1 ⟨rfl, hw1⟩; obtain rfl := hw1.symm)
      | (go_at_call 68; (with_reducible refine hjo2.mono ?_); rintro z w1 ⟨rfl, hw1⟩; obtain rfl := hw1.symm)
      | (go_at_call 69; (with_reducible refine (hso _).mono ?_); rintro z w9 ⟨rfl, hw9⟩; obtain rfl := hw9.symm)
      | (go_at_call 102; (with_reducible refine hge.mono ?_); rintro z w9 ⟨rfl, hw9⟩; obtain rfl := hw9.symm)
      | (go_at_call 96; (with_reducible refine his.mono ?_); rintro z w4 ⟨rfl, hw4⟩; obtain rfl := hw4.symm)
      | (go_at_call 81; (with_reducible refine hrd.mono ?_); rintro z w2 ⟨ad, cc, rfl, hB2, hV2⟩; have hun2 := hun ad cc w2 hB2; have E1 := Base.Aside.mk hV2; clear hV2 hB2)
      | (go_at_call 101; (with_reducible refine hun2.mono ?_); rintro z w3 ⟨rfl, hB3⟩; have E2 := Base.Aside.mk (E1.out.below hB3); clear hB3)
      | go_in)
    go_ret
    exact ⟨by first | rfl | (simp; done), E2.out.below (below_alloc (Below.refl _ _) _)⟩
end
end Go.Proofs.YthlejchcnfdcpaaGreat.GyS
