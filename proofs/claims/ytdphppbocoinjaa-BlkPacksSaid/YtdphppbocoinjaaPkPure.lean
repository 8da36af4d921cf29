/- Proved: a block request's bytes, packed alike by both sides. -/
import Derived.Test.YtdphppbocoinjaaOBlkPacksx4
namespace Go.Proofs.Ytdphppbocoinjaa.PkPure
open Go.RowKit Go.Proofs.Ytdphppbocoinjaa.PBlkPacks Go.Proofs.YtdphppbocoinjaaW.PrintWords Go.Proofs.YtdphppbocoinjaaW.PrintLast Go.Proofs.YtdphppbocoinjaaW.PrintMore
set_option linter.unusedVariables false

def OkSeg (s : S81) : Prop := (0 ≤ s.f0 ∧ s.f0 ≤ 255) ∧ (0 ≤ s.f1 ∧ s.f1 ≤ 3) ∧ (0 ≤ s.f2 ∧ s.f2 ≤ 3)
instance (s : S81) : Decidable (OkSeg s) := by unfold OkSeg; infer_instance
def sb : List S81 → List Int
  | [] => []
  | s :: r => s.f0 :: (s.f1 + 4 * s.f2) :: sb r
def bad : List S81 → Bool
  | [] => false
  | s :: r => decide (s.f1 > s.f2) || bad r
def Good (l : List S81) : Prop := ∀ s ∈ l, OkSeg s
instance (l : List S81) : Decidable (Good l) := by unfold Good; infer_instance
theorem good_cons {s : S81} {r : List S81} (h : Good (s :: r)) : OkSeg s ∧ Good r := ⟨h s (by simp), fun x hx => h x (by simp [hx])⟩
theorem sb_len : ∀ l, (sb l).length = 2 * l.length
  | [] => rfl
  | s :: r => by simp only [sb, List.length_cons, sb_len r]; omega
theorem wrap_in {x : Int} (h0 : 0 ≤ x) (h1 : x < 9223372036854775807) : wrap64 x = x := by unfold wrap64; omega
theorem in_f (a b : Int) : blk_in.f a b = some (decide (0 ≤ a ∧ a ≤ b)) := by
  unfold blk_in.f
  by_cases h : a ≥ 0
  · rw [if_pos h]
    congr 1
    exact decide_eq_decide.2 ⟨fun h1 => ⟨h, h1⟩, fun h1 => h1.2⟩
  · rw [if_neg h]
    congr 1
    exact (decide_eq_false (fun h1 => h h1.1)).symm
theorem or_seg {a b : Int} (a0 : 0 ≤ a) (a1 : a ≤ 3) (b0 : 0 ≤ b) (b1 : b ≤ 3) : Go.bits .or .i64 a (wrap64 (b * 4)) % 256 = a + 4 * b := by
  have ha : a = 0 ∨ a = 1 ∨ a = 2 ∨ a = 3 := by omega
  have hb : b = 0 ∨ b = 1 ∨ b = 2 ∨ b = 3 := by omega
  rcases ha with rfl | rfl | rfl | rfl <;> rcases hb with rfl | rfl | rfl | rfl <;> decide +kernel
theorem rd_at (l : List S81) (j : Nat) (h : j < l.length) : rd_T81 l (j : Int) = l[j] := by
  unfold rd_T81
  rw [Int.toNat_natCast, List.getD_eq_getElem?_getD, List.getElem?_eq_getElem h, Option.getD_some]

abbrev Out := Option (List Int × List Int × Int)
def ErrA : Out := some (([] : List Int), ([] : List Int), 1)
def pkgo (T : List Int → Bool → Out) : List S81 → List Int → Bool → Out
  | [], acc, b => T acc b
  | s :: r, acc, b => if OkSeg s then pkgo T r (acc ++ [s.f0, s.f1 + 4 * s.f2]) (b || decide (s.f1 > s.f2)) else ErrA
theorem pkgo_good (T) : ∀ (l : List S81) (acc : List Int) (b : Bool), Good l → pkgo T l acc b = T (acc ++ sb l) (b || bad l)
  | [], acc, b, _ => by simp [pkgo, sb, bad]
  | s :: r, acc, b, h => by
    obtain ⟨h1, h2⟩ := good_cons h
    rw [pkgo, if_pos h1, pkgo_good T r _ _ h2]
    simp [sb, bad, Bool.or_assoc]
theorem pkgo_bad (T) : ∀ (l : List S81) (acc : List Int) (b : Bool), ¬ Good l → pkgo T l acc b = ErrA
  | [], acc, b, h => absurd (fun s hs => by simp at hs) h
  | s :: r, acc, b, h => by
    by_cases h1 : OkSeg s
    · rw [pkgo, if_pos h1]
      exact pkgo_bad T r _ _ (fun h2 => h (fun x hx => by
        rcases List.mem_cons.1 hx with rfl | hx
        · exact h1
        · exact h2 x hx))
    · rw [pkgo, if_neg h1]
theorem blk_l0 (T : List Int → Bool → Out) (l : List S81) (hz : l.length < 6000000000000) : ∀ (n k j : Nat) (acc : List Int) (b : Bool), l.length = j + n → n < k → acc.length = 2 * j → blk_Pack.l0 k T acc b l (l.length : Int) (j : Int) = pkgo T (l.drop j) acc b
  | 0, k, j, acc, b, hl, hk, ha => by
    obtain ⟨k, rfl⟩ : ∃ i, k = i + 1 := ⟨k - 1, by omega⟩
    rw [List.drop_eq_nil_of_le (by omega)]
    unfold blk_Pack.l0
    rw [if_neg (by omega)]
    rfl
  | n + 1, k, j, acc, b, hl, hk, ha => by
    obtain ⟨k, rfl⟩ : ∃ i, k = i + 1 := ⟨k - 1, by omega⟩
    have hj : j < l.length := by omega
    have ih := fun acc' b' h => blk_l0 T l hz n k (j + 1) acc' b' (by omega) (by omega) h
    have w1 : wrap64 ((j : Int) + 1) = ((j + 1 : Nat) : Int) := (wrap_in (by omega) (by omega)).trans (by omega)
    rw [List.drop_eq_getElem_cons hj]
    unfold blk_Pack.l0
    rw [if_pos (by omega), if_pos (by omega), if_pos (by omega), rd_at l j hj, w1]
    generalize l[j] = s
    simp only [in_f, Option.bind_some, pkgo]
    by_cases h0 : 0 ≤ s.f0 ∧ s.f0 ≤ 255
    · rw [decide_eq_true h0, if_pos rfl]
      by_cases h1 : 0 ≤ s.f1 ∧ s.f1 ≤ 3
      · rw [decide_eq_true h1, if_pos rfl]
        by_cases h2 : 0 ≤ s.f2 ∧ s.f2 ≤ 3
        · rw [decide_eq_true h2, if_pos rfl, if_pos (show OkSeg s from ⟨h0, h1, h2⟩), or_seg h1.1 h1.2 h2.1 h2.2, show s.f0 % 256 = s.f0 by omega]
          have hlen : acc.length + [s.f0, s.f1 + 4 * s.f2].length < 140737488355328 := by simp only [List.length_cons, List.length_nil]; omega
          cases b
          · rw [if_neg (by decide), if_pos hlen, Bool.false_or]
            exact ih _ _ (by simp only [List.length_append, List.length_cons, List.length_nil]; omega)
          · rw [if_pos rfl, if_pos hlen, Bool.true_or]
            exact ih _ _ (by simp only [List.length_append, List.length_cons, List.length_nil]; omega)
        · rw [decide_eq_false h2, if_neg (by decide), if_neg (fun h : OkSeg s => h2 h.2.2)]
          rfl
      · rw [decide_eq_false h1, if_neg (by decide), if_neg (fun h : OkSeg s => h1 h.2.1)]
        rfl
    · rw [decide_eq_false h0, if_neg (by decide), if_neg (fun h : OkSeg s => h0 h.1)]
      rfl
theorem seg_l0 (l : List S81) (hz : l.length < 6000000000000) (hg : Good l) : ∀ (n k j : Nat) (acc : List Int), l.length = j + n → n < k → acc.length = 2 * j → tenementref13_segments.l0 k l acc (j : Int) = some (acc ++ sb (l.drop j))
  | 0, k, j, acc, hl, hk, ha => by
    obtain ⟨k, rfl⟩ : ∃ i, k = i + 1 := ⟨k - 1, by omega⟩
    rw [List.drop_eq_nil_of_le (by omega)]
    unfold tenementref13_segments.l0
    rw [if_neg (by omega)]
    simp [sb]
  | n + 1, k, j, acc, hl, hk, ha => by
    obtain ⟨k, rfl⟩ : ∃ i, k = i + 1 := ⟨k - 1, by omega⟩
    have hj : j < l.length := by omega
    have w1 : wrap64 ((j : Int) + 1) = ((j + 1 : Nat) : Int) := (wrap_in (by omega) (by omega)).trans (by omega)
    have hs := hg _ (List.getElem_mem hj)
    have ih := fun acc' h => seg_l0 l hz hg n k (j + 1) acc' (by omega) (by omega) h
    rw [List.drop_eq_getElem_cons hj]
    unfold tenementref13_segments.l0
    rw [if_pos (by omega), if_pos (by omega), rd_at l j hj, w1]
    generalize l[j] = s at hs
    obtain ⟨h0, h1, h2⟩ := hs
    rw [wrap_in (x := 4 * s.f2) (by omega) (by omega), wrap_in (x := s.f1 + 4 * s.f2) (by omega) (by omega), show s.f0 % 256 = s.f0 by omega, show (s.f1 + 4 * s.f2) % 256 = s.f1 + 4 * s.f2 by omega, Option.bind_some]
    rw [if_pos (by simp only [List.length_cons, List.length_nil]; omega), ih _ (by simp only [List.length_append, List.length_cons, List.length_nil]; omega)]
    simp [sb]
theorem seg_f (l : List S81) (hz : l.length < 6000000000000) (hg : Good l) (k : Nat) (hk : l.length < k) : tenementref13_segments.f k l = some (sb l) := by
  have := seg_l0 l hz hg l.length k 0 [] (by omega) hk rfl
  unfold tenementref13_segments.f
  rw [show ((0 : Nat) : Int) = 0 from rfl] at this
  rw [this]
  simp

/-- What the document does behind its loop. -/
def tailR (k : Nat) (p : Int) (o : Bool) (op id sec : Int) (l : List S81) : Out :=
  if o = true then (if p < 0 then ((tenementref13_many.f op (l.length : Int) 4).bind fun t150 => (if t150 = true then (if p ≥ 0 then (if op = 2 then (tenementref13_Pack.j2 k p (l.length : Int) true op id sec l) else ((tenementref13_many.f op (l.length : Int) 16).bind fun t151 => (tenementref13_Pack.j2 k p (l.length : Int) (!t151) op id sec l))) else (tenementref13_Pack.j2 k p (l.length : Int) false op id sec l)) else (tenementref13_Pack.j2 k p (l.length : Int) true op id sec l))) else (if p ≥ 0 then (if op = 2 then (tenementref13_Pack.j2 k p (l.length : Int) true op id sec l) else ((tenementref13_many.f op (l.length : Int) 16).bind fun t152 => (tenementref13_Pack.j2 k p (l.length : Int) (!t152) op id sec l))) else (tenementref13_Pack.j2 k p (l.length : Int) false op id sec l))) else (tenementref13_Pack.j2 k p (l.length : Int) true op id sec l)
theorem ref_step (k : Nat) (p : Int) (o : Bool) (j : Int) (op id sec : Int) (l : List S81) : tenementref13_Pack.l0 (k + 1) p o j op id sec l = if j < (l.length : Int) then (if 0 ≤ j then (if ((rd_T81 l j).f0) < 0 then ErrA else (if ((rd_T81 l j).f0) > 255 then ErrA else (if ((rd_T81 l j).f1) < 0 then ErrA else (if ((rd_T81 l j).f1) > 3 then ErrA else (if ((rd_T81 l j).f2) < 0 then ErrA else (if ((rd_T81 l j).f2) > 3 then ErrA else (if o = true then (tenementref13_Pack.l0 k p (decide (((rd_T81 l j).f1) ≤ ((rd_T81 l j).f2))) (wrap64 (j + 1)) op id sec l) else (tenementref13_Pack.l0 k p false (wrap64 (j + 1)) op id sec l)))))))) else (none)) else tailR k p o op id sec l := rfl
def rfgo (U : Bool → Out) : List S81 → Bool → Out
  | [], o => U o
  | s :: r, o => if OkSeg s then rfgo U r (o && decide (s.f1 ≤ s.f2)) else ErrA
theorem rfgo_good (U) : ∀ (l : List S81) (o : Bool), Good l → rfgo U l o = U (o && !bad l)
  | [], o, _ => by simp [rfgo, bad]
  | s :: r, o, h => by
    obtain ⟨h1, h2⟩ := good_cons h
    rw [rfgo, if_pos h1, rfgo_good U r _ h2]
    have : decide (s.f1 ≤ s.f2) = !decide (s.f1 > s.f2) := by
      by_cases h : s.f1 ≤ s.f2
      · rw [decide_eq_true h, decide_eq_false (by omega)]; rfl
      · rw [decide_eq_false h, decide_eq_true (by omega)]; rfl
    rw [this, bad, Bool.not_or, Bool.and_assoc]
theorem rfgo_bad (U) : ∀ (l : List S81) (o : Bool), ¬ Good l → rfgo U l o = ErrA
  | [], o, h => absurd (fun s hs => by simp at hs) h
  | s :: r, o, h => by
    by_cases h1 : OkSeg s
    · rw [rfgo, if_pos h1]
      exact rfgo_bad U r _ (fun h2 => h (fun x hx => by
        rcases List.mem_cons.1 hx with rfl | hx
        · exact h1
        · exact h2 x hx))
    · rw [rfgo, if_neg h1]
theorem ref_l0 (kk : Nat) (p op id sec : Int) (l : List S81) (hz : l.length < 6000000000000) : ∀ (n j : Nat) (o : Bool), l.length = j + n → tenementref13_Pack.l0 (n + 1 + kk) p o (j : Int) op id sec l = rfgo (fun o => tailR kk p o op id sec l) (l.drop j) o
  | 0, j, o, hl => by
    rw [List.drop_eq_nil_of_le (by omega), show 0 + 1 + kk = kk + 1 by omega, ref_step, if_neg (by omega)]
    rfl
  | n + 1, j, o, hl => by
    have hj : j < l.length := by omega
    have ih := fun o' => ref_l0 kk p op id sec l hz n (j + 1) o' (by omega)
    have w1 : wrap64 ((j : Int) + 1) = ((j + 1 : Nat) : Int) := (wrap_in (by omega) (by omega)).trans (by omega)
    rw [List.drop_eq_getElem_cons hj, show n + 1 + 1 + kk = (n + 1 + kk) + 1 by omega, ref_step, if_pos (by omega), if_pos (by omega), rd_at l j hj, w1]
    generalize l[j] = s
    simp only [rfgo]
    by_cases c0 : s.f0 < 0
    · rw [if_pos c0, if_neg (fun h : OkSeg s => by have := h.1; omega)]
    · rw [if_neg c0]
      by_cases c1 : s.f0 > 255
      · rw [if_pos c1, if_neg (fun h : OkSeg s => by have := h.1; omega)]
      · rw [if_neg c1]
        by_cases c2 : s.f1 < 0
        · rw [if_pos c2, if_neg (fun h : OkSeg s => by have := h.2.1; omega)]
        · rw [if_neg c2]
          by_cases c3 : s.f1 > 3
          · rw [if_pos c3, if_neg (fun h : OkSeg s => by have := h.2.1; omega)]
          · rw [if_neg c3]
            by_cases c4 : s.f2 < 0
            · rw [if_pos c4, if_neg (fun h : OkSeg s => by have := h.2.2; omega)]
            · rw [if_neg c4]
              by_cases c5 : s.f2 > 3
              · rw [if_pos c5, if_neg (fun h : OkSeg s => by have := h.2.2; omega)]
              · rw [if_neg c5, if_pos (show OkSeg s from ⟨⟨by omega, by omega⟩, ⟨by omega, by omega⟩, by omega, by omega⟩)]
                cases o
                · rw [if_neg (by decide), Bool.false_and]
                  exact ih _
                · rw [if_pos rfl, Bool.true_and]
                  exact ih _

/-! ### both ends -/
theorem l1_step (k : Nat) (p : Int) (x12 : List Int) (x13 : Int) (i : Int) (op id sec : Int) (l : List S81) (hi : i < 4) (hi0 : 0 ≤ i) (hl : x12.length < 140737488355328) (h0 : 0 ≤ x13) (h1 : x13 < 9223372036854775807) :
    tenementref13_Pack.l1 (k + 1) p x12 x13 i op id sec l = tenementref13_Pack.l1 k p (x12 ++ [x13 % 256]) (x13 / 256) (i + 1) op id sec l := by
  have e : tenementref13_Pack.l1 (k + 1) p x12 x13 i op id sec l = if i < 4 then (if x12.length < 140737488355328 then (tenementref13_Pack.l1 k p (x12 ++ [(Int.tmod x13 256) % 256]) (wrap64 (Int.tdiv x13 256)) (wrap64 (i + 1)) op id sec l) else (none)) else (if p ≥ 0 then ((some (([(p) % 256, (op) % 256] : List Int) : List Int)).bind fun y159 => (if x12.length + y159.length < 140737488355328 then ((some (x12 ++ y159 : List Int)).bind fun y162 => (if y162.length + 6 < 140737488355328 then ((tenementref13_segments.f k l).bind fun t168 => (some ((y162 ++ List.replicate 6 0), t168, 0))) else (none))) else (none))) else ((tenementref13_segments.f k l).bind fun t171 => (if x12.length + t171.length < 140737488355328 then (tenementref13_Pack.l2 k (x12 ++ t171)) else (none)))) := rfl
  rw [e, if_pos hi, if_pos hl, Int.tmod_eq_emod_of_nonneg h0, Int.tdiv_eq_ediv_of_nonneg h0, wrap_in (x := x13 / 256) (by omega) (by omega), wrap_in (x := i + 1) (by omega) (by omega), show x13 % 256 % 256 = x13 % 256 by omega]
theorem l1_end (k : Nat) (p : Int) (x12 : List Int) (x13 : Int) (op id sec : Int) (l : List S81) :
    tenementref13_Pack.l1 (k + 1) p x12 x13 4 op id sec l = (if p ≥ 0 then ((some (([(p) % 256, (op) % 256] : List Int) : List Int)).bind fun y159 => (if x12.length + y159.length < 140737488355328 then ((some (x12 ++ y159 : List Int)).bind fun y162 => (if y162.length + 6 < 140737488355328 then ((tenementref13_segments.f k l).bind fun t168 => (some ((y162 ++ List.replicate 6 0), t168, 0))) else (none))) else (none))) else ((tenementref13_segments.f k l).bind fun t171 => (if x12.length + t171.length < 140737488355328 then (tenementref13_Pack.l2 k (x12 ++ t171)) else (none)))) := by
  have e : tenementref13_Pack.l1 (k + 1) p x12 x13 4 op id sec l = if (4 : Int) < 4 then (if x12.length < 140737488355328 then (tenementref13_Pack.l1 k p (x12 ++ [(Int.tmod x13 256) % 256]) (wrap64 (Int.tdiv x13 256)) (wrap64 (4 + 1)) op id sec l) else (none)) else (if p ≥ 0 then ((some (([(p) % 256, (op) % 256] : List Int) : List Int)).bind fun y159 => (if x12.length + y159.length < 140737488355328 then ((some (x12 ++ y159 : List Int)).bind fun y162 => (if y162.length + 6 < 140737488355328 then ((tenementref13_segments.f k l).bind fun t168 => (some ((y162 ++ List.replicate 6 0), t168, 0))) else (none))) else (none))) else ((tenementref13_segments.f k l).bind fun t171 => (if x12.length + t171.length < 140737488355328 then (tenementref13_Pack.l2 k (x12 ++ t171)) else (none)))) := rfl
  rw [e, if_neg (by decide)]
def Args (op id sec p : Int) : Prop := 0 ≤ op ∧ op ≤ 2 ∧ 0 ≤ id ∧ id ≤ 65535 ∧ 0 ≤ sec ∧ sec ≤ 4294967295 ∧ -1 ≤ p ∧ p ≤ 255
instance (op id sec p : Int) : Decidable (Args op id sec p) := by unfold Args; infer_instance
theorem j3_go (k : Nat) (p n x op id sec : Int) (l : List S81) (h : Args op id sec p) :
    tenementref13_Pack.j3 (k + 1 + 1 + 1 + 1 + 1) p n x op id sec l = tenementref13_Pack.l1 k p (hd8 x n id sec) (sec / 256 / 256 / 256 / 256) 4 op id sec l := by
  obtain ⟨a0, a1, b0, b1, c0, c1, d0, d1⟩ := h
  show tenementref13_Pack.l1 (k + 1 + 1 + 1 + 1) p [x % 256, n % 256, (Int.tmod id 256) % 256, (wrap64 (Int.tdiv id 256)) % 256] sec 0 op id sec l = _
  rw [Int.tmod_eq_emod_of_nonneg b0, Int.tdiv_eq_ediv_of_nonneg b0, wrap_in (x := id / 256) (by omega) (by omega), show id % 256 % 256 = id % 256 by omega]
  rw [l1_step (k + 1 + 1 + 1) p _ sec 0 op id sec l (by omega) (by omega) (by simp) c0 (by omega)]
  rw [l1_step (k + 1 + 1) p _ (sec / 256) (0 + 1) op id sec l (by omega) (by omega) (by simp) (by omega) (by omega)]
  rw [l1_step (k + 1) p _ (sec / 256 / 256) (0 + 1 + 1) op id sec l (by omega) (by omega) (by simp) (by omega) (by omega)]
  rw [l1_step k p _ (sec / 256 / 256 / 256) (0 + 1 + 1 + 1) op id sec l (by omega) (by omega) (by simp) (by omega) (by omega)]
  have e1 : sec / 256 / 256 % 256 = sec / 65536 % 256 := by omega
  have e2 : sec / 256 / 256 / 256 % 256 = sec / 16777216 % 256 := by omega
  rw [e1, e2]
  rfl
theorem l2_step (k : Nat) (x : List Int) (h : x.length < 16) : tenementref13_Pack.l2 (k + 1) x = tenementref13_Pack.l2 k (x ++ [0]) := by
  have e : tenementref13_Pack.l2 (k + 1) x = if (x.length : Int) < 16 then (if x.length < 140737488355328 then (tenementref13_Pack.l2 k (x ++ [0])) else (none)) else (some (x, ([] : List Int), 0)) := rfl
  rw [e, if_pos (by omega), if_pos (by omega)]
theorem l2_end (k : Nat) (x : List Int) (h : x.length = 16) : tenementref13_Pack.l2 (k + 1) x = some (x, ([] : List Int), 0) := by
  have e : tenementref13_Pack.l2 (k + 1) x = if (x.length : Int) < 16 then (if x.length < 140737488355328 then (tenementref13_Pack.l2 k (x ++ [0])) else (none)) else (some (x, ([] : List Int), 0)) := rfl
  rw [e, if_neg (by omega)]
theorem l2_go : ∀ (m k : Nat) (x : List Int), x.length + m = 16 → m < k → tenementref13_Pack.l2 k x = some (x ++ List.replicate m 0, ([] : List Int), 0)
  | 0, k, x, h, hk => by
    obtain ⟨k, rfl⟩ : ∃ i, k = i + 1 := ⟨k - 1, by omega⟩
    rw [l2_end k x (by omega)]
    simp
  | m + 1, k, x, h, hk => by
    obtain ⟨k, rfl⟩ : ∃ i, k = i + 1 := ⟨k - 1, by omega⟩
    rw [l2_step k x (by omega), l2_go m k (x ++ [0]) (by simp only [List.length_append, List.length_cons, List.length_nil]; omega) (by omega)]
    simp [List.replicate_succ]
theorem splice_end (h z : List Int) (x : List Int) (hh : h.length = 8) (hx : x.length ≤ 8) : splice (h ++ List.replicate 8 0) 8 (x.take 8) = h ++ x ++ List.replicate (8 - x.length) 0 := by
  unfold splice
  rw [List.take_of_length_le hx, List.take_append_of_le_length (by omega), List.take_of_length_le (by omega), List.drop_append, List.drop_eq_nil_of_le (by omega)]
  simp only [hh]
  rw [show 8 + x.length - 8 = x.length by omega, List.drop_replicate, List.nil_append, List.append_assoc]
def fin (op id sec : Int) (l : List S81) (p : Int) : Out :=
  if 0 ≤ p then
    (if bad l = true then some ([], [], 4) else (if op = 2 then some ([], [], 4) else
      (if 1 ≤ l.length ∧ l.length ≤ 16 then some ((3 : Int) :: ((hd8 op l.length id sec).drop 1 ++ [p % 256, op % 256, 0, 0, 0, 0, 0, 0]), sb l, 0) else some ([], [], 4))))
  else
    (if bad l = true then some ([], [], 4) else
      (if (op = 2 ∧ l.length = 0) ∨ (op ≠ 2 ∧ 1 ≤ l.length ∧ l.length ≤ 4) then some (hd8 op l.length id sec ++ sb l ++ List.replicate (8 - (sb l).length) 0, [], 0) else some ([], [], 4)))
theorem fin_bad (op id sec : Int) (l : List S81) (p : Int) (h : bad l = true) : fin op id sec l p = some ([], [], 4) := by
  unfold fin
  rw [if_pos h, if_pos h]
  split <;> rfl
theorem fin_page (op id sec : Int) (l : List S81) (p : Int) (h : bad l = false) (hp : 0 ≤ p) : fin op id sec l p = (if op = 2 then some ([], [], 4) else
      (if 1 ≤ l.length ∧ l.length ≤ 16 then some ((3 : Int) :: ((hd8 op l.length id sec).drop 1 ++ [p % 256, op % 256, 0, 0, 0, 0, 0, 0]), sb l, 0) else some ([], [], 4))) := by
  unfold fin
  rw [if_pos hp, h, if_neg (by decide)]
theorem fin_in (op id sec : Int) (l : List S81) (p : Int) (h : bad l = false) (hp : ¬ 0 ≤ p) : fin op id sec l p = (if (op = 2 ∧ l.length = 0) ∨ (op ≠ 2 ∧ 1 ≤ l.length ∧ l.length ≤ 4) then some (hd8 op l.length id sec ++ sb l ++ List.replicate (8 - (sb l).length) 0, [], 0) else some ([], [], 4)) := by
  unfold fin
  rw [if_neg hp, h, if_neg (by decide)]
theorem count2 (n m : Int) : blk_count.f 2 n m = some (n == 0) := by unfold blk_count.f; rw [if_pos rfl]
theorem countN {op : Int} (h : op ≠ 2) (n m : Int) : blk_count.f op n m = some (decide (1 ≤ n ∧ n ≤ m)) := by
  unfold blk_count.f
  rw [if_neg h]
  by_cases hn : n > 0
  · rw [if_pos hn]
    congr 1
    exact decide_eq_decide.2 ⟨fun h => ⟨by omega, h⟩, fun h => h.2⟩
  · rw [if_neg hn]
    congr 1
    exact (decide_eq_false (fun h => hn (by omega))).symm
theorem many2 (n m : Int) : tenementref13_many.f 2 n m = some (n == 0) := by unfold tenementref13_many.f; rw [if_pos rfl]
theorem manyN {op : Int} (h : op ≠ 2) (n m : Int) : tenementref13_many.f op n m = some (decide (1 ≤ n ∧ n ≤ m)) := by
  unfold tenementref13_many.f
  rw [if_neg h]
  by_cases hn : n ≥ 1
  · rw [if_pos hn]
    congr 1
    exact decide_eq_decide.2 ⟨fun h => ⟨by omega, h⟩, fun h => h.2⟩
  · rw [if_neg hn]
    congr 1
    exact (decide_eq_false (fun h => hn (by omega))).symm
theorem rest_fin (op id sec : Int) (l : List S81) (p : Int) : blk_Pack.rest op id sec l p (sb l) (bad l) = fin op id sec l p := by
  have hs := sb_len l
  cases hb : bad l
  · unfold blk_Pack.rest
    rw [if_neg (c := false = true) (by decide), if_neg (c := false = true) (by decide)]
    by_cases hp : 0 ≤ p
    · rw [if_pos hp, fin_page op id sec l p hb hp]
      by_cases ho : op = 2
      · rw [if_pos ho, if_pos ho]
      · rw [if_neg ho, if_neg ho, countN ho, Option.bind_some]
        by_cases hn : 1 ≤ l.length ∧ l.length ≤ 16
        · rw [if_pos hn, if_pos (decide_eq_true (by omega))]
        · rw [if_neg hn, if_neg (by rw [decide_eq_false (by omega)]; decide)]
    · rw [if_neg hp, fin_in op id sec l p hb hp]
      by_cases ho : op = 2
      · subst ho
        rw [count2, Option.bind_some]
        by_cases hn : l.length = 0
        · rw [if_pos (by rw [hn]; rfl), if_pos (Or.inl ⟨rfl, hn⟩)]
          congr 2
          exact splice_end (hd8 2 l.length id sec) [] (sb l) rfl (by omega)
        · rw [if_neg (c := ((l.length : Int) == 0) = true) (fun h => hn (by have := eq_of_beq h; omega)), if_neg (fun h => by rcases h with ⟨_, h⟩ | ⟨h, _⟩; exact hn h; exact h rfl)]
      · rw [countN ho, Option.bind_some]
        by_cases hn : 1 ≤ l.length ∧ l.length ≤ 4
        · rw [if_pos (decide_eq_true (by omega)), if_pos (Or.inr ⟨ho, hn⟩)]
          congr 2
          exact splice_end (hd8 op l.length id sec) [] (sb l) rfl (by omega)
        · rw [if_neg (by rw [decide_eq_false (by omega)]; decide), if_neg (fun h => by rcases h with ⟨h, _⟩ | ⟨_, h⟩; exact ho h; exact hn h)]
  · rw [fin_bad op id sec l p hb]
    unfold blk_Pack.rest
    rw [if_pos rfl, if_pos rfl]
    split <;> rfl
theorem j2_true (k : Nat) (p n op id sec : Int) (l : List S81) : tenementref13_Pack.j2 (k + 1) p n true op id sec l = some ([], [], 4) := rfl
theorem j2_page (k : Nat) (p n op id sec : Int) (l : List S81) (hp : 0 ≤ p) : tenementref13_Pack.j2 (k + 1) p n false op id sec l = tenementref13_Pack.j3 k p n 3 op id sec l := by
  have e : tenementref13_Pack.j2 (k + 1) p n false op id sec l = if false = true then (some (([] : List Int), ([] : List Int), 4)) else (if p ≥ 0 then (tenementref13_Pack.j3 k p n 3 op id sec l) else (tenementref13_Pack.j3 k p n op op id sec l)) := rfl
  rw [e, if_neg (by decide), if_pos hp]
theorem j2_in (k : Nat) (p n op id sec : Int) (l : List S81) (hp : ¬ 0 ≤ p) : tenementref13_Pack.j2 (k + 1) p n false op id sec l = tenementref13_Pack.j3 k p n op op id sec l := by
  have e : tenementref13_Pack.j2 (k + 1) p n false op id sec l = if false = true then (some (([] : List Int), ([] : List Int), 4)) else (if p ≥ 0 then (tenementref13_Pack.j3 k p n 3 op id sec l) else (tenementref13_Pack.j3 k p n op op id sec l)) := rfl
  rw [e, if_neg (by decide), if_neg hp]
theorem hd8_len (a n i s : Int) : (hd8 a n i s).length = 8 := rfl
theorem page_fin (p op id sec : Int) (l : List S81) (h : Args op id sec p) (hp : 0 ≤ p) (hg : Good l) (hn : 1 ≤ l.length ∧ l.length ≤ 16) : tenementref13_Pack.j2 28 p l.length false op id sec l = some ((3 : Int) :: ((hd8 op l.length id sec).drop 1 ++ [p % 256, op % 256, 0, 0, 0, 0, 0, 0]), sb l, 0) := by
  rw [j2_page 27 _ _ _ _ _ _ hp, j3_go 22 _ _ _ _ _ _ _ h, l1_end 21, if_pos hp, Option.bind_some, if_pos (by rw [hd8_len]; simp), Option.bind_some, if_pos (by rw [List.length_append, hd8_len]; simp), seg_f l (by omega) hg 21 (by omega), Option.bind_some]
  rfl
theorem in_fin (p op id sec : Int) (l : List S81) (h : Args op id sec p) (hp : ¬ 0 ≤ p) (hg : Good l) (hn : l.length ≤ 4) : tenementref13_Pack.j2 28 p l.length false op id sec l = some (hd8 op l.length id sec ++ sb l ++ List.replicate (8 - (sb l).length) 0, [], 0) := by
  have hs := sb_len l
  rw [j2_in 27 _ _ _ _ _ _ hp, j3_go 22 _ _ _ _ _ _ _ h, l1_end 21, if_neg hp, seg_f l (by omega) hg 21 (by omega), Option.bind_some, if_pos (by rw [hd8_len]; omega)]
  exact l2_go (8 - (sb l).length) 21 (hd8 op l.length id sec ++ sb l) (by rw [List.length_append, hd8_len]; omega) (by omega)
theorem tail_fin (p op id sec : Int) (l : List S81) (h : Args op id sec p) (hg : Good l) : tailR 28 p (!bad l) op id sec l = fin op id sec l p := by
  cases hb : bad l
  · unfold tailR
    rw [if_pos (c := (!false) = true) rfl]
    by_cases hp : 0 ≤ p
    · rw [fin_page op id sec l p hb hp, if_neg (c := p < 0) (by omega), if_pos (c := p ≥ 0) hp]
      by_cases ho : op = 2
      · rw [if_pos ho, if_pos ho]; rfl
      · rw [if_neg ho, if_neg ho, manyN ho, Option.bind_some]
        by_cases hn : 1 ≤ l.length ∧ l.length ≤ 16
        · rw [if_pos hn, decide_eq_true (by omega)]
          exact page_fin p op id sec l h hp hg hn
        · rw [if_neg hn, decide_eq_false (by omega)]
          rfl
    · rw [fin_in op id sec l p hb hp, if_pos (c := p < 0) (by omega)]
      by_cases ho : op = 2
      · subst ho
        rw [many2, Option.bind_some]
        by_cases hn : l.length = 0
        · rw [if_pos (by rw [hn]; rfl), if_pos (Or.inl ⟨rfl, hn⟩), if_neg (c := p ≥ 0) hp]
          exact in_fin p 2 id sec l h hp hg (by omega)
        · rw [if_neg (c := ((l.length : Int) == 0) = true) (fun h => hn (by have := eq_of_beq h; omega)), if_neg (fun h => by rcases h with ⟨_, h⟩ | ⟨h, _⟩; exact hn h; exact h rfl)]
          rfl
      · rw [manyN ho, Option.bind_some]
        by_cases hn : 1 ≤ l.length ∧ l.length ≤ 4
        · rw [if_pos (decide_eq_true (by omega)), if_pos (Or.inr ⟨ho, hn⟩), if_neg (c := p ≥ 0) hp]
          exact in_fin p op id sec l h hp hg (by omega)
        · rw [if_neg (by rw [decide_eq_false (by omega)]; decide), if_neg (fun h => by rcases h with ⟨h, _⟩ | ⟨_, h⟩; exact ho h; exact hn h)]
          rfl
  · rw [fin_bad op id sec l p hb]
    rfl

/-- What both answer. -/
def pkV (op id sec : Int) (l : List S81) (p : Int) : Out := if Args op id sec p ∧ Good l then fin op id sec l p else ErrA
theorem blk_V (op id sec : Int) (l : List S81) (p : Int) (hz : l.length < 6000000000000) (w0 : -9223372036854775808 ≤ p) (w1 : p < 9223372036854775808) (k : Nat) (hk : l.length + 1 < k) : blk_Pack.g k op id sec l p = pkV op id sec l p := by
  obtain ⟨k, rfl⟩ : ∃ i, k = i + 1 := ⟨k - 1, by omega⟩
  have hj0 : ∀ b, blk_Pack.j0 (k + 1) (blk_Pack.rest op id sec l p) b op id sec l = if b = true then ErrA else pkgo (blk_Pack.rest op id sec l p) l [] false := by
    intro b
    have e : blk_Pack.j0 (k + 1) (blk_Pack.rest op id sec l p) b op id sec l = if b = true then ErrA else blk_Pack.l0 k (blk_Pack.rest op id sec l p) [] false l (l.length : Int) 0 := rfl
    have := blk_l0 (blk_Pack.rest op id sec l p) l hz l.length k 0 [] false (by omega) (by omega) rfl
    rw [show ((0 : Nat) : Int) = 0 from rfl, List.drop_zero] at this
    rw [e, this]
  unfold blk_Pack.g blk_Pack.f pkV
  simp only [in_f, Option.bind_some, hj0]
  by_cases c0 : 0 ≤ op ∧ op ≤ 2
  · rw [decide_eq_true c0, if_pos rfl]
    by_cases c1 : 0 ≤ id ∧ id ≤ 65535
    · rw [decide_eq_true c1, if_pos rfl]
      by_cases c2 : 0 ≤ sec ∧ sec ≤ 4294967295
      · rw [decide_eq_true c2, if_pos rfl]
        by_cases c3 : -1 ≤ p ∧ p ≤ 255
        · rw [wrap_in (x := p + 1) (by omega) (by omega), decide_eq_true (by omega), if_neg (by decide)]
          by_cases hg : Good l
          · rw [pkgo_good _ l _ _ hg, if_pos ⟨⟨c0.1, c0.2, c1.1, c1.2, c2.1, c2.2, c3.1, c3.2⟩, hg⟩, List.nil_append, Bool.false_or]
            exact rest_fin op id sec l p
          · rw [pkgo_bad _ l _ _ hg, if_neg (fun h => hg h.2)]
        · have : ¬ (0 ≤ wrap64 (p + 1) ∧ wrap64 (p + 1) ≤ 256) := by unfold wrap64; omega
          rw [decide_eq_false this, if_pos (c := (!false) = true) rfl, if_neg (fun h => c3 ⟨h.1.2.2.2.2.2.2.1, h.1.2.2.2.2.2.2.2⟩)]
      · rw [decide_eq_false c2, if_neg (by decide), if_pos trivial, if_neg (fun h => c2 ⟨h.1.2.2.2.2.1, h.1.2.2.2.2.2.1⟩)]
    · rw [decide_eq_false c1, if_neg (by decide), if_pos trivial, if_neg (fun h => c1 ⟨h.1.2.2.1, h.1.2.2.2.1⟩)]
  · rw [decide_eq_false c0, if_neg (by decide), if_pos trivial, if_neg (fun h => c0 ⟨h.1.1, h.1.2.1⟩)]
theorem ref_V (op id sec : Int) (l : List S81) (p : Int) (hz : l.length < 6000000000000) : tenementref13_Pack.f (l.length + 1 + 28 + 1) op id sec l p = pkV op id sec l p := by
  have hj0 : ∀ b, tenementref13_Pack.j0 (l.length + 1 + 28 + 1) p b op id sec l = if b = true then ErrA else rfgo (fun o => tailR 28 p o op id sec l) l true := by
    intro b
    have e : tenementref13_Pack.j0 (l.length + 1 + 28 + 1) p b op id sec l = if b = true then ErrA else tenementref13_Pack.l0 (l.length + 1 + 28) p true 0 op id sec l := rfl
    have := ref_l0 28 p op id sec l hz l.length 0 true (by omega)
    rw [show ((0 : Nat) : Int) = 0 from rfl, List.drop_zero] at this
    rw [e, this]
  unfold tenementref13_Pack.f pkV
  simp only [hj0]
  by_cases c0 : op < 0
  · rw [if_pos c0, if_pos trivial, if_neg (fun h => by have := h.1.1; omega)]
  · rw [if_neg c0]
    by_cases c1 : op > 2
    · rw [if_pos c1, if_pos trivial, if_neg (fun h => by have := h.1.2.1; omega)]
    · rw [if_neg c1]
      by_cases c2 : id < 0
      · rw [if_pos c2, if_pos trivial, if_neg (fun h => by have := h.1.2.2.1; omega)]
      · rw [if_neg c2]
        by_cases c3 : id ≥ 65536
        · rw [if_pos c3, if_pos trivial, if_neg (fun h => by have := h.1.2.2.2.1; omega)]
        · rw [if_neg c3]
          by_cases c4 : sec < 0
          · rw [if_pos c4, if_pos trivial, if_neg (fun h => by have := h.1.2.2.2.2.1; omega)]
          · rw [if_neg c4]
            by_cases c5 : sec ≥ 4294967296
            · rw [if_pos c5, if_pos trivial, if_neg (fun h => by have := h.1.2.2.2.2.2.1; omega)]
            · rw [if_neg c5]
              by_cases c6 : p < -1
              · rw [if_pos c6, if_pos trivial, if_neg (fun h => by have := h.1.2.2.2.2.2.2.1; omega)]
              · rw [if_neg c6]
                by_cases c7 : p > 255
                · rw [decide_eq_true c7, if_pos rfl, if_neg (fun h => by have := h.1.2.2.2.2.2.2.2; omega)]
                · rw [decide_eq_false c7, if_neg (by decide)]
                  have ha : Args op id sec p := ⟨by omega, by omega, by omega, by omega, by omega, by omega, by omega, by omega⟩
                  by_cases hg : Good l
                  · rw [rfgo_good _ l _ hg, if_pos ⟨ha, hg⟩, Bool.true_and]
                    exact tail_fin p op id sec l ha hg
                  · rw [rfgo_bad _ l _ hg, if_neg (fun h => hg h.2)]
theorem pkV_some (op id sec : Int) (l : List S81) (p : Int) : ∃ t, pkV op id sec l p = some t := by
  unfold pkV fin ErrA
  repeat' split
  all_goals exact ⟨_, rfl⟩
theorem awake_f : tenementlaw13_awake.f = some true := by decide
theorem law_f (op id sec : Int) (l : List S81) (p : Int) (hz : l.length < 6000000000000) (w0 : -9223372036854775808 ≤ p) (w1 : p < 9223372036854775808) : tenementlaw13_BlkPacks.f (l.length + 1 + 28 + 1) op id sec l p = some true := by
  obtain ⟨t, ht⟩ := pkV_some op id sec l p
  unfold tenementlaw13_BlkPacks.f
  rw [blk_V op id sec l p hz w0 w1 _ (by omega), ref_V op id sec l p hz, ht, Option.bind_some, Option.bind_some, if_pos rfl, if_pos rfl, if_pos rfl, awake_f]
  rfl
end Go.Proofs.Ytdphppbocoinjaa.PkPure
