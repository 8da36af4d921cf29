/- Proved: a block request's bytes, unpacked as itself. -/
import Derived.Test.YtdphppbocoinjaaOBlkBackx6
import Derived.Laws.BitsLemmas
namespace Go.Proofs.Ytdphppbocoinjaa.BK
open Go.RowKit Go.Proofs.Ytdphppbocoinjaa.PBlkBack Go.Proofs.YtdphppbocoinjaaW.PrintWords Go.Proofs.YtdphppbocoinjaaW.PrintLast Go.Proofs.YtdphppbocoinjaaW.PrintMore
set_option linter.unusedVariables false

def OkSeg (s : S81) : Prop := (0 ≤ s.f0 ∧ s.f0 ≤ 255) ∧ (0 ≤ s.f1 ∧ s.f1 ≤ 3) ∧ (0 ≤ s.f2 ∧ s.f2 ≤ 3)
instance (s : S81) : Decidable (OkSeg s) := by unfold OkSeg; infer_instance
def sb : List S81 → List Int
  | [] => []
  | s :: r => s.f0 :: (s.f1 + 4 * s.f2) :: sb r
def bad : List S81 → Bool
  | [] => false
  | s :: r => decide (s.f1 > s.f2) || bad r
def Good (l : List S81) : Prop := ∀ s ∈ l, OkSeg s
instance (l : List S81) : Decidable (Good l) := by unfold Good; infer_instance
theorem good_cons {s : S81} {r : List S81} (h : Good (s :: r)) : OkSeg s ∧ Good r := ⟨h s (by simp), fun x hx => h x (by simp [hx])⟩
theorem sb_len : ∀ l, (sb l).length = 2 * l.length
  | [] => rfl
  | s :: r => by simp only [sb, List.length_cons, sb_len r]; omega
theorem wrap_in {x : Int} (h0 : 0 ≤ x) (h1 : x < 9223372036854775807) : wrap64 x = x := by unfold wrap64; omega
theorem in_f (a b : Int) : blk_in.f a b = some (decide (0 ≤ a ∧ a ≤ b)) := by
  unfold blk_in.f
  by_cases h : a ≥ 0
  · rw [if_pos h]
    congr 1
    exact decide_eq_decide.2 ⟨fun h1 => ⟨h, h1⟩, fun h1 => h1.2⟩
  · rw [if_neg h]
    congr 1
    exact (decide_eq_false (fun h1 => h h1.1)).symm
theorem or_seg {a b : Int} (a0 : 0 ≤ a) (a1 : a ≤ 3) (b0 : 0 ≤ b) (b1 : b ≤ 3) : Go.bits .or .i64 a (wrap64 (b * 4)) % 256 = a + 4 * b := by
  have ha : a = 0 ∨ a = 1 ∨ a = 2 ∨ a = 3 := by omega
  have hb : b = 0 ∨ b = 1 ∨ b = 2 ∨ b = 3 := by omega
  rcases ha with rfl | rfl | rfl | rfl <;> rcases hb with rfl | rfl | rfl | rfl <;> decide +kernel
theorem rd_at (l : List S81) (j : Nat) (h : j < l.length) : rd_T81 l (j : Int) = l[j] := by
  unfold rd_T81
  rw [Int.toNat_natCast, List.getD_eq_getElem?_getD, List.getElem?_eq_getElem h, Option.getD_some]

abbrev Out := Option (List Int × List Int × Int)
def ErrA : Out := some (([] : List Int), ([] : List Int), 1)
def pkgo (T : List Int → Bool → Out) : List S81 → List Int → Bool → Out
  | [], acc, b => T acc b
  | s :: r, acc, b => if OkSeg s then pkgo T r (acc ++ [s.f0, s.f1 + 4 * s.f2]) (b || decide (s.f1 > s.f2)) else ErrA
theorem pkgo_good (T) : ∀ (l : List S81) (acc : List Int) (b : Bool), Good l → pkgo T l acc b = T (acc ++ sb l) (b || bad l)
  | [], acc, b, _ => by simp [pkgo, sb, bad]
  | s :: r, acc, b, h => by
    obtain ⟨h1, h2⟩ := good_cons h
    rw [pkgo, if_pos h1, pkgo_good T r _ _ h2]
    simp [sb, bad, Bool.or_assoc]
theorem pkgo_bad (T) : ∀ (l : List S81) (acc : List Int) (b : Bool), ¬ Good l → pkgo T l acc b = ErrA
  | [], acc, b, h => absurd (fun s hs => by simp at hs) h
  | s :: r, acc, b, h => by
    by_cases h1 : OkSeg s
    · rw [pkgo, if_pos h1]
      exact pkgo_bad T r _ _ (fun h2 => h (fun x hx => by
        rcases List.mem_cons.1 hx with rfl | hx
        · exact h1
        · exact h2 x hx))
    · rw [pkgo, if_neg h1]
theorem blk_l0 (T : List Int → Bool → Out) (l : List S81) (hz : l.length < 6000000000000) : ∀ (n k j : Nat) (acc : List Int) (b : Bool), l.length = j + n → n < k → acc.length = 2 * j → blk_Pack.l0 k T acc b l (l.length : Int) (j : Int) = pkgo T (l.drop j) acc b
  | 0, k, j, acc, b, hl, hk, ha => by
    obtain ⟨k, rfl⟩ : ∃ i, k = i + 1 := ⟨k - 1, by omega⟩
    rw [List.drop_eq_nil_of_le (by omega)]
    unfold blk_Pack.l0
    rw [if_neg (by omega)]
    rfl
  | n + 1, k, j, acc, b, hl, hk, ha => by
    obtain ⟨k, rfl⟩ : ∃ i, k = i + 1 := ⟨k - 1, by omega⟩
    have hj : j < l.length := by omega
    have ih := fun acc' b' h => blk_l0 T l hz n k (j + 1) acc' b' (by omega) (by omega) h
    have w1 : wrap64 ((j : Int) + 1) = ((j + 1 : Nat) : Int) := (wrap_in (by omega) (by omega)).trans (by omega)
    rw [List.drop_eq_getElem_cons hj]
    unfold blk_Pack.l0
    rw [if_pos (by omega), if_pos (by omega), if_pos (by omega), rd_at l j hj, w1]
    generalize l[j] = s
    simp only [in_f, Option.bind_some, pkgo]
    by_cases h0 : 0 ≤ s.f0 ∧ s.f0 ≤ 255
    · rw [decide_eq_true h0, if_pos rfl]
      by_cases h1 : 0 ≤ s.f1 ∧ s.f1 ≤ 3
      · rw [decide_eq_true h1, if_pos rfl]
        by_cases h2 : 0 ≤ s.f2 ∧ s.f2 ≤ 3
        · rw [decide_eq_true h2, if_pos rfl, if_pos (show OkSeg s from ⟨h0, h1, h2⟩), or_seg h1.1 h1.2 h2.1 h2.2, show s.f0 % 256 = s.f0 by omega]
          have hlen : acc.length + [s.f0, s.f1 + 4 * s.f2].length < 140737488355328 := by simp only [List.length_cons, List.length_nil]; omega
          cases b
          · rw [if_neg (by decide), if_pos hlen, Bool.false_or]
            exact ih _ _ (by simp only [List.length_append, List.length_cons, List.length_nil]; omega)
          · rw [if_pos rfl, if_pos hlen, Bool.true_or]
            exact ih _ _ (by simp only [List.length_append, List.length_cons, List.length_nil]; omega)
        · rw [decide_eq_false h2, if_neg (by decide), if_neg (fun h : OkSeg s => h2 h.2.2)]
          rfl
      · rw [decide_eq_false h1, if_neg (by decide), if_neg (fun h : OkSeg s => h1 h.2.1)]
        rfl
    · rw [decide_eq_false h0, if_neg (by decide), if_neg (fun h : OkSeg s => h0 h.1)]
      rfl
def Args (op id sec p : Int) : Prop := 0 ≤ op ∧ op ≤ 2 ∧ 0 ≤ id ∧ id ≤ 65535 ∧ 0 ≤ sec ∧ sec ≤ 4294967295 ∧ -1 ≤ p ∧ p ≤ 255
instance (op id sec p : Int) : Decidable (Args op id sec p) := by unfold Args; infer_instance
theorem splice_end (h z : List Int) (x : List Int) (hh : h.length = 8) (hx : x.length ≤ 8) : splice (h ++ List.replicate 8 0) 8 (x.take 8) = h ++ x ++ List.replicate (8 - x.length) 0 := by
  unfold splice
  rw [List.take_of_length_le hx, List.take_append_of_le_length (by omega), List.take_of_length_le (by omega), List.drop_append, List.drop_eq_nil_of_le (by omega)]
  simp only [hh]
  rw [show 8 + x.length - 8 = x.length by omega, List.drop_replicate, List.nil_append, List.append_assoc]
def fin (op id sec : Int) (l : List S81) (p : Int) : Out :=
  if 0 ≤ p then
    (if bad l = true then some ([], [], 4) else (if op = 2 then some ([], [], 4) else
      (if 1 ≤ l.length ∧ l.length ≤ 16 then some ((3 : Int) :: ((hd8 op l.length id sec).drop 1 ++ [p % 256, op % 256, 0, 0, 0, 0, 0, 0]), sb l, 0) else some ([], [], 4))))
  else
    (if bad l = true then some ([], [], 4) else
      (if (op = 2 ∧ l.length = 0) ∨ (op ≠ 2 ∧ 1 ≤ l.length ∧ l.length ≤ 4) then some (hd8 op l.length id sec ++ sb l ++ List.replicate (8 - (sb l).length) 0, [], 0) else some ([], [], 4)))
theorem fin_bad (op id sec : Int) (l : List S81) (p : Int) (h : bad l = true) : fin op id sec l p = some ([], [], 4) := by
  unfold fin
  rw [if_pos h, if_pos h]
  split <;> rfl
theorem fin_page (op id sec : Int) (l : List S81) (p : Int) (h : bad l = false) (hp : 0 ≤ p) : fin op id sec l p = (if op = 2 then some ([], [], 4) else
      (if 1 ≤ l.length ∧ l.length ≤ 16 then some ((3 : Int) :: ((hd8 op l.length id sec).drop 1 ++ [p % 256, op % 256, 0, 0, 0, 0, 0, 0]), sb l, 0) else some ([], [], 4))) := by
  unfold fin
  rw [if_pos hp, h, if_neg (by decide)]
theorem fin_in (op id sec : Int) (l : List S81) (p : Int) (h : bad l = false) (hp : ¬ 0 ≤ p) : fin op id sec l p = (if (op = 2 ∧ l.length = 0) ∨ (op ≠ 2 ∧ 1 ≤ l.length ∧ l.length ≤ 4) then some (hd8 op l.length id sec ++ sb l ++ List.replicate (8 - (sb l).length) 0, [], 0) else some ([], [], 4)) := by
  unfold fin
  rw [if_neg hp, h, if_neg (by decide)]
theorem count2 (n m : Int) : blk_count.f 2 n m = some (n == 0) := by unfold blk_count.f; rw [if_pos rfl]
theorem countN {op : Int} (h : op ≠ 2) (n m : Int) : blk_count.f op n m = some (decide (1 ≤ n ∧ n ≤ m)) := by
  unfold blk_count.f
  rw [if_neg h]
  by_cases hn : n > 0
  · rw [if_pos hn]
    congr 1
    exact decide_eq_decide.2 ⟨fun h => ⟨by omega, h⟩, fun h => h.2⟩
  · rw [if_neg hn]
    congr 1
    exact (decide_eq_false (fun h => hn (by omega))).symm
theorem rest_fin (op id sec : Int) (l : List S81) (p : Int) : blk_Pack.rest op id sec l p (sb l) (bad l) = fin op id sec l p := by
  have hs := sb_len l
  cases hb : bad l
  · unfold blk_Pack.rest
    rw [if_neg (c := false = true) (by decide), if_neg (c := false = true) (by decide)]
    by_cases hp : 0 ≤ p
    · rw [if_pos hp, fin_page op id sec l p hb hp]
      by_cases ho : op = 2
      · rw [if_pos ho, if_pos ho]
      · rw [if_neg ho, if_neg ho, countN ho, Option.bind_some]
        by_cases hn : 1 ≤ l.length ∧ l.length ≤ 16
        · rw [if_pos hn, if_pos (decide_eq_true (by omega))]
        · rw [if_neg hn, if_neg (by rw [decide_eq_false (by omega)]; decide)]
    · rw [if_neg hp, fin_in op id sec l p hb hp]
      by_cases ho : op = 2
      · subst ho
        rw [count2, Option.bind_some]
        by_cases hn : l.length = 0
        · rw [if_pos (by rw [hn]; rfl), if_pos (Or.inl ⟨rfl, hn⟩)]
          congr 2
          exact splice_end (hd8 2 l.length id sec) [] (sb l) rfl (by omega)
        · rw [if_neg (c := ((l.length : Int) == 0) = true) (fun h => hn (by have := eq_of_beq h; omega)), if_neg (fun h => by rcases h with ⟨_, h⟩ | ⟨h, _⟩; exact hn h; exact h rfl)]
      · rw [countN ho, Option.bind_some]
        by_cases hn : 1 ≤ l.length ∧ l.length ≤ 4
        · rw [if_pos (decide_eq_true (by omega)), if_pos (Or.inr ⟨ho, hn⟩)]
          congr 2
          exact splice_end (hd8 op l.length id sec) [] (sb l) rfl (by omega)
        · rw [if_neg (by rw [decide_eq_false (by omega)]; decide), if_neg (fun h => by rcases h with ⟨h, _⟩ | ⟨_, h⟩; exact ho h; exact hn h)]
  · rw [fin_bad op id sec l p hb]
    unfold blk_Pack.rest
    rw [if_pos rfl, if_pos rfl]
    split <;> rfl
theorem hd8_len (a n i s : Int) : (hd8 a n i s).length = 8 := rfl
/-- What both answer. -/
def pkV (op id sec : Int) (l : List S81) (p : Int) : Out := if Args op id sec p ∧ Good l then fin op id sec l p else ErrA
theorem blk_V (op id sec : Int) (l : List S81) (p : Int) (hz : l.length < 6000000000000) (w0 : -9223372036854775808 ≤ p) (w1 : p < 9223372036854775808) (k : Nat) (hk : l.length + 1 < k) : blk_Pack.g k op id sec l p = pkV op id sec l p := by
  obtain ⟨k, rfl⟩ : ∃ i, k = i + 1 := ⟨k - 1, by omega⟩
  have hj0 : ∀ b, blk_Pack.j0 (k + 1) (blk_Pack.rest op id sec l p) b op id sec l = if b = true then ErrA else pkgo (blk_Pack.rest op id sec l p) l [] false := by
    intro b
    have e : blk_Pack.j0 (k + 1) (blk_Pack.rest op id sec l p) b op id sec l = if b = true then ErrA else blk_Pack.l0 k (blk_Pack.rest op id sec l p) [] false l (l.length : Int) 0 := rfl
    have := blk_l0 (blk_Pack.rest op id sec l p) l hz l.length k 0 [] false (by omega) (by omega) rfl
    rw [show ((0 : Nat) : Int) = 0 from rfl, List.drop_zero] at this
    rw [e, this]
  unfold blk_Pack.g blk_Pack.f pkV
  simp only [in_f, Option.bind_some, hj0]
  by_cases c0 : 0 ≤ op ∧ op ≤ 2
  · rw [decide_eq_true c0, if_pos rfl]
    by_cases c1 : 0 ≤ id ∧ id ≤ 65535
    · rw [decide_eq_true c1, if_pos rfl]
      by_cases c2 : 0 ≤ sec ∧ sec ≤ 4294967295
      · rw [decide_eq_true c2, if_pos rfl]
        by_cases c3 : -1 ≤ p ∧ p ≤ 255
        · rw [wrap_in (x := p + 1) (by omega) (by omega), decide_eq_true (by omega), if_neg (by decide)]
          by_cases hg : Good l
          · rw [pkgo_good _ l _ _ hg, if_pos ⟨⟨c0.1, c0.2, c1.1, c1.2, c2.1, c2.2, c3.1, c3.2⟩, hg⟩, List.nil_append, Bool.false_or]
            exact rest_fin op id sec l p
          · rw [pkgo_bad _ l _ _ hg, if_neg (fun h => hg h.2)]
        · have : ¬ (0 ≤ wrap64 (p + 1) ∧ wrap64 (p + 1) ≤ 256) := by unfold wrap64; omega
          rw [decide_eq_false this, if_pos (c := (!false) = true) rfl, if_neg (fun h => c3 ⟨h.1.2.2.2.2.2.2.1, h.1.2.2.2.2.2.2.2⟩)]
      · rw [decide_eq_false c2, if_neg (by decide), if_pos trivial, if_neg (fun h => c2 ⟨h.1.2.2.2.2.1, h.1.2.2.2.2.2.1⟩)]
    · rw [decide_eq_false c1, if_neg (by decide), if_pos trivial, if_neg (fun h => c1 ⟨h.1.2.2.1, h.1.2.2.2.1⟩)]
  · rw [decide_eq_false c0, if_neg (by decide), if_pos trivial, if_neg (fun h => c0 ⟨h.1.1, h.1.2.1⟩)]

theorem wraps_i64 (n : Int) (h₀ : 0 ≤ n) (h₁ : n < 2 ^ 63) : IntKind.i64.wrap n = n := by rw [IntKind.wrap_i64]; omega
def manyV (a n m : Int) : Bool := if a = 2 then n == 0 else if n ≥ 1 then decide (n ≤ m) else false
def go : List Int → List S81 → List S81 × Int
  | a :: b :: r, acc => if b / 4 > 3 then ([], 4) else if b % 4 > b / 4 then ([], 4) else go r (acc ++ [⟨a, b % 4, b / 4⟩])
  | _, acc => (acc, 0)
theorem and3 (b : Int) (h0 : 0 ≤ b) (h1 : b < 256) : Go.bits .and .u8 b 3 = b % 4 := by
  have h : ∀ i : Fin 256, Go.bits .and .u8 ((i.val : Nat) : Int) 3 = ((i.val : Nat) : Int) % 4 := by decide +kernel
  have := h ⟨b.toNat, by omega⟩
  simp only [Int.toNat_of_nonneg h0] at this
  exact this
theorem sg_l0 : ∀ (n k : Nat) (l : List Int) (acc : List S81), l.length = 2 * n → n < k → (∀ x ∈ l, 0 ≤ x ∧ x < 256) → acc.length + n < 5864062014805 → blk_Segments.l0 k l acc = some (go l acc)
  | 0, k, l, acc, hl, hk, hb, ha => by
    obtain rfl : l = [] := List.length_eq_zero_iff.1 (by omega)
    obtain ⟨k, rfl⟩ : ∃ j, k = j + 1 := ⟨k - 1, by omega⟩
    rfl
  | n + 1, k, l, acc, hl, hk, hb, ha => by
    obtain ⟨k, rfl⟩ : ∃ j, k = j + 1 := ⟨k - 1, by omega⟩
    match l, hl with
    | a :: b :: r, hl =>
      have hA := hb a (by simp)
      have hB := hb b (by simp)
      have hr : r.length = 2 * n := by simp only [List.length_cons] at hl; omega
      have e0 : rd (a :: b :: r) 0 = a := rfl
      have e1 : rd (a :: b :: r) 1 = b := rfl
      have e2 : (a :: b :: r).drop 2 = r := rfl
      have hlen : ((a :: b :: r).length : Int) = r.length + 2 := by simp only [List.length_cons]; omega
      have ih := fun acc' h => sg_l0 n k r acc' hr (by omega) (fun x hx => hb x (by simp [hx])) h
      unfold blk_Segments.l0 go
      have v1 : wrap64 a = a := wrap_in (by omega) (by omega)
      have v2 : wrap64 (b / 4) = b / 4 := wrap_in (by omega) (by omega)
      have v3 : wrap64 (b % 4) = b % 4 := wrap_in (by omega) (by omega)
      rw [e0, e1, e2, and3 b hB.1 hB.2, v1, v2, v3, hlen]
      rw [if_pos (by omega), if_pos (by omega), if_pos (by omega)]
      by_cases c1 : b / 4 > 3
      · rw [if_pos c1, if_pos c1]
      · rw [if_neg c1, if_neg c1]
        by_cases c2 : b % 4 > b / 4
        · rw [if_pos c2, if_pos c2]
        · rw [if_neg c2, if_neg c2, if_pos (by omega), if_pos (by omega)]
          exact ih _ (by simp only [List.length_append, List.length_singleton]; omega)
theorem same_l0 (s : List S81) (hz : s.length < 6000000000000) : ∀ (n k j : Nat), s.length = j + n → n < k → tenementlaw13_segments.l0 k s s ((j : Nat) : Int) = some true
  | 0, k, j, hl, hk => by
    obtain ⟨k, rfl⟩ : ∃ j, k = j + 1 := ⟨k - 1, by omega⟩
    unfold tenementlaw13_segments.l0
    rw [if_neg (by omega)]
  | n + 1, k, j, hl, hk => by
    obtain ⟨k, rfl⟩ : ∃ j, k = j + 1 := ⟨k - 1, by omega⟩
    unfold tenementlaw13_segments.l0
    rw [if_pos (by omega), if_pos (by omega), if_pos (by omega), if_neg (by simp), wrap_in (by omega) (by omega)]
    exact same_l0 s hz n k (j + 1) (by omega) (by omega)
theorem or_8 (x y : Int) (hx : 0 ≤ x) (hx1 : x < 256) (hy : 0 ≤ y) (hy1 : y < 256) : Go.bits .or .i64 x (y * 256) = x + 256 * y := by
  have hc : Go.bits .or .i64 x (y * 256) = Go.bits .or .i64 (y * 256) x := by
    simp only [bits]; rw [BitVec.or_comm]
  rw [hc, bits_join .i64 63 (by decide) wraps_i64 8 (y * 256) x (by omega) (by omega) (by omega) hx (by omega) (by omega)]; omega
theorem or_16 (x y : Int) (hx : 0 ≤ x) (hx1 : x < 65536) (hy : 0 ≤ y) (hy1 : y < 256) : Go.bits .or .i64 x (y * 65536) = x + 65536 * y := by
  have hc : Go.bits .or .i64 x (y * 65536) = Go.bits .or .i64 (y * 65536) x := by
    simp only [bits]; rw [BitVec.or_comm]
  rw [hc, bits_join .i64 63 (by decide) wraps_i64 16 (y * 65536) x (by omega) (by omega) (by omega) hx (by omega) (by omega)]; omega
theorem or_24 (x y : Int) (hx : 0 ≤ x) (hx1 : x < 16777216) (hy : 0 ≤ y) (hy1 : y < 256) : Go.bits .or .i64 x (y * 16777216) = x + 16777216 * y := by
  have hc : Go.bits .or .i64 x (y * 16777216) = Go.bits .or .i64 (y * 16777216) x := by
    simp only [bits]; rw [BitVec.or_comm]
  rw [hc, bits_join .i64 63 (by decide) wraps_i64 24 (y * 16777216) x (by omega) (by omega) (by omega) hx (by omega) (by omega)]; omega
theorem j0_eq (k : Nat) (x0 : List Int) (x7 : Int) (x55 : Bool) (x134000 x134001 x134002 : Int) : blk_Unpack.j0 (k + 1) x0 x7 x55 x134000 x134001 x134002 = (if x55 = true then (if 9 < (x0.length : Int) then (if 8 < (x0.length : Int) then (some (wrap64 (rd x0 9), x134001, x134002, ([] : List (S81)), wrap64 (rd x0 8), x7, 0)) else (none)) else (none)) else (if x134000 < 3 then ((blk_count.f x134000 x7 4).bind fun t139 => (blk_Unpack.j1 k x0 x7 t139 x134000 x134001 x134002)) else (blk_Unpack.j1 k x0 x7 false x134000 x134001 x134002))) := rfl
theorem j1_eq (k : Nat) (x0 : List Int) (x7 : Int) (x80 : Bool) (x134000 x134001 x134002 : Int) : blk_Unpack.j1 (k + 1) x0 x7 x80 x134000 x134001 x134002 = (if x80 = true then (if 8 ≤ (wrap64 (8 + (wrap64 (2 * x7)))) then (if (wrap64 (8 + (wrap64 (2 * x7)))) ≤ (x0.length : Int) then ((blk_Segments.f k ((x0.take ((wrap64 (8 + (wrap64 (2 * x7)))) : Int).toNat).drop 8)).bind fun bt141 => (if bt141.2 = 0 then (some (x134000, x134001, x134002, bt141.1, (-1), x7, 0)) else (some (0, 0, 0, ([] : List (S81)), 0, 0, 4)))) else (none)) else (none)) else (some (0, 0, 0, ([] : List (S81)), 0, 0, 4))) := rfl
def sec (l : List Int) : Int := rd l 4 + 256 * rd l 5 + 65536 * rd l 6 + 16777216 * rd l 7
def ident (l : List Int) : Int := rd l 2 + 256 * rd l 3
def window (l : List Int) : List Int := (l.take (8 + (2 * rd l 1).toNat)).drop 8
/-- What both sides make of sixteen bytes. -/
def unp (l : List Int) : Int × Int × Int × List S81 × Int × Int × Int :=
  if rd l 0 > 3 then (0, 0, 0, [], 0, 0, 4)
  else if rd l 0 = 3 then (if rd l 9 ≤ 1 ∧ manyV (rd l 9) (rd l 1) 16 = true then (rd l 9, ident l, sec l, [], rd l 8, rd l 1, 0) else (0, 0, 0, [], 0, 0, 4))
  else if manyV (rd l 0) (rd l 1) 4 = true then (if (go (window l) []).2 = 0 then (rd l 0, ident l, sec l, (go (window l) []).1, -1, rd l 1, 0) else (0, 0, 0, [], 0, 0, 4))
  else (0, 0, 0, [], 0, 0, 4)
theorem count_f (a n m : Int) : blk_count.f a n m = some (manyV a n m) := by
  unfold blk_count.f manyV
  split
  · rfl
  · by_cases h : n > 0
    · rw [if_pos h, if_pos (by omega)]
    · rw [if_neg h, if_neg (by omega)]
theorem many_four {a n : Int} (hn : 0 ≤ n) (h : manyV a n 4 = true) : n = 0 ∨ n = 1 ∨ n = 2 ∨ n = 3 ∨ n = 4 := by
  unfold manyV at h
  split at h
  · have : n = 0 := by simpa using h
    omega
  · split at h
    · have : n ≤ 4 := by simpa using h
      omega
    · cases h

theorem segs_b (k : Nat) (l : List Int) (n : Nat) (hl : l.length = 2 * n) (hk : n < k) (hz : n < 5864062014805) (hb : ∀ x ∈ l, 0 ≤ x ∧ x < 256) : blk_Segments.f k l = some (go l []) := by
  unfold blk_Segments.f
  rw [if_pos (by omega)]
  exact sg_l0 n k l [] hl hk hb (by simp only [List.length_nil]; omega)
theorem window_len (l : List Int) (hl : l.length = 16) (n : Nat) (hn : rd l 1 = n) (h4 : n ≤ 4) : (window l).length = 2 * n := by
  unfold window
  rw [List.length_drop, List.length_take, hn, hl]
  omega
theorem window_mem (l : List Int) (hb : ∀ x ∈ l, 0 ≤ x ∧ x < 256) : ∀ x ∈ window l, 0 ≤ x ∧ x < 256 := fun x hx => hb x (List.mem_of_mem_take (List.mem_of_mem_drop hx))
theorem unpack_f (k : Nat) (hk : 4 < k) (l : List Int) (hl : l.length = 16) (hb : ∀ x ∈ l, 0 ≤ x ∧ x < 256) (hr : ∀ i : Int, 0 ≤ rd l i ∧ rd l i < 256) : blk_Unpack.f (k + 2) l = some (unp l) := by
  have hz : ((l.length : Nat) : Int) = 16 := by omega
  have w0 : ∀ i : Int, wrap64 (rd l i) = rd l i := fun i => wrap_in (hr i).1 (by have := (hr i).2; omega)
  have w1 : wrap64 (rd l 3 * 256) = rd l 3 * 256 := wrap_in (by have := hr 3; omega) (by have := hr 3; omega)
  have w2 : wrap64 (rd l 5 * 256) = rd l 5 * 256 := wrap_in (by have := hr 5; omega) (by have := hr 5; omega)
  have w3 : wrap64 (rd l 6 * 65536) = rd l 6 * 65536 := wrap_in (by have := hr 6; omega) (by have := hr 6; omega)
  have w4 : wrap64 (rd l 7 * 16777216) = rd l 7 * 16777216 := wrap_in (by have := hr 7; omega) (by have := hr 7; omega)
  have o1 : Go.bits .or .i64 (rd l 2) (rd l 3 * 256) = ident l := or_8 _ _ (hr 2).1 (hr 2).2 (hr 3).1 (hr 3).2
  have o2 : Go.bits .or .i64 (rd l 4) (rd l 5 * 256) = rd l 4 + 256 * rd l 5 := or_8 _ _ (hr 4).1 (hr 4).2 (hr 5).1 (hr 5).2
  have o3 : Go.bits .or .i64 (rd l 4 + 256 * rd l 5) (rd l 6 * 65536) = rd l 4 + 256 * rd l 5 + 65536 * rd l 6 := or_16 _ _ (by have := hr 4; have := hr 5; omega) (by have := hr 4; have := hr 5; omega) (hr 6).1 (hr 6).2
  have o4 : Go.bits .or .i64 (rd l 4 + 256 * rd l 5 + 65536 * rd l 6) (rd l 7 * 16777216) = sec l := or_24 _ _ (by have := hr 4; have := hr 5; have := hr 6; omega) (by have := hr 4; have := hr 5; have := hr 6; omega) (hr 7).1 (hr 7).2
  have W : ∀ r : Bool, (r = true → manyV (rd l 0) (rd l 1) 4 = true) → r = manyV (rd l 0) (rd l 1) 4 → blk_Unpack.j1 (k + 1) l (rd l 1) r (rd l 0) (ident l) (sec l) = some (if r = true then (if (go (window l) []).2 = 0 then (rd l 0, ident l, sec l, (go (window l) []).1, -1, rd l 1, 0) else (0, 0, 0, [], 0, 0, 4)) else (0, 0, 0, [], 0, 0, 4)) := by
    intro r hr1 _
    rw [j1_eq]
    cases r
    · rfl
    · have h4 := many_four (hr 1).1 (hr1 rfl)
      obtain ⟨n, hn⟩ : ∃ n : Nat, rd l 1 = n := ⟨(rd l 1).toNat, by have := (hr 1).1; omega⟩
      have hn4 : n ≤ 4 := by omega
      have v1 : wrap64 (8 + wrap64 (2 * rd l 1)) = 8 + 2 * rd l 1 := by rw [wrap_in (x := 2 * rd l 1) (by omega) (by omega), wrap_in (by omega) (by omega)]
      have v2 : ((l.take (8 + 2 * rd l 1).toNat).drop 8) = window l := by
        unfold window
        rw [show (8 + 2 * rd l 1).toNat = 8 + (2 * rd l 1).toNat by omega]
      rw [v1, v2]
      have hs := segs_b k (window l) n (window_len l hl n hn hn4) (by omega) (by omega) (window_mem l hb)
      rw [if_pos rfl, if_pos (by omega), if_pos (by omega), hs]
      simp only [Option.bind_some, if_true]
      split <;> rfl
  have J : ∀ r : Bool, rd l 0 ≠ 3 → r = false → blk_Unpack.j0 (k + 2) l (rd l 1) r (rd l 0) (ident l) (sec l) = some (unp l) := by
    intro r h3 hf
    subst hf
    rw [j0_eq]
    unfold unp
    rw [if_neg (by decide), if_neg (c := rd l 0 = 3) h3]
    by_cases h0 : rd l 0 < 3
    · rw [if_pos h0, if_neg (by omega), count_f]
      simp only [Option.bind_some]
      exact W _ (fun h => h) rfl
    · rw [if_neg h0, if_pos (by omega)]
      rw [j1_eq]
      rfl
  unfold blk_Unpack.f
  simp only [w0, w1, w2, w3, w4, o1, o2, o3, o4, hz]
  rw [if_pos trivial, if_pos (by decide), if_pos (by decide), if_pos (by decide), if_pos (by decide), if_pos (by decide), if_pos (by decide), if_pos (by decide), if_pos (by decide)]
  by_cases h3 : rd l 0 = 3
  · rw [if_pos h3, if_pos (by decide)]
    have hbad : blk_Unpack.j0 (k + 2) l (rd l 1) false (rd l 0) (ident l) (sec l) = some (0, 0, 0, [], 0, 0, 4) := by
      rw [j0_eq]
      rw [if_neg (by decide), if_neg (by omega)]
      rw [j1_eq]
      rfl
    by_cases h9 : rd l 9 ≤ 1
    · rw [if_pos h9, count_f]
      simp only [Option.bind_some]
      have e : manyV 0 (rd l 1) 16 = manyV (rd l 9) (rd l 1) 16 := by
        unfold manyV
        rw [if_neg (c := (0 : Int) = 2) (by decide), if_neg (c := rd l 9 = 2) (by omega)]
      unfold unp
      rw [e, if_neg (by omega), if_pos h3]
      cases hm : manyV (rd l 9) (rd l 1) 16
      · rw [hbad, if_neg (by simp)]
      · rw [j0_eq]
        rw [if_pos rfl, hz, if_pos (by decide), if_pos (by decide), if_pos ⟨h9, rfl⟩, w0, w0]
    · rw [if_neg h9, hbad]
      unfold unp
      rw [if_neg (by omega), if_pos h3, if_neg (fun h => h9 h.1)]
  · rw [if_neg h3]
    exact J false h3 rfl

theorem go_sb : ∀ (l : List S81) (acc : List S81), Good l → bad l = false → go (sb l) acc = (acc ++ l, 0)
  | [], acc, _, _ => by simp [sb, go]
  | s :: r, acc, hg, hb => by
    obtain ⟨⟨h0, h1, h2⟩, hr⟩ := good_cons hg
    simp only [bad, Bool.or_eq_false_iff, decide_eq_false_iff_not] at hb
    have e1 : (s.f1 + 4 * s.f2) / 4 = s.f2 := by omega
    have e2 : (s.f1 + 4 * s.f2) % 4 = s.f1 := by omega
    simp only [sb, go, e1, e2]
    rw [if_neg (by omega), if_neg hb.1, go_sb r _ hr hb.2]
    simp
theorem sb_mem : ∀ (l : List S81), Good l → ∀ x ∈ sb l, 0 ≤ x ∧ x < 256
  | [], _, x, hx => by simp [sb] at hx
  | s :: r, hg, x, hx => by
    obtain ⟨⟨h0, h1, h2⟩, hr⟩ := good_cons hg
    simp only [sb, List.mem_cons] at hx
    rcases hx with rfl | rfl | hx
    · omega
    · omega
    · exact sb_mem r hr x hx
theorem rd_mem {l : List Int} (h : ∀ x ∈ l, 0 ≤ x ∧ x < 256) (i : Int) : 0 ≤ rd l i ∧ rd l i < 256 := by
  unfold rd
  rw [List.getD_eq_getElem?_getD]
  by_cases hi : i.toNat < l.length
  · rw [List.getElem?_eq_getElem hi, Option.getD_some]
    exact h _ (List.getElem_mem hi)
  · rw [List.getElem?_eq_none (by omega), Option.getD_none]; omega
def pageB (op n id s p : Int) : List Int := (3 : Int) :: ((hd8 op n id s).drop 1 ++ [p % 256, op % 256, 0, 0, 0, 0, 0, 0])
theorem pageB_mem (op n id s p : Int) : ∀ x ∈ pageB op n id s p, 0 ≤ x ∧ x < 256 := by
  intro x hx
  simp only [pageB, hd8, List.drop_succ_cons, List.drop_zero, List.cons_append, List.nil_append, List.mem_cons, List.not_mem_nil, or_false] at hx
  omega
theorem manyP {op n : Int} (h0 : op ≠ 2) (h1 : 1 ≤ n) (h2 : n ≤ 16) : manyV op n 16 = true := by
  unfold manyV
  rw [if_neg h0, if_pos h1]
  exact decide_eq_true h2
theorem unp_page (p op id s : Int) (n : Nat) (h : Args op id s p) (hp : 0 ≤ p) (ho : op ≠ 2) (hn : 1 ≤ n ∧ n ≤ 16) : unp (pageB op n id s p) = (op, id, s, [], p, (n : Int), 0) := by
  obtain ⟨a0, a1, b0, b1, c0, c1, d0, d1⟩ := h
  have r0 : rd (pageB op n id s p) 0 = 3 := rfl
  have r1 : rd (pageB op n id s p) 1 = (n : Int) % 256 := rfl
  have r2 : rd (pageB op n id s p) 2 = id % 256 := rfl
  have r3 : rd (pageB op n id s p) 3 = id / 256 % 256 := rfl
  have r4 : rd (pageB op n id s p) 4 = s % 256 := rfl
  have r5 : rd (pageB op n id s p) 5 = s / 256 % 256 := rfl
  have r6 : rd (pageB op n id s p) 6 = s / 65536 % 256 := rfl
  have r7 : rd (pageB op n id s p) 7 = s / 16777216 % 256 := rfl
  have r8 : rd (pageB op n id s p) 8 = p % 256 := rfl
  have r9 : rd (pageB op n id s p) 9 = op % 256 := rfl
  have e1 : (n : Int) % 256 = n := by omega
  have e9 : op % 256 = op := by omega
  have e8 : p % 256 = p := by omega
  have ei : ident (pageB op n id s p) = id := by unfold ident; rw [r2, r3]; omega
  have es : sec (pageB op n id s p) = s := by unfold sec; rw [r4, r5, r6, r7]; omega
  unfold unp
  rw [ei, es, r0, r1, r8, r9, e1, e8, e9, if_neg (by omega), if_pos rfl, if_pos ⟨by omega, manyP ho (by omega) (by omega)⟩]
def inB (op n id s : Int) (l : List S81) : List Int := hd8 op n id s ++ sb l ++ List.replicate (8 - (sb l).length) 0
theorem inB_len (op n id s : Int) (l : List S81) (h : l.length ≤ 4) : (inB op n id s l).length = 16 := by
  unfold inB
  rw [List.length_append, List.length_append, hd8_len, List.length_replicate, sb_len]
  omega
theorem inB_mem (op n id s : Int) (l : List S81) (hg : Good l) : ∀ x ∈ inB op n id s l, 0 ≤ x ∧ x < 256 := by
  intro x hx
  unfold inB at hx
  rcases List.mem_append.1 hx with hx | hx
  · rcases List.mem_append.1 hx with hx | hx
    · simp only [hd8, List.mem_cons, List.not_mem_nil, or_false] at hx
      omega
    · exact sb_mem l hg x hx
  · obtain rfl := List.eq_of_mem_replicate hx
    omega
theorem inB_window (op id s : Int) (l : List S81) (h : l.length ≤ 4) : window (inB op l.length id s l) = sb l := by
  have hs := sb_len l
  unfold window
  have r1 : rd (inB op l.length id s l) 1 = (l.length : Int) % 256 := rfl
  rw [r1, show 8 + (2 * ((l.length : Int) % 256)).toNat = 8 + (sb l).length by omega]
  unfold inB
  rw [List.take_append_of_le_length (by rw [List.length_append, hd8_len]; omega), List.take_of_length_le (by rw [List.length_append, hd8_len]; omega), List.drop_append_of_le_length (by rw [hd8_len]; omega), List.drop_eq_nil_of_le (by rw [hd8_len]; omega), List.nil_append]
theorem unp_in (p op id s : Int) (l : List S81) (h : Args op id s p) (hg : Good l) (hb : bad l = false) (hn : (op = 2 ∧ l.length = 0) ∨ (op ≠ 2 ∧ 1 ≤ l.length ∧ l.length ≤ 4)) : unp (inB op l.length id s l) = (op, id, s, l, -1, (l.length : Int), 0) := by
  obtain ⟨a0, a1, b0, b1, c0, c1, d0, d1⟩ := h
  have hl4 : l.length ≤ 4 := by rcases hn with hn | hn <;> omega
  have r0 : rd (inB op l.length id s l) 0 = op % 256 := rfl
  have r1 : rd (inB op l.length id s l) 1 = (l.length : Int) % 256 := rfl
  have r2 : rd (inB op l.length id s l) 2 = id % 256 := rfl
  have r3 : rd (inB op l.length id s l) 3 = id / 256 % 256 := rfl
  have r4 : rd (inB op l.length id s l) 4 = s % 256 := rfl
  have r5 : rd (inB op l.length id s l) 5 = s / 256 % 256 := rfl
  have r6 : rd (inB op l.length id s l) 6 = s / 65536 % 256 := rfl
  have r7 : rd (inB op l.length id s l) 7 = s / 16777216 % 256 := rfl
  have e0 : op % 256 = op := by omega
  have e1 : (l.length : Int) % 256 = l.length := by omega
  have ei : ident (inB op l.length id s l) = id := by unfold ident; rw [r2, r3]; omega
  have es : sec (inB op l.length id s l) = s := by unfold sec; rw [r4, r5, r6, r7]; omega
  have hm : manyV op (l.length : Int) 4 = true := by
    unfold manyV
    rcases hn with ⟨rfl, hn⟩ | ⟨ho, hn⟩
    · rw [if_pos rfl, hn]; rfl
    · rw [if_neg ho, if_pos (by omega)]
      exact decide_eq_true (by omega)
  have hw := inB_window op id s l hl4
  unfold unp
  rw [ei, es, hw, r0, r1, e0, e1, if_neg (by omega), if_neg (by omega), if_pos hm, go_sb l [] hg hb]
  rfl
theorem same_f (k : Nat) (o i s : Int) (sg : List S81) (h : sg.length < 6000000000000) (hk : sg.length < k) : tenementlaw13_requests.f k o i s sg o i s sg = some true := by
  unfold tenementlaw13_requests.f tenementlaw13_segments.f
  rw [if_pos rfl, if_pos rfl, if_pos rfl, if_pos rfl]
  have := same_l0 sg h sg.length k 0 (by omega) hk
  rw [show ((0 : Nat) : Int) = 0 from rfl] at this
  rw [this]
  rfl
theorem awake_f : tenementlaw13_awake.f = some true := by decide
theorem j0_same (k : Nat) (p n : Int) (x6 : List Int) (op id s : Int) (l l' : List S81) (hz : l.length < 6000000000000) (hk : l.length < k) (hh : (0 ≤ p → blk_Segments.f k x6 = some (l, 0)) ∧ (¬ 0 ≤ p → l' = l)) :
    tenementlaw13_BlkBack.j0 (k + 1) p x6 false op id s l op id s l' = some true := by
  have e : tenementlaw13_BlkBack.j0 (k + 1) p x6 false op id s l op id s l' = if false = true then (some false) else (if p ≥ 0 then ((blk_Segments.f k x6).bind fun bt194 => (if bt194.2 = 0 then ((tenementlaw13_requests.f k op id s bt194.1 op id s l).bind fun t198 => (if t198 = true then ((tenementlaw13_awake.f).bind fun t199 => (some t199)) else (some false))) else (some false))) else ((tenementlaw13_requests.f k op id s l' op id s l).bind fun t200 => (if t200 = true then ((tenementlaw13_awake.f).bind fun t201 => (some t201)) else (some false)))) := rfl
  rw [e, if_neg (by decide)]
  by_cases hp : 0 ≤ p
  · rw [if_pos (c := p ≥ 0) hp, hh.1 hp, Option.bind_some, if_pos rfl, same_f k op id s l hz hk, Option.bind_some, if_pos rfl, awake_f]
    rfl
  · rw [if_neg (c := p ≥ 0) hp, hh.2 hp, same_f k op id s l hz hk, Option.bind_some, if_pos rfl, awake_f]
    rfl
theorem errs (k : Nat) (op id s : Int) (l : List S81) (p : Int) (e : Int) (he : e ≠ 0) (h : blk_Pack.g k op id s l p = some ([], [], e)) : tenementlaw13_BlkBack.f k op id s l p = some true := by
  unfold tenementlaw13_BlkBack.f
  rw [h, Option.bind_some, if_neg he]
  show (if ((0 : Nat) : Int) = 0 then (if ((0 : Nat) : Int) = 0 then tenementlaw13_awake.f.bind fun t183 => some t183 else some false) else some false) = some true
  rw [if_pos (c := ((0 : Nat) : Int) = 0) rfl, if_pos (c := ((0 : Nat) : Int) = 0) rfl, awake_f]
  rfl
theorem law_f (op id s : Int) (l : List S81) (p : Int) (hz : l.length < 6000000000000) (w0 : -9223372036854775808 ≤ p) (w1 : p < 9223372036854775808) : tenementlaw13_BlkBack.f (l.length + 30 + 1) op id s l p = some true := by
  have hV := blk_V op id s l p (by omega) w0 w1 (l.length + 30 + 1) (by omega)
  unfold pkV at hV
  by_cases hA : Args op id s p ∧ Good l
  · rw [if_pos hA] at hV
    obtain ⟨ha, hg⟩ := hA
    cases hb : bad l
    · by_cases hp : 0 ≤ p
      · rw [fin_page op id s l p hb hp] at hV
        by_cases ho : op = 2
        · rw [if_pos ho] at hV
          exact errs _ op id s l p 4 (by decide) hV
        · rw [if_neg ho] at hV
          by_cases hn : 1 ≤ l.length ∧ l.length ≤ 16
          · rw [if_pos hn] at hV
            have hu := unpack_f (l.length + 29) (by omega) (pageB op l.length id s p) rfl (pageB_mem op l.length id s p) (rd_mem (pageB_mem op l.length id s p))
            rw [unp_page p op id s l.length ha hp ho hn, show l.length + 29 + 2 = l.length + 30 + 1 by omega] at hu
            have hsg := segs_b (l.length + 30) (sb l) l.length (sb_len l) (by omega) (by omega) (sb_mem l hg)
            rw [go_sb l [] hg hb, List.nil_append] at hsg
            unfold tenementlaw13_BlkBack.f
            rw [hV, Option.bind_some, if_pos rfl]
            show (blk_Unpack.f (l.length + 30 + 1) (pageB op l.length id s p)).bind _ = _
            rw [hu, Option.bind_some, if_pos rfl, if_pos rfl]
            rw [show (((l.length : Int) != (l.length : Int))) = false by simp]
            exact j0_same (l.length + 30) p l.length (sb l) op id s l [] hz (by omega) ⟨fun _ => hsg, fun h => absurd hp h⟩
          · rw [if_neg hn] at hV
            exact errs _ op id s l p 4 (by decide) hV
      · rw [fin_in op id s l p hb hp] at hV
        by_cases hn : (op = 2 ∧ l.length = 0) ∨ (op ≠ 2 ∧ 1 ≤ l.length ∧ l.length ≤ 4)
        · rw [if_pos hn] at hV
          have hl4 : l.length ≤ 4 := by rcases hn with hn | hn <;> omega
          have hu := unpack_f (l.length + 29) (by omega) (inB op l.length id s l) (inB_len op l.length id s l hl4) (inB_mem op l.length id s l hg) (rd_mem (inB_mem op l.length id s l hg))
          rw [unp_in p op id s l ha hg hb hn, show l.length + 29 + 2 = l.length + 30 + 1 by omega] at hu
          have hp1 : (-1 : Int) = p := by have := ha.2.2.2.2.2.2.1; omega
          unfold tenementlaw13_BlkBack.f
          rw [hV, Option.bind_some, if_pos rfl]
          show (blk_Unpack.f (l.length + 30 + 1) (inB op l.length id s l)).bind _ = _
          rw [hu, Option.bind_some, if_pos rfl, if_pos hp1]
          rw [show (((l.length : Int) != (l.length : Int))) = false by simp]
          exact j0_same (l.length + 30) p l.length [] op id s l l hz (by omega) ⟨fun h => absurd h hp, fun _ => rfl⟩
        · rw [if_neg hn] at hV
          exact errs _ op id s l p 4 (by decide) hV
    · rw [fin_bad op id s l p hb] at hV
      exact errs _ op id s l p 4 (by decide) hV
  · rw [if_neg hA] at hV
    exact errs _ op id s l p 1 (by decide) hV
theorem law_calls (op id s : Int) (A : Option Addr) (c : Nat) (l : List S81) (p : Int) (w : World) (hC : Kd.C k81 w A l.length l) (hc : l.length ≤ c) (hz : l.length < 6000000000000) (w0 : -9223372036854775808 ≤ p) (w1 : p < 9223372036854775808) :
    Calls Try.prog 14 #[.agg #[.int .i64 op, .int .i64 id, .int .i64 s, .slice A l.length c], .int .i64 p] w fun e w' => e = .returned (.bool true) ∧ Below w.heap.size w w' :=
  tenementlaw13_BlkBack.calls _ op id s A c l p true w hC hc (law_f op id s l p hz w0 w1)
end Go.Proofs.Ytdphppbocoinjaa.BK
