/- Proved: segments read alike, for rows of at most 1048576 bytes. -/
import Derived.Test.YtdphppbocoinjaaOBlkSegmentsx5
namespace Go.Proofs.Ytdphppbocoinjaa.SegPure
open Go.RowKit Go.Proofs.Ytdphppbocoinjaa.PBlkSegments Go.Proofs.YtdphppbocoinjaaW.PrintWords Go.Proofs.YtdphppbocoinjaaW.PrintLast Go.Proofs.YtdphppbocoinjaaW.PrintMore
set_option linter.unusedVariables false

/-- Segments as both sides read them. -/
def go : List Int → List S81 → List S81 × Int
  | a :: b :: r, acc => if b / 4 > 3 then ([], 4) else if b % 4 > b / 4 then ([], 4) else go r (acc ++ [⟨a, b % 4, b / 4⟩])
  | _, acc => (acc, 0)
theorem and3 (b : Int) (h0 : 0 ≤ b) (h1 : b < 256) : Go.bits .and .u8 b 3 = b % 4 := by
  have h : ∀ i : Fin 256, Go.bits .and .u8 ((i.val : Nat) : Int) 3 = ((i.val : Nat) : Int) % 4 := by decide +kernel
  have := h ⟨b.toNat, by omega⟩
  simp only [Int.toNat_of_nonneg h0] at this
  exact this
theorem wrap_in {x : Int} (h0 : 0 ≤ x) (h1 : x < 9223372036854775807) : wrap64 x = x := by unfold wrap64; omega
theorem blk_l0 : ∀ (n k : Nat) (l : List Int) (acc : List S81), l.length = 2 * n → n < k → (∀ x ∈ l, 0 ≤ x ∧ x < 256) → acc.length + n < 5864062014805 → blk_Segments.l0 k l acc = some (go l acc)
  | 0, k, l, acc, hl, hk, hb, ha => by
    obtain rfl : l = [] := List.length_eq_zero_iff.1 (by omega)
    obtain ⟨k, rfl⟩ : ∃ j, k = j + 1 := ⟨k - 1, by omega⟩
    rfl
  | n + 1, k, l, acc, hl, hk, hb, ha => by
    obtain ⟨k, rfl⟩ : ∃ j, k = j + 1 := ⟨k - 1, by omega⟩
    match l, hl with
    | a :: b :: r, hl =>
      have hA := hb a (by simp)
      have hB := hb b (by simp)
      have hr : r.length = 2 * n := by simp only [List.length_cons] at hl; omega
      have e0 : rd (a :: b :: r) 0 = a := rfl
      have e1 : rd (a :: b :: r) 1 = b := rfl
      have e2 : (a :: b :: r).drop 2 = r := rfl
      have hlen : ((a :: b :: r).length : Int) = r.length + 2 := by simp only [List.length_cons]; omega
      have ih := fun acc' h => blk_l0 n k r acc' hr (by omega) (fun x hx => hb x (by simp [hx])) h
      unfold blk_Segments.l0 go
      have v1 : wrap64 a = a := wrap_in (by omega) (by omega)
      have v2 : wrap64 (b / 4) = b / 4 := wrap_in (by omega) (by omega)
      have v3 : wrap64 (b % 4) = b % 4 := wrap_in (by omega) (by omega)
      rw [e0, e1, e2, and3 b hB.1 hB.2, v1, v2, v3, hlen]
      rw [if_pos (by omega), if_pos (by omega), if_pos (by omega)]
      by_cases c1 : b / 4 > 3
      · rw [if_pos c1, if_pos c1]
      · rw [if_neg c1, if_neg c1]
        by_cases c2 : b % 4 > b / 4
        · rw [if_pos c2, if_pos c2]
        · rw [if_neg c2, if_neg c2, if_pos (by omega), if_pos (by omega)]
          exact ih _ (by simp only [List.length_append, List.length_singleton]; omega)
theorem rd_get (l : List Int) (i : Nat) (h : i < l.length) : rd l (i : Int) = l[i] := by
  unfold rd
  rw [Int.toNat_natCast, List.getD_eq_getElem?_getD, List.getElem?_eq_getElem h, Option.getD_some]
theorem ref_l0 (l : List Int) (hb : ∀ x ∈ l, 0 ≤ x ∧ x < 256) (hz : l.length < 1000000000000) : ∀ (n k j : Nat) (acc : List S81), l.length = 2 * (j + n) → n < k → acc.length + n < 5864062014805 → tenementref13_Segments.l0 k l acc ((2 * j : Nat) : Int) = some (go (l.drop (2 * j)) acc)
  | 0, k, j, acc, hl, hk, ha => by
    obtain ⟨k, rfl⟩ : ∃ j, k = j + 1 := ⟨k - 1, by omega⟩
    rw [List.drop_eq_nil_of_le (by omega)]
    unfold tenementref13_Segments.l0
    rw [if_neg (by omega)]
    rfl
  | n + 1, k, j, acc, hl, hk, ha => by
    obtain ⟨k, rfl⟩ : ∃ j, k = j + 1 := ⟨k - 1, by omega⟩
    have ih := fun acc' h => ref_l0 l hb hz n k (j + 1) acc' (by omega) (by omega) h
    have h0 : 2 * j < l.length := by omega
    have h1 : 2 * j + 1 < l.length := by omega
    have d0 : l.drop (2 * j) = l[2 * j] :: l[2 * j + 1] :: l.drop (2 * (j + 1)) := by
      rw [List.drop_eq_getElem_cons h0, List.drop_eq_getElem_cons h1]
      rfl
    have hA := hb _ (List.getElem_mem h0)
    have hB := hb _ (List.getElem_mem h1)
    have r0 := rd_get l (2 * j) h0
    have r1 := rd_get l (2 * j + 1) h1
    have w1 : wrap64 (((2 * j : Nat) : Int) + 1) = ((2 * j + 1 : Nat) : Int) := (wrap_in (by omega) (by omega)).trans (by omega)
    have w2 : wrap64 (((2 * j : Nat) : Int) + 2) = ((2 * (j + 1) : Nat) : Int) := (wrap_in (by omega) (by omega)).trans (by omega)
    rw [d0]
    unfold tenementref13_Segments.l0 go
    rw [w1, w2, r0, r1]
    generalize l[2 * j] = a at hA ⊢
    generalize l[2 * j + 1] = b at hB ⊢
    have t1 : Int.tdiv b 4 % 256 = b / 4 := by rw [Int.tdiv_eq_ediv_of_nonneg hB.1]; omega
    have t2 : wrap64 (Int.tmod b 4) = b % 4 := by rw [Int.tmod_eq_emod_of_nonneg hB.1]; exact wrap_in (by omega) (by omega)
    rw [t1, t2, wrap_in (x := a) (by omega) (by omega)]
    rw [if_pos (by omega), if_pos (by omega), if_pos (by omega), if_pos (by omega)]
    by_cases c1 : b / 4 > 3
    · rw [if_pos c1, if_pos c1]
    · rw [if_neg c1, if_neg c1]
      by_cases c2 : b % 4 > b / 4
      · rw [if_pos c2, if_pos c2]
      · rw [if_neg c2, if_neg c2, if_pos (by omega)]
        exact ih _ (by simp only [List.length_append, List.length_singleton]; omega)
theorem same_l0 (s : List S81) (hz : s.length < 1000000000000) : ∀ (n k j : Nat), s.length = j + n → n < k → tenementlaw13_segments.l0 k s s ((j : Nat) : Int) = some true
  | 0, k, j, hl, hk => by
    obtain ⟨k, rfl⟩ : ∃ j, k = j + 1 := ⟨k - 1, by omega⟩
    unfold tenementlaw13_segments.l0
    rw [if_neg (by omega)]
  | n + 1, k, j, hl, hk => by
    obtain ⟨k, rfl⟩ : ∃ j, k = j + 1 := ⟨k - 1, by omega⟩
    unfold tenementlaw13_segments.l0
    rw [if_pos (by omega), if_pos (by omega), if_pos (by omega), if_neg (by simp), wrap_in (by omega) (by omega)]
    exact same_l0 s hz n k (j + 1) (by omega) (by omega)
theorem go_len : ∀ (n : Nat) (l : List Int) (acc : List S81), l.length ≤ n → (go l acc).1.length ≤ acc.length + n
  | 0, l, acc, h => by
    obtain rfl : l = [] := List.length_eq_zero_iff.1 (by omega)
    simp [go]
  | n + 1, l, acc, h => by
    match l with
    | [] => simp [go]
    | [a] => simp [go]
    | a :: b :: r =>
      unfold go
      split
      · simp
      · split
        · simp
        · have := go_len n r (acc ++ [⟨a, b % 4, b / 4⟩]) (by simp only [List.length_cons] at h; omega)
          simp only [List.length_append, List.length_singleton] at this
          simp only [List.length_cons] at h
          have h3 := go_len (n - 1) r (acc ++ [⟨a, b % 4, b / 4⟩]) (by omega)
          simp only [List.length_append, List.length_singleton] at h3
          omega

theorem byte_of {l : List Int} (h : ∀ x ∈ l, (Lit.int .u8 x).wf = true) : ∀ x ∈ l, 0 ≤ x ∧ x < 256 := by
  intro x hx
  have := h x hx
  simp [Lit.wf, IntKind.min, IntKind.max, IntKind.signed, IntKind.bits] at this
  omega
theorem awake_f : tenementlaw13_awake.f = some true := by decide
/-- Of at most 1048576 bytes. -/
theorem BlkSegments (l : List Int) (hz : l.length ≤ 1048576) (hw : ∀ x ∈ l, (Lit.int .u8 x).wf = true) : tenementlaw13_BlkSegments.f 2000000 l = some true := by
  have hb := byte_of hw
  unfold tenementlaw13_BlkSegments.f
  have hy : ((some (([] : List Int) : List Int)) : Option (List Int)) = some [] := rfl
  simp only [Option.bind_some, List.nil_append, List.length_nil]
  rw [if_pos (by omega)]
  unfold blk_Segments.f tenementref13_Segments.f
  by_cases h : (l.length : Int) % 2 = 0
  · rw [if_pos h, if_pos h]
    have e1 := blk_l0 (l.length / 2) 2000000 l [] (by omega) (by omega) hb (by simp only [List.length_nil]; omega)
    have e2 := ref_l0 l hb (by omega) (l.length / 2) 2000000 0 [] (by omega) (by omega) (by simp only [List.length_nil]; omega)
    have e2' : tenementref13_Segments.l0 2000000 l [] 0 = some (go l []) := e2
    rw [e1, e2']
    have hl := go_len l.length l [] (Nat.le_refl _)
    simp only [List.length_nil] at hl
    have e3 : tenementlaw13_segments.f 2000000 (go l []).1 (go l []).1 = some true := by
      unfold tenementlaw13_segments.f
      rw [if_pos rfl]
      exact same_l0 _ (by omega) _ 2000000 0 (Nat.zero_add _).symm (by omega)
    simp only [Option.bind_some, e3, if_true, awake_f]
  · rw [if_neg h, if_neg h]
    have e3 : tenementlaw13_segments.f 2000000 ([] : List S81) [] = some true := by
      unfold tenementlaw13_segments.f
      rw [if_pos rfl]
      exact same_l0 [] (by simp) 0 2000000 0 rfl (by omega)
    simp only [Option.bind_some, e3, if_true, awake_f]
end Go.Proofs.Ytdphppbocoinjaa.SegPure
