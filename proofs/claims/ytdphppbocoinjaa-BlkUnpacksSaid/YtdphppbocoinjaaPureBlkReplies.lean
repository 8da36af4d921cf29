/- Proved: block responses as bytes and back, the program's answers and the document's; no condition beside the row's own. -/
import Derived.Test.YtdphppbocoinjaaPBlkRepliesx3
import Derived.Laws.BitsLemmas
namespace Go.Proofs.Ytdphppbocoinjaa.PureReplies
open Go.RowKit Go.Proofs.Ytdphppbocoinjaa.PBlkReplies Go.Proofs.YtdphppbocoinjaaW.PrintWords Go.Proofs.YtdphppbocoinjaaW.PrintLast

theorem wraps_i64 (n : Int) (h₀ : 0 ≤ n) (h₁ : n < 2 ^ 63) : IntKind.i64.wrap n = n := by rw [IntKind.wrap_i64]; omega
theorem or_bytes (x y : Int) (hx : 0 ≤ x) (hx1 : x < 256) (hy : 0 ≤ y) (hy1 : y < 256) : Go.bits .or .i64 x (y * 256) = x + 256 * y := by
  have hc : Go.bits .or .i64 x (y * 256) = Go.bits .or .i64 (y * 256) x := by
    simp only [bits]; rw [BitVec.or_comm]
  rw [hc, bits_join .i64 63 (by decide) wraps_i64 8 (y * 256) x (by omega) (by omega) (by omega) hx (by omega) (by omega)]; omega
theorem wrap_small (x : Int) (h : 0 ≤ x) (h1 : x < 100000) : wrap64 x = x := by unfold wrap64; omega
theorem byte_rd {l : List Int} (h : ∀ x ∈ l, (Lit.int .u8 x).wf = true) (i : Int) : 0 ≤ rd l i ∧ rd l i < 256 := by
  unfold rd
  rw [List.getD_eq_getElem?_getD]
  by_cases hi : i.toNat < l.length
  · rw [List.getElem?_eq_getElem hi, Option.getD_some]
    have := h _ (List.getElem_mem hi)
    simp [Lit.wf, IntKind.min, IntKind.max, IntKind.signed, IntKind.bits] at this
    omega
  · rw [List.getElem?_eq_none (by omega), Option.getD_none]; omega

theorem in_f (a b : Int) : blk_in.f a b = some (decide (0 ≤ a ∧ a ≤ b)) := by
  unfold blk_in.f
  by_cases h : a ≥ 0
  · rw [if_pos h]; congr 1; rw [decide_eq_decide]; omega
  · rw [if_neg h]; congr 1; symm; rw [decide_eq_false_iff_not]; omega

/-- Both packers, in full. -/
theorem packs (a b c : Int) : ∃ r : List Int × Int, blk_PackReply.f a b c = some r ∧ tenementref13_PackReply.f a b c = some r ∧
    (r = ([], 1) ∨ (r = ([a % 256, a / 256, b, c, 0, 0, 0, 0], 0) ∧ 0 ≤ a ∧ a < 65536 ∧ 0 ≤ b ∧ b < 256 ∧ 0 ≤ c ∧ c < 256)) := by
  unfold blk_PackReply.f tenementref13_PackReply.f
  simp only [in_f, Option.bind_some, decide_eq_true_eq]
  by_cases ha : 0 ≤ a ∧ a ≤ 65535
  · rw [if_pos ha, if_neg (show ¬ a < 0 by omega), if_neg (show ¬ a ≥ 65536 by omega)]
    by_cases hb : 0 ≤ b ∧ b ≤ 255
    · rw [if_pos hb, if_neg (show ¬ b < 0 by omega), if_neg (show ¬ b > 255 by omega)]
      by_cases hc : 0 ≤ c ∧ c ≤ 255
      · rw [if_pos hc, if_neg (show ¬ c < 0 by omega), if_neg (show ¬ c > 255 by omega)]
        have e1 : a / 256 % 256 = a / 256 := by omega
        have e2 : b % 256 = b := by omega
        have e3 : c % 256 = c := by omega
        have e4 : Int.tmod a 256 % 256 = a % 256 := by rw [Int.tmod_eq_emod_of_nonneg (by omega)]; omega
        have e5 : wrap64 (Int.tdiv a 256) % 256 = a / 256 := by
          rw [Int.tdiv_eq_ediv_of_nonneg (by omega)]; unfold wrap64; omega
        exact ⟨([a % 256, a / 256, b, c, 0, 0, 0, 0], 0), by rw [e1, e2, e3], by rw [e4, e5, e2, e3], .inr ⟨rfl, by omega, by omega, by omega, by omega, by omega, by omega⟩⟩
      · rw [if_neg hc]
        by_cases h0 : c < 0
        · rw [if_pos h0]; exact ⟨_, rfl, rfl, .inl rfl⟩
        · rw [if_neg h0, if_pos (show c > 255 by omega)]; exact ⟨_, rfl, rfl, .inl rfl⟩
    · rw [if_neg hb]
      by_cases h0 : b < 0
      · rw [if_pos h0]; exact ⟨_, rfl, rfl, .inl rfl⟩
      · rw [if_neg h0, if_pos (show b > 255 by omega)]; exact ⟨_, rfl, rfl, .inl rfl⟩
  · rw [if_neg ha]
    by_cases h0 : a < 0
    · rw [if_pos h0]; exact ⟨_, rfl, rfl, .inl rfl⟩
    · rw [if_neg h0, if_pos (show a ≥ 65536 by omega)]; exact ⟨_, rfl, rfl, .inl rfl⟩

/-- Both unpackers. -/
theorem unpacks (l : List Int) (h3 : ∀ x ∈ l, (Lit.int .u8 x).wf = true) : ∃ r, blk_UnpackReply.f l = some r ∧ tenementref13_UnpackReply.f l = some r := by
  unfold blk_UnpackReply.f tenementref13_UnpackReply.f
  by_cases h : (l.length : Int) = 8
  · obtain ⟨a0, a1⟩ := byte_rd h3 0
    obtain ⟨b0, b1⟩ := byte_rd h3 1
    have l0 : 0 < (l.length : Int) := by omega
    have l1 : 1 < (l.length : Int) := by omega
    have l2 : 2 < (l.length : Int) := by omega
    have l4 : 3 < (l.length : Int) := by omega
    simp only [if_pos h, if_pos l0, if_pos l1, if_pos l2, if_pos l4]
    refine ⟨_, rfl, ?_⟩
    rw [wrap_small (rd l 0) a0 (by omega), wrap_small (rd l 1) b0 (by omega), wrap_small (rd l 1 * 256) (by omega) (by omega), wrap_small (256 * rd l 1) (by omega) (by omega), wrap_small (rd l 0 + 256 * rd l 1) (by omega) (by omega), or_bytes _ _ a0 a1 b0 b1]
  · simp only [if_neg h]; exact ⟨_, rfl, rfl⟩

theorem there_and_back (a b c : Int) (h : 0 ≤ a ∧ a < 65536 ∧ 0 ≤ b ∧ b < 256 ∧ 0 ≤ c ∧ c < 256) : blk_UnpackReply.f [a % 256, a / 256, b, c, 0, 0, 0, 0] = some (a, b, c, 0) := by
  unfold blk_UnpackReply.f
  simp only [rd, List.length_cons, List.length_nil]
  have r0 : ([a % 256, a / 256, b, c, 0, 0, 0, 0] : List Int).getD (Int.toNat 0) 0 = a % 256 := rfl
  have r1 : ([a % 256, a / 256, b, c, 0, 0, 0, 0] : List Int).getD (Int.toNat 1) 0 = a / 256 := rfl
  have r2 : ([a % 256, a / 256, b, c, 0, 0, 0, 0] : List Int).getD (Int.toNat 2) 0 = b := rfl
  have r3 : ([a % 256, a / 256, b, c, 0, 0, 0, 0] : List Int).getD (Int.toNat 3) 0 = c := rfl
  rw [r0, r1, r2, r3, wrap_small (a % 256) (by omega) (by omega), wrap_small (a / 256) (by omega) (by omega), wrap_small (a / 256 * 256) (by omega) (by omega), wrap_small b (by omega) (by omega), wrap_small c (by omega) (by omega), or_bytes _ _ (by omega) (by omega) (by omega) (by omega)]
  rw [if_pos (by omega), if_pos (by omega), if_pos (by omega), if_pos (by omega), if_pos (by omega)]
  rw [show a % 256 + 256 * (a / 256) = a by omega]

theorem awake_f : tenementlaw13_awake.f = some true := by decide

theorem BlkReplies (a b c : Int) (l : List Int) (h2 : l.length * 1 ≤ 140737488351232) (h3 : ∀ x ∈ l, (Lit.int .u8 x).wf = true) : tenementlaw13_BlkReplies.f 2 a b c l = some true := by
  obtain ⟨r, e1, e2, hr⟩ := packs a b c
  obtain ⟨q, e3, e4⟩ := unpacks l h3
  unfold tenementlaw13_BlkReplies.f
  rw [e1, e2]
  simp only [Option.bind_some, if_true, bne_self_eq_false, tenementlaw13_BlkReplies.j0, Bool.false_eq_true, if_false, List.nil_append, List.length_nil, Nat.zero_add, e3, e4]
  rw [if_pos (by omega)]
  simp only [BEq.rfl, Bool.not_true, Bool.or_false, Bool.false_eq_true, if_false, tenementlaw13_BlkReplies.j1]
  rcases hr with rfl | ⟨rfl, h⟩
  · rw [if_neg (by simp)]; rw [awake_f]; rfl
  · rw [if_pos (by simp), there_and_back a b c h]; simp

end Go.Proofs.Ytdphppbocoinjaa.PureReplies
