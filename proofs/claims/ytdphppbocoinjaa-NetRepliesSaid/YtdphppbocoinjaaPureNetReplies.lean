/- Proved: every row of bytes as a network response is the document's answer; the condition is the row's own: each argument takes at most 2^47 - 4096 bytes. -/
import Derived.Test.YtdphppbocoinjaaPNetRepliesx1
import Derived.Laws.BitsLemmas
namespace Go.Proofs.Ytdphppbocoinjaa.Pure
open Go.RowKit Go.Proofs.Ytdphppbocoinjaa.PNetReplies Go.Proofs.YtdphppbocoinjaaW.PrintWords Go.Proofs.YtdphppbocoinjaaW.PrintLast

theorem wraps_i64 (n : Int) (h₀ : 0 ≤ n) (h₁ : n < 2 ^ 63) : IntKind.i64.wrap n = n := by rw [IntKind.wrap_i64]; omega
theorem or_bytes (x y : Int) (hx : 0 ≤ x) (hx1 : x < 256) (hy : 0 ≤ y) (hy1 : y < 256) : Go.bits .or .i64 x (y * 256) = x + 256 * y := by
  have hc : Go.bits .or .i64 x (y * 256) = Go.bits .or .i64 (y * 256) x := by
    simp only [bits]; rw [BitVec.or_comm]
  rw [hc, bits_join .i64 63 (by decide) wraps_i64 8 (y * 256) x (by omega) (by omega) (by omega) hx (by omega) (by omega)]; omega
theorem wrap_small (x : Int) (h : 0 ≤ x) (h1 : x < 100000) : wrap64 x = x := by unfold wrap64; omega
theorem byte_rd {l : List Int} (h : ∀ x ∈ l, (Lit.int .u8 x).wf = true) (i : Int) : 0 ≤ rd l i ∧ rd l i < 256 := by
  unfold rd
  rw [List.getD_eq_getElem?_getD]
  by_cases hi : i.toNat < l.length
  · rw [List.getElem?_eq_getElem hi, Option.getD_some]
    have := h _ (List.getElem_mem hi)
    simp [Lit.wf, IntKind.min, IntKind.max, IntKind.signed, IntKind.bits] at this
    omega
  · rw [List.getElem?_eq_none (by omega), Option.getD_none]; omega

theorem NetReplies : tenementlaw15_NetReplies.Pure := by
  intro l0 h1 h2 h3
  unfold tenementlaw15_NetReplies.f
  simp only [Option.bind_some, List.nil_append, List.length_nil, Nat.zero_add]
  rw [if_pos (by omega)]
  have e : ∃ r, net_Reply.f l0 = some r ∧ tenementref15_Reply.f l0 = some r := by
    unfold net_Reply.f tenementref15_Reply.f
    by_cases h : (l0.length : Int) = 8
    · obtain ⟨a0, a1⟩ := byte_rd h3 0
      obtain ⟨b0, b1⟩ := byte_rd h3 1
      rw [if_pos h, if_pos (by omega), if_pos (by omega), if_pos (by omega), if_pos (by omega), if_pos h, if_pos (by omega), if_pos (by omega), if_pos (by omega), if_pos (by omega)]
      refine ⟨_, rfl, ?_⟩
      rw [wrap_small (rd l0 0) a0 (by omega), wrap_small (rd l0 1) b0 (by omega), wrap_small (rd l0 1 * 256) (by omega) (by omega), wrap_small (256 * rd l0 1) (by omega) (by omega), wrap_small (rd l0 0 + 256 * rd l0 1) (by omega) (by omega), or_bytes _ _ a0 a1 b0 b1]
    · rw [if_neg h, if_neg h]; exact ⟨_, rfl, rfl⟩
  obtain ⟨r, e1, e2⟩ := e
  rw [e1, e2]
  have ha : tenementlaw15_awake.f = some true := by decide
  simp [ha]

end Go.Proofs.Ytdphppbocoinjaa.Pure
