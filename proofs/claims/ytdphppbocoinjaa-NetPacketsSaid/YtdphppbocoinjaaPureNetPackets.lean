/- Proved: a network request's and buffer's bytes are the document's; no condition beside the row's own. -/
import Derived.Test.YtdphppbocoinjaaONetPacketsx1
namespace Go.Proofs.Ytdphppbocoinjaa.Pure
open Go.RowKit Go.Proofs.Ytdphppbocoinjaa.PNetPackets Go.Proofs.YtdphppbocoinjaaW.PrintWords Go.Proofs.YtdphppbocoinjaaW.PrintLast

theorem in_f (a b : Int) : net_in.f a b = some (decide (0 ≤ a ∧ a ≤ b)) := by
  unfold net_in.f
  by_cases h : a ≥ 0
  · rw [if_pos h]; congr 1; simp; intro; omega
  · rw [if_neg h]; congr 1; simp; omega
theorem small_f (a : Int) : tenementref15_small.f a = some (decide (0 ≤ a ∧ a ≤ 255)) := by
  unfold tenementref15_small.f
  by_cases h : a ≥ 0
  · rw [if_pos h]; congr 1; rw [decide_eq_decide]; omega
  · rw [if_neg h]; congr 1; simp; omega

theorem packets_eq (a b c d : Int) : ∃ r, net_Packet.f a b c d = some r ∧ tenementref15_Packet.f a b c d = some r := by
  unfold net_Packet.f tenementref15_Packet.f
  simp only [in_f, small_f, Option.bind_some, decide_eq_true_eq]
  by_cases ha : 0 ≤ a ∧ a ≤ 255
  · rw [if_pos ha, if_pos ha]
    by_cases hb : 0 ≤ b ∧ b ≤ 255
    · rw [if_pos hb, if_pos hb]
      by_cases hc : 0 ≤ c ∧ c ≤ 255
      · rw [if_pos hc, if_pos hc]
        by_cases hd : 0 ≤ d ∧ d ≤ 65535
        · rw [if_pos hd, if_neg (show ¬ d < 0 by omega), if_neg (show ¬ d ≥ 65536 by omega), if_pos (show 16 ≤ 281474976710656 by decide)]
          have e1 : Int.tmod d 256 % 256 = d % 256 := by rw [Int.tmod_eq_emod_of_nonneg (by omega)]; omega
          have e2 : wrap64 (Int.tdiv d 256) % 256 = d / 256 % 256 := by
            rw [Int.tdiv_eq_ediv_of_nonneg (by omega)]; unfold wrap64; omega
          refine ⟨([a % 256, b % 256, c % 256, 0, d % 256, d / 256 % 256, 0, 0, 0, 0, 0, 0, 0, 0, 0, 0], 0), ?_, ?_⟩
          · simp [List.replicate]
          · simp only [e1, e2, List.length_cons, List.length_nil]
            rw [if_pos (by omega)]
            rfl
        · rw [if_neg hd]
          by_cases hd0 : d < 0
          · rw [if_pos hd0]; exact ⟨_, rfl, rfl⟩
          · rw [if_neg hd0, if_pos (by omega)]; exact ⟨_, rfl, rfl⟩
      · rw [if_neg hc, if_neg hc]; exact ⟨_, rfl, rfl⟩
    · rw [if_neg hb, if_neg hb]; exact ⟨_, rfl, rfl⟩
  · rw [if_neg ha, if_neg ha]; exact ⟨_, rfl, rfl⟩

theorem awake_f : tenementlaw15_awake.f = some true := by
  unfold tenementlaw15_awake.f net_Packet.f
  simp only [in_f, Option.bind_some]
  decide

theorem NetPackets : tenementlaw15_NetPackets.Pure := by
  intro a b c d _ _ _ _
  obtain ⟨r, e1, e2⟩ := packets_eq a b c d
  obtain ⟨q, e3, e4⟩ := packets_eq a 0 0 d
  refine ⟨1, ?_⟩
  unfold tenementlaw15_NetPackets.f
  rw [e1, e2]
  simp only [Option.bind_some, if_true, tenementlaw15_NetPackets.j0, net_Buffer.f, tenementref15_Buffer.f, e3, e4, awake_f]
  simp

end Go.Proofs.Ytdphppbocoinjaa.Pure
