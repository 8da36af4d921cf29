/- Proved: the document's machine is written (contracts for the laws of the grants). -/
import Derived.Test.YtjeobbhaoahdcaaRgA
import Derived.Test.YtjeobbhaoahdcaaGfC
namespace Go.Proofs.Ytjeobbhaoahdcaa.GoA
open Go.RowKit Go.Maps Go.Proofs.Ytjeobbhaoahdcaa.Base Go.Proofs.Ytjeobbhaoahdcaa.GaA Go.Proofs.Ytjeobbhaoahdcaa.GaB Go.Proofs.Ytjeobbhaoahdcaa.GaC Go.Proofs.Ytjeobbhaoahdcaa.GaD Go.Proofs.Ytjeobbhaoahdcaa.RpA Go.Proofs.Ytjeobbhaoahdcaa.RmA Go.Proofs.Ytjeobbhaoahdcaa.RmB Go.Proofs.Ytjeobbhaoahdcaa.RmC
set_option linter.unusedVariables false
set_option linter.unusedSimpArgs false

/-- One byte is another. -/
def byS (s : MS) (k j : Nat) (b : UInt8) : MS := { s with byt := fun i l => if i = k ∧ l = j then b else s.byt i l }
theorem wr_take (s : MS) (k off : Nat) (zs : List UInt8) (i : Nat) (hi : i < zs.length) : byS (MS.wr s k off (zs.take i)) k (off + i) (zs.getD i 0) = MS.wr s k off (zs.take (i + 1)) := by
  unfold byS MS.wr
  congr 1
  funext a l
  simp only [List.length_take]
  by_cases h : a = k ∧ l = off + i
  · obtain ⟨rfl, rfl⟩ := h
    rw [if_pos ⟨rfl, rfl⟩, if_pos (by omega)]
    rw [show off + i - off = i by omega, List.getD_eq_getElem?_getD, List.getD_eq_getElem?_getD, List.getElem?_take, if_pos (by omega)]
  · rw [if_neg h]
    by_cases h2 : a = k ∧ off ≤ l ∧ l < off + min i zs.length
    · rw [if_pos h2, if_pos (by omega), List.getD_eq_getElem?_getD, List.getD_eq_getElem?_getD, List.getElem?_take, List.getElem?_take, if_pos (by omega), if_pos (by omega)]
    · rw [if_neg h2, if_neg (by omega)]
section
variable {w w' : World} {rb Fb Bb cF cB : Nat} {bs : List Nat} {s : MS}
theorem RMach.slot (h : RMach w rb Fb Bb cF cB bs s) (k : Nat) (hk : k < s.n) : w.cell? ⟨Bb, k, none⟩ = some (.slice (some ⟨bs.getD k 0, 0, none⟩) 256 256) := by
  obtain ⟨cs, g1, g2⟩ := h.rows
  rw [blk_cell g1, g2 k hk]
theorem RMach.byte (h : RMach w rb Fb Bb cF cB bs s) (k j : Nat) (hk : k < s.n) (hj : j < 256) : w.cell? ⟨bs.getD k 0, j, none⟩ = some (.int .u8 ((s.byt k j).toNat : Int)) := by
  rw [blk_cell (h.page k hk)]
  simp only [u8s, MS.rd, List.getElem?_toArray, List.getElem?_map]
  rw [List.getElem?_range hj]
  simp
theorem RMach.mem (h : RMach w rb Fb Bb cF cB bs s) (k : Nat) (hk : k < s.n) : bs.getD k 0 ∈ bs := by
  rw [List.getD_eq_getElem?_getD, List.getElem?_eq_getElem (by rw [h.len]; exact hk)]
  exact List.getElem_mem _
theorem rd_set (s : MS) (k j : Nat) (b : UInt8) (hj : j < 256) : (u8s (MS.rd s k 0 256)).toArray.setIfInBounds j (.int .u8 (b.toNat : Int)) = (u8s (MS.rd (byS s k j b) k 0 256)).toArray := by
  apply Array.ext_getElem?
  intro i
  rw [Array.getElem?_setIfInBounds]
  simp only [u8s, MS.rd, List.size_toArray, List.length_map, List.length_range, List.getElem?_toArray, List.getElem?_map]
  by_cases hi : i < 256
  · rw [List.getElem?_range hi]
    simp only [Option.map_some]
    by_cases h : j = i
    · subst h
      rw [if_pos rfl, if_pos hj]
      simp [byS]
    · rw [if_neg h]
      have : ¬ (0 + i = j) := by omega
      simp [byS, show ¬ i = j by omega]
  · rw [List.getElem?_eq_none (by simp; omega)]
    rw [if_neg (by omega)]
    simp
theorem rd_other (s : MS) (k j i : Nat) (b : UInt8) (h : i ≠ k) : MS.rd (byS s k j b) i 0 256 = MS.rd s i 0 256 := by
  unfold MS.rd byS
  simp [h]
theorem rmach_byte (h : RMach w rb Fb Bb cF cB bs s) (k : Nat) (hk : k < s.n) (j : Nat) (hj : j < 256) (b : UInt8) : RMach (w.setCell ⟨bs.getD k 0, j, none⟩ (.int .u8 (b.toNat : Int))) rb Fb Bb cF cB bs (byS s k j b) ∧ Chg (fun x => x = bs.getD k 0) w (w.setCell ⟨bs.getD k 0, j, none⟩ (.int .u8 (b.toNat : Int))) := by
  obtain ⟨cs, g1, g2⟩ := h.frs
  obtain ⟨cs2, g3, g4⟩ := h.rows
  have hp := h.page k hk
  have hc := chg_fb (Chg.refl (fun x => x = bs.getD k 0) w) j (.int .u8 (b.toNat : Int))
  refine ⟨⟨hc.blk h.blk (blk_ne h.blk hp (by decide)), ⟨cs, hc.blk g1 (blk_ne g1 hp (by decide)), fun i l hi hl => by rw [g2 i l hi hl]; match l, hl with | 0, _ => rfl | 1, _ => rfl | 2, _ => rfl | 3, _ => rfl⟩, ⟨cs2, hc.blk g3 (blk_ne g3 hp (by decide)), g4⟩, h.len, h.nodup, fun i hi => ?_, h.few⟩, hc⟩
  by_cases hik : i = k
  · subst hik
    exact blk_put hp j _ (rd_set s i j b hj)
  · rw [rd_other s k j i b hik]
    have hi2 : i < bs.length := by rw [h.len]; exact hi
    have hk2 : k < bs.length := by rw [h.len]; exact hk
    refine hc.blk (h.page i hi) (fun e => hik ?_)
    rw [List.getD_eq_getElem?_getD, List.getD_eq_getElem?_getD, List.getElem?_eq_getElem hi2, List.getElem?_eq_getElem hk2] at e
    exact (List.getElem_inj h.nodup).1 e
set_option maxHeartbeats 4000000 in
set_option maxRecDepth 100000 in
theorem in_ok (h : RMach w rb Fb Bb cF cB bs s) (k off n : Nat) (hk : k < s.n) (ho : off + n ≤ 256) : Calls Try.prog 79 #[.pointer (some ⟨rb, 0, none⟩), .int .i64 k, .int .i64 off, .int .i64 n] w fun e w' => e = .returned (.bool true) ∧ w' = w := by
  have hi := is_calls h k hk
  have d0 : decide ((0 : Int) ≤ (off : Int)) = true := decide_eq_true (by omega)
  have d1 : decide ((0 : Int) ≤ (n : Int)) = true := decide_eq_true (by omega)
  have d2 : decide ((off : Int) ≤ 256) = true := decide_eq_true (by omega)
  have d3 : decide ((n : Int) ≤ 256 - (off : Int)) = true := decide_eq_true (by omega)
  clear h
  go_enter Try.func79, Try.ntmps79
  go_wp2_with (first
    | (go_at_call 85; refine hi.mono ?_; rintro z w1 ⟨rfl, hw1⟩; obtain rfl := hw1.symm)
    | go_in)
  go_ret
  exact ⟨by first | rfl | (simp; done), rfl⟩
set_option maxHeartbeats 600000 in
set_option maxRecDepth 100000 in
theorem rwrite (h : RMach w rb Fb Bb cF cB bs s) (k off : Nat) (hk : k < s.n) (hown : (s.fr k).own ≠ -1) (x : Addr) (c : Nat) (zs : List UInt8) (hz : Holds w x zs) (ho : off + zs.length ≤ 256) (hx : x.block ≠ bs.getD k 0) :
    Calls Try.prog 52 #[.pointer (some ⟨rb, 0, none⟩), .int .i64 k, .int .i64 off, .slice (some x) zs.length c] w fun e w' => e = .returned (.int .i64 0) ∧ RMach w' rb Fb Bb cF cB bs (MS.wr s k off zs) ∧ Chg (fun y => y = bs.getD k 0) w w' := by
  have hin := in_ok h k off zs.length hk ho
  have C0 := fun i => blk_cell h.blk i
  have L0 := blk_lt h.blk
  have LF := h.lt.2.1
  have c0 := h.own k hk
  have e2 : (0 : Int) ≤ (k : Int) := Int.natCast_nonneg _
  have e3 : (k : Int) < (s.n : Int) := by omega
  have d0 : ((s.fr k).own == -1) = false := by simp [hown]
  obtain ⟨n, hn⟩ : ∃ n, n = zs.length := ⟨_, rfl⟩
  rw [← hn] at hin ho ⊢
  have hst : RMach w rb Fb Bb cF cB bs (MS.wr s k off (zs.take 0)) := by rw [List.take_zero, wr_none]; exact h
  have HS := Base.Aside.mk (And.intro hst (And.intro hz h))
  have HN := Base.Aside.mk hn
  have HX := Base.Aside.mk hx
  clear h hz hst hown hn hx
  go_enter Try.func52, Try.ntmps52
  go_wp2_with (first
    | (go_at_call 79; refine hin.mono ?_; rintro z w1 ⟨rfl, hw1⟩; obtain rfl := hw1.symm)
    | go_in)
  clear C0 L0 LF c0
  go_loopw [9] (fun v wr => ∃ (i : Nat) (W2 : World), i ≤ n ∧ v = .int .i64 i ∧ wr = W2 ∧ Base.Aside (RMach W2 rb Fb Bb cF cB bs (MS.wr s k off (zs.take i)) ∧ Chg (fun y => y = bs.getD k 0) w W2)) (fun v _ => n - (intOf v).toNat)
  case atStart => exact ⟨0, w, by omega, rfl, rfl, ⟨HS.out.1, Chg.refl _ _⟩⟩
  case round =>
    obtain ⟨i, W2, hi, rfl, hwr, hA⟩ := hrel
    obtain rfl := hwr.symm
    by_cases hlt : i < n
    · have h2 := hA.out.1
      have C2 := fun i => blk_cell h2.blk i
      have L2 := blk_lt h2.blk
      have hn := HN.out
      have hs2 := RMach.slot h2 k hk
      have LB := h2.lt.2.2
      have hb2 := RMach.byte h2 k (off + i) hk (by omega)
      have hpg := h2.page k hk
      have f2 := fun j => blk_frozen hpg j
      have hz2 := HS.out.2.1.chg hA.out.2 HX.out
      have c3 := hz2.cell i (by omega)
      have LX := hz2.lt
      have LP := blk_lt hpg
      have hd : zs.getD i 0 = zs[i]'(by omega) := by rw [List.getD_eq_getElem?_getD, List.getElem?_eq_getElem (by omega)]; rfl
      have hnx := rmach_byte h2 k hk (off + i) (by omega) (zs.getD i 0)
      rw [wr_take s k off zs i (by omega)] at hnx
      rw [← hd] at c3
      generalize zs.getD i 0 = z at c3 hnx
      generalize (MS.wr s k off (zs.take i)).byt k (off + i) = ob at hb2
      have hn2 : (MS.wr s k off (zs.take i)).n = s.n := rfl
      rw [hn2] at C2
      have b1 : (0 : Int) ≤ (off : Int) + i := by omega
      have b2 : (off : Int) + i < 256 := by omega
      have b3 : (0 : Int) ≤ (i : Int) := by omega
      have b4 : (i : Int) < (n : Int) := by omega
      have HNX := Base.Aside.mk (And.intro hnx.1 (hA.out.2.trans hnx.2))
      obtain ⟨pk, hpk⟩ : ∃ pk, pk = bs.getD k 0 := ⟨_, rfl⟩
      rw [← hpk] at hs2 hb2 f2 LP
      have HPK := Base.Aside.mk hpk
      clear h2 hpg hz2 hnx hd hn2 hn hpk
      go_wp2
      go_region
      all_goals
        go_wp2
        refine ⟨⟨i + 1, _, by omega, by simp, rfl, ⟨?_, ?_⟩⟩, by simp [intOf]; omega⟩
        · have h9 := HNX.out.1
          rw [← HPK.out] at h9
          exact h9.below (Below.refl _ _).drew
        · have h9 := HNX.out.2
          rw [← HPK.out] at h9 ⊢
          exact h9.drew
    · obtain rfl : i = n := by omega
      go_wp2
      go_ret
      have ht : zs.take i = zs := List.take_of_length_le (by have := HN.out; omega)
      have h3 := hA.out
      rw [ht] at h3
      exact ⟨by first | rfl | (simp; done), h3.1, h3.2⟩
end
end Go.Proofs.Ytjeobbhaoahdcaa.GoA
