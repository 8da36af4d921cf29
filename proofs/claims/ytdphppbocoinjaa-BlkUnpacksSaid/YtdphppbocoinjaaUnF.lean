/- Proved: the document's Unpack of a block request, whatever the bytes; and the law of requests read from bytes, by its walk. -/
import Derived.Test.YtdphppbocoinjaaUnE
namespace Go.Proofs.Ytdphppbocoinjaa.UN
open Go.RowKit Go.Proofs.YtdphppbocoinjaaW.PrintWords Go.Proofs.YtdphppbocoinjaaW.PrintLast Go.Proofs.YtdphppbocoinjaaW.PrintMore Go.Proofs.Ytdphppbocoinjaa.GU Go.Proofs.Ytdphppbocoinjaa.PBlkUnpacks Go.Proofs.Ytdphppbocoinjaa.UnPure
set_option linter.unusedVariables false

set_option maxHeartbeats 4000000 in
set_option maxRecDepth 100000 in
theorem ref_len (A : Option Addr) (n c : Nat) (w : World) (hn : ((n : Int) != 16) = true) : Calls Try.prog 42 #[.slice A n c] w (UOut w 0 0 0 [] 0 0 1) := by
  go_enter Try.func42, Try.ntmps42
  go_wp2
  refine bodyPost_ret (v := .tuple #[.agg #[.int .i64 0, .int .i64 0, .int .i64 0, .slice none 0 0], .int .i64 0, .int .i64 0, .int .i64 1]) ?_ rfl (UOut.nil ?_)
  · simp only [results, Try.results42]; first | (go_simp; done) | (go_simp; rfl)
  · repeat (with_reducible first | exact Below.refl _ _ | apply below_alloc | apply pw_below_drewN | apply below_drew1 | refine below_set ?_ (by omega))
def UT (w : World) (t : Int × Int × Int × List S81 × Int × Int × Int) (e : Ending) (w' : World) : Prop := UOut w t.1 t.2.1 t.2.2.1 t.2.2.2.1 t.2.2.2.2.1 t.2.2.2.2.2.1 t.2.2.2.2.2.2 e w'
def unpT (l : List Int) : Int × Int × Int × List S81 × Int × Int × Int := if l.length = 16 then unp l else (0, 0, 0, [], 0, 0, 1)
theorem add_far (b off : Nat) (sp : Option Nat) (i : Nat) : (⟨b, off, sp⟩ : Addr).add (8 + i) = (⟨b, off + 8, none⟩ : Addr).add i := by
  cases i with
  | zero => simp [Addr.add]
  | succ i => simp [Addr.add]; omega
theorem window_get (l : List Int) (hl : l.length = 16) (i : Nat) (hi : i < (window l).length) : (window l).getD i 0 = rd l ((8 + i : Nat) : Int) := by
  unfold rd
  have h2 : 8 + i < 8 + (2 * rd l 1).toNat := by
    unfold window at hi
    rw [List.length_drop, List.length_take] at hi
    omega
  rw [Int.toNat_natCast, List.getD_eq_getElem?_getD, List.getD_eq_getElem?_getD]
  unfold window
  rw [List.getElem?_drop, List.getElem?_take, if_pos h2]
theorem seg_calls (b off c : Nat) (sp : Option Nat) (l : List Int) (w : World) (hl : l.length = 16) (hc : 16 ≤ c) (h : (Kd.int .u8).C w (some ⟨b, off, sp⟩) l.length l) (hb : ∀ x ∈ l, 0 ≤ x ∧ x < 256) (n : Nat) (hn : rd l 1 = n) (h4 : n ≤ 4) (m : Nat) (hm : (m : Int) = 2 * rd l 1) (w' : World) (hw : Below w.heap.size w w') :
    Calls Try.prog 33 #[.slice (some ⟨b, off + 8, none⟩) m (c - 8)] w' (SegOut w' (go (window l) []).1 (go (window l) []).2) := by
  have hlen := window_len l hl n hn h4
  obtain rfl : m = (window l).length := by omega
  have hC : (Kd.int .u8).C w' (some ⟨b, off + 8, none⟩) (window l).length (window l) := by
    refine Kd.C_of_reads (d := (0 : Int)) (h1 := fun _ => rfl) ⟨rfl, by omega, fun hn => ⟨_, rfl, fun i hi => ?_⟩⟩
    have hx := Kd.foot_int h ((8 + i : Nat) : Int) (by omega) (by omega)
    rw [Int.toNat_natCast, add_far] at hx
    rw [window_get l hl i hi]
    exact pw_cell_below hw hx
  refine (tenementref13_Segments.calls 18 _ (c - 8) (window l) _ _ w' hC (by omega) (segs_f 18 (window l) n hlen h4 (by omega) (window_mem l hb)).2).mono ?_
  rintro e w2 ⟨v, rfl, hR, hb2⟩
  obtain ⟨A, c2, rfl⟩ := Kd.R_slice hR
  exact ⟨A, c2, rfl, hR, hb2⟩
theorem ref_any (A : Option Addr) (c : Nat) (l : List Int) (w : World) (h : (Kd.int .u8).C w A l.length l) (hlc : l.length ≤ c) (hb : ∀ x ∈ l, (Lit.int .u8 x).wf = true) : Calls Try.prog 42 #[.slice A l.length c] w (UT w (unpT l)) := by
  by_cases hl : l.length = 16
  · obtain ⟨⟨b, off, sp⟩, ca, rfl, -⟩ := Kd.C_get h 0 0 (by omega) (by omega)
    have hB := fun (i : Int) (h0 : 0 ≤ i) (h1 : i < 16) => And.intro (Kd.foot_int h i h0 (by omega)) (PureReplies.byte_rd hb i)
    have hby := byte_of hb
    have hh := h
    rw [hl]
    obtain ⟨c0, a0, b0⟩ := hB 0 (by omega) (by omega)
    obtain ⟨c1, a1, b1⟩ := hB 1 (by omega) (by omega)
    obtain ⟨c2, a2, b2⟩ := hB 2 (by omega) (by omega)
    obtain ⟨c3, a3, b3⟩ := hB 3 (by omega) (by omega)
    obtain ⟨c4, a4, b4⟩ := hB 4 (by omega) (by omega)
    obtain ⟨c5, a5, b5⟩ := hB 5 (by omega) (by omega)
    obtain ⟨c6, a6, b6⟩ := hB 6 (by omega) (by omega)
    obtain ⟨c7, a7, b7⟩ := hB 7 (by omega) (by omega)
    obtain ⟨c8, a8, b8⟩ := hB 8 (by omega) (by omega)
    obtain ⟨c9, a9, b9⟩ := hB 9 (by omega) (by omega)
    have mm : b < w.heap.size := World.block_lt_of_cell? w _ c1
    unfold UT unpT
    rw [if_pos hl]
    unfold unp
    by_cases hx : rd l 0 > 3
    · rw [if_pos hx]
      exact ref_high b off c (rd l 0) (rd l 1) (rd l 2) (rd l 3) (rd l 4) (rd l 5) (rd l 6) (rd l 7) (rd l 8) (rd l 9) sp w c0 c1 c2 c3 c4 c5 c6 c7 c8 c9 mm a0 b0 a1 b1 a2 b2 a3 b3 a4 b4 a5 b5 a6 b6 a7 b7 a8 b8 a9 b9 hx
    · rw [if_neg hx]
      by_cases h3 : rd l 0 = 3
      · rw [if_pos h3]
        have := ref_ind b off c (rd l 0) (rd l 1) (rd l 2) (rd l 3) (rd l 4) (rd l 5) (rd l 6) (rd l 7) (rd l 8) (rd l 9) sp w c0 c1 c2 c3 c4 c5 c6 c7 c8 c9 mm a0 b0 a1 b1 a2 b2 a3 b3 a4 b4 a5 b5 a6 b6 a7 b7 a8 b8 a9 b9 h3 _ rfl
        unfold IndOut at this
        split at this
        · rename_i hi
          rw [if_pos hi]
          exact this
        · rename_i hi
          rw [if_neg hi]
          exact this
      · rw [if_neg h3]
        cases hm : manyV (rd l 0) (rd l 1) 4
        · rw [if_neg (by decide)]
          exact ref_dirbad b off c (rd l 0) (rd l 1) (rd l 2) (rd l 3) (rd l 4) (rd l 5) (rd l 6) (rd l 7) (rd l 8) (rd l 9) sp w c0 c1 c2 c3 c4 c5 c6 c7 c8 c9 mm a0 b0 a1 b1 a2 b2 a3 b3 a4 b4 a5 b5 a6 b6 a7 b7 a8 b8 a9 b9 (by omega) hm
        · rw [if_pos rfl]
          have h4 := many_four a1 hm
          have HS := fun m hmm w' hw => seg_calls b off c sp l w hl (by omega) hh hby (rd l 1).toNat (by omega) (by omega) m hmm w' hw
          have hD : Calls Try.prog 42 #[.slice (some ⟨b, off, sp⟩) 16 c] w (DirOut w (rd l 0) (rd l 1) (rd l 2) (rd l 3) (rd l 4) (rd l 5) (rd l 6) (rd l 7) (go (window l) []).1 (go (window l) []).2) := by
            rcases h4 with h4 | h4 | h4 | h4 | h4
            · exact ref_dir0 b off c (rd l 0) (rd l 1) (rd l 2) (rd l 3) (rd l 4) (rd l 5) (rd l 6) (rd l 7) (rd l 8) (rd l 9) sp w c0 c1 c2 c3 c4 c5 c6 c7 c8 c9 mm a0 b0 a1 b1 a2 b2 a3 b3 a4 b4 a5 b5 a6 b6 a7 b7 a8 b8 a9 b9 (by omega) h4 hm (by omega) _ _ HS
            · exact ref_dir1 b off c (rd l 0) (rd l 1) (rd l 2) (rd l 3) (rd l 4) (rd l 5) (rd l 6) (rd l 7) (rd l 8) (rd l 9) sp w c0 c1 c2 c3 c4 c5 c6 c7 c8 c9 mm a0 b0 a1 b1 a2 b2 a3 b3 a4 b4 a5 b5 a6 b6 a7 b7 a8 b8 a9 b9 (by omega) h4 hm (by omega) _ _ HS
            · exact ref_dir2 b off c (rd l 0) (rd l 1) (rd l 2) (rd l 3) (rd l 4) (rd l 5) (rd l 6) (rd l 7) (rd l 8) (rd l 9) sp w c0 c1 c2 c3 c4 c5 c6 c7 c8 c9 mm a0 b0 a1 b1 a2 b2 a3 b3 a4 b4 a5 b5 a6 b6 a7 b7 a8 b8 a9 b9 (by omega) h4 hm (by omega) _ _ HS
            · exact ref_dir3 b off c (rd l 0) (rd l 1) (rd l 2) (rd l 3) (rd l 4) (rd l 5) (rd l 6) (rd l 7) (rd l 8) (rd l 9) sp w c0 c1 c2 c3 c4 c5 c6 c7 c8 c9 mm a0 b0 a1 b1 a2 b2 a3 b3 a4 b4 a5 b5 a6 b6 a7 b7 a8 b8 a9 b9 (by omega) h4 hm (by omega) _ _ HS
            · exact ref_dir4 b off c (rd l 0) (rd l 1) (rd l 2) (rd l 3) (rd l 4) (rd l 5) (rd l 6) (rd l 7) (rd l 8) (rd l 9) sp w c0 c1 c2 c3 c4 c5 c6 c7 c8 c9 mm a0 b0 a1 b1 a2 b2 a3 b3 a4 b4 a5 b5 a6 b6 a7 b7 a8 b8 a9 b9 (by omega) h4 hm (by omega) _ _ HS
          unfold DirOut at hD
          split at hD
          · rename_i hi
            rw [if_pos hi]
            exact hD
          · rename_i hi
            rw [if_neg hi]
            exact hD
  · unfold UT unpT
    rw [if_neg hl]
    exact ref_len A l.length c w (by simp; omega)
end Go.Proofs.Ytdphppbocoinjaa.UN
