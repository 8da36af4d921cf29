/- Proved: what Pack makes of an entry reads back as that entry; the document's Pack makes the same bytes. -/
import Derived.Test.YtdphppbocoinjaaGrantE
import Derived.Test.YtdphppbocoinjaaPGrantWordsx1
namespace Go.Proofs.Ytdphppbocoinjaa.GP
open Go.RowKit Go.Proofs.YtdphppbocoinjaaW.PrintWords Go.Proofs.YtdphppbocoinjaaW.PrintLast Go.Proofs.YtdphppbocoinjaaW.PrintMore Go.Proofs.Ytdphppbocoinjaa.PGrantWords
set_option linter.unusedVariables false

def pk (k : Int) (ro sub : Bool) (d gp off len : Int) : List Int := if Ok k d gp off len then pl k ro sub d gp off len else []
def pe (k d gp off len : Int) : Int := if Ok k d gp off len then 0 else 1
theorem wrap_in {x : Int} (h0 : -9223372036854775808 ≤ x) (h1 : x ≤ 9223372036854775807) : wrap64 x = x := by unfold wrap64; omega
theorem ref_f (k : Int) (ro sub : Bool) (d gp off len : Int) : tenementref06_Pack.f 1 k ro sub d gp off len = some (pk k ro sub d gp off len, pe k d gp off len) := by
  unfold tenementref06_Pack.f
  by_cases h : Ok k d gp off len
  · have h' := h
    unfold Ok at h'
    obtain ⟨h1, h2, h3, h4, h5, h6, h7, h8, h9, h10⟩ := h'
    rw [if_neg (by omega), if_neg (by omega), if_neg (by omega), if_neg (by omega), if_neg (by omega), if_neg (by omega), if_neg (by omega), if_neg (by omega), if_neg (by omega), if_neg (by omega)]
    rw [wrap_in (by omega) (by omega), decide_eq_false (by omega)]
    unfold tenementref06_Pack.j0 pk pe
    rw [if_pos h, if_pos h]
    have e1 : Int.tmod d 256 = d % 256 := Int.tmod_eq_emod_of_nonneg h3
    have e2 : Int.tmod gp 256 = gp % 256 := Int.tmod_eq_emod_of_nonneg h5
    have e3 : Int.tdiv d 256 = d / 256 := Int.tdiv_eq_ediv_of_nonneg h3
    have e4 : Int.tdiv gp 256 = gp / 256 := Int.tdiv_eq_ediv_of_nonneg h5
    have w1 : wrap64 (k + 4) = k + 4 := wrap_in (by omega) (by omega)
    have w2 : wrap64 (k + 8) = k + 8 := wrap_in (by omega) (by omega)
    have w3 : wrap64 (k + 4 + 8) = k + 4 + 8 := wrap_in (by omega) (by omega)
    have w4 : wrap64 (d / 256) = d / 256 := wrap_in (by omega) (by omega)
    have w5 : wrap64 (gp / 256) = gp / 256 := wrap_in (by omega) (by omega)
    have w6 : wrap64 (len - 1) = len - 1 := wrap_in (by omega) (by omega)
    have m1 : k % 256 = k := by omega
    have m2 : (k + 4) % 256 = k + 4 := by omega
    have m3 : (k + 8) % 256 = k + 8 := by omega
    have m4 : (k + 4 + 8) % 256 = k + 4 + 8 := by omega
    have m5 : d / 256 % 256 = d / 256 := by omega
    have m6 : gp / 256 % 256 = gp / 256 := by omega
    have m7 : off % 256 = off := by omega
    have m8 : (len - 1) % 256 = len - 1 := by omega
    simp only [e1, e2, e3, e4, w1, w2, w3, w4, w5, w6]
    cases ro <;> cases sub <;> simp [pl, b0, m1, m2, m3, m4, m5, m6, m7, m8]
  · have hb : tenementref06_Pack.j0 1 true k ro sub d gp off len = some (pk k ro sub d gp off len, pe k d gp off len) := by
      unfold tenementref06_Pack.j0 pk pe
      rw [if_neg h, if_neg h]
      rfl
    split
    · exact hb
    split
    · exact hb
    split
    · exact hb
    split
    · exact hb
    split
    · exact hb
    split
    · exact hb
    split
    · exact hb
    split
    · exact hb
    split
    · exact hb
    split
    · exact hb
    rw [wrap_in (by omega) (by omega), decide_eq_true (by unfold Ok at h; omega)]
    exact hb

def RowOut (w : World) (P : List Int) (r : Int) (e : Ending) (w' : World) : Prop := ∃ A c, e = .returned (.tuple #[.slice A P.length c, .int .i64 r]) ∧ (Kd.int .u8).C w' A P.length P ∧ Below w.heap.size w w'
theorem ref_calls (k : Int) (ro sub : Bool) (d gp off len : Int) (w : World) : Calls Try.prog 36 #[.agg #[.int .i64 k, .bool ro, .bool sub, .int .i64 d, .int .i64 gp, .int .i64 off, .int .i64 len]] w (RowOut w (pk k ro sub d gp off len) (pe k d gp off len)) := by
  refine (tenementref06_Pack.calls 1 k ro sub d gp off len _ _ w (ref_f k ro sub d gp off len)).mono ?_
  rintro e w' ⟨v, rfl, hR, hb⟩
  obtain ⟨A, c, rfl⟩ := Kd.R_slice hR
  exact ⟨A, c, rfl, (Kd.R_reads' hR).2.2, hb⟩
theorem C_block {w : World} {g : Nat} {xs : List Int} {cs : Array Value} (hb : w.heap[g]? = some (.cells cs 5 (0, 0))) (hc : cs = (xs.map (Value.int .u8)).toArray) (hl : xs.length ≤ 8) : (Kd.int .u8).C w (some ⟨g, 0, none⟩) xs.length xs := by
  refine Kd.C_of_reads (d := (0 : Int)) (h1 := fun _ => rfl) ⟨rfl, by omega, fun hn => ⟨_, rfl, fun i hi => ?_⟩⟩
  rw [add_plain, blk_cell hb, hc]
  simp [hi]
theorem C_nil (w : World) : (Kd.int .u8).C w none 0 [] := Kd.C_of_reads (d := (0 : Int)) (h1 := fun _ => rfl) ⟨rfl, by omega, fun hn => absurd hn (by omega)⟩
theorem pack_row (k : Int) (ro sub : Bool) (d gp off len : Int) (w : World) : Calls Try.prog 35 #[.agg #[.int .i64 k, .bool ro, .bool sub, .int .i64 d, .int .i64 gp, .int .i64 off, .int .i64 len]] w (RowOut w (pk k ro sub d gp off len) (pe k d gp off len)) := by
  refine (pack_calls k ro sub d gp off len w).mono ?_
  rintro e w' (⟨h, rfl, hb⟩ | ⟨h, g, rfl, hg, hl, hb⟩)
  · unfold pk pe
    rw [if_neg h, if_neg h]
    exact ⟨none, 0, rfl, C_nil _, hb⟩
  · unfold pk pe
    rw [if_pos h, if_pos h]
    exact ⟨some ⟨g, 0, none⟩, 8, rfl, C_block hg rfl (by simp [pl]), hb⟩

theorem conv_C (w : World) (A : Option Addr) (l : List Int) (c : Nat) (h : (Kd.int .u8).C w A l.length l) : (convert 22 9 (.slice A l.length c)).run Try.prog w = .ok (.string (strOfNums l)) w := by
  cases A with
  | none =>
    by_cases h0 : 0 < l.length
    · obtain ⟨ad, c', e, -⟩ := Kd.C_get h 0 0 (by omega) (by omega)
      cases e
    · have : l = [] := List.length_eq_zero_iff.1 (by omega)
      subst this
      exact run_convert_bytes_nil w 22 5 Try.underlying22 Try.underlying5 0 c 9 Try.underlying9
  | some ad =>
    have hl : (loadCells ad l.length).run Try.prog w = .ok (l.map (Value.int .u8)).toArray w := by
      have := run_loadCells_list (P := Try.prog) w ad (l.map (Value.int .u8)) (fun j v hj => by
        have hjl : j < l.length := by
          rcases Nat.lt_or_ge j l.length with h | h
          · exact h
          · simp [List.getElem?_eq_none (show (l.map (Value.int .u8)).length ≤ j by simpa using h)] at hj
        have := Kd.foot_int h (j : Int) (by omega) (by omega)
        simp only [Int.toNat_natCast] at this
        rw [this]
        simp [List.getElem?_eq_getElem hjl] at hj
        subst hj
        simp [rd, List.getElem?_eq_getElem hjl])
      simpa using this
    rw [run_convert_bytes_string w 22 9 5 _ _ c Try.underlying22 Try.underlying5 Try.underlying9, run_bytesToString w _ _ c l hl, foldl_push_bytes]
    simp [strOfNums, ByteArray.empty, ByteArray.emptyWithCapacity]
    rfl

theorem b0_bits {k : Int} (h0 : 0 ≤ k) (h2 : k ≤ 2) (ro sub : Bool) : b0 k ro sub < 16 ∧ 0 ≤ b0 k ro sub ∧ bits .and .i64 (b0 k ro sub) 3 = k ∧ (bits .and .i64 (b0 k ro sub) 4 != 0) = ro ∧ (bits .and .i64 (b0 k ro sub) 8 != 0) = sub := by
  have : k = 0 ∨ k = 1 ∨ k = 2 := by omega
  rcases this with rfl | rfl | rfl <;> cases ro <;> cases sub <;> decide +kernel
theorem back {k : Int} {ro sub : Bool} {d gp off len : Int} (h : Ok k d gp off len) :
    GU.uk (pl k ro sub d gp off len) = k ∧ GU.ur (pl k ro sub d gp off len) = ro ∧ GU.us (pl k ro sub d gp off len) = sub ∧ GU.ud (pl k ro sub d gp off len) = d ∧ GU.ug (pl k ro sub d gp off len) = gp ∧ GU.uo (pl k ro sub d gp off len) = (if sub then off else 0) ∧ GU.un (pl k ro sub d gp off len) = (if sub then len else 256) ∧ GU.ue (pl k ro sub d gp off len) = 0 := by
  have h' := h
  unfold Ok at h'
  obtain ⟨h1, h2, h3, h4, h5, h6, h7, h8, h9, h10⟩ := h'
  obtain ⟨q1, q2, q3, q4, q5⟩ := b0_bits h1 h2 ro sub
  generalize hL : pl k ro sub d gp off len = L
  have r0 : rd L 0 = b0 k ro sub := by rw [← hL]; rfl
  have r1 : rd L 1 = 0 := by rw [← hL]; rfl
  have r2 : rd L 2 = d % 256 := by rw [← hL]; rfl
  have r3 : rd L 3 = d / 256 := by rw [← hL]; rfl
  have r4 : rd L 4 = gp % 256 := by rw [← hL]; rfl
  have r5 : rd L 5 = gp / 256 := by rw [← hL]; rfl
  have r6 : rd L 6 = if sub then off else 0 := by rw [← hL]; rfl
  have r7 : rd L 7 = if sub then len - 1 else 255 := by rw [← hL]; rfl
  have hn : L.length = 8 := by rw [← hL]; rfl
  have hf : GU.fl L = b0 k ro sub := by unfold GU.fl; rw [r0, r1]; omega
  have hs : GU.sb L = sub := by unfold GU.sb; rw [hf, q5]
  have hr : GU.ro L = ro := by unfold GU.ro; rw [hf, q4]
  have hk : GU.kd L = k := by unfold GU.kd; rw [hf, q3]
  have ho : GU.of L = if sub then off else 0 := by unfold GU.of; rw [hs, r6]; cases sub <;> rfl
  have hle : GU.le L = if sub then len else 256 := by
    unfold GU.le; rw [hs, r7]
    cases sub
    · rfl
    · simp
  have hg : GU.Gd L := ⟨hn, by
    unfold GU.bad
    rw [hf, hk, ho, hle]
    cases sub <;> simp <;> omega⟩
  unfold GU.uk GU.ur GU.us GU.ud GU.ug GU.uo GU.un GU.ue
  rw [if_pos hg, if_pos hg, if_pos hg, if_pos hg, if_pos hg, if_pos hg, if_pos hg, if_pos hg]
  refine ⟨hk, hr, hs, ?_, ?_, ho, hle, rfl⟩
  · rw [r2, r3]; omega
  · rw [r4, r5]; omega
theorem pl_wf {k : Int} {ro sub : Bool} {d gp off len : Int} (h : Ok k d gp off len) : ∀ x ∈ pl k ro sub d gp off len, (Lit.int .u8 x).wf = true := by
  unfold Ok at h
  obtain ⟨h1, h2, h3, h4, h5, h6, h7, h8, h9, h10⟩ := h
  obtain ⟨q1, q2, q3, q4, q5⟩ := b0_bits h1 h2 ro sub
  intro x hx
  have hx' : 0 ≤ x ∧ x < 256 := by
    unfold pl at hx
    simp only [List.mem_cons, List.not_mem_nil, or_false] at hx
    rcases hx with rfl | rfl | rfl | rfl | rfl | rfl | rfl | rfl
    · omega
    · omega
    · omega
    · omega
    · omega
    · omega
    · cases sub <;> simp <;> omega
    · cases sub <;> simp <;> omega
  simp [Lit.wf, IntKind.min, IntKind.max, IntKind.signed, IntKind.bits]
  omega
theorem back_calls (k : Int) (ro sub : Bool) (d gp off len : Int) (A : Option Addr) (c : Nat) (w : World) (h : (Kd.int .u8).C w A (pk k ro sub d gp off len).length (pk k ro sub d gp off len)) (hl : (pk k ro sub d gp off len).length = 8) :
    Calls Try.prog 28 #[.slice A (pk k ro sub d gp off len).length c] w fun e w' => e = .returned (.tuple #[.agg #[.int .i64 k, .bool ro, .bool sub, .int .i64 d, .int .i64 gp, .int .i64 (if sub then off else 0), .int .i64 (if sub then len else 256)], .int .i64 0]) ∧ Below w.heap.size w w' := by
  have hok : Ok k d gp off len := by
    by_cases hk : Ok k d gp off len
    · exact hk
    · unfold pk at hl; rw [if_neg hk] at hl; simp at hl
  have e : pk k ro sub d gp off len = pl k ro sub d gp off len := if_pos hok
  rw [e] at h ⊢
  have hu := GU.unpack_any A c _ w h (pl_wf hok)
  obtain ⟨b1, b2, b3, b4, b5, b6, b7, b8⟩ := back (ro := ro) (sub := sub) hok
  rw [b1, b2, b3, b4, b5, b6, b7, b8] at hu
  exact hu
end Go.Proofs.Ytdphppbocoinjaa.GP
