/- Proved: GrantHandles answers true at every argument (the walk of the law). -/
import Derived.Test.YtjeobbhaoahdcaaGqB
import Derived.Outline
namespace Go.Proofs.Ytjeobbhaoahdcaa.GqC
open Go.RowKit Go.Maps Go.Proofs.Ytjeobbhaoahdcaa.Base Go.Proofs.Ytjeobbhaoahdcaa.GaA Go.Proofs.Ytjeobbhaoahdcaa.GaB Go.Proofs.Ytjeobbhaoahdcaa.GaC Go.Proofs.Ytjeobbhaoahdcaa.GmA Go.Proofs.Ytjeobbhaoahdcaa.GmB Go.Proofs.Ytjeobbhaoahdcaa.GmC Go.Proofs.Ytjeobbhaoahdcaa.GpA Go.Proofs.Ytjeobbhaoahdcaa.GgA Go.Proofs.Ytjeobbhaoahdcaa.GvA Go.Proofs.Ytjeobbhaoahdcaa.GeA Go.Proofs.Ytjeobbhaoahdcaa.GeB Go.Proofs.Ytjeobbhaoahdcaa.GfA Go.Proofs.Ytjeobbhaoahdcaa.GfB Go.Proofs.Ytjeobbhaoahdcaa.GfC Go.Proofs.Ytjeobbhaoahdcaa.GfD Go.Proofs.Ytjeobbhaoahdcaa.GfH Go.Proofs.Ytjeobbhaoahdcaa.GbA Go.Proofs.Ytjeobbhaoahdcaa.GbB Go.Proofs.Ytjeobbhaoahdcaa.GbC Go.Proofs.Ytjeobbhaoahdcaa.GkA Go.Proofs.Ytjeobbhaoahdcaa.GkB Go.Proofs.Ytjeobbhaoahdcaa.GlA Go.Proofs.Ytjeobbhaoahdcaa.GoB Go.Proofs.Ytjeobbhaoahdcaa.GjA Go.Proofs.Ytjeobbhaoahdcaa.GjB Go.Proofs.Ytjeobbhaoahdcaa.GjC Go.Proofs.Ytjeobbhaoahdcaa.GjD Go.Proofs.Ytjeobbhaoahdcaa.GjE Go.Proofs.Ytjeobbhaoahdcaa.GjF Go.Proofs.Ytjeobbhaoahdcaa.GjG Go.Proofs.Ytjeobbhaoahdcaa.GqA Go.Proofs.Ytjeobbhaoahdcaa.GqB
set_option linter.unusedVariables false
set_option linter.unusedSimpArgs false

/-- The law's entry. -/
def eH : LE := ⟨0, 1, ⟨1, false, false, 1, 1, 0, 256⟩, 0⟩
theorem eH_ok : layOk eH := by decide
theorem layZ_eH : layZ eH = packZ ⟨1, false, false, 1, 1, 0, 256⟩ := by decide
def b0 : Hn := fun _ => none
theorem cb0 (p : Bool → Bool) : cb p b0 = 0 := by
  unfold cb b0 pick
  simp
theorem hf0 (cl ow rf mf : Int) : HF cl ow rf mf b0 = fun _ => none := by
  funext p
  unfold HF b0
  split <;> rfl
theorem he_eH : He (layS (msB 3 0) eH) 0 1 1 1 b0 := by
  have hb : ¬ packBad ⟨1, false, false, 1, 1, 0, 256⟩ := by decide
  have hs : layS (msB 3 0) eH = MS.wr (msB 3 0) 0 8 (layZ eH) := if_pos eH_ok
  have he : ent (layS (msB 3 0) eH) (4 * 0) 1 = ints (packZ ⟨1, false, false, 1, 1, 0, 256⟩) := by
    refine ent_is _ _ _ _ rfl fun j hj => ?_
    rw [hs, wr_hit (by omega) (by rw [layZ_len]; omega), layZ_eH]
    simp
  obtain ⟨e1, e2⟩ := pack_ent _ hb
  refine ⟨rfl, by rw [layS_fr]; unfold frB; rw [cb0, cb0]; rfl, ?_, ?_, ?_, ?_⟩
  · unfold permE
    rw [he, e1, e2, if_neg]
    simp [whole]
  all_goals
    rw [he, e2]
    rfl
theorem lay_lit {w W : World} {a : BA} {P Q : Value} (h : Bd w W a (msB 3 0) (msB 3 0) N3 P Q) (hx : a.xb = w.heap.size) :
    Calls Try.prog 21 #[.pointer (some ⟨w.heap.size, 0, none⟩), .agg #[.int .i64 0, .int .i64 1, .int .i64 1, .bool false, .bool false, .int .i64 1, .int .i64 1, .int .i64 0, .int .i64 256, .int .u8 0]] W fun o w' => o = .returned (.tuple #[]) ∧ Bd w w' a (layS (msB 3 0) eH) (layS (msB 3 0) eH) N3 P Q :=
  lay_any h hx eH ⟨rfl, rfl⟩ fun k hk => ⟨msB_low 3 0 k (by omega), msB_low 3 0 k (by omega)⟩
/-- The worlds while it maps: below k, just those handles are in use. -/
def Hk (w W : World) (a : BA) (P Q : Value) (vb db : Nat) (k : Nat) : Prop := ∃ (b : Hn) (S : MS) (r : Nat), (∀ i, i < 16 → (b i).isSome = decide (i < k)) ∧ He S 0 1 1 1 b ∧ Hw w W a S P Q (HF 1 0 1 1 b) (cb all1 b) vb db r
section
variable {w W W' : World} {a : BA} {P Q : Value} {vb db : Nat}
theorem hk_map {k : Nat} (h : Hk w W a P Q vb db k) (hk : k < 16) (wr : Bool) : Calls Try.prog 22 #[.pointer (some ⟨a.gb, 0, none⟩), .pointer (some ⟨vb, 0, none⟩), .int .i64 1, .int .i64 0, .int .i64 1, .bool wr] W fun e w' => e = .returned (.tuple #[.int .i64 k, .int .i64 0]) ∧ Hk w w' a P Q vb db (k + 1) := by
  obtain ⟨b, S, r, h1, h2, h3⟩ := h
  have hn : b k = none := by
    have := h1 k hk
    rw [decide_eq_false (Nat.lt_irrefl k)] at this
    cases hb : b k with
    | none => rfl
    | some x => rw [hb] at this; cases this
  refine (hw_map h3 h2 (by omega) (by omega) (by omega) (by omega) hk (fun i hi => by rw [h1 i (by omega)]; exact decide_eq_true hi) hn wr).mono ?_
  rintro e w' ⟨q1, S', q2, q3⟩
  refine ⟨q1, _, S', _, fun i hi => ?_, q2, q3⟩
  unfold upd
  split
  · rename_i e1
    subst e1
    simp
  · rw [h1 i hi]
    by_cases e2 : i < k
    · rw [decide_eq_true e2, decide_eq_true (by omega)]
    · rw [decide_eq_false e2, decide_eq_false (by omega)]
theorem hk_full (h : Hk w W a P Q vb db 16) (wr : Bool) : Calls Try.prog 22 #[.pointer (some ⟨a.gb, 0, none⟩), .pointer (some ⟨vb, 0, none⟩), .int .i64 1, .int .i64 0, .int .i64 1, .bool wr] W fun e w' => e = .returned (.tuple #[.int .i64 0, .int .i64 64]) ∧ Hk w w' a P Q vb db 16 := by
  obtain ⟨b, S, r, h1, h2, h3⟩ := h
  exact (map_full h3.g h3.v 1 (by omega) 0 0 (a.pb 0) (memG_at a.pb 0 (by omega)) 1 (by omega) wr (hf_full fun i hi => by rw [h1 i hi]; exact decide_eq_true hi)).mono fun e w' ⟨q1, q2⟩ => ⟨q1, b, S, r, h1, h2, h3.below q2⟩
/-- One has gone. -/
def Hg (w W : World) (a : BA) (P Q : Value) (vb db : Nat) (k : Nat) : Prop := ∃ (b : Hn) (S : MS) (r : Nat), (∀ i, i < 16 → (b i).isSome = decide (i ≠ k)) ∧ He S 0 1 1 1 b ∧ Hw w W a S P Q (HF 1 0 1 1 b) (cb all1 b) vb db r
theorem hk_unmap (h : Hk w W a P Q vb db 16) {k : Nat} (hk : k < 16) : Calls Try.prog 23 #[.pointer (some ⟨a.gb, 0, none⟩), .int .i64 1, .int .i64 k] W fun e w' => e = .returned (.int .i64 0) ∧ Hg w w' a P Q vb db k := by
  obtain ⟨b, S, r, h1, h2, h3⟩ := h
  have hs := h1 k hk
  rw [decide_eq_true hk] at hs
  cases hb : b k with
  | none => rw [hb] at hs; cases hs
  | some x =>
    refine (hw_unmap h3 h2.n h2.fr (by omega) (by omega) (by omega) hk hb).mono fun e w' ⟨q1, q2⟩ => ⟨q1, _, _, r, fun i hi => ?_, he_put h2, q2⟩
    unfold upd
    split
    · rename_i e1
      rw [decide_eq_false (by simpa using e1)]
      rfl
    · rename_i e1
      rw [h1 i hi, decide_eq_true hi, decide_eq_true e1]
theorem hg_map {k : Nat} (h : Hg w W a P Q vb db k) (hk : k < 16) (wr : Bool) : Calls Try.prog 22 #[.pointer (some ⟨a.gb, 0, none⟩), .pointer (some ⟨vb, 0, none⟩), .int .i64 1, .int .i64 0, .int .i64 1, .bool wr] W fun e w' => e = .returned (.tuple #[.int .i64 k, .int .i64 0]) ∧ Hk w w' a P Q vb db 16 := by
  obtain ⟨b, S, r, h1, h2, h3⟩ := h
  have hn : b k = none := by
    have := h1 k hk
    rw [decide_eq_false (by simp)] at this
    cases hb : b k with
    | none => rfl
    | some x => rw [hb] at this; cases this
  refine (hw_map h3 h2 (by omega) (by omega) (by omega) (by omega) hk (fun i hi => by rw [h1 i (by omega)]; exact decide_eq_true (by omega)) hn wr).mono ?_
  rintro e w' ⟨q1, S', q2, q3⟩
  refine ⟨q1, _, S', _, fun i hi => ?_, q2, q3⟩
  unfold upd
  split
  · rw [decide_eq_true hi]; rfl
  · rename_i e1
    rw [h1 i hi, decide_eq_true hi, decide_eq_true e1]
theorem hk_maps (h : Hk w W a P Q vb db 16) : Calls Try.prog 24 #[.pointer (some ⟨a.gb, 0, none⟩), .int .i64 1] W fun e w' => (∃ A c, e = .returned (.slice A 16 c)) ∧ Hk w w' a P Q vb db 16 := by
  obtain ⟨b, S, r, h1, h2, h3⟩ := h
  have hl : (mapsL (HF 1 0 1 1 b) 1 16).length = 16 := hf_full fun i hi => by rw [h1 i hi]; exact decide_eq_true hi
  refine (maps_calls h3.g 1 (by unfold okI; omega)).mono fun e w' ⟨v, q1, q2, q3⟩ => ⟨?_, b, S, r, h1, h2, h3.below q3⟩
  obtain ⟨A, c, rfl, _⟩ := mrow_of q2
  exact ⟨A, c, by rw [q1, hl]⟩
theorem hk_foreign (h : Hk w W a P Q vb db 16) : Calls Try.prog 25 #[.pointer (some ⟨a.gb, 0, none⟩), .int .i64 0] W fun e w' => e = .returned (.int .i64 16) ∧ Below w.heap.size w w' := by
  obtain ⟨b, S, r, h1, h2, h3⟩ := h
  have hc : cb all1 b = 16 := by
    have e1 : cb all1 b = cb all1 (fun _ => some true) := by
      unfold cb
      refine List.countP_congr fun i hi => ?_
      have := h1 i (List.mem_range.1 hi)
      rw [decide_eq_true (List.mem_range.1 hi)] at this
      cases hb : b i with
      | none => rw [hb] at this; cases this
      | some x => simp [pick, all1]
    rw [e1]
    decide
  have hf := foreign_calls h3.g 0 (hL_keys (b := b) (by unfold okI; omega)) (by rw [hL_len]; have := cb_16 all1 b; omega)
  rw [hL_own, hc] at hf
  exact hf.mono fun e w' ⟨q1, q2⟩ => ⟨q1, (h3.below q2).bel⟩
end
end Go.Proofs.Ytjeobbhaoahdcaa.GqC
