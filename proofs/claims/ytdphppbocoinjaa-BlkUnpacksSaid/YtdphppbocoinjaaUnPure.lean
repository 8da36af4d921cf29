/- Proved: a block request's sixteen bytes, read alike by both sides. -/
import Derived.Test.YtdphppbocoinjaaUnA
import Derived.Test.YtdphppbocoinjaaOBlkUnpacksx4
import Derived.Test.YtdphppbocoinjaaOBlkUnpacksx5
namespace Go.Proofs.Ytdphppbocoinjaa.UnPure
open Go.RowKit Go.Proofs.Ytdphppbocoinjaa.PBlkUnpacks Go.Proofs.YtdphppbocoinjaaW.PrintWords Go.Proofs.YtdphppbocoinjaaW.PrintLast Go.Proofs.YtdphppbocoinjaaW.PrintMore Go.Proofs.Ytdphppbocoinjaa.UN
set_option linter.unusedVariables false

/-- Segments as both sides read them. -/
def go : List Int → List S81 → List S81 × Int
  | a :: b :: r, acc => if b / 4 > 3 then ([], 4) else if b % 4 > b / 4 then ([], 4) else go r (acc ++ [⟨a, b % 4, b / 4⟩])
  | _, acc => (acc, 0)
theorem and3 (b : Int) (h0 : 0 ≤ b) (h1 : b < 256) : Go.bits .and .u8 b 3 = b % 4 := by
  have h : ∀ i : Fin 256, Go.bits .and .u8 ((i.val : Nat) : Int) 3 = ((i.val : Nat) : Int) % 4 := by decide +kernel
  have := h ⟨b.toNat, by omega⟩
  simp only [Int.toNat_of_nonneg h0] at this
  exact this
theorem wrap_in {x : Int} (h0 : 0 ≤ x) (h1 : x < 9223372036854775807) : wrap64 x = x := by unfold wrap64; omega
theorem blk_l0 : ∀ (n k : Nat) (l : List Int) (acc : List S81), l.length = 2 * n → n < k → (∀ x ∈ l, 0 ≤ x ∧ x < 256) → acc.length + n < 5864062014805 → blk_Segments.l0 k l acc = some (go l acc)
  | 0, k, l, acc, hl, hk, hb, ha => by
    obtain rfl : l = [] := List.length_eq_zero_iff.1 (by omega)
    obtain ⟨k, rfl⟩ : ∃ j, k = j + 1 := ⟨k - 1, by omega⟩
    rfl
  | n + 1, k, l, acc, hl, hk, hb, ha => by
    obtain ⟨k, rfl⟩ : ∃ j, k = j + 1 := ⟨k - 1, by omega⟩
    match l, hl with
    | a :: b :: r, hl =>
      have hA := hb a (by simp)
      have hB := hb b (by simp)
      have hr : r.length = 2 * n := by simp only [List.length_cons] at hl; omega
      have e0 : rd (a :: b :: r) 0 = a := rfl
      have e1 : rd (a :: b :: r) 1 = b := rfl
      have e2 : (a :: b :: r).drop 2 = r := rfl
      have hlen : ((a :: b :: r).length : Int) = r.length + 2 := by simp only [List.length_cons]; omega
      have ih := fun acc' h => blk_l0 n k r acc' hr (by omega) (fun x hx => hb x (by simp [hx])) h
      unfold blk_Segments.l0 go
      have v1 : wrap64 a = a := wrap_in (by omega) (by omega)
      have v2 : wrap64 (b / 4) = b / 4 := wrap_in (by omega) (by omega)
      have v3 : wrap64 (b % 4) = b % 4 := wrap_in (by omega) (by omega)
      rw [e0, e1, e2, and3 b hB.1 hB.2, v1, v2, v3, hlen]
      rw [if_pos (by omega), if_pos (by omega), if_pos (by omega)]
      by_cases c1 : b / 4 > 3
      · rw [if_pos c1, if_pos c1]
      · rw [if_neg c1, if_neg c1]
        by_cases c2 : b % 4 > b / 4
        · rw [if_pos c2, if_pos c2]
        · rw [if_neg c2, if_neg c2, if_pos (by omega), if_pos (by omega)]
          exact ih _ (by simp only [List.length_append, List.length_singleton]; omega)
theorem rd_get (l : List Int) (i : Nat) (h : i < l.length) : rd l (i : Int) = l[i] := by
  unfold rd
  rw [Int.toNat_natCast, List.getD_eq_getElem?_getD, List.getElem?_eq_getElem h, Option.getD_some]
theorem ref_l0 (l : List Int) (hb : ∀ x ∈ l, 0 ≤ x ∧ x < 256) (hz : l.length < 1000000000000) : ∀ (n k j : Nat) (acc : List S81), l.length = 2 * (j + n) → n < k → acc.length + n < 5864062014805 → tenementref13_Segments.l0 k l acc ((2 * j : Nat) : Int) = some (go (l.drop (2 * j)) acc)
  | 0, k, j, acc, hl, hk, ha => by
    obtain ⟨k, rfl⟩ : ∃ j, k = j + 1 := ⟨k - 1, by omega⟩
    rw [List.drop_eq_nil_of_le (by omega)]
    unfold tenementref13_Segments.l0
    rw [if_neg (by omega)]
    rfl
  | n + 1, k, j, acc, hl, hk, ha => by
    obtain ⟨k, rfl⟩ : ∃ j, k = j + 1 := ⟨k - 1, by omega⟩
    have ih := fun acc' h => ref_l0 l hb hz n k (j + 1) acc' (by omega) (by omega) h
    have h0 : 2 * j < l.length := by omega
    have h1 : 2 * j + 1 < l.length := by omega
    have d0 : l.drop (2 * j) = l[2 * j] :: l[2 * j + 1] :: l.drop (2 * (j + 1)) := by
      rw [List.drop_eq_getElem_cons h0, List.drop_eq_getElem_cons h1]
      rfl
    have hA := hb _ (List.getElem_mem h0)
    have hB := hb _ (List.getElem_mem h1)
    have r0 := rd_get l (2 * j) h0
    have r1 := rd_get l (2 * j + 1) h1
    have w1 : wrap64 (((2 * j : Nat) : Int) + 1) = ((2 * j + 1 : Nat) : Int) := (wrap_in (by omega) (by omega)).trans (by omega)
    have w2 : wrap64 (((2 * j : Nat) : Int) + 2) = ((2 * (j + 1) : Nat) : Int) := (wrap_in (by omega) (by omega)).trans (by omega)
    rw [d0]
    unfold tenementref13_Segments.l0 go
    rw [w1, w2, r0, r1]
    generalize l[2 * j] = a at hA ⊢
    generalize l[2 * j + 1] = b at hB ⊢
    have t1 : Int.tdiv b 4 % 256 = b / 4 := by rw [Int.tdiv_eq_ediv_of_nonneg hB.1]; omega
    have t2 : wrap64 (Int.tmod b 4) = b % 4 := by rw [Int.tmod_eq_emod_of_nonneg hB.1]; exact wrap_in (by omega) (by omega)
    rw [t1, t2, wrap_in (x := a) (by omega) (by omega)]
    rw [if_pos (by omega), if_pos (by omega), if_pos (by omega), if_pos (by omega)]
    by_cases c1 : b / 4 > 3
    · rw [if_pos c1, if_pos c1]
    · rw [if_neg c1, if_neg c1]
      by_cases c2 : b % 4 > b / 4
      · rw [if_pos c2, if_pos c2]
      · rw [if_neg c2, if_neg c2, if_pos (by omega)]
        exact ih _ (by simp only [List.length_append, List.length_singleton]; omega)
theorem same_l0 (s : List S81) (hz : s.length < 1000000000000) : ∀ (n k j : Nat), s.length = j + n → n < k → tenementlaw13_segments.l0 k s s ((j : Nat) : Int) = some true
  | 0, k, j, hl, hk => by
    obtain ⟨k, rfl⟩ : ∃ j, k = j + 1 := ⟨k - 1, by omega⟩
    unfold tenementlaw13_segments.l0
    rw [if_neg (by omega)]
  | n + 1, k, j, hl, hk => by
    obtain ⟨k, rfl⟩ : ∃ j, k = j + 1 := ⟨k - 1, by omega⟩
    unfold tenementlaw13_segments.l0
    rw [if_pos (by omega), if_pos (by omega), if_pos (by omega), if_neg (by simp), wrap_in (by omega) (by omega)]
    exact same_l0 s hz n k (j + 1) (by omega) (by omega)
theorem go_len : ∀ (n : Nat) (l : List Int) (acc : List S81), l.length ≤ n → (go l acc).1.length ≤ acc.length + n
  | 0, l, acc, h => by
    obtain rfl : l = [] := List.length_eq_zero_iff.1 (by omega)
    simp [go]
  | n + 1, l, acc, h => by
    match l with
    | [] => simp [go]
    | [a] => simp [go]
    | a :: b :: r =>
      unfold go
      split
      · simp
      · split
        · simp
        · have := go_len n r (acc ++ [⟨a, b % 4, b / 4⟩]) (by simp only [List.length_cons] at h; omega)
          simp only [List.length_append, List.length_singleton] at this
          simp only [List.length_cons] at h
          have h3 := go_len (n - 1) r (acc ++ [⟨a, b % 4, b / 4⟩]) (by omega)
          simp only [List.length_append, List.length_singleton] at h3
          omega

theorem byte_of {l : List Int} (h : ∀ x ∈ l, (Lit.int .u8 x).wf = true) : ∀ x ∈ l, 0 ≤ x ∧ x < 256 := by
  intro x hx
  have := h x hx
  simp [Lit.wf, IntKind.min, IntKind.max, IntKind.signed, IntKind.bits] at this
  omega

theorem or_8 (x y : Int) (hx : 0 ≤ x) (hx1 : x < 256) (hy : 0 ≤ y) (hy1 : y < 256) : Go.bits .or .i64 x (y * 256) = x + 256 * y := by
  have hc : Go.bits .or .i64 x (y * 256) = Go.bits .or .i64 (y * 256) x := by
    simp only [bits]; rw [BitVec.or_comm]
  rw [hc, bits_join .i64 63 (by decide) PureReplies.wraps_i64 8 (y * 256) x (by omega) (by omega) (by omega) hx (by omega) (by omega)]; omega
theorem or_16 (x y : Int) (hx : 0 ≤ x) (hx1 : x < 65536) (hy : 0 ≤ y) (hy1 : y < 256) : Go.bits .or .i64 x (y * 65536) = x + 65536 * y := by
  have hc : Go.bits .or .i64 x (y * 65536) = Go.bits .or .i64 (y * 65536) x := by
    simp only [bits]; rw [BitVec.or_comm]
  rw [hc, bits_join .i64 63 (by decide) PureReplies.wraps_i64 16 (y * 65536) x (by omega) (by omega) (by omega) hx (by omega) (by omega)]; omega
theorem or_24 (x y : Int) (hx : 0 ≤ x) (hx1 : x < 16777216) (hy : 0 ≤ y) (hy1 : y < 256) : Go.bits .or .i64 x (y * 16777216) = x + 16777216 * y := by
  have hc : Go.bits .or .i64 x (y * 16777216) = Go.bits .or .i64 (y * 16777216) x := by
    simp only [bits]; rw [BitVec.or_comm]
  rw [hc, bits_join .i64 63 (by decide) PureReplies.wraps_i64 24 (y * 16777216) x (by omega) (by omega) (by omega) hx (by omega) (by omega)]; omega
theorem j0_eq (k : Nat) (x0 : List Int) (x7 : Int) (x55 : Bool) (x134000 x134001 x134002 : Int) : blk_Unpack.j0 (k + 1) x0 x7 x55 x134000 x134001 x134002 = (if x55 = true then (if 9 < (x0.length : Int) then (if 8 < (x0.length : Int) then (some (wrap64 (rd x0 9), x134001, x134002, ([] : List (S81)), wrap64 (rd x0 8), x7, 0)) else (none)) else (none)) else (if x134000 < 3 then ((blk_count.f x134000 x7 4).bind fun t139 => (blk_Unpack.j1 k x0 x7 t139 x134000 x134001 x134002)) else (blk_Unpack.j1 k x0 x7 false x134000 x134001 x134002))) := rfl
theorem j1_eq (k : Nat) (x0 : List Int) (x7 : Int) (x80 : Bool) (x134000 x134001 x134002 : Int) : blk_Unpack.j1 (k + 1) x0 x7 x80 x134000 x134001 x134002 = (if x80 = true then (if 8 ≤ (wrap64 (8 + (wrap64 (2 * x7)))) then (if (wrap64 (8 + (wrap64 (2 * x7)))) ≤ (x0.length : Int) then ((blk_Segments.f k ((x0.take ((wrap64 (8 + (wrap64 (2 * x7)))) : Int).toNat).drop 8)).bind fun bt141 => (if bt141.2 = 0 then (some (x134000, x134001, x134002, bt141.1, (-1), x7, 0)) else (some (0, 0, 0, ([] : List (S81)), 0, 0, 4)))) else (none)) else (none)) else (some (0, 0, 0, ([] : List (S81)), 0, 0, 4))) := rfl
def sec (l : List Int) : Int := rd l 4 + 256 * rd l 5 + 65536 * rd l 6 + 16777216 * rd l 7
def ident (l : List Int) : Int := rd l 2 + 256 * rd l 3
def window (l : List Int) : List Int := (l.take (8 + (2 * rd l 1).toNat)).drop 8
/-- What both sides make of sixteen bytes. -/
def unp (l : List Int) : Int × Int × Int × List S81 × Int × Int × Int :=
  if rd l 0 > 3 then (0, 0, 0, [], 0, 0, 4)
  else if rd l 0 = 3 then (if rd l 9 ≤ 1 ∧ manyV (rd l 9) (rd l 1) 16 = true then (rd l 9, ident l, sec l, [], rd l 8, rd l 1, 0) else (0, 0, 0, [], 0, 0, 4))
  else if manyV (rd l 0) (rd l 1) 4 = true then (if (go (window l) []).2 = 0 then (rd l 0, ident l, sec l, (go (window l) []).1, -1, rd l 1, 0) else (0, 0, 0, [], 0, 0, 4))
  else (0, 0, 0, [], 0, 0, 4)
theorem count_f (a n m : Int) : blk_count.f a n m = some (manyV a n m) := by
  unfold blk_count.f manyV
  split
  · rfl
  · by_cases h : n > 0
    · rw [if_pos h, if_pos (by omega)]
    · rw [if_neg h, if_neg (by omega)]
theorem many_four {a n : Int} (hn : 0 ≤ n) (h : manyV a n 4 = true) : n = 0 ∨ n = 1 ∨ n = 2 ∨ n = 3 ∨ n = 4 := by
  unfold manyV at h
  split at h
  · have : n = 0 := by simpa using h
    omega
  · split at h
    · have : n ≤ 4 := by simpa using h
      omega
    · cases h
theorem segs_f (k : Nat) (l : List Int) (n : Nat) (hl : l.length = 2 * n) (hn : n ≤ 4) (hk : 4 < k) (hb : ∀ x ∈ l, 0 ≤ x ∧ x < 256) : blk_Segments.f k l = some (go l []) ∧ tenementref13_Segments.f k l = some (go l []) := by
  unfold blk_Segments.f tenementref13_Segments.f
  rw [if_pos (by omega), if_pos (by omega)]
  exact ⟨blk_l0 n k l [] hl (by omega) hb (by simp only [List.length_nil]; omega), ref_l0 l hb (by omega) n k 0 [] (by omega) (by omega) (by simp only [List.length_nil]; omega)⟩
theorem window_len (l : List Int) (hl : l.length = 16) (n : Nat) (hn : rd l 1 = n) (h4 : n ≤ 4) : (window l).length = 2 * n := by
  unfold window
  rw [List.length_drop, List.length_take, hn, hl]
  omega
theorem window_mem (l : List Int) (hb : ∀ x ∈ l, 0 ≤ x ∧ x < 256) : ∀ x ∈ window l, 0 ≤ x ∧ x < 256 := fun x hx => hb x (List.mem_of_mem_take (List.mem_of_mem_drop hx))
theorem unpack_f (k : Nat) (hk : 4 < k) (l : List Int) (hl : l.length = 16) (hb : ∀ x ∈ l, 0 ≤ x ∧ x < 256) (hr : ∀ i : Int, 0 ≤ rd l i ∧ rd l i < 256) : blk_Unpack.f (k + 2) l = some (unp l) := by
  have hz : ((l.length : Nat) : Int) = 16 := by omega
  have w0 : ∀ i : Int, wrap64 (rd l i) = rd l i := fun i => wrap_in (hr i).1 (by have := (hr i).2; omega)
  have w1 : wrap64 (rd l 3 * 256) = rd l 3 * 256 := wrap_in (by have := hr 3; omega) (by have := hr 3; omega)
  have w2 : wrap64 (rd l 5 * 256) = rd l 5 * 256 := wrap_in (by have := hr 5; omega) (by have := hr 5; omega)
  have w3 : wrap64 (rd l 6 * 65536) = rd l 6 * 65536 := wrap_in (by have := hr 6; omega) (by have := hr 6; omega)
  have w4 : wrap64 (rd l 7 * 16777216) = rd l 7 * 16777216 := wrap_in (by have := hr 7; omega) (by have := hr 7; omega)
  have o1 : Go.bits .or .i64 (rd l 2) (rd l 3 * 256) = ident l := or_8 _ _ (hr 2).1 (hr 2).2 (hr 3).1 (hr 3).2
  have o2 : Go.bits .or .i64 (rd l 4) (rd l 5 * 256) = rd l 4 + 256 * rd l 5 := or_8 _ _ (hr 4).1 (hr 4).2 (hr 5).1 (hr 5).2
  have o3 : Go.bits .or .i64 (rd l 4 + 256 * rd l 5) (rd l 6 * 65536) = rd l 4 + 256 * rd l 5 + 65536 * rd l 6 := or_16 _ _ (by have := hr 4; have := hr 5; omega) (by have := hr 4; have := hr 5; omega) (hr 6).1 (hr 6).2
  have o4 : Go.bits .or .i64 (rd l 4 + 256 * rd l 5 + 65536 * rd l 6) (rd l 7 * 16777216) = sec l := or_24 _ _ (by have := hr 4; have := hr 5; have := hr 6; omega) (by have := hr 4; have := hr 5; have := hr 6; omega) (hr 7).1 (hr 7).2
  have W : ∀ r : Bool, (r = true → manyV (rd l 0) (rd l 1) 4 = true) → r = manyV (rd l 0) (rd l 1) 4 → blk_Unpack.j1 (k + 1) l (rd l 1) r (rd l 0) (ident l) (sec l) = some (if r = true then (if (go (window l) []).2 = 0 then (rd l 0, ident l, sec l, (go (window l) []).1, -1, rd l 1, 0) else (0, 0, 0, [], 0, 0, 4)) else (0, 0, 0, [], 0, 0, 4)) := by
    intro r hr1 _
    rw [j1_eq]
    cases r
    · rfl
    · have h4 := many_four (hr 1).1 (hr1 rfl)
      obtain ⟨n, hn⟩ : ∃ n : Nat, rd l 1 = n := ⟨(rd l 1).toNat, by have := (hr 1).1; omega⟩
      have hn4 : n ≤ 4 := by omega
      have v1 : wrap64 (8 + wrap64 (2 * rd l 1)) = 8 + 2 * rd l 1 := by rw [wrap_in (x := 2 * rd l 1) (by omega) (by omega), wrap_in (by omega) (by omega)]
      have v2 : ((l.take (8 + 2 * rd l 1).toNat).drop 8) = window l := by
        unfold window
        rw [show (8 + 2 * rd l 1).toNat = 8 + (2 * rd l 1).toNat by omega]
      rw [v1, v2]
      have hs := (segs_f k (window l) n (window_len l hl n hn hn4) hn4 (by omega) (window_mem l hb)).1
      rw [if_pos rfl, if_pos (by omega), if_pos (by omega), hs]
      simp only [Option.bind_some, if_true]
      split <;> rfl
  have J : ∀ r : Bool, rd l 0 ≠ 3 → r = false → blk_Unpack.j0 (k + 2) l (rd l 1) r (rd l 0) (ident l) (sec l) = some (unp l) := by
    intro r h3 hf
    subst hf
    rw [j0_eq]
    unfold unp
    rw [if_neg (by decide), if_neg (c := rd l 0 = 3) h3]
    by_cases h0 : rd l 0 < 3
    · rw [if_pos h0, if_neg (by omega), count_f]
      simp only [Option.bind_some]
      exact W _ (fun h => h) rfl
    · rw [if_neg h0, if_pos (by omega)]
      rw [j1_eq]
      rfl
  unfold blk_Unpack.f
  simp only [w0, w1, w2, w3, w4, o1, o2, o3, o4, hz]
  rw [if_pos trivial, if_pos (by decide), if_pos (by decide), if_pos (by decide), if_pos (by decide), if_pos (by decide), if_pos (by decide), if_pos (by decide), if_pos (by decide)]
  by_cases h3 : rd l 0 = 3
  · rw [if_pos h3, if_pos (by decide)]
    have hbad : blk_Unpack.j0 (k + 2) l (rd l 1) false (rd l 0) (ident l) (sec l) = some (0, 0, 0, [], 0, 0, 4) := by
      rw [j0_eq]
      rw [if_neg (by decide), if_neg (by omega)]
      rw [j1_eq]
      rfl
    by_cases h9 : rd l 9 ≤ 1
    · rw [if_pos h9, count_f]
      simp only [Option.bind_some]
      have e : manyV 0 (rd l 1) 16 = manyV (rd l 9) (rd l 1) 16 := by
        unfold manyV
        rw [if_neg (c := (0 : Int) = 2) (by decide), if_neg (c := rd l 9 = 2) (by omega)]
      unfold unp
      rw [e, if_neg (by omega), if_pos h3]
      cases hm : manyV (rd l 9) (rd l 1) 16
      · rw [hbad, if_neg (by simp)]
      · rw [j0_eq]
        rw [if_pos rfl, hz, if_pos (by decide), if_pos (by decide), if_pos ⟨h9, rfl⟩, w0, w0]
    · rw [if_neg h9, hbad]
      unfold unp
      rw [if_neg (by omega), if_pos h3, if_neg (fun h => h9 h.1)]
  · rw [if_neg h3]
    exact J false h3 rfl
end Go.Proofs.Ytdphppbocoinjaa.UnPure
