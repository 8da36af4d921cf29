/- Proved: the document's table allows what the program's table allows; and the law's own walk. -/
import Derived.Test.YtdphppbocoinjaaBAAllowed
namespace Go.Proofs.Ytdphppbocoinjaa.BA
open Go.RowKit Go.Proofs.Ytdphppbocoinjaa.PBusAllows Go.Proofs.YtdphppbocoinjaaW.PrintWords Go.Proofs.YtdphppbocoinjaaW.PrintLast Go.Proofs.YtdphppbocoinjaaW.PrintMore
set_option linter.unusedVariables false

theorem has_out (m b : Int) (h : ¬(0 ≤ b ∧ b ≤ 6)) : hasV m b = false := by
  unfold hasV bus_set_has.f
  by_cases h0 : b ≥ 0
  · by_cases h6 : b ≤ 6
    · omega
    · simp [h0, h6]
  · simp [h0]
theorem in_ge (x : Int) (s : ByteArray) (v : Bool) (h : tenementref11_in.f 9 x s = some v) : ∀ d, tenementref11_in.f (9 + d) x s = some v
  | 0 => h
  | d + 1 => tenementref11_in.mono x s (9 + d) v (in_ge x s v h d)
theorem cut_ge (s : ByteArray) (v : ByteArray × ByteArray × ByteArray) (h : tenementref11_cut.f 9 s = some v) : ∀ d, tenementref11_cut.f (9 + d) s = some v
  | 0 => h
  | d + 1 => tenementref11_cut.mono s (9 + d) v (cut_ge s v h d)
theorem wrap_small (i : Int) (h0 : 0 ≤ i) (h1 : i < 1000) : wrap64 (i + 1) = i + 1 := by unfold wrap64; omega
theorem in_out (x : Int) (hx : ¬(0 ≤ x ∧ x ≤ 6)) (s : ByteArray) (hs : ∀ i : Nat, i < s.size → 0 ≤ (bt s i - 48) % 256 ∧ (bt s i - 48) % 256 ≤ 6) (hz : s.size < 100) :
    ∀ (k i : Nat), i ≤ s.size → s.size < i + k → tenementref11_in.l0 k x s i = some false
  | 0, i, hi, h => by omega
  | k + 1, i, hi, h => by
    unfold tenementref11_in.l0
    by_cases c : (i : Int) < s.size
    · rw [if_pos c, if_pos (by omega), if_neg, wrap_small i (by omega) (by omega)]
      · exact in_out x hx s hs hz k (i + 1) (by omega) (by omega)
      · have := hs i (by omega)
        intro e
        omega
    · rw [if_neg c]
theorem in_of (s : ByteArray) (m : Int) (hs : ∀ i : Nat, i < s.size → 0 ≤ (bt s i - 48) % 256 ∧ (bt s i - 48) % 256 ≤ 6) (hz : s.size < 9)
    (h0 : tenementref11_in.f 9 0 s = some (hasV m 0)) (h1 : tenementref11_in.f 9 1 s = some (hasV m 1)) (h2 : tenementref11_in.f 9 2 s = some (hasV m 2)) (h3 : tenementref11_in.f 9 3 s = some (hasV m 3))
    (h4 : tenementref11_in.f 9 4 s = some (hasV m 4)) (h5 : tenementref11_in.f 9 5 s = some (hasV m 5)) (h6 : tenementref11_in.f 9 6 s = some (hasV m 6)) (x : Int) : tenementref11_in.f 9 x s = some (hasV m x) := by
  by_cases h : 0 ≤ x ∧ x ≤ 6
  · have : x = 0 ∨ x = 1 ∨ x = 2 ∨ x = 3 ∨ x = 4 ∨ x = 5 ∨ x = 6 := by omega
    rcases this with rfl | rfl | rfl | rfl | rfl | rfl | rfl <;> assumption
  · rw [has_out m x h]
    exact in_out x h s hs (by omega) 9 0 (by omega) (by omega)
theorem has_pow (j : Nat) (hj : j ≤ 6) (b : Int) : hasV ((2 : Int) ^ j) b = decide ((j : Int) = b) := by
  by_cases h : 0 ≤ b ∧ b ≤ 6
  · have : b = 0 ∨ b = 1 ∨ b = 2 ∨ b = 3 ∨ b = 4 ∨ b = 5 ∨ b = 6 := by omega
    have : j = 0 ∨ j = 1 ∨ j = 2 ∨ j = 3 ∨ j = 4 ∨ j = 5 ∨ j = 6 := by omega
    rcases this with rfl | rfl | rfl | rfl | rfl | rfl | rfl <;> (rcases ‹b = 0 ∨ _› with rfl | rfl | rfl | rfl | rfl | rfl | rfl) <;> decide +kernel
  · rw [has_out _ b h]; symm; rw [decide_eq_false_iff_not]; omega

theorem i06 : ∀ x, tenementref11_in.f 9 x ⟨#[48, 54]⟩ = some (hasV 65 x) := in_of _ _ (by decide +kernel) (by decide +kernel) (by decide +kernel) (by decide +kernel) (by decide +kernel) (by decide +kernel) (by decide +kernel) (by decide +kernel) (by decide +kernel)
theorem i0126 : ∀ x, tenementref11_in.f 9 x ⟨#[48, 49, 50, 54]⟩ = some (hasV 71 x) := in_of _ _ (by decide +kernel) (by decide +kernel) (by decide +kernel) (by decide +kernel) (by decide +kernel) (by decide +kernel) (by decide +kernel) (by decide +kernel) (by decide +kernel)
theorem i1 : ∀ x, tenementref11_in.f 9 x ⟨#[49]⟩ = some (hasV 2 x) := in_of _ _ (by decide +kernel) (by decide +kernel) (by decide +kernel) (by decide +kernel) (by decide +kernel) (by decide +kernel) (by decide +kernel) (by decide +kernel) (by decide +kernel)
theorem i2 : ∀ x, tenementref11_in.f 9 x ⟨#[50]⟩ = some (hasV 4 x) := in_of _ _ (by decide +kernel) (by decide +kernel) (by decide +kernel) (by decide +kernel) (by decide +kernel) (by decide +kernel) (by decide +kernel) (by decide +kernel) (by decide +kernel)
theorem i3 : ∀ x, tenementref11_in.f 9 x ⟨#[51]⟩ = some (hasV 8 x) := in_of _ _ (by decide +kernel) (by decide +kernel) (by decide +kernel) (by decide +kernel) (by decide +kernel) (by decide +kernel) (by decide +kernel) (by decide +kernel) (by decide +kernel)
theorem i4 : ∀ x, tenementref11_in.f 9 x ⟨#[52]⟩ = some (hasV 16 x) := in_of _ _ (by decide +kernel) (by decide +kernel) (by decide +kernel) (by decide +kernel) (by decide +kernel) (by decide +kernel) (by decide +kernel) (by decide +kernel) (by decide +kernel)
theorem i5 : ∀ x, tenementref11_in.f 9 x ⟨#[53]⟩ = some (hasV 32 x) := in_of _ _ (by decide +kernel) (by decide +kernel) (by decide +kernel) (by decide +kernel) (by decide +kernel) (by decide +kernel) (by decide +kernel) (by decide +kernel) (by decide +kernel)
theorem i6 : ∀ x, tenementref11_in.f 9 x ⟨#[54]⟩ = some (hasV 64 x) := in_of _ _ (by decide +kernel) (by decide +kernel) (by decide +kernel) (by decide +kernel) (by decide +kernel) (by decide +kernel) (by decide +kernel) (by decide +kernel) (by decide +kernel)
theorem i0123 : ∀ x, tenementref11_in.f 9 x ⟨#[48, 49, 50, 51]⟩ = some (hasV 15 x) := in_of _ _ (by decide +kernel) (by decide +kernel) (by decide +kernel) (by decide +kernel) (by decide +kernel) (by decide +kernel) (by decide +kernel) (by decide +kernel) (by decide +kernel)
theorem i23 : ∀ x, tenementref11_in.f 9 x ⟨#[50, 51]⟩ = some (hasV 12 x) := in_of _ _ (by decide +kernel) (by decide +kernel) (by decide +kernel) (by decide +kernel) (by decide +kernel) (by decide +kernel) (by decide +kernel) (by decide +kernel) (by decide +kernel)
theorem i34 : ∀ x, tenementref11_in.f 9 x ⟨#[51, 52]⟩ = some (hasV 24 x) := in_of _ _ (by decide +kernel) (by decide +kernel) (by decide +kernel) (by decide +kernel) (by decide +kernel) (by decide +kernel) (by decide +kernel) (by decide +kernel) (by decide +kernel)
theorem i1234 : ∀ x, tenementref11_in.f 9 x ⟨#[49, 50, 51, 52]⟩ = some (hasV 30 x) := in_of _ _ (by decide +kernel) (by decide +kernel) (by decide +kernel) (by decide +kernel) (by decide +kernel) (by decide +kernel) (by decide +kernel) (by decide +kernel) (by decide +kernel)
theorem i0126a : ∀ x, tenementref11_in.f 9 x ⟨#[48, 49, 50, 51, 52, 53, 54]⟩ = some (hasV 127 x) := in_of _ _ (by decide +kernel) (by decide +kernel) (by decide +kernel) (by decide +kernel) (by decide +kernel) (by decide +kernel) (by decide +kernel) (by decide +kernel) (by decide +kernel)
theorem i056 : ∀ x, tenementref11_in.f 9 x ⟨#[48, 53, 54]⟩ = some (hasV 97 x) := in_of _ _ (by decide +kernel) (by decide +kernel) (by decide +kernel) (by decide +kernel) (by decide +kernel) (by decide +kernel) (by decide +kernel) (by decide +kernel) (by decide +kernel)

theorem step (d : Nat) (f t o : Int) (L : List ByteArray) (i : Nat) (hi : i < L.length) (hl : L.length < 100) (s a b c : ByteArray) (hs : rdOf ByteArray.empty L i = s) (hc : tenementref11_cut.f 9 s = some (a, b, c)) (m1 m3 : Int) (j : Nat) (hj : j ≤ 6)
    (h1 : ∀ x, tenementref11_in.f 9 x a = some (hasV m1 x)) (h2 : ∀ x, tenementref11_in.f 9 x b = some (hasV (2 ^ j) x)) (h3 : ∀ x, tenementref11_in.f 9 x c = some (hasV m3 x)) (he : hit f t o i = (decide ((j : Int) = t) && (hasV m1 f && hasV m3 o))) :
    tenementref11_Allowed.l0 (9 + d + 1) f t o L i = if hit f t o i = true then some true else tenementref11_Allowed.l0 (9 + d) f t o L ((i + 1 : Nat) : Int) := by
  rw [he]
  conv => lhs; unfold tenementref11_Allowed.l0
  rw [if_pos (by omega), if_pos (by omega), hs, cut_ge s _ hc d]
  simp only [Option.bind_some, in_ge _ _ _ (h1 f) d, in_ge _ _ _ (h2 t) d, in_ge _ _ _ (h3 o) d, has_pow j hj, wrap_small i (by omega) (by omega)]
  cases hasV m1 f <;> cases hasV m3 o <;> cases decide ((j : Int) = t) <;> simp
theorem ref_allowed (f t o : Int) : tenementref11_Allowed.f 17 f t o = some (allowedV f t o) := by
  unfold tenementref11_Allowed.f
  generalize hL : ([(⟨#[48, 54, 32, 49, 32, 48, 49, 50, 54]⟩ : ByteArray), (⟨#[49, 32, 50, 32, 48, 49, 50, 51]⟩ : ByteArray), (⟨#[49, 32, 51, 32, 50]⟩ : ByteArray), (⟨#[50, 32, 51, 32, 50, 51]⟩ : ByteArray), (⟨#[50, 51, 32, 52, 32, 51, 52]⟩ : ByteArray), (⟨#[49, 50, 51, 52, 32, 53, 32, 48, 49, 50, 51, 52, 53, 54]⟩ : ByteArray), (⟨#[53, 32, 54, 32, 48, 53, 54]⟩ : ByteArray)] : List ByteArray) = L
  have hn : L.length = 7 := by rw [← hL]; rfl
  have e7 : tenementref11_Allowed.l0 (9 + 1) f t o L (7 : Nat) = some false := by
    unfold tenementref11_Allowed.l0
    rw [if_neg (by omega)]
  rw [show (0 : Int) = ((0 : Nat) : Int) from rfl]
  rw [step 7 f t o L 0 (by omega) (by omega) _ ⟨#[48, 54]⟩ ⟨#[49]⟩ ⟨#[48, 49, 50, 54]⟩ (by subst hL; rfl) (by decide +kernel) 65 71 1 (by omega) i06 i1 i0126 rfl]
  rw [step 6 f t o L 1 (by omega) (by omega) _ ⟨#[49]⟩ ⟨#[50]⟩ ⟨#[48, 49, 50, 51]⟩ (by subst hL; rfl) (by decide +kernel) 2 15 2 (by omega) i1 i2 i0123 rfl]
  rw [step 5 f t o L 2 (by omega) (by omega) _ ⟨#[49]⟩ ⟨#[51]⟩ ⟨#[50]⟩ (by subst hL; rfl) (by decide +kernel) 2 4 3 (by omega) i1 i3 i2 rfl]
  rw [step 4 f t o L 3 (by omega) (by omega) _ ⟨#[50]⟩ ⟨#[51]⟩ ⟨#[50, 51]⟩ (by subst hL; rfl) (by decide +kernel) 4 12 3 (by omega) i2 i3 i23 rfl]
  rw [step 3 f t o L 4 (by omega) (by omega) _ ⟨#[50, 51]⟩ ⟨#[52]⟩ ⟨#[51, 52]⟩ (by subst hL; rfl) (by decide +kernel) 12 24 4 (by omega) i23 i4 i34 rfl]
  rw [step 2 f t o L 5 (by omega) (by omega) _ ⟨#[49, 50, 51, 52]⟩ ⟨#[53]⟩ ⟨#[48, 49, 50, 51, 52, 53, 54]⟩ (by subst hL; rfl) (by decide +kernel) 30 127 5 (by omega) i1234 i5 i0126a rfl]
  rw [step 1 f t o L 6 (by omega) (by omega) _ ⟨#[53]⟩ ⟨#[54]⟩ ⟨#[48, 53, 54]⟩ (by subst hL; rfl) (by decide +kernel) 32 97 6 (by omega) i5 i6 i056 rfl]
  simp only [Nat.reduceAdd] at e7 ⊢
  rw [e7]
  unfold allowedV
  generalize hit f t o 0 = b0
  generalize hit f t o 1 = b1
  generalize hit f t o 2 = b2
  generalize hit f t o 3 = b3
  generalize hit f t o 4 = b4
  generalize hit f t o 5 = b5
  generalize hit f t o 6 = b6
  revert b0 b1 b2 b3 b4 b5 b6
  decide
theorem awake_f : tenementlaw11_awake.f = some true := by decide
set_option maxHeartbeats 4000000 in
set_option maxRecDepth 100000 in
theorem law_calls (f t o : Int) (w : World) : Calls Try.prog 10 #[.int .i64 f, .int .i64 t, .int .i64 o] w fun e w' => e = .returned (.bool true) ∧ Below w.heap.size w w' := by
  have HR := fun w => tenementref11_Allowed.calls 17 f t o _ w (ref_allowed f t o)
  have HA := fun w => tenementlaw11_awake.calls _ w awake_f
  generalize hv : allowedV f t o = v at HR
  have HV : ∀ w, Calls Try.prog 37 #[.int .i64 f, .int .i64 t, .int .i64 o] w fun e w' => e = .returned (.bool v) ∧ Below w.heap.size w w' := fun w => by
    have := allowed_calls f t o w
    unfold AllowedOut at this
    rw [hv] at this
    exact this
  clear hv
  have HB := Aside0.mk (Below.refl w.heap.size w)
  go_enter Try.func10, Try.ntmps10
  go_wp2_with (first | (go_at_call 37; (with_reducible refine (HV _).mono ?_); rintro e w9 ⟨rfl, hb9⟩; have HB9 := Aside0.mk (below_step HB.out hb9); clear HB hb9; have HB := HB9; clear HB9) | (go_at_call 38; (with_reducible refine (HR _).mono ?_); rintro e w9 ⟨rfl, hb9⟩; have HB9 := Aside0.mk (below_step HB.out hb9); clear HB hb9; have HB := HB9; clear HB9) | (go_at_call 17; (with_reducible refine (HA _).mono ?_); rintro e w9 ⟨rfl, hb9⟩; have HB9 := Aside0.mk (below_step HB.out hb9); clear HB hb9; have HB := HB9; clear HB9) | go_in)
  go_ret
  exact ⟨rfl, HB.out⟩
end Go.Proofs.Ytdphppbocoinjaa.BA
