/- Proved: what an act's line is, in plain lists (no program in sight). -/
import Derived.Test.YtafphlimklgijaaDoorSpA
import Derived.Lib.Join
namespace Go.Proofs.YtafphlimklgijaaDoor.SpP
open Go.Proofs.YtafphlimklgijaaDoor.TdB
set_option linter.unusedVariables false

/-- How many of the first n numbers are left when the zeroes behind them are gone. -/
def trimK (f : Nat → Int) : Nat → Nat
  | 0 => 0
  | n + 1 => if f n = 0 then trimK f n else n + 1
theorem trimK_zero {f : Nat → Int} {n : Nat} (h : f n = 0) : trimK f (n + 1) = trimK f n := by simp [trimK, h]
theorem trimK_hit {f : Nat → Int} {n : Nat} (h : f n ≠ 0) : trimK f (n + 1) = n + 1 := by simp [trimK, h]
theorem trimK_le (f : Nat → Int) (n : Nat) : trimK f n ≤ n := by
  induction n with
  | zero => exact Nat.le_refl _
  | succ n ih =>
    unfold trimK
    split <;> omega
/-- A rewrite as it lies in an argument. -/
structure Pk where
  at_ : Int
  mfn : Int
  off : Int
  A : Option Addr
  l : Nat
  c : Nat
  zs : List UInt8
  deriving Inhabited
def smallB (n : Int) : Bool := decide (0 ≤ n) && decide (n ≤ 999999999)
theorem smallB_iff {n : Int} : smallB n = true ↔ 0 ≤ n ∧ n ≤ 999999999 := by simp [smallB]
def Pk.small (p : Pk) : Bool := smallB p.at_ && (smallB p.mfn && smallB p.off)
def plainB (l : List UInt8) : Bool := l.all fun c => decide (32 ≤ c.toNat) && (decide (c.toNat ≤ 126) && (decide (c.toNat ≠ 34) && decide (c.toNat ≠ 92)))
def dec (n : Int) : List UInt8 := Lib.decDigits n.toNat
def numW (f : Nat → Int) (k : Nat) : List (List UInt8) := (List.range k).map fun i => dec (f i)
theorem numW_succ (f : Nat → Int) (k : Nat) : numW f (k + 1) = numW f k ++ [dec (f k)] := by simp [numW, List.range_succ]
def textW (T : List UInt8) : List (List UInt8) := if T = [] then [] else [[34] ++ T ++ [34]]
def byteW (zs : List UInt8) : List (List UInt8) := if zs = [] then [] else [[61] ++ hexs zs]
def pokeW (p : Pk) : List UInt8 := [64] ++ dec p.at_ ++ [58] ++ dec p.mfn ++ [58] ++ dec p.off ++ [58] ++ hexs p.zs
/-- The words of a line behind its first. -/
def restW (f : Nat → Int) (m : Nat) (T zs : List UInt8) (ps : List Pk) : List (List UInt8) := numW f m ++ textW T ++ byteW zs ++ ps.map pokeW
def tail (l : List (List UInt8)) : List UInt8 := Lib.joinTail [32] l
theorem tail_nil : tail [] = [] := rfl
theorem tail_snoc (l : List (List UInt8)) (x : List UInt8) : tail (l ++ [x]) = tail l ++ [32] ++ x := by simp [tail, Lib.joinTail]
theorem tail_app (l r : List (List UInt8)) : tail (l ++ r) = tail l ++ tail r := by simp [tail, Lib.joinTail]
theorem join_eq (x : List UInt8) (l : List (List UInt8)) : Lib.join (x :: l) [32] = x ++ tail l := Lib.join_cons x l [32]
/-- The line, or why there is none. -/
def lineOf (x : List UInt8) (l : List (List UInt8)) : List UInt8 × Int := if 65536 < (x ++ tail l).length then ([], 2) else (x ++ tail l, 0)
def outOf (x : List UInt8) (f : Nat → Int) (m : Nat) (T zs : List UInt8) (ps : List Pk) : List UInt8 × Int :=
  if ps.all Pk.small = true then lineOf x (restW f m T zs ps) else ([], 4)

theorem dec_len {n : Int} (h : smallB n = true) : (dec n).length ≤ 20 := by
  rw [smallB_iff] at h
  unfold dec
  rw [Lib.decDigits_length]
  exact Lib.nDigits_le20 _ (by omega)
theorem lens_le {l : List (List UInt8)} {b : Nat} (h : ∀ x ∈ l, x.length ≤ b) : Lib.lens l ≤ l.length * b := by
  induction l with
  | nil => simp [Lib.lens]
  | cons x l ih =>
    have h1 := h x (by simp)
    have h2 := ih (fun y hy => h y (by simp [hy]))
    have : Lib.lens (x :: l) = x.length + Lib.lens l := by simp [Lib.lens]
    rw [this, List.length_cons, Nat.add_mul]
    omega
theorem tail_len {l : List (List UInt8)} {b : Nat} (h : ∀ x ∈ l, x.length ≤ b) : (tail l).length ≤ l.length * (b + 1) := by
  have h1 := lens_le h
  unfold tail
  rw [Lib.joinTail_length, Nat.mul_add]
  simp only [List.length_cons, List.length_nil]
  omega
/-- What an act's text and bytes take. -/
structure Fit (f : Nat → Int) (m : Nat) (T zs : List UInt8) (ps : List Pk) : Prop where
  num : ∀ i, i < m → smallB (f i) = true
  four : m ≤ 4
  text : T.length ≤ 1048576
  bytes : zs.length ≤ 1048576
  pokes : ps.length ≤ 1048576
  poke : ∀ p ∈ ps, p.zs.length ≤ 1048576
theorem pokeW_len {p : Pk} (h : p.small = true) (hz : p.zs.length ≤ 1048576) : (pokeW p).length ≤ 2097216 := by
  unfold Pk.small at h
  simp only [Bool.and_eq_true] at h
  have h1 := dec_len h.1
  have h2 := dec_len h.2.1
  have h3 := dec_len h.2.2
  unfold pokeW
  simp only [List.length_append, List.length_cons, List.length_nil, hexs_len]
  omega
theorem word_len {f : Nat → Int} {m : Nat} {T zs : List UInt8} {ps : List Pk} (h : Fit f m T zs ps) (hp : ∀ p ∈ ps, p.small = true) : ∀ x ∈ restW f m T zs ps, x.length ≤ 2097216 := by
  intro x hx
  unfold restW at hx
  simp only [List.mem_append] at hx
  rcases hx with ((hx | hx) | hx) | hx
  · unfold numW at hx
    obtain ⟨i, hi, rfl⟩ := List.mem_map.1 hx
    have := dec_len (h.num i (by simpa using hi))
    omega
  · unfold textW at hx
    split at hx
    · cases hx
    · obtain rfl := List.mem_singleton.1 hx
      have := h.text
      simp only [List.length_append, List.length_cons, List.length_nil]
      omega
  · unfold byteW at hx
    split at hx
    · cases hx
    · obtain rfl := List.mem_singleton.1 hx
      have := h.bytes
      simp only [List.length_append, List.length_cons, List.length_nil, hexs_len]
      omega
  · obtain ⟨p, hm, rfl⟩ := List.mem_map.1 hx
    exact pokeW_len (hp p hm) (h.poke p hm)
theorem restW_len {f : Nat → Int} {m : Nat} {T zs : List UInt8} {ps : List Pk} (h : Fit f m T zs ps) : (restW f m T zs ps).length ≤ 1048582 := by
  have h1 : (textW T).length ≤ 1 := by unfold textW; split <;> simp
  have h2 : (byteW zs).length ≤ 1 := by unfold byteW; split <;> simp
  have h3 := h.pokes
  have h4 := h.four
  unfold restW
  simp only [List.length_append, List.length_map, numW, List.length_range]
  omega
/-- The whole line is far shorter than any machine's memory. -/
theorem rest_len {f : Nat → Int} {m : Nat} {T zs : List UInt8} {ps : List Pk} (h : Fit f m T zs ps) (hp : ∀ p ∈ ps, p.small = true) : (tail (restW f m T zs ps)).length ≤ 3000000000000 := by
  have h1 := tail_len (word_len h hp)
  have h2 := restW_len h
  have h3 : (restW f m T zs ps).length * (2097216 + 1) ≤ 1048582 * (2097216 + 1) := Nat.mul_le_mul_right _ h2
  omega
theorem Fit.take {f : Nat → Int} {m : Nat} {T zs : List UInt8} {ps : List Pk} (h : Fit f m T zs ps) (k : Nat) : Fit f m T zs (ps.take k) :=
  ⟨h.num, h.four, h.text, h.bytes, Nat.le_trans (by rw [List.length_take]; omega) h.pokes, fun p hp => h.poke p (List.mem_of_mem_take hp)⟩
theorem restW_take {f : Nat → Int} {m : Nat} {T zs : List UInt8} {ps : List Pk} {k : Nat} {p : Pk} (h : ps[k]? = some p) : restW f m T zs (ps.take (k + 1)) = restW f m T zs (ps.take k) ++ [pokeW p] := by
  unfold restW
  rw [List.take_add_one, h]
  simp
end Go.Proofs.YtafphlimklgijaaDoor.SpP
