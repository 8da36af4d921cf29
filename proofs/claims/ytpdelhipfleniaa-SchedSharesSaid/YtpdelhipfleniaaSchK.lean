/- Proved: a scheduler that is laid out with entries that are all ready, and its ticks while all have the same credit (for the laws of the scheduler). -/
import Derived.Test.YtpdelhipfleniaaSchJ
namespace Go.Proofs.Ytpdelhipfleniaa.SchK
open Go.RowKit Go.Maps Go.Proofs.Ytpdelhipfleniaa.Base Go.Proofs.Ytpdelhipfleniaa.SchA Go.Proofs.Ytpdelhipfleniaa.SchB Go.Proofs.Ytpdelhipfleniaa.SchC Go.Proofs.Ytpdelhipfleniaa.SchD Go.Proofs.Ytpdelhipfleniaa.SchE Go.Proofs.Ytpdelhipfleniaa.SchF Go.Proofs.Ytpdelhipfleniaa.SchG Go.Proofs.Ytpdelhipfleniaa.SchH Go.Proofs.Ytpdelhipfleniaa.SchI Go.Proofs.Ytpdelhipfleniaa.SchJ
set_option linter.unusedVariables false

def nat (i : Nat) : List Int := (List.range i).map (fun k : Nat => (k : Int))
theorem mem_nat {i : Nat} {x : Int} : x ∈ nat i ↔ ∃ k : Nat, k < i ∧ x = k := by
  simp only [nat, List.mem_map, List.mem_range]
  exact ⟨fun ⟨k, h1, h2⟩ => ⟨k, h1, h2.symm⟩, fun ⟨k, h1, h2⟩ => ⟨k, h1, h2.symm⟩⟩
theorem nat_succ (i : Nat) : outq (nat i) i ++ [(i : Int)] = nat (i + 1) := by
  rw [outq, List.erase_of_not_mem (fun h => by obtain ⟨k, h1, h2⟩ := mem_nat.1 h; omega), nat, nat, List.range_succ, List.map_append]
  rfl
theorem nat_len (i : Nat) : (nat i).length = i := by simp [nat]

/-- i entries stand, f tells what is in them, all are ready. -/
def SetUp (base : Nat) (W : World) (S : Nat) (f : Nat → V) (i : Nat) : Prop :=
  ∃ M s e qv, Sch base W S M s e i qv (nat i) 0 ∧ (∀ k, (s k).isSome = decide (k < i)) ∧ ∀ k, k < i → e k = f k
/-- The last one is not ready yet. -/
def Half (base : Nat) (W : World) (S : Nat) (f : Nat → V) (i : Nat) : Prop :=
  ∃ M s e qv, Sch base W S M s e (i + 1) qv (nat i) 0 ∧ (∀ k, (s k).isSome = decide (k < i + 1)) ∧ (∀ k, k < i → e k = f k) ∧ e i = { f i with ready := false }

theorem setup_new (w : World) (f : Nat → V) : Calls Try.prog 8 #[] w fun z w' => ∃ S, z = .returned (.pointer (some ⟨S, 0, none⟩)) ∧ SetUp w.heap.size w' S f 0 ∧ Below w.heap.size w w' := by
  refine (new_calls w).mono ?_
  rintro z w' ⟨S, M, rfl, h, hb⟩
  exact ⟨S, rfl, ⟨M, _, _, _, h, fun k => by simp, fun k hk => absurd hk (Nat.not_lt_zero _)⟩, hb⟩
theorem setup_add {base : Nat} {w : World} {S : Nat} {f : Nat → V} {i : Nat} (h : SetUp base w S f i) (hb : base ≤ w.heap.size) (hi : i < 16) (dom weight : Int) (h1 : 0 ≤ dom) (h2 : dom < 8) (h3 : 1 ≤ weight) (h4 : weight ≤ 1024) (hf : f i = ⟨dom, weight, 0, 0, true, 0⟩) :
    Calls Try.prog 9 #[.pointer (some ⟨S, 0, none⟩), .int .i64 dom, .int .i64 weight, .int .i64 0] w fun z w' => z = .returned (.tuple #[.int .i64 i, .int .i64 0]) ∧ Half base w' S f i ∧ Below base w w' := by
  obtain ⟨M, s, e, qv, hs, hd, he⟩ := h
  have hnone : s i = none := by
    have := hd i
    rw [decide_eq_false (Nat.lt_irrefl i)] at this
    cases hh : s i with
    | none => rfl
    | some g => rw [hh] at this; cases this
  refine (add_calls hs hb i hi hi (fun j hj => by rw [hd j]; exact decide_eq_true hj) hnone dom weight 0 h1 h2 h3 h4 (by omega) (by omega)).mono ?_
  rintro z w' ⟨rfl, h', hb'⟩
  refine ⟨rfl, ⟨M, _, _, _, h', fun k => ?_, fun k hk => ?_, ?_⟩, hb'⟩
  · show (if k = i then some w.heap.size else s k).isSome = _
    by_cases e1 : k = i
    · rw [if_pos e1, e1]
      exact (decide_eq_true (by omega)).symm
    · rw [if_neg e1, hd k]
      exact decide_eq_decide.2 (by omega)
  · show (if k = i then _ else e k) = _
    rw [if_neg (by omega), he k hk]
  · show (if i = i then _ else e i) = _
    rw [if_pos rfl, hf]
theorem setup_wake {base : Nat} {w : World} {S : Nat} {f : Nat → V} {i : Nat} (h : Half base w S f i) (hb : base ≤ w.heap.size) (hi : i < 16) (hf : (f i).ready = true) :
    Calls Try.prog 10 #[.pointer (some ⟨S, 0, none⟩), .int .i64 i] w fun z w' => z = .returned (.int .i64 0) ∧ SetUp base w' S f (i + 1) ∧ Below base w w' := by
  obtain ⟨M, s, e, qv, hs, hd, he, hei⟩ := h
  obtain ⟨g, hg⟩ : ∃ g, s i = some g := Option.isSome_iff_exists.1 (by rw [hd i]; exact decide_eq_true (by omega))
  refine (wake_calls hs hb (by rw [nat_len]; omega) i g hi hg (by rw [hei])).mono ?_
  rintro z w' ⟨rfl, qv', h', hb'⟩
  rw [nat_succ] at h'
  refine ⟨rfl, ⟨M, _, _, _, h', hd, fun k hk => ?_⟩, hb'⟩
  show (if k = i then setReady (e i) true else e k) = _
  by_cases e1 : k = i
  · rw [if_pos e1, hei, e1, setReady]
    show { f i with ready := true } = f i
    rw [← hf]
  · rw [if_neg e1, he k (by omega)]

/-- The queue behind i ticks of m + 1 entries that run in turn. -/
def rot (m i : Nat) : List Int := (List.range (m + 1)).map (fun j : Nat => (((i + j) % (m + 1) : Nat) : Int))
theorem rot_head (m i : Nat) : ∃ tl, rot m i = (((i % (m + 1) : Nat) : Int)) :: tl ∧ rot m (i + 1) = tl ++ [((i % (m + 1) : Nat) : Int)] := by
  refine ⟨(List.range m).map (fun j : Nat => (((i + 1 + j) % (m + 1) : Nat) : Int)), ?_, ?_⟩
  · rw [rot, List.range_succ_eq_map, List.map_cons, List.map_map]
    refine congrArg (List.cons _) (List.map_congr_left fun j _ => ?_)
    show (((i + (j + 1)) % (m + 1) : Nat) : Int) = _
    rw [show i + (j + 1) = i + 1 + j by omega]
  · rw [rot, List.range_succ, List.map_append]
    show _ ++ [(((i + 1 + m) % (m + 1) : Nat) : Int)] = _
    rw [show i + 1 + m = i + (m + 1) by omega, Nat.add_mod_right]
theorem rot_zero (m : Nat) : rot m 0 = nat (m + 1) := by
  refine List.map_congr_left fun j hj => ?_
  rw [List.mem_range] at hj
  rw [Nat.zero_add, Nat.mod_eq_of_lt hj]
theorem mem_rot {m i : Nat} {x : Int} (h : x ∈ rot m i) : ∃ k : Nat, k < m + 1 ∧ x = k := by
  obtain ⟨j, _, rfl⟩ := List.mem_map.1 h
  exact ⟨(i + j) % (m + 1), Nat.mod_lt _ (by omega), rfl⟩
theorem rot_len (m i : Nat) : (rot m i).length = m + 1 := by simp [rot]

/-- m + 1 entries of one weight behind i ticks. -/
def TurnsAt (base : Nat) (W : World) (S m i : Nat) : Prop :=
  ∃ M s e qv, Sch base W S M s e (m + 1) qv (rot m i) i ∧ (∀ k, (s k).isSome = decide (k < m + 1)) ∧ ∀ k, k < m + 1 → (1 ≤ (e k).weight ∧ (e k).weight ≤ 1024) ∧ (e k).cap = 0 ∧ -100 * (i : Int) ≤ (e k).credit ∧ (e k).credit ≤ 0
theorem turns_start {base : Nat} {W : World} {S m : Nat} {f : Nat → V} (W5 : Int) (h1 : 1 ≤ W5) (h2 : W5 ≤ 1024) (hf : ∀ k, f k = ⟨0, W5, 0, 0, true, 0⟩) (h : SetUp base W S f (m + 1)) : TurnsAt base W S m 0 := by
  obtain ⟨M, s, e, qv, hs, hd, he⟩ := h
  refine ⟨M, s, e, qv, by rw [rot_zero]; exact hs, hd, fun k hk => ?_⟩
  rw [he k hk, hf]
  exact ⟨⟨h1, h2⟩, rfl, Int.le_refl _, Int.le_refl _⟩
theorem some_of {s : Nat → Option Nat} {n k : Nat} (hd : ∀ k, (s k).isSome = decide (k < n)) (hk : k < n) : ∃ g, s k = some g := Option.isSome_iff_exists.1 (by rw [hd k]; exact decide_eq_true hk)
theorem lt_of_some {s : Nat → Option Nat} {n k g : Nat} (hd : ∀ k, (s k).isSome = decide (k < n)) (hk : s k = some g) : k < n := by
  have := hd k
  rw [hk] at this
  exact of_decide_eq_true this.symm
theorem turns_tick {base : Nat} {w : World} {S m i : Nat} (h : TurnsAt base w S m i) (hb : base ≤ w.heap.size) (hm : m < 16) (hi : i < 9) :
    Calls Try.prog 11 #[.pointer (some ⟨S, 0, none⟩)] w fun z w' => z = .returned (.int .i64 ((i % (m + 1) : Nat) : Int)) ∧ TurnsAt base w' S m (i + 1) ∧ Below base w w' := by
  obtain ⟨M, s, e, qv, hs, hd, he⟩ := h
  have hq : Qok (rot m i) s := fun x hx => by
    obtain ⟨k, hk, rfl⟩ := mem_rot hx
    obtain ⟨g, hg⟩ := some_of hd hk
    exact ⟨k, g, rfl, by omega, hg⟩
  have hv : Vok s e := fun k g hg => by
    have := he k (lt_of_some hd hg)
    omega
  obtain ⟨tl, h1, h2⟩ := rot_head m i
  have hno : (rot m i).find? (pos e) = none := by
    rw [List.find?_eq_none]
    intro x hx
    obtain ⟨k, hk, rfl⟩ := mem_rot hx
    have := (he k hk).2.2.2
    simp [pos]
    omega
  have hn : nextOf (rot m i) e = some ((i % (m + 1) : Nat) : Int) := by
    rw [nextOf, hno, h1]
    rfl
  have hlt : i % (m + 1) < m + 1 := Nat.mod_lt _ (by omega)
  refine (tick_calls hs hb hq hv (by rw [rot_len]; omega) (by omega) (by omega)).mono ?_
  rintro z w' ⟨rfl, qv', h', hb'⟩
  have e1 : tickR e (rot m i) = ((i % (m + 1) : Nat) : Int) := by rw [tickR, hn]
  have e2 : tickQ e (rot m i) = rot m (i + 1) := by simp only [tickQ, hn]; rw [h2, h1]; simp [outq]
  rw [e2, shareE, if_neg (by omega)] at h'
  refine ⟨by rw [e1], ⟨M, s, _, qv', h', hd, fun k hk => ?_⟩, hb'⟩
  rw [tickE, hn]
  show (1 ≤ ((if k = (((i % (m + 1) : Nat) : Int)).toNat then runV (e k) else e k)).weight ∧ ((if k = (((i % (m + 1) : Nat) : Int)).toNat then runV (e k) else e k)).weight ≤ 1024) ∧ (if k = (((i % (m + 1) : Nat) : Int)).toNat then runV (e k) else e k).cap = 0 ∧ _ ≤ (if k = (((i % (m + 1) : Nat) : Int)).toNat then runV (e k) else e k).credit ∧ (if k = (((i % (m + 1) : Nat) : Int)).toNat then runV (e k) else e k).credit ≤ 0
  have hek := he k hk
  by_cases e3 : k = (((i % (m + 1) : Nat) : Int)).toNat
  · rw [if_pos e3]
    have e4 : (runV (e k)).credit = (e k).credit - 100 := by
      show wrap64 ((e k).credit - 100) = _
      unfold wrap64
      omega
    refine ⟨hek.1, hek.2.1, ?_, ?_⟩ <;> rw [e4] <;> omega
  · rw [if_neg e3]
    refine ⟨hek.1, hek.2.1, ?_, ?_⟩ <;> omega
end Go.Proofs.Ytpdelhipfleniaa.SchK
