/- Proved: what each call of the program's scheduler makes of the state that it holds (contracts for the laws of the scheduler). -/
import Derived.Test.YtpdelhipfleniaaAbB
namespace Go.Proofs.Ytpdelhipfleniaa.AbC
open Go.RowKit Go.Maps Go.Proofs.Ytpdelhipfleniaa.Base Go.Proofs.Ytpdelhipfleniaa.SchA Go.Proofs.Ytpdelhipfleniaa.PlB Go.Proofs.Ytpdelhipfleniaa.PlC Go.Proofs.Ytpdelhipfleniaa.PlD Go.Proofs.Ytpdelhipfleniaa.PlE Go.Proofs.Ytpdelhipfleniaa.PlF Go.Proofs.Ytpdelhipfleniaa.PlG Go.Proofs.Ytpdelhipfleniaa.PlH Go.Proofs.Ytpdelhipfleniaa.PlI Go.Proofs.Ytpdelhipfleniaa.PlJ Go.Proofs.Ytpdelhipfleniaa.PlK Go.Proofs.Ytpdelhipfleniaa.PlL Go.Proofs.Ytpdelhipfleniaa.RfA Go.Proofs.Ytpdelhipfleniaa.RfB Go.Proofs.Ytpdelhipfleniaa.RfC Go.Proofs.Ytpdelhipfleniaa.RfD Go.Proofs.Ytpdelhipfleniaa.RfE Go.Proofs.Ytpdelhipfleniaa.RfF Go.Proofs.Ytpdelhipfleniaa.RfG Go.Proofs.Ytpdelhipfleniaa.RfH Go.Proofs.Ytpdelhipfleniaa.AbA Go.Proofs.Ytpdelhipfleniaa.AbB
set_option linter.unusedVariables false

theorem keysP_del {p : Nat → Bool} {k : Nat} (hk : k < 16) (hp : p k = true) : (keysP (delP p k)).length = (keysP p).length - 1 := by
  unfold keysP
  rw [List.length_map, List.length_map]
  have e1 : (List.range 16).filter (delP p k) = ((List.range 16).filter p).erase k := by
    rw [List.Nodup.erase_eq_filter (List.nodup_range.filter p) k, List.filter_filter]
    refine List.filter_congr fun x _ => ?_
    unfold delP
    by_cases h : x = k
    · rw [if_pos h, h]; simp
    · rw [if_neg h]; simp [h]
  rw [e1, List.length_erase_of_mem (List.mem_filter.2 ⟨List.mem_range.2 hk, hp⟩)]
theorem keysP_add {p : Nat → Bool} {k : Nat} (hk : k < 16) (hp : p k = false) : (keysP (addP p k)).length = (keysP p).length + 1 := by
  have h1 : addP p k k = true := by rw [addP, if_pos rfl]
  have h2 := keysP_del hk h1
  have e1 : delP (addP p k) k = p := by
    funext j
    unfold delP addP
    by_cases h : j = k
    · rw [if_pos h, h, hp]
    · rw [if_neg h, if_neg h]
  rw [e1] at h2
  have h3 : 0 < (keysP (addP p k)).length := List.length_pos_of_mem (List.mem_map.2 ⟨k, List.mem_filter.2 ⟨List.mem_range.2 hk, h1⟩, rfl⟩)
  omega
theorem keysP_len (p : Nat → Bool) : (keysP p).length ≤ 16 := by
  unfold keysP
  rw [List.length_map]
  have := List.length_filter_le p (List.range 16)
  rwa [List.length_range] at this
theorem keysP_full {p : Nat → Bool} (h : ∀ k, k < 16 → p k = true) : (keysP p).length = 16 := by
  unfold keysP
  rw [List.length_map, List.filter_eq_self.2 (fun k hk => h k (List.mem_range.1 hk))]
  rfl
theorem sst_of {X : Nat → Prop} {w : World} {S M : Nat} {s : Nat → Option Nat} {e : Nat → V} {c : Nat} {qv : Value} {q : List Int} {t : Int} {p : Nat → Bool} (h : Sch X w S M s e c qv q t) (hp : ∀ k, (s k).isSome = p k) (hc : c = (keysP p).length) : ∃ F', Sst X F' w S ⟨p, e, q, t⟩ :=
  ⟨_, M, s, c, qv, h, hp, hc, fun k => Iff.rfl⟩

section
variable {X F : Nat → Prop} {w : World} {S M : Nat} {s : Nat → Option Nat} {e : Nat → V} {c : Nat} {qv : Value} {q : List Int} {t : Int} {σ : St}
set_option maxHeartbeats 4000000 in
set_option maxRecDepth 100000 in
theorem add_bad (h : Sch X w S M s e c qv q t) (a b l : Int) (ho : okArgs a b l = false) :
    Calls Try.prog 9 #[.pointer (some ⟨S, 0, none⟩), .int .i64 a, .int .i64 b, .int .i64 l] w fun z w' => z = .returned (.tuple #[.int .i64 0, .int .i64 1]) ∧ w' = w := by
  by_cases a1 : a < 0
  · have b1 : (decide (a < 0)) = true := decide_eq_true a1
    go_enter Try.func9, Try.ntmps9
    go_wp2_with (first
      | (go_at_call 24; refine (none_calls h).mono ?_; rintro z w1 ⟨rfl, hw1⟩; obtain rfl := hw1.symm)
      | go_in)
    go_ret2
    exact ⟨by first | rfl | (simp; done), rfl⟩
  have b1 : (decide (a < 0)) = false := decide_eq_false a1
  by_cases a2 : 8 ≤ a
  · have b2 : (decide (8 ≤ a)) = true := decide_eq_true a2
    go_enter Try.func9, Try.ntmps9
    go_wp2_with (first
      | (go_at_call 24; refine (none_calls h).mono ?_; rintro z w1 ⟨rfl, hw1⟩; obtain rfl := hw1.symm)
      | go_in)
    go_ret2
    exact ⟨by first | rfl | (simp; done), rfl⟩
  have b2 : (decide (8 ≤ a)) = false := decide_eq_false a2
  by_cases a3 : b < 1
  · have b3 : (decide (b < 1)) = true := decide_eq_true a3
    go_enter Try.func9, Try.ntmps9
    go_wp2_with (first
      | (go_at_call 24; refine (none_calls h).mono ?_; rintro z w1 ⟨rfl, hw1⟩; obtain rfl := hw1.symm)
      | go_in)
    go_ret2
    exact ⟨by first | rfl | (simp; done), rfl⟩
  have b3 : (decide (b < 1)) = false := decide_eq_false a3
  by_cases a4 : 1024 < b
  · have b4 : (decide (1024 < b)) = true := decide_eq_true a4
    go_enter Try.func9, Try.ntmps9
    go_wp2_with (first
      | (go_at_call 24; refine (none_calls h).mono ?_; rintro z w1 ⟨rfl, hw1⟩; obtain rfl := hw1.symm)
      | go_in)
    go_ret2
    exact ⟨by first | rfl | (simp; done), rfl⟩
  have b4 : (decide (1024 < b)) = false := decide_eq_false a4
  by_cases a5 : l < 0
  · have b5 : (decide (l < 0)) = true := decide_eq_true a5
    go_enter Try.func9, Try.ntmps9
    go_wp2_with (first
      | (go_at_call 24; refine (none_calls h).mono ?_; rintro z w1 ⟨rfl, hw1⟩; obtain rfl := hw1.symm)
      | go_in)
    go_ret2
    exact ⟨by first | rfl | (simp; done), rfl⟩
  have b5 : (decide (l < 0)) = false := decide_eq_false a5
  have a6 : 100 < l := by
    simp only [okArgs, Bool.and_eq_false_iff, decide_eq_false_iff_not] at ho
    omega
  have b6 : (decide (100 < l)) = true := decide_eq_true a6
  go_enter Try.func9, Try.ntmps9
  go_wp2_with (first
    | (go_at_call 24; refine (none_calls h).mono ?_; rintro z w1 ⟨rfl, hw1⟩; obtain rfl := hw1.symm)
    | go_in)
  go_ret2
  exact ⟨by first | rfl | (simp; done), rfl⟩
set_option maxHeartbeats 4000000 in
set_option maxRecDepth 100000 in
theorem add_full (h : Sch X w S M s e c qv q t) (a b l : Int) (ho : okArgs a b l = true) (hc : c = 16) :
    Calls Try.prog 9 #[.pointer (some ⟨S, 0, none⟩), .int .i64 a, .int .i64 b, .int .i64 l] w fun z w' => z = .returned (.tuple #[.int .i64 0, .int .i64 71]) ∧ w' = w := by
  obtain ⟨b1, b2, b3, b4, b5, b6⟩ := ok_args ho
  have C0 := fun i => blk_cell h.blk i
  have L0 := blk_lt h.blk
  have hlen := h.map.len
  subst hc
  go_enter Try.func9, Try.ntmps9
  go_wp2_with (first
    | (go_at_call 24; refine (none_calls h).mono ?_; rintro z w1 ⟨rfl, hw1⟩; obtain rfl := hw1.symm)
    | go_in)
  go_ret2
  exact ⟨by first | rfl | (simp; done), rfl⟩

theorem sAdd (h : Sst X F w S σ) (hb : Old X w) (hi : Inv σ) (a b l : Int) :
    Calls Try.prog 9 #[.pointer (some ⟨S, 0, none⟩), .int .i64 a, .int .i64 b, .int .i64 l] w fun z w' => z = .returned (.tuple #[.int .i64 (addR σ a b l).1, .int .i64 (addR σ a b l).2.1]) ∧ ∃ F', Sst X F' w' S (addR σ a b l).2.2 ∧ Kept X w w' := by
  obtain ⟨M, s, c, qv, hS, hp, hc, hF⟩ := id h
  unfold addR
  cases ho : okArgs a b l with
  | false =>
    refine (add_bad hS a b l ho).mono ?_
    rintro z w1 ⟨rfl, rfl⟩
    exact ⟨rfl, F, h, Kept.refl _ _⟩
  | true =>
    cases hf : freeP σ.p with
    | none =>
      refine (add_full hS a b l ho (by rw [hc, keysP_full (freeP_none hf)])).mono ?_
      rintro z w1 ⟨rfl, rfl⟩
      exact ⟨rfl, F, h, Kept.refl _ _⟩
    | some n =>
      obtain ⟨h16, hpn, hlow⟩ := freeP_some hf
      have hk := keysP_add h16 hpn
      have hk2 := keysP_len (addP σ.p n)
      have ho2 := ho
      simp only [okArgs, Bool.and_eq_true, decide_eq_true_eq] at ho2
      refine (add_calls hS hb n h16 (by omega) (fun j hj => (hp j).trans (hlow j hj)) (by have := (hp n).trans hpn; cases hs : s n with | none => rfl | some g => rw [hs] at this; cases this) a b l ho2.1.1.1.1.1 ho2.1.1.1.1.2 ho2.1.1.1.2 ho2.1.1.2 ho2.1.2 ho2.2).mono ?_
      rintro z w1 ⟨rfl, h1, hK⟩
      obtain ⟨F', h2⟩ := sst_of (p := addP σ.p n) h1 (fun k => by
        unfold addP
        by_cases e1 : k = n
        · rw [if_pos e1, if_pos e1]; rfl
        · rw [if_neg e1, if_neg e1]; exact hp k) (by rw [hk, hc])
      exact ⟨rfl, F', h2, hK⟩
theorem s_none {p : Nat → Bool} {s : Nat → Option Nat} {n : Int} (hp : ∀ k, (s k).isSome = p k) (h : n < 0 ∨ p n.toNat = false) : n < 0 ∨ s n.toNat = none := h.imp id fun h => by
  have := (hp n.toNat).trans h
  cases hs : s n.toNat with
  | none => rfl
  | some g => rw [hs] at this; cases this
theorem s_some {p : Nat → Bool} {s : Nat → Option Nat} {k : Nat} (hp : ∀ k, (s k).isSome = p k) (h : p k = true) : ∃ g, s k = some g := Option.isSome_iff_exists.1 ((hp k).trans h)

theorem sWake (h : Sst X F w S σ) (hb : Old X w) (hi : Inv σ) (n : Int) (n1 : -9223372036854775808 ≤ n) (n2 : n ≤ 9223372036854775807) :
    Calls Try.prog 10 #[.pointer (some ⟨S, 0, none⟩), .int .i64 n] w fun z w' => z = .returned (.int .i64 (onS σ n wakeS).1) ∧ ∃ F', Sst X F' w' S (onS σ n wakeS).2 ∧ Kept X w w' := by
  obtain ⟨M, s, c, qv, hS, hp, hc, hF⟩ := id h
  unfold onS
  cases ho : isn σ.p n with
  | false =>
    refine (wake_none hS n n1 n2 (s_none hp (isn_off hi.hi ho))).mono ?_
    rintro z w1 ⟨rfl, rfl⟩
    exact ⟨rfl, F, h, Kept.refl _ _⟩
  | true =>
    obtain ⟨k, rfl, h16, hpk⟩ := isn_some ho
    obtain ⟨g, hg⟩ := s_some hp hpk
    rw [Int.toNat_natCast]
    have hl := hi.len
    unfold wakeS
    cases hr : (σ.e k).ready with
    | true =>
      refine (wake_ready hS k g h16 hg hr).mono ?_
      rintro z w1 ⟨rfl, rfl⟩
      exact ⟨rfl, F, h, Kept.refl _ _⟩
    | false =>
      refine (wake_calls hS hb (by omega) k g h16 hg hr).mono ?_
      rintro z w1 ⟨rfl, qv', h1, hK⟩
      have hnq : (k : Int) ∉ σ.q := fun hm => by
        obtain ⟨j, e1, _, _, h3⟩ := (hi.mem k).1 hm
        have : j = k := by omega
        subst this
        rw [hr] at h3
        cases h3
      have e1 : outq σ.q k = σ.q := (outq_miss σ.q k hnq).2
      rw [e1] at h1
      obtain ⟨F', h2⟩ := sst_of (p := σ.p) h1 hp hc
      exact ⟨rfl, F', h2, hK⟩
theorem sSleep (h : Sst X F w S σ) (hb : Old X w) (hi : Inv σ) (n : Int) (n1 : -9223372036854775808 ≤ n) (n2 : n ≤ 9223372036854775807) :
    Calls Try.prog 17 #[.pointer (some ⟨S, 0, none⟩), .int .i64 n] w fun z w' => z = .returned (.int .i64 (onS σ n sleepS).1) ∧ ∃ F', Sst X F' w' S (onS σ n sleepS).2 ∧ Kept X w w' := by
  obtain ⟨M, s, c, qv, hS, hp, hc, hF⟩ := id h
  unfold onS
  cases ho : isn σ.p n with
  | false =>
    refine (sleep_none hS n n1 n2 (s_none hp (isn_off hi.hi ho))).mono ?_
    rintro z w1 ⟨rfl, rfl⟩
    exact ⟨rfl, F, h, Kept.refl _ _⟩
  | true =>
    obtain ⟨k, rfl, h16, hpk⟩ := isn_some ho
    obtain ⟨g, hg⟩ := s_some hp hpk
    rw [Int.toNat_natCast]
    refine (sleep_calls hS hb k g h16 hg).mono ?_
    rintro z w1 ⟨rfl, qv', h1, hK⟩
    rw [outr_erase hi.nd] at h1
    obtain ⟨F', h2⟩ := sst_of (p := σ.p) h1 hp hc
    exact ⟨rfl, F', h2, hK⟩
theorem sRemove1 (h : Sst X F w S σ) (hb : Old X w) (hnd : σ.q.Nodup) (k : Nat) (h16 : k < 16) (hpk : σ.p k = true) :
    Calls Try.prog 16 #[.pointer (some ⟨S, 0, none⟩), .int .i64 k] w fun z w' => z = .returned (.int .i64 0) ∧ ∃ F', Sst X F' w' S (removeS σ k) ∧ Kept X w w' := by
  obtain ⟨M, s, c, qv, hS, hp, hc, hF⟩ := id h
  obtain ⟨g, hg⟩ := s_some hp hpk
  refine (remove_calls hS hb k g h16 hg).mono ?_
  rintro z w1 ⟨rfl, qv', h1, hK⟩
  rw [outr_erase hnd] at h1
  obtain ⟨F', h2⟩ := sst_of (p := delP σ.p k) h1 (fun j => by
    unfold delP
    by_cases e1 : j = k
    · rw [if_pos e1, if_pos e1]; rfl
    · rw [if_neg e1, if_neg e1]; exact hp j) (by rw [keysP_del h16 hpk, hc])
  exact ⟨rfl, F', h2, hK⟩
theorem sRemove (h : Sst X F w S σ) (hb : Old X w) (hi : Inv σ) (n : Int) (n1 : -9223372036854775808 ≤ n) (n2 : n ≤ 9223372036854775807) :
    Calls Try.prog 16 #[.pointer (some ⟨S, 0, none⟩), .int .i64 n] w fun z w' => z = .returned (.int .i64 (onS σ n removeS).1) ∧ ∃ F', Sst X F' w' S (onS σ n removeS).2 ∧ Kept X w w' := by
  obtain ⟨M, s, c, qv, hS, hp, hc, hF⟩ := id h
  unfold onS
  cases ho : isn σ.p n with
  | false =>
    refine (remove_none hS n n1 n2 (s_none hp (isn_off hi.hi ho))).mono ?_
    rintro z w1 ⟨rfl, rfl⟩
    exact ⟨rfl, F, h, Kept.refl _ _⟩
  | true =>
    obtain ⟨k, rfl, h16, hpk⟩ := isn_some ho
    rw [Int.toNat_natCast]
    exact sRemove1 h hb hi.nd k h16 hpk
theorem sTick (h : Sst X F w S σ) (hb : Old X w) (hi : Inv σ) (ht : σ.t < 9223372036854775807) :
    Calls Try.prog 11 #[.pointer (some ⟨S, 0, none⟩)] w fun z w' => z = .returned (.int .i64 (tickR σ.e σ.q)) ∧ ∃ F', Sst X F' w' S (tickS σ) ∧ Kept X w w' := by
  obtain ⟨M, s, c, qv, hS, hp, hc, hF⟩ := id h
  have hq : Qok σ.q s := fun x hx => by
    obtain ⟨k, h1, h2, h3⟩ := hi.qin x hx
    obtain ⟨g, hg⟩ := s_some hp h3
    exact ⟨k, g, h1, h2, hg⟩
  have hv : Vok s σ.e := fun k g hk => hi.val k (by rw [← hp k, hk]; rfl)
  refine (tick_calls hS hb hq hv hi.len hi.t0 ht).mono ?_
  rintro z w1 ⟨rfl, qv', h1, hK⟩
  obtain ⟨e1, e2⟩ := tick_same hi
  rw [e1, e2, ← tick_t] at h1
  have ep : (tickS σ).p = σ.p := by
    unfold tickS
    cases nextOf σ.q σ.e <;> rfl
  obtain ⟨F', h2⟩ := sst_of (p := (tickS σ).p) h1 (by rw [ep]; exact hp) (by rw [ep]; exact hc)
  exact ⟨rfl, F', h2, hK⟩
theorem sVcpu (h : Sst X F w S σ) (hi : Inv σ) (n : Int) (n1 : -9223372036854775808 ≤ n) (n2 : n ≤ 9223372036854775807) :
    Calls Try.prog 14 #[.pointer (some ⟨S, 0, none⟩), .int .i64 n] w fun z w' => z = .returned (.tuple #[.agg (vcells (if isn σ.p n then σ.e n.toNat else zeroV)), .int .i64 (if isn σ.p n then 0 else 6)]) ∧ Below w.heap.size w w' := by
  obtain ⟨M, s, c, qv, hS, hp, hc, hF⟩ := id h
  cases ho : isn σ.p n with
  | false => exact vcpu_none hS n n1 n2 (s_none hp (isn_off hi.hi ho))
  | true =>
    obtain ⟨k, rfl, h16, hpk⟩ := isn_some ho
    obtain ⟨g, hg⟩ := s_some hp hpk
    rw [Int.toNat_natCast]
    exact vcpu_calls hS k g h16 hg
end
end Go.Proofs.Ytpdelhipfleniaa.AbC
