/- Proved: what a machine's Read, Write, Get, Put, Free do, at every argument (contracts for the laws of the grants). -/
import Derived.Test.YtebhpmmibffbeaaGfA
namespace Go.Proofs.Ytebhpmmibffbeaa.GfB
open Go.RowKit Go.Maps Go.Proofs.Ytebhpmmibffbeaa.Base Go.Proofs.Ytebhpmmibffbeaa.GaA Go.Proofs.Ytebhpmmibffbeaa.GaB Go.Proofs.Ytebhpmmibffbeaa.GaC Go.Proofs.Ytebhpmmibffbeaa.GfA
set_option linter.unusedVariables false
set_option linter.unusedSimpArgs false

/-- Does a part lie in a frame? -/
def inR (s : MS) (k off n : Int) : Prop := 0 ≤ k ∧ k < s.n ∧ 0 ≤ off ∧ 0 ≤ n ∧ off ≤ 256 ∧ n ≤ 256 - off
instance (s : MS) (k off n : Int) : Decidable (inR s k off n) := by unfold inR; infer_instance
section
variable {w w' : World} {mb fb : Nat} {s : MS}
theorem at_any (h : Mach w mb fb s) (k : Int) : Calls Try.prog 43 #[.pointer (some ⟨mb, 0, none⟩), .int .i64 k] w fun e w' =>
    e = .returned (.tuple #[.pointer (if 0 ≤ k ∧ k < s.n then some ⟨fb, k.toNat * 260, none⟩ else none), .int .i64 (if 0 ≤ k ∧ k < s.n then 0 else 1)]) ∧ w' = w := by
  by_cases hk : 0 ≤ k ∧ k < s.n
  · rw [if_pos hk, if_pos hk]
    obtain ⟨j, rfl⟩ : ∃ j : Nat, k = j := ⟨k.toNat, by omega⟩
    exact at_calls h j (by omega)
  · rw [if_neg hk, if_neg hk]
    exact at_out h k (by omega)
set_option maxHeartbeats 4000000 in
set_option maxRecDepth 100000 in
theorem part_bad (h : Mach w mb fb s) (k off n : Int) (hb : ¬ inR s k off n) : Calls Try.prog 62 #[.pointer (some ⟨mb, 0, none⟩), .int .i64 k, .int .i64 off, .int .i64 n] w fun e w' => (∃ a, e = .returned (.tuple #[.pointer a, .int .i64 1])) ∧ w' = w := by
  have ha := at_any h k
  obtain ⟨A, hA⟩ : ∃ A, A = (if 0 ≤ k ∧ k < s.n then some (⟨fb, k.toNat * 260, none⟩ : Addr) else none) := ⟨_, rfl⟩
  obtain ⟨er, her⟩ : ∃ er : Int, er = (if 0 ≤ k ∧ k < s.n then 0 else 1) := ⟨_, rfl⟩
  rw [← hA, ← her] at ha
  have HB := Base.Aside.mk (And.intro her hb)
  have he1 : er = 0 ∨ er = 1 := by rw [her]; split <;> simp
  clear h hA her hb
  rcases he1 with rfl | rfl
  · have hin := HB.out.2
    have hk : 0 ≤ k ∧ k < s.n := by
      have := HB.out.1
      split at this
      · assumption
      · cases this
    unfold inR at hin
    clear HB
    by_cases o0 : off < 0
    · have d0 : decide (off < 0) = true := decide_eq_true o0
      clear hin hk o0
      go_enter Try.func62, Try.ntmps62
      go_wp2_with (first
        | (go_at_call 43; refine ha.mono ?_; rintro z w1 ⟨rfl, hw1⟩; obtain rfl := hw1.symm)
        | go_in)
      go_ret2
      exact ⟨⟨A, by first | rfl | (simp; done)⟩, rfl⟩
    · have d0 : decide (off < 0) = false := decide_eq_false o0
      by_cases n0 : n < 0
      · have d1 : decide (n < 0) = true := decide_eq_true n0
        clear hin hk n0 o0
        go_enter Try.func62, Try.ntmps62
        go_wp2_with (first
          | (go_at_call 43; refine ha.mono ?_; rintro z w1 ⟨rfl, hw1⟩; obtain rfl := hw1.symm)
          | go_in)
        go_ret2
        exact ⟨⟨A, by first | rfl | (simp; done)⟩, rfl⟩
      · have d1 : decide (n < 0) = false := decide_eq_false n0
        by_cases o1 : (256 : Int) < off
        · have d2 : decide ((256 : Int) < off) = true := decide_eq_true o1
          clear hin hk n0 o0 o1
          go_enter Try.func62, Try.ntmps62
          go_wp2_with (first
            | (go_at_call 43; refine ha.mono ?_; rintro z w1 ⟨rfl, hw1⟩; obtain rfl := hw1.symm)
            | go_in)
          go_ret2
          exact ⟨⟨A, by first | rfl | (simp; done)⟩, rfl⟩
        · have d2 : decide ((256 : Int) < off) = false := decide_eq_false o1
          have d3 : decide ((256 : Int) - off < n) = true := decide_eq_true (by omega)
          have o2 : 0 ≤ off := by omega
          have o3 : off ≤ 256 := by omega
          clear hin hk n0 o0 o1
          go_enter Try.func62, Try.ntmps62
          go_wp2_with (first
            | (go_at_call 43; refine ha.mono ?_; rintro z w1 ⟨rfl, hw1⟩; obtain rfl := hw1.symm)
            | go_in)
          go_ret2
          exact ⟨⟨A, by first | rfl | (simp; done)⟩, rfl⟩
  · clear HB
    go_enter Try.func62, Try.ntmps62
    go_wp2_with (first
      | (go_at_call 43; refine ha.mono ?_; rintro z w1 ⟨rfl, hw1⟩; obtain rfl := hw1.symm)
      | go_in)
    go_ret2
    exact ⟨⟨A, by first | rfl | (simp; done)⟩, rfl⟩
/-- What Read comes to, at every argument. -/
structure RdOk (N : Nat) (s : MS) (k off n : Int) (A : Option Addr) (l : Nat) (er : Int) (w' : World) : Prop where
  res : (inR s k off n ∧ er = 0 ∧ l = n.toNat ∧ A = some ⟨N, 0, none⟩ ∧ w'.heap[N]? = some (.cells (u8s (MS.rd s k.toNat off.toNat n.toNat)).toArray 5 (0, 0))) ∨ (¬ inR s k off n ∧ er = 1 ∧ A = none ∧ l = 0)
def RdOut (w : World) (s : MS) (k off n : Int) (e : Ending) (w' : World) : Prop := ∃ (A : Option Addr) (l : Nat) (er : Int), e = .returned (.tuple #[.slice A l l, .int .i64 er]) ∧ RdOk w.heap.size s k off n A l er w' ∧ Below w.heap.size w w'
set_option maxHeartbeats 4000000 in
set_option maxRecDepth 100000 in
theorem read_bad (h : Mach w mb fb s) (k off n : Int) (hb : ¬ inR s k off n) : Calls Try.prog 64 #[.pointer (some ⟨mb, 0, none⟩), .int .i64 k, .int .i64 off, .int .i64 n] w fun e w' => e = .returned (.tuple #[.slice none 0 0, .int .i64 1]) ∧ w' = w := by
  have hp := part_bad h k off n hb
  clear h hb
  go_enter Try.func64, Try.ntmps64
  go_wp2_with (first
    | (go_at_call 62; refine hp.mono ?_; rintro z w1 ⟨⟨a, rfl⟩, hw1⟩; obtain rfl := hw1.symm)
    | go_in)
  go_ret2
  exact ⟨by first | rfl | (simp; done), rfl⟩
theorem read_any (h : Mach w mb fb s) (k off n : Int) : Calls Try.prog 64 #[.pointer (some ⟨mb, 0, none⟩), .int .i64 k, .int .i64 off, .int .i64 n] w (RdOut w s k off n) := by
  by_cases hb : inR s k off n
  · have hb' := hb
    unfold inR at hb'
    obtain ⟨k', rfl⟩ : ∃ k' : Nat, k = k' := ⟨k.toNat, by omega⟩
    obtain ⟨o', rfl⟩ : ∃ o' : Nat, off = o' := ⟨off.toNat, by omega⟩
    obtain ⟨n', rfl⟩ : ∃ n' : Nat, n = n' := ⟨n.toNat, by omega⟩
    exact (read_calls h k' (by omega) o' n' (by omega)).mono fun e w' ⟨h1, h2, h3⟩ => ⟨_, _, _, h1, ⟨.inl ⟨hb, rfl, rfl, rfl, h2⟩⟩, h3⟩
  · exact (read_bad h k off n hb).mono fun e w' ⟨h1, h2⟩ => ⟨_, _, _, h1, ⟨.inr ⟨hb, rfl, rfl, rfl⟩⟩, by rw [h2]; exact Below.refl _ _⟩
set_option maxHeartbeats 4000000 in
set_option maxRecDepth 100000 in
theorem write_bad (h : Mach w mb fb s) (k off : Int) (A : Option Addr) (l c : Nat) (hb : ¬ inR s k off l) : Calls Try.prog 47 #[.pointer (some ⟨mb, 0, none⟩), .int .i64 k, .int .i64 off, .slice A l c] w fun e w' => e = .returned (.int .i64 1) ∧ w' = w := by
  have hp := part_bad h k off l hb
  clear h hb
  go_enter Try.func47, Try.ntmps47
  go_wp2_with (first
    | (go_at_call 62; refine hp.mono ?_; rintro z w1 ⟨⟨a, rfl⟩, hw1⟩; obtain rfl := hw1.symm)
    | go_in)
  go_ret
  exact ⟨by first | rfl | (simp; done), rfl⟩
set_option maxHeartbeats 4000000 in
set_option maxRecDepth 100000 in
theorem write_free (h : Mach w mb fb s) (k : Nat) (hk : k < s.n) (off : Nat) (A : Option Addr) (l c : Nat) (ho : off + l ≤ 256) (hown : (s.fr k).own = -1) : Calls Try.prog 47 #[.pointer (some ⟨mb, 0, none⟩), .int .i64 k, .int .i64 off, .slice A l c] w fun e w' => e = .returned (.int .i64 11) ∧ w' = w := by
  have hp := part_calls h k hk off l ho
  have c0 := h.own k hk
  rw [hown] at c0
  have L1 := h.lt.2
  clear h hown
  go_enter Try.func47, Try.ntmps47
  go_wp2_with (first
    | (go_at_call 62; refine hp.mono ?_; rintro z w1 ⟨rfl, hw1⟩; obtain rfl := hw1.symm)
    | go_in)
  go_ret
  exact ⟨by first | rfl | (simp; done), rfl⟩
/-- What Write comes to. -/
def wrE (s : MS) (k off : Int) (l : Nat) : Int := if inR s k off l then (if (s.fr k.toNat).own = -1 then 11 else 0) else 1
def wrS (s : MS) (k off : Int) (zs : List UInt8) : MS := if wrE s k off zs.length = 0 then MS.wr s k.toNat off.toNat zs else s
theorem write_any (h : Mach w mb fb s) (k off : Int) (A : Option Addr) (l c : Nat) (zs : List UInt8) (hl : l = zs.length) (hz : Bytes w A zs) : Calls Try.prog 47 #[.pointer (some ⟨mb, 0, none⟩), .int .i64 k, .int .i64 off, .slice A l c] w fun e w' =>
    e = .returned (.int .i64 (wrE s k off zs.length)) ∧ Mach w' mb fb (wrS s k off zs) ∧ Chg (fun x => x = fb) w w' := by
  by_cases hb : inR s k off zs.length
  · have hb' := hb
    unfold inR at hb'
    have hE : wrE s k off zs.length = if (s.fr k.toNat).own = -1 then 11 else 0 := if_pos hb
    obtain ⟨k', rfl⟩ : ∃ k' : Nat, k = k' := ⟨k.toNat, by omega⟩
    obtain ⟨o', rfl⟩ : ∃ o' : Nat, off = o' := ⟨off.toNat, by omega⟩
    by_cases ho : (s.fr k').own = -1
    · have hE2 : wrE s k' o' zs.length = 11 := by rw [hE]; exact if_pos ho
      unfold wrS
      rw [hE2, if_neg (by decide)]
      subst hl
      exact (write_free h k' (by omega) o' A zs.length c (by omega) ho).mono fun e w' ⟨h1, h2⟩ => ⟨h1, by rw [h2]; exact h, Chg.of_eq _ h2⟩
    · have hE2 : wrE s k' o' zs.length = 0 := by rw [hE]; exact if_neg ho
      unfold wrS
      rw [hE2, if_pos rfl]
      exact write_calls h k' (by omega) o' A l c zs hl hz (by omega) ho
  · have hE : wrE s k off zs.length = 1 := if_neg hb
    unfold wrS
    rw [hE, if_neg (by decide)]
    subst hl
    exact (write_bad h k off A zs.length c hb).mono fun e w' ⟨h1, h2⟩ => ⟨h1, by rw [h2]; exact h, Chg.of_eq _ h2⟩
end
end Go.Proofs.Ytebhpmmibffbeaa.GfB
