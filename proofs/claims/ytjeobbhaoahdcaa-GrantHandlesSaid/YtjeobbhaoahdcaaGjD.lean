/- Proved: Foreign (a contract for the laws of the grants). -/
import Derived.Test.YtjeobbhaoahdcaaGjC
namespace Go.Proofs.Ytjeobbhaoahdcaa.GjD
open Go.RowKit Go.Maps Go.Proofs.Ytjeobbhaoahdcaa.Base Go.Proofs.Ytjeobbhaoahdcaa.GaA Go.Proofs.Ytjeobbhaoahdcaa.GaB Go.Proofs.Ytjeobbhaoahdcaa.GaC Go.Proofs.Ytjeobbhaoahdcaa.GmA Go.Proofs.Ytjeobbhaoahdcaa.GmB Go.Proofs.Ytjeobbhaoahdcaa.GmC Go.Proofs.Ytjeobbhaoahdcaa.GpA Go.Proofs.Ytjeobbhaoahdcaa.GgA Go.Proofs.Ytjeobbhaoahdcaa.GvA Go.Proofs.Ytjeobbhaoahdcaa.GeA Go.Proofs.Ytjeobbhaoahdcaa.GfA Go.Proofs.Ytjeobbhaoahdcaa.GfB Go.Proofs.Ytjeobbhaoahdcaa.GfC Go.Proofs.Ytjeobbhaoahdcaa.GfD Go.Proofs.Ytjeobbhaoahdcaa.GfH Go.Proofs.Ytjeobbhaoahdcaa.GjA Go.Proofs.Ytjeobbhaoahdcaa.GjB
set_option linter.unusedVariables false
set_option linter.unusedSimpArgs false

/-- Is the map at k one of d's frames? -/
def ownIs (F : Int × Int → Option Mp) (d : Int) (k : Int × Int) : Bool := match F k with | some m => m.owner == d | none => false
/-- The keys in use, each once. -/
structure Keys (F : Int × Int → Option Mp) (L : List (Int × Int)) : Prop where
  nodup : L.Nodup
  ok : ∀ k ∈ L, ok k
  mem : ∀ k, GmB.ok k → ((F k).isSome = true ↔ k ∈ L)
noncomputable def seen (L : List (Int × Int)) (F : Int × Int → Option Mp) (d : Int) (left : Lit → Bool) : Nat := L.countP fun k => ownIs F d k && !left (kl k)
theorem kl_same {p q : Int × Int} (hp : ok p) (hq : ok q) : (kl p).sameKey (kl q) = decide (p = q) := by
  by_cases e : p = q
  · subst e
    rw [WideAt.sameKey_self (kl_key hp)]
    simp
  · cases hs : (kl p).sameKey (kl q)
    · simp [e]
    · exact absurd (WideAt.sameKey_eq hs) (kl_ne hp hq e)
theorem seen_none (L : List (Int × Int)) (F : Int × Int → Option Mp) (d : Int) (left : Lit → Bool) (h : ∀ k ∈ L, left (kl k) = true) : seen L F d left = 0 := by
  unfold seen
  rw [List.countP_eq_zero]
  intro k hk
  rw [h k hk]
  simp
theorem seen_all (L : List (Int × Int)) (F : Int × Int → Option Mp) (d : Int) (left : Lit → Bool) (h : ∀ l, left l = false) : seen L F d left = L.countP (ownIs F d) := by
  unfold seen
  congr 1
  funext k
  rw [h]
  simp
theorem seen_le (L : List (Int × Int)) (F : Int × Int → Option Mp) (d : Int) (left : Lit → Bool) : seen L F d left ≤ L.length := List.countP_le_length
theorem seen_off {L : List (Int × Int)} {F : Int × Int → Option Mp} (d : Int) (left : Lit → Bool) {p : Int × Int} (hok : ∀ k ∈ L, ok k) (hp : ok p) (hn : p ∉ L) : seen L F d (fun z => left z && !z.sameKey (kl p)) = seen L F d left := by
  unfold seen
  refine List.countP_congr fun k hk => ?_
  dsimp only
  rw [kl_same (hok k hk) hp]
  have : k ≠ p := fun e => hn (e ▸ hk)
  simp [this]
theorem seen_step {F : Int × Int → Option Mp} (d : Int) {left : Lit → Bool} {p : Int × Int} (hp : ok p) (hl : left (kl p) = true) : ∀ {L : List (Int × Int)}, L.Nodup → (∀ k ∈ L, ok k) → p ∈ L →
    seen L F d (fun z => left z && !z.sameKey (kl p)) = seen L F d left + (if ownIs F d p = true then 1 else 0)
  | [], _, _, h => by cases h
  | x :: L, hN, hO, hm => by
    obtain ⟨n1, n2⟩ := List.nodup_cons.1 hN
    by_cases e : x = p
    · subst e
      have := seen_off (F := F) d left (fun k hk => hO k (List.mem_cons_of_mem _ hk)) hp n1
      unfold seen at this ⊢
      rw [List.countP_cons, List.countP_cons, this]
      simp [kl_same hp hp, hl]
    · have ih := seen_step (F := F) d hp hl n2 (fun k hk => hO k (List.mem_cons_of_mem _ hk)) ((List.mem_cons.1 hm).resolve_left fun h => e h.symm)
      unfold seen at ih ⊢
      rw [List.countP_cons, List.countP_cons, ih]
      simp [kl_same (hO x (List.mem_cons_self ..)) hp, e]
      omega
section
variable {w w' W W' : World} {gb mm hm mb fb : Nat} {f : Int → Option (Int × Nat)} {c : Nat} {s s' : MS} {pi : Nat → PI} {F : Int × Int → Option Mp} {n : Nat} {vb db r r' : Nat}
set_option maxHeartbeats 8000000 in
set_option maxRecDepth 100000 in
theorem foreign_calls (h : GX W gb mm hm mb fb s f c pi F n) (d : Int) {L : List (Int × Int)} (hL : Keys F L) (hlen : L.length < 1000000) : Calls Try.prog 25 #[.pointer (some ⟨gb, 0, none⟩), .int .i64 d] W fun e w' =>
    e = .returned (.int .i64 (L.countP (ownIs F d) : Nat)) ∧ Below W.heap.size W w' := by
  have hn := GgA.none_calls h.g.g
  have C0 := fun i => blk_cell h.g.g.blk i
  have L0 := blk_lt h.g.g.blk
  have hbl := h.h.lt
  obtain ⟨D, hown, hsz, hhas, hat⟩ := h.h
  have HA := Base.Aside.mk (And.intro hhas hat)
  have HL := Base.Aside.mk hL
  clear hhas hat hL
  go_enter Try.func25, Try.ntmps25
  go_wp2_with (first
    | (go_at_call 53; refine hn.mono ?_; rintro z w1 ⟨rfl, hw1⟩; obtain rfl := hw1.symm)
    | (at_range; refine wpList_range_own _ rfl _ 76 rfl 137 135 keyed Try.underlying76 hmv hm n D rfl hown ?_; intro w0 hrg0 hg0 hs0)
    | go_in)
  go_frame
  go_loopw [5] (fun v wr => ∃ (left : Lit → Bool) (cnt : Nat), v = .int .i64 (seen L F d left : Nat) ∧ Base.Aside (wr.ranges Try.prog 137 hmv hm W.heap.size n D left cnt ∧ Below W.heap.size W wr ∧ ∀ l, left l = true → Maps.has D l = true))
    (fun _ wr => wr.rangeLeft hm W.heap.size)
  case atStart =>
    refine ⟨_, _, ?_, ⟨hrg0, (Below.refl _ _).grown hg0 (Nat.le_refl _) (fun j hj => by cases hj), fun l h => h⟩⟩
    rw [seen_none]
    · rfl
    · intro k hk
      have hk2 := HL.out.ok k hk
      rw [HA.out.1 k hk2]
      exact (HL.out.mem k hk2).2 hk
  case round =>
    obtain ⟨left, cnt, rfl, hR⟩ := hrel
    have hsl := seen_le L F d left
    go_wp2_with (first
      | (at_next; refine wpList_next_ranges _ rfl _ rfl 137 keyed hmv kv mpv (fun key l hk => by obtain ⟨p, _, hp⟩ := key_inv hk; exact ⟨p, hp⟩) (fun v y hv => by obtain ⟨m, hm, _⟩ := hmv_inv hv; exact ⟨m, hm⟩) hm W.heap.size n _ _ _ rfl hR.out.1 ?_ ?_)
      | go_in)
    · intro hc0 hl0
      go_wp2
      go_ret
      refine ⟨by rw [seen_all _ _ _ _ hl0]; rfl, hR.out.2.1⟩
    · intro p1 p2 m l y1 y2 w2 cnt2 hkey hlk hv hat hrg2 hlt hg2 hs2 hen
      obtain ⟨p', hpo, hpp⟩ := key_inv hkey
      obtain rfl := kv_inj hpp
      generalize hpe : (p1, p2) = p at hkey hpo hen hpp ⊢
      obtain rfl := kl_of hpo hkey
      obtain ⟨m', hm', hy⟩ := hmv_inv hv
      obtain rfl := mpv_inj hm'
      obtain ⟨rfl, rfl⟩ := Prod.mk.inj hy
      have hhp := HA.out.1 p hpo
      rw [hR.out.2.2 _ hlk] at hhp
      have hF : F p = some m := by
        cases hf : F p with
        | none => rw [hf] at hhp; cases hhp
        | some m2 =>
          have h1 := hat (.held (mpv m))
          rw [HA.out.2 p _ hpo, hf] at h1
          have h2 : mpv m2 = mpv m := DataW.held.inj h1
          rw [mpv_inj h2]
      have hin : p ∈ L := (HL.out.mem p hpo).1 (by rw [hF]; rfl)
      have hst := seen_step (F := F) d hpo hlk HL.out.nodup HL.out.ok hin
      have how : ownIs F d p = (m.owner == d) := by unfold ownIs; rw [hF]
      rw [how] at hst
      have hb2 := Below.grown hR.out.2.1 hg2 hR.out.2.1.size (fun j hj => by cases hj; exact Nat.le_refl _)
      have hst2 := Base.Aside.mk hst
      have hq2 := Base.Aside.mk (And.intro hrg2 hb2)
      unfold kv mpv at hen
      clear hst hrg2 hb2 hat hkey hv hm' hhp how hin hs2 hg2 hF hpp
      by_cases ho : m.owner = d
      · subst ho
        go_wp2
        go_roundw
        case rel => exact ⟨_, cnt2, by rw [hst2.out]; simp, ⟨hq2.out.1.alloc _, below_alloc hq2.out.2 _, fun l hl => hR.out.2.2 l (by simp only [Bool.and_eq_true] at hl; exact hl.1)⟩⟩
        case measure => rw [(hq2.out.1.alloc _).left_eq, hR.out.1.left_eq]; exact hlt
      · go_wp2
        go_roundw
        case rel => exact ⟨_, cnt2, by rw [hst2.out]; simp [ho], ⟨hq2.out.1.alloc _, below_alloc hq2.out.2 _, fun l hl => hR.out.2.2 l (by simp only [Bool.and_eq_true] at hl; exact hl.1)⟩⟩
        case measure => rw [(hq2.out.1.alloc _).left_eq, hR.out.1.left_eq]; exact hlt
end
end Go.Proofs.Ytjeobbhaoahdcaa.GjD
