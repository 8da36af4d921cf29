/- Proved: the live maps of the grants: Maps, held (contracts for the laws of the grants). -/
import Derived.Test.YtjeobbhaoahdcaaGfI
import Derived.Test.YtjeobbhaoahdcaaGmC
import Derived.Test.YtjeobbhaoahdcaaRmA
import Derived.Deep.RegionWith
import Derived.Outline
namespace Go.Proofs.Ytjeobbhaoahdcaa.GjA
open Go.RowKit Go.Maps Go.Proofs.Ytjeobbhaoahdcaa.Base Go.Proofs.Ytjeobbhaoahdcaa.GaA Go.Proofs.Ytjeobbhaoahdcaa.GaB Go.Proofs.Ytjeobbhaoahdcaa.GaC Go.Proofs.Ytjeobbhaoahdcaa.GmA Go.Proofs.Ytjeobbhaoahdcaa.GmB Go.Proofs.Ytjeobbhaoahdcaa.GmC Go.Proofs.Ytjeobbhaoahdcaa.GpA Go.Proofs.Ytjeobbhaoahdcaa.GgA Go.Proofs.Ytjeobbhaoahdcaa.GvA Go.Proofs.Ytjeobbhaoahdcaa.GeA Go.Proofs.Ytjeobbhaoahdcaa.GfA Go.Proofs.Ytjeobbhaoahdcaa.GfB Go.Proofs.Ytjeobbhaoahdcaa.GfC Go.Proofs.Ytjeobbhaoahdcaa.GfD Go.Proofs.Ytjeobbhaoahdcaa.GfH
set_option linter.unusedVariables false
set_option linter.unusedSimpArgs false

theorem infoMp : (Try.prog.info? 135).map (fun i => (i.zero, i.size, i.bytes)) = some (some (.agg #[.int .i64 0, .int .i64 0, .int .i64 0, .int .i64 0, .int .i64 0, .bool false]), 6, 48) := by kernel_rfl
def mcells (m : Mp) : List Value := [.int .i64 m.h, .int .i64 m.caller, .int .i64 m.owner, .int .i64 m.ref, .int .i64 m.mfn, .bool m.wr]
theorem cell_six_new (w : World) (m : Mp) (t : TypeId) : ∀ j u, (mcells m)[j]? = some u → (w.alloc (.cells #[.int .i64 m.h, .int .i64 m.caller, .int .i64 m.owner, .int .i64 m.ref, .int .i64 m.mfn, .bool m.wr] t)).cell? ((⟨w.heap.size, 0, none⟩ : Addr).add j) = some u := by
  intro j u h
  rw [addB, Nat.zero_add, blk_cell (blk_new w (.cells #[.int .i64 m.h, .int .i64 m.caller, .int .i64 m.owner, .int .i64 m.ref, .int .i64 m.mfn, .bool m.wr] t)) j]
  rw [← h]
  simp [mcells]
theorem mcells_one (m : Mp) : ∀ u ∈ mcells m, u.oneCell' = true := by
  intro u hu
  simp [mcells] at hu
  rcases hu with rfl | rfl | rfl | rfl | rfl | rfl <;> rfl
/-- A caller's maps, by handles below k. -/
def mapsL (F : Int × Int → Option Mp) (c : Int) (k : Nat) : List Mp := (List.range k).filterMap fun h : Nat => F (c, (h : Int))
theorem mapsL_len (F : Int × Int → Option Mp) (c : Int) (k : Nat) : (mapsL F c k).length ≤ k := by
  unfold mapsL
  have := List.length_filterMap_le (fun h : Nat => F (c, (h : Int))) (List.range k)
  rwa [List.length_range] at this
theorem mapsL_hit {F : Int × Int → Option Mp} {c : Int} {k : Nat} {m : Mp} (h : F (c, k) = some m) : mapsL F c (k + 1) = mapsL F c k ++ [m] := by
  unfold mapsL
  rw [List.range_succ, List.filterMap_append]
  simp [h]
theorem mapsL_miss {F : Int × Int → Option Mp} {c : Int} {k : Nat} (h : F (c, k) = none) : mapsL F c (k + 1) = mapsL F c k := by
  unfold mapsL
  rw [List.range_succ, List.filterMap_append]
  simp [h]
theorem bnk {w : World} {g k c : Nat} {t : TypeId} {cs : Array Value} {F : Int × Int → Option Mp} (h : w.heap[g]? = some (.cells cs t (0, 0))) (h2 : KMap w k F c) : g ≠ k := by
  rintro rfl
  obtain ⟨es, clock, h1⟩ := h2.is
  rw [h] at h1
  cases h1
/-- Grants with their live maps. -/
structure GX (W : World) (gb mm hm mb fb : Nat) (s : MS) (f : Int → Option (Int × Nat)) (c : Nat) (pi : Nat → PI) (F : Int × Int → Option Mp) (n : Nat) : Prop where
  g : GW W gb mm hm mb fb s f c pi
  h : KMap W hm F n
  mh : mm ≠ hm
  ph : ∀ d x, f d = some x → hm ≠ (pi x.2).fm ∧ hm ≠ (pi x.2).pm
section
variable {w w' W W' : World} {gb mm hm mb fb : Nat} {f : Int → Option (Int × Nat)} {c : Nat} {s s' : MS} {pi : Nat → PI} {F : Int × Int → Option Mp} {n : Nat} {vb db r r' : Nat}
theorem GX.below (h : GX W gb mm hm mb fb s f c pi F n) (hb : Below W.heap.size W W') : GX W' gb mm hm mb fb s f c pi F n := ⟨h.g.below hb, h.h.below hb, h.mh, h.ph⟩
theorem GX.vw {mb' : Nat} (h : GX W gb mm hm mb fb s f c pi F n) (hV : V2 W vb db mb' r) (k : Vw vb db mb' W W' r') : GX W' gb mm hm mb fb s f c pi F n :=
  ⟨⟨h.g.g.chg k.c (fun e => (hV.ne_g h.g.g).1 e.symm) (fun e => (hV.ne_g h.g.g).2 e.symm), h.g.m.chg k.c (fun e => (hV.ne_m h.g.m).1 e.symm) (fun e => (hV.ne_m h.g.m).2 e.symm),
    fun d x hd => ⟨(h.g.p d x hd).1.chg k.c (fun e => (hV.ne_p (h.g.p d x hd).1).1 e.symm) (fun e => (hV.ne_p (h.g.p d x hd).1).2.1 e.symm) (fun e => (hV.ne_p (h.g.p d x hd).1).2.2 e.symm), (h.g.p d x hd).2⟩, h.g.d⟩, h.h.chg k.c (fun e => bnk hV.blk h.h e.symm), h.mh, h.ph⟩
theorem GX.mach (h : GX W gb mm hm mb fb s f c pi F n) (hM : Mach W' mb fb s') (hn : s'.n = s.n) (hc : Chg (fun x => x = fb) W W') : GX W' gb mm hm mb fb s' f c pi F n := by
  obtain ⟨cs, h1, h2⟩ := h.g.m.lst
  exact ⟨gw_fb h.g hM hn hc, h.h.chg hc (fun e => bnk h1 h.h e.symm), h.mh, h.ph⟩
/-- The live maps turn, nothing else. -/
theorem GX.maps {F' : Int × Int → Option Mp} {n' : Nat} (h : GX W gb mm hm mb fb s f c pi F n) (hK : KMap W' hm F' n') (hc : Chg (fun x => x = hm) W W') : GX W' gb mm hm mb fb s f c pi F' n' := by
  obtain ⟨cs, h1, h2⟩ := h.g.m.lst
  exact ⟨⟨h.g.g.chg hc (bnk h.g.g.blk h.h) h.mh, h.g.m.chg hc (bnk h.g.m.blk h.h) (bnk h1 h.h), fun d x hd => ⟨(h.g.p d x hd).1.chg hc (bnk (h.g.p d x hd).1.blk h.h) (fun e => (h.ph d x hd).1 e.symm) (fun e => (h.ph d x hd).2 e.symm), (h.g.p d x hd).2⟩, h.g.d⟩, hK, h.mh, h.ph⟩
def MapsOut (W : World) (F : Int × Int → Option Mp) (c : Int) (e : Ending) (w' : World) : Prop := ∃ v, e = .returned v ∧ w'.ownsRow W.heap.size 135 6 v (mapsL F c 16).length ((mapsL F c 16).flatMap mcells) ∧ Below W.heap.size W w'
set_option maxHeartbeats 8000000 in
set_option maxRecDepth 100000 in
theorem maps_calls (h : GX W gb mm hm mb fb s f c pi F n) (d : Int) (hd : okI d) : Calls Try.prog 24 #[.pointer (some ⟨gb, 0, none⟩), .int .i64 d] W (MapsOut W F d) := by
  obtain ⟨i0, hi, hz0, hz1, hz2⟩ := info_parts infoMp
  have hn := GgA.none_calls h.g.g
  go_enter Try.func24, Try.ntmps24
  go_wp2_with (first
    | (go_at_call 53; refine hn.mono ?_; rintro z w1 ⟨rfl, hw1⟩; obtain rfl := hw1.symm)
    | go_in)
  go_loopw [5, 11] (fun v i wr => ∃ (k : Nat) (W2 : World), k ≤ 16 ∧ i = .int .i64 k ∧ wr = W2 ∧ Base.Aside (W2.ownsRow W.heap.size 135 6 v (mapsL F d k).length ((mapsL F d k).flatMap mcells) ∧ Below W.heap.size W W2)) (fun _ i _ => 16 - (intOf i).toNat)
  case atStart => exact ⟨0, W, by omega, rfl, rfl, ⟨World.ownsRow_nil _ _ _ _, Below.refl _ _⟩⟩
  case round =>
    obtain ⟨k, W2, hk, rfl, hwr, hA⟩ := hrel
    obtain rfl := hwr.symm
    have h2 := h.below hA.out.2
    have C2 := fun i => blk_cell h2.g.g.blk i
    have L2 := blk_lt h2.g.g.blk
    by_cases hlt : k < 16
    · have hlk := h2.h.look_ok (d, (k : Int)) ⟨hd, by unfold okI; omega⟩
      have hl := mapsL_len F d k
      unfold kv mpv at hlk
      cases hf : F (d, (k : Int)) with
      | none =>
        rw [hf] at hlk
        simp only [Option.getD_none, Option.isSome_none, mp0] at hlk
        clear h2
        go_wp2
        refine ⟨⟨k + 1, _, by omega, by simp, rfl, ⟨?_, below_alloc hA.out.2 _⟩⟩, by simp [intOf]; omega⟩
        rw [mapsL_miss hf]
        exact hA.out.1.alloc _
      | some m =>
        rw [hf] at hlk
        simp only [Option.getD_some, Option.isSome_some] at hlk
        have hsz := hA.out.2.size
        clear h2
        go_wp2_with (first
          | (at_builtin; refine wpList_append_own_at _ rfl _ _ 67 rfl W.heap.size 135 i0 (.agg #[.int .i64 0, .int .i64 0, .int .i64 0, .int .i64 0, .int .i64 0, .bool false]) 6 48 Try.underlying67 hi hz0 hz1 hz2 rfl (by decide) _ _ _ rfl ((hA.out.1.alloc _).alloc _) ⟨W2.heap.size + 1, 0, none⟩ 1 1 (mcells m) rfl rfl (by have := cell_six_new (W2.alloc (.cells #[.int .i64 m.h, .int .i64 m.caller, .int .i64 m.owner, .int .i64 m.ref, .int .i64 m.mfn, .bool m.wr] 135)) m 135; rw [World.size_alloc] at this; exact this) (mcells_one m) (by unfold maxLen; omega) (by omega) (by simp; omega) ?_; intro v' w3 hown' hg3 hnil3 hloc3; go_frame)
          | go_in)
        refine ⟨⟨k + 1, w3, by omega, by simp, rfl, ⟨?_, ?_⟩⟩, by simp [intOf]; omega⟩
        · rw [mapsL_hit hf]
          simpa using hown'
        · exact (below_alloc (below_alloc hA.out.2 _) _).grown hg3 (by simp; omega) (fun j hj => (hA.out.1.lt j hj).1)
    · obtain rfl : k = 16 := by omega
      clear h2
      go_wp2
      go_ret
      exact ⟨_, rfl, hA.out.1, hA.out.2⟩
/-- What held answers. -/
def heldR (F : Int × Int → Option Mp) (c h : Int) : Mp × Int := if ¬ (0 ≤ c ∧ c < 8) then (mp0, 1) else match F (c, h) with | none => (mp0, 6) | some m => (m, 0)
set_option maxHeartbeats 8000000 in
set_option maxRecDepth 100000 in
theorem held_calls (h : GX W gb mm hm mb fb s f c pi F n) (d k : Int) (hd : okI d) (hk : okI k) : Calls Try.prog 62 #[.pointer (some ⟨gb, 0, none⟩), .int .i64 d, .int .i64 k] W fun e w' =>
    e = .returned (.tuple #[.agg #[.int .i64 (heldR F d k).1.h, .int .i64 (heldR F d k).1.caller, .int .i64 (heldR F d k).1.owner, .int .i64 (heldR F d k).1.ref, .int .i64 (heldR F d k).1.mfn, .bool (heldR F d k).1.wr], .int .i64 (heldR F d k).2]) ∧ Below W.heap.size W w' := by
  have hb1 := below_alloc (Below.refl W.heap.size W) (.cells #[.int .i64 0, .int .i64 0, .int .i64 0, .int .i64 0, .int .i64 0, .bool false] 135)
  have h1 := h.below hb1
  have hn := GgA.none_calls h1.g.g
  have hdo := fun W => GgA.domain_calls d W
  have C1 := fun i => blk_cell h1.g.g.blk i
  have L1 := blk_lt h1.g.g.blk
  have hlk := h1.h.look_ok (d, k) ⟨hd, hk⟩
  unfold kv mpv at hlk
  obtain ⟨R, hR⟩ : ∃ R, R = heldR F d k := ⟨_, rfl⟩
  rw [← hR]
  unfold heldR at hR
  clear h h1 hb1
  by_cases hdm : 0 ≤ d ∧ d < 8
  · rw [if_neg (by simp [hdm])] at hR
    rw [decide_eq_true hdm.1, decide_eq_true hdm.2] at hdo
    cases hf : F (d, k) with
    | none =>
      rw [hf] at hlk hR
      simp only [Option.getD_none, Option.isSome_none, mp0] at hlk
      simp only [mp0] at hR
      subst hR
      go_enter Try.func62, Try.ntmps62
      go_wp2_with (first
        | (go_at_call 53; refine hn.mono ?_; rintro z w1 ⟨rfl, hw1⟩; obtain rfl := hw1.symm)
        | (go_at_call 55; refine (hdo _).mono ?_; rintro z w1 ⟨rfl, hw1⟩; obtain rfl := hw1.symm)
        | go_in)
      refine bodyPost_ret (v := .tuple #[.agg #[.int .i64 0, .int .i64 0, .int .i64 0, .int .i64 0, .int .i64 0, .bool false], .int .i64 6]) ?_ rfl ⟨rfl, ?_⟩
      · simp only [results, Try.results62]
        first | (go_simp; done) | (go_simp; rfl)
      · repeat (with_reducible first | exact Below.refl _ _ | refine below_alloc ?_ _ | (refine GuA.below_setN ?_ ?_; rotate_left; omega))
    | some m =>
      rw [hf] at hlk hR
      simp only [Option.getD_some, Option.isSome_some] at hlk
      simp only at hR
      subst hR
      go_enter Try.func62, Try.ntmps62
      go_wp2_with (first
        | (go_at_call 53; refine hn.mono ?_; rintro z w1 ⟨rfl, hw1⟩; obtain rfl := hw1.symm)
        | (go_at_call 55; refine (hdo _).mono ?_; rintro z w1 ⟨rfl, hw1⟩; obtain rfl := hw1.symm)
        | go_in)
      refine bodyPost_ret (v := .tuple #[.agg #[.int .i64 m.h, .int .i64 m.caller, .int .i64 m.owner, .int .i64 m.ref, .int .i64 m.mfn, .bool m.wr], .int .i64 0]) ?_ rfl ⟨rfl, ?_⟩
      · simp only [results, Try.results62]
        first | (go_simp; done) | (go_simp; rfl)
      · repeat (with_reducible first | exact Below.refl _ _ | refine below_alloc ?_ _ | (refine GuA.below_setN ?_ ?_; rotate_left; omega))
  · rw [if_pos hdm] at hR
    simp only [mp0] at hR
    subst hR
    have hdf : (decide (0 ≤ d) && decide (d < 8)) = false := by simp; omega
    rw [hdf] at hdo
    go_enter Try.func62, Try.ntmps62
    go_wp2_with (first
      | (go_at_call 53; refine hn.mono ?_; rintro z w1 ⟨rfl, hw1⟩; obtain rfl := hw1.symm)
      | (go_at_call 55; refine (hdo _).mono ?_; rintro z w1 ⟨rfl, hw1⟩; obtain rfl := hw1.symm)
      | go_in)
    refine bodyPost_ret (v := .tuple #[.agg #[.int .i64 0, .int .i64 0, .int .i64 0, .int .i64 0, .int .i64 0, .bool false], .int .i64 1]) ?_ rfl ⟨rfl, ?_⟩
    · simp only [results, Try.results62]
      first | (go_simp; done) | (go_simp; rfl)
    · repeat (with_reducible first | exact Below.refl _ _ | refine below_alloc ?_ _ | (refine GuA.below_setN ?_ ?_; rotate_left; omega))
end
end Go.Proofs.Ytjeobbhaoahdcaa.GjA
