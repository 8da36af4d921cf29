/- Proved: the live maps of the grants: Maps, held (contracts for the laws of the grants). Proved: what a machine's Put does; Unmap (contracts for the laws of the grants). Proved: Unmap (a contract for the laws of the grants). Proved: Foreign (a contract for the laws of the grants). Proved: the least free handle (lemmas for Map of the grants). -/
import Derived.Test.YthlejchcnfdcpaaGreatMlae
import Derived.Test.YthlejchcnfdcpaaGreatMlai
import Derived.Test.YthlejchcnfdcpaaGreatMlaj
import Derived.Deep.RegionWith
import Derived.Outline
import Derived.Deep.RegionHeld3
namespace Go.Proofs.YthlejchcnfdcpaaGreat.GjA
open Go.RowKit Go.Maps Base GaA GaB GaC GmA GmB GmC GpA GgA GvA GeA GfA GfB GfC GfD GfH
set_option linter.unusedVariables false
set_option linter.unusedSimpArgs false

theorem infoMp : (Tryz.prog.info? 102).map (fun i => (i.zero, i.size, i.bytes)) = some (some (.agg #[.int .i64 0, .int .i64 0, .int .i64 0, .int .i64 0, .int .i64 0, .bool false]), 6, 48) := by kernel_rfl
def mcells (m : Mp) : List Value := [.int .i64 m.h, .int .i64 m.caller, .int .i64 m.owner, .int .i64 m.ref, .int .i64 m.mfn, .bool m.wr]
theorem cell_six_new (w : World) (m : Mp) (t : TypeId) : ∀ j u, (mcells m)[j]? = some u → (w.alloc (.cells #[.int .i64 m.h, .int .i64 m.caller, .int .i64 m.owner, .int .i64 m.ref, .int .i64 m.mfn, .bool m.wr] t)).cell? ((⟨w.heap.size, 0, none⟩ : Addr).add j) = some u := by
  intro j u h
  rw [addB, Nat.zero_add, blk_cell (blk_new w (.cells #[.int .i64 m.h, .int .i64 m.caller, .int .i64 m.owner, .int .i64 m.ref, .int .i64 m.mfn, .bool m.wr] t)) j]
  rw [← h]
  simp [mcells]
theorem mcells_one (m : Mp) : ∀ u ∈ mcells m, u.oneCell' = true := by
  intro u hu
  simp [mcells] at hu
  rcases hu with rfl | rfl | rfl | rfl | rfl | rfl <;> rfl
/-- A caller's maps, by handles below k. -/
def mapsL (F : Int × Int → Option Mp) (c : Int) (k : Nat) : List Mp := (List.range k).filterMap fun h : Nat => F (c, (h : Int))
theorem mapsL_len (F : Int × Int → Option Mp) (c : Int) (k : Nat) : (mapsL F c k).length ≤ k := by
  unfold mapsL
  have := List.length_filterMap_le (fun h : Nat => F (c, (h : Int))) (List.range k)
  rwa [List.length_range] at this
theorem mapsL_hit {F : Int × Int → Option Mp} {c : Int} {k : Nat} {m : Mp} (h : F (c, k) = some m) : mapsL F c (k + 1) = mapsL F c k ++ [m] := by
  unfold mapsL
  rw [List.range_succ, List.filterMap_append]
  simp [h]
theorem mapsL_miss {F : Int × Int → Option Mp} {c : Int} {k : Nat} (h : F (c, k) = none) : mapsL F c (k + 1) = mapsL F c k := by
  unfold mapsL
  rw [List.range_succ, List.filterMap_append]
  simp [h]
theorem bnk {w : World} {g k c : Nat} {t : TypeId} {cs : Array Value} {F : Int × Int → Option Mp} (h : w.heap[g]? = some (.cells cs t (0, 0))) (h2 : KMap w k F c) : g ≠ k := by
  rintro rfl
  obtain ⟨es, clock, h1⟩ := h2.is
  rw [h] at h1
  cases h1
/-- Grants with their live maps. -/
structure GX (W : World) (gb mm hm mb fb : Nat) (s : MS) (f : Int → Option (Int × Nat)) (c : Nat) (pi : Nat → PI) (F : Int × Int → Option Mp) (n : Nat) : Prop where
  g : GW W gb mm hm mb fb s f c pi
  h : KMap W hm F n
  mh : mm ≠ hm
  ph : ∀ d x, f d = some x → hm ≠ (pi x.2).fm ∧ hm ≠ (pi x.2).pm
section
variable {w w' W W' : World} {gb mm hm mb fb : Nat} {f : Int → Option (Int × Nat)} {c : Nat} {s s' : MS} {pi : Nat → PI} {F : Int × Int → Option Mp} {n : Nat} {vb db r r' : Nat}
theorem GX.below (h : GX W gb mm hm mb fb s f c pi F n) (hb : Below W.heap.size W W') : GX W' gb mm hm mb fb s f c pi F n := ⟨h.g.below hb, h.h.below hb, h.mh, h.ph⟩
theorem GX.vw {mb' : Nat} (h : GX W gb mm hm mb fb s f c pi F n) (hV : V2 W vb db mb' r) (k : Vw vb db mb' W W' r') : GX W' gb mm hm mb fb s f c pi F n :=
  ⟨⟨h.g.g.chg k.c (fun e => (hV.ne_g h.g.g).1 e.symm) (fun e => (hV.ne_g h.g.g).2 e.symm), h.g.m.chg k.c (fun e => (hV.ne_m h.g.m).1 e.symm) (fun e => (hV.ne_m h.g.m).2 e.symm),
    fun d x hd => ⟨(h.g.p d x hd).1.chg k.c (fun e => (hV.ne_p (h.g.p d x hd).1).1 e.symm) (fun e => (hV.ne_p (h.g.p d x hd).1).2.1 e.symm) (fun e => (hV.ne_p (h.g.p d x hd).1).2.2 e.symm), (h.g.p d x hd).2⟩, h.g.d⟩, h.h.chg k.c (fun e => bnk hV.blk h.h e.symm), h.mh, h.ph⟩
theorem GX.mach (h : GX W gb mm hm mb fb s f c pi F n) (hM : Mach W' mb fb s') (hn : s'.n = s.n) (hc : Chg (fun x => x = fb) W W') : GX W' gb mm hm mb fb s' f c pi F n := by
  obtain ⟨cs, h1, h2⟩ := h.g.m.lst
  exact ⟨gw_fb h.g hM hn hc, h.h.chg hc (fun e => bnk h1 h.h e.symm), h.mh, h.ph⟩
/-- The live maps turn, nothing else. -/
theorem GX.maps {F' : Int × Int → Option Mp} {n' : Nat} (h : GX W gb mm hm mb fb s f c pi F n) (hK : KMap W' hm F' n') (hc : Chg (fun x => x = hm) W W') : GX W' gb mm hm mb fb s f c pi F' n' := by
  obtain ⟨cs, h1, h2⟩ := h.g.m.lst
  exact ⟨⟨h.g.g.chg hc (bnk h.g.g.blk h.h) h.mh, h.g.m.chg hc (bnk h.g.m.blk h.h) (bnk h1 h.h), fun d x hd => ⟨(h.g.p d x hd).1.chg hc (bnk (h.g.p d x hd).1.blk h.h) (fun e => (h.ph d x hd).1 e.symm) (fun e => (h.ph d x hd).2 e.symm), (h.g.p d x hd).2⟩, h.g.d⟩, hK, h.mh, h.ph⟩
def MapsOut (W : World) (F : Int × Int → Option Mp) (c : Int) (e : Ending) (w' : World) : Prop := ∃ v, e = .returned v ∧ w'.ownsRow W.heap.size 102 6 v (mapsL F c 16).length ((mapsL F c 16).flatMap mcells) ∧ Below W.heap.size W w'
set_option maxHeartbeats 8000000 in
set_option maxRecDepth 100000 in
theorem maps_calls (h : GX W gb mm hm mb fb s f c pi F n) (d : Int) (hd : okI d) : Calls Tryz.prog 38 #[.pointer (some ⟨gb, 0, none⟩), .int .i64 d] W (MapsOut W F d) := by
  obtain ⟨i0, hi, hz0, hz1, hz2⟩ := info_parts infoMp
  have hn := GgA.none_calls h.g.g
  go_enter Tryz.func38, Tryz.ntmps38
  go_wp2_with (first
    | (go_at_call 52; refine hn.mono ?_; rintro z w1 ⟨rfl, hw1⟩; obtain rfl := hw1.symm)
    | go_in)
  go_loopw [5, 11] (fun v i wr => ∃ (k : Nat) (W2 : World), k ≤ 16 ∧ i = .int .i64 k ∧ wr = W2 ∧ Base.Aside (W2.ownsRow W.heap.size 102 6 v (mapsL F d k).length ((mapsL F d k).flatMap mcells) ∧ Below W.heap.size W W2)) (fun _ i _ => 16 - (intOf i).toNat)
  case atStart => exact ⟨0, W, by omega, rfl, rfl, ⟨World.ownsRow_nil _ _ _ _, Below.refl _ _⟩⟩
  case round =>
    obtain ⟨k, W2, hk, rfl, hwr, hA⟩ := hrel
    obtain rfl := hwr.symm
    have h2 := h.below hA.out.2
    have C2 := fun i => blk_cell h2.g.g.blk i
    have L2 := blk_lt h2.g.g.blk
    by_cases hlt : k < 16
    · have hlk := h2.h.look_ok (d, (k : Int)) ⟨hd, by unfold okI; omega⟩
      have hl := mapsL_len F d k
      unfold kv mpv at hlk
      cases hf : F (d, (k : Int)) with
      | none =>
        rw [hf] at hlk
        simp only [Option.getD_none, Option.isSome_none, mp0] at hlk
        clear h2
        go_wp2
        refine ⟨⟨k + 1, _, by omega, by simp, rfl, ⟨?_, below_alloc hA.out.2 _⟩⟩, by simp [intOf]; omega⟩
        rw [mapsL_miss hf]
        exact hA.out.1.alloc _
      | some m =>
        rw [hf] at hlk
        simp only [Option.getD_some, Option.isSome_some] at hlk
        have hsz := hA.out.2.size
        clear h2
        go_wp2_with (first
          | (at_builtin; refine wpList_append_own_at _ rfl _ _ 99 rfl W.heap.size 102 i0 (.agg #[.int .i64 0, .int .i64 0, .int .i64 0, .int .i64 0, .int .i64 0, .bool false]) 6 48 Tryz.underlying99 hi hz0 hz1 hz2 rfl (by decide) _ _ _ rfl ((hA.out.1.alloc _).alloc _) ⟨W2.heap.size + 1, 0, none⟩ 1 1 (mcells m) rfl rfl (by have := cell_six_new (W2.alloc (.cells #[.int .i64 m.h, .int .i64 m.caller, .int .i64 m.owner, .int .i64 m.ref, .int .i64 m.mfn, .bool m.wr] 102)) m 102; rw [World.size_alloc] at this; exact this) (mcells_one m) (by unfold maxLen; omega) (by omega) (by simp; omega) ?_; intro v' w3 hown' hg3 hnil3 hloc3; go_frame)
          | go_in)
        refine ⟨⟨k + 1, w3, by omega, by simp, rfl, ⟨?_, ?_⟩⟩, by simp [intOf]; omega⟩
        · rw [mapsL_hit hf]
          simpa using hown'
        · exact (below_alloc (below_alloc hA.out.2 _) _).grown hg3 (by simp; omega) (fun j hj => (hA.out.1.lt j hj).1)
    · obtain rfl : k = 16 := by omega
      clear h2
      go_wp2
      go_ret
      exact ⟨_, rfl, hA.out.1, hA.out.2⟩
/-- What held answers. -/
def heldR (F : Int × Int → Option Mp) (c h : Int) : Mp × Int := if ¬ (0 ≤ c ∧ c < 8) then (mp0, 1) else match F (c, h) with | none => (mp0, 6) | some m => (m, 0)
set_option maxHeartbeats 8000000 in
set_option maxRecDepth 100000 in
theorem held_calls (h : GX W gb mm hm mb fb s f c pi F n) (d k : Int) (hd : okI d) (hk : okI k) : Calls Tryz.prog 74 #[.pointer (some ⟨gb, 0, none⟩), .int .i64 d, .int .i64 k] W fun e w' =>
    e = .returned (.tuple #[.agg #[.int .i64 (heldR F d k).1.h, .int .i64 (heldR F d k).1.caller, .int .i64 (heldR F d k).1.owner, .int .i64 (heldR F d k).1.ref, .int .i64 (heldR F d k).1.mfn, .bool (heldR F d k).1.wr], .int .i64 (heldR F d k).2]) ∧ Below W.heap.size W w' := by
  have hb1 := below_alloc (Below.refl W.heap.size W) (.cells #[.int .i64 0, .int .i64 0, .int .i64 0, .int .i64 0, .int .i64 0, .bool false] 102)
  have h1 := h.below hb1
  have hn := GgA.none_calls h1.g.g
  have hdo := fun W => GgA.domain_calls d W
  have C1 := fun i => blk_cell h1.g.g.blk i
  have L1 := blk_lt h1.g.g.blk
  have hlk := h1.h.look_ok (d, k) ⟨hd, hk⟩
  unfold kv mpv at hlk
  obtain ⟨R, hR⟩ : ∃ R, R = heldR F d k := ⟨_, rfl⟩
  rw [← hR]
  unfold heldR at hR
  clear h h1 hb1
  by_cases hdm : 0 ≤ d ∧ d < 8
  · rw [if_neg (by simp [hdm])] at hR
    rw [decide_eq_true hdm.1, decide_eq_true hdm.2] at hdo
    cases hf : F (d, k) with
    | none =>
      rw [hf] at hlk hR
      simp only [Option.getD_none, Option.isSome_none, mp0] at hlk
      simp only [mp0] at hR
      subst hR
      go_enter Tryz.func74, Tryz.ntmps74
      go_wp2_with (first
        | (go_at_call 52; refine hn.mono ?_; rintro z w1 ⟨rfl, hw1⟩; obtain rfl := hw1.symm)
        | (go_at_call 54; refine (hdo _).mono ?_; rintro z w1 ⟨rfl, hw1⟩; obtain rfl := hw1.symm)
        | go_in)
      refine bodyPost_ret (v := .tuple #[.agg #[.int .i64 0, .int .i64 0, .int .i64 0, .int .i64 0, .int .i64 0, .bool false], .int .i64 6]) ?_ rfl ⟨rfl, ?_⟩
      · simp only [results, Tryz.results74]
        first | (go_simp; done) | (go_simp; rfl)
      · repeat (with_reducible first | exact Below.refl _ _ | refine below_alloc ?_ _ | (refine GuA.below_setN ?_ ?_; rotate_left; omega))
    | some m =>
      rw [hf] at hlk hR
      simp only [Option.getD_some, Option.isSome_some] at hlk
      simp only at hR
      subst hR
      go_enter Tryz.func74, Tryz.ntmps74
      go_wp2_with (first
        | (go_at_call 52; refine hn.mono ?_; rintro z w1 ⟨rfl, hw1⟩; obtain rfl := hw1.symm)
        | (go_at_call 54; refine (hdo _).mono ?_; rintro z w1 ⟨rfl, hw1⟩; obtain rfl := hw1.symm)
        | go_in)
      refine bodyPost_ret (v := .tuple #[.agg #[.int .i64 m.h, .int .i64 m.caller, .int .i64 m.owner, .int .i64 m.ref, .int .i64 m.mfn, .bool m.wr], .int .i64 0]) ?_ rfl ⟨rfl, ?_⟩
      · simp only [results, Tryz.results74]
        first | (go_simp; done) | (go_simp; rfl)
      · repeat (with_reducible first | exact Below.refl _ _ | refine below_alloc ?_ _ | (refine GuA.below_setN ?_ ?_; rotate_left; omega))
  · rw [if_pos hdm] at hR
    simp only [mp0] at hR
    subst hR
    have hdf : (decide (0 ≤ d) && decide (d < 8)) = false := by simp; omega
    rw [hdf] at hdo
    go_enter Tryz.func74, Tryz.ntmps74
    go_wp2_with (first
      | (go_at_call 52; refine hn.mono ?_; rintro z w1 ⟨rfl, hw1⟩; obtain rfl := hw1.symm)
      | (go_at_call 54; refine (hdo _).mono ?_; rintro z w1 ⟨rfl, hw1⟩; obtain rfl := hw1.symm)
      | go_in)
    refine bodyPost_ret (v := .tuple #[.agg #[.int .i64 0, .int .i64 0, .int .i64 0, .int .i64 0, .int .i64 0, .bool false], .int .i64 1]) ?_ rfl ⟨rfl, ?_⟩
    · simp only [results, Tryz.results74]
      first | (go_simp; done) | (go_simp; rfl)
    · repeat (with_reducible first | exact Below.refl _ _ | refine below_alloc ?_ _ | (refine GuA.below_setN ?_ ?_; rotate_left; omega))
end
end Go.Proofs.YthlejchcnfdcpaaGreat.GjA
namespace Go.Proofs.YthlejchcnfdcpaaGreat.GjB
open Go.RowKit Go.Maps Base GaA GaB GaC GmA GmB GmC GpA GgA GvA GeA GfA GfB GfC GfD GfH GjA
set_option linter.unusedVariables false
set_option linter.unusedSimpArgs false

theorem put1_put1 (s : MS) (k : Nat) (f g : Fr) : MS.put1 (MS.put1 s k f) k g = MS.put1 s k g := by
  unfold MS.put1
  congr 1
  funext i
  by_cases h : i = k
  · simp [h]
  · simp [h]
theorem put1_at (s : MS) (k : Nat) (f : Fr) : (MS.put1 s k f).fr k = f := if_pos rfl
theorem put1_ne (s : MS) (k i : Nat) (f : Fr) (h : i ≠ k) : (MS.put1 s k f).fr i = s.fr i := if_neg h
def fld (f : Fr) (j : Nat) (v : Int) : Fr := if j = 1 then { f with typ := v } else if j = 2 then { f with cnt := v } else { f with tot := v }
section
variable {w w' : World} {mb fb : Nat} {s : MS}
/-- One word of a frame turns. -/
theorem mach_one (h : Mach w mb fb s) (k : Nat) (hk : k < s.n) (j : Nat) (hj : j = 1 ∨ j = 2 ∨ j = 3) (v : Int) : Mach (w.setCell ⟨fb, k * 260 + j, none⟩ (.int .i64 v)) mb fb (MS.put1 s k (fld (s.fr k) j v)) := by
  obtain ⟨cs, h1, h2⟩ := h.lst
  refine ⟨blk_far h.blk h.ne _, ⟨_, blk_put h1 _ _ rfl, ?_⟩, h.few⟩
  refine (h2.set k j hk (by omega) _).of fun i l hi hl => ?_
  unfold cellM MS.put1 fld
  by_cases hik : i = k
  · subst hik
    rcases hj with rfl | rfl | rfl
    · by_cases l1 : l = 1
      · subst l1; simp
      · simp [l1]
    · by_cases l2 : l = 2
      · subst l2; simp
      · simp [l2]
    · by_cases l3 : l = 3
      · subst l3; simp
      · simp [l3]
  · simp [hik]
theorem kind_calls (b : Bool) (w : World) : Calls Tryz.prog 67 #[.bool b] w fun e w' => e = .returned (.int .i64 (if b then 1 else 0)) ∧ w' = w := by
  cases b
  all_goals
    go_enter Tryz.func67, Tryz.ntmps67
    go_wp2
    go_ret
    exact ⟨by first | rfl | (simp; done), rfl⟩
def putE (f : Fr) (kind : Int) : Int := if (kind ≠ 0 ∧ f.typ ≠ kind) ∨ (kind = 0 ∧ f.tot = f.cnt) then 14 else 0
def putF (f : Fr) (kind : Int) : Fr := ⟨f.own, if (if kind = 0 then f.cnt else f.cnt - 1) = 0 then 0 else f.typ, if kind = 0 then f.cnt else f.cnt - 1, f.tot - 1⟩
def putS (s : MS) (k : Nat) (kind : Int) : MS := if putE (s.fr k) kind = 0 then MS.put1 s k (putF (s.fr k) kind) else s
theorem putS_n (s : MS) (k : Nat) (kind : Int) : (putS s k kind).n = s.n := by unfold putS; split <;> rfl
set_option maxHeartbeats 8000000 in
set_option maxRecDepth 100000 in
theorem put_calls (h : Mach w mb fb s) (k : Nat) (hk : k < s.n) (kind : Int) (h0 : 0 ≤ kind) (h3 : kind ≤ 3) (hf : Fr.few (s.fr k)) : Calls Tryz.prog 75 #[.pointer (some ⟨mb, 0, none⟩), .int .i64 k, .int .i64 kind] w fun e w' =>
    e = .returned (.int .i64 (putE (s.fr k) kind)) ∧ Mach w' mb fb (putS s k kind) ∧ Chg (fun x => x = fb) w w' := by
  have ha := kinds_calls h k hk kind h0 h3
  have c1 := h.typ k hk
  have c2 := h.cnt k hk
  have c3 := h.tot k hk
  have F0 := h.frozen
  have L1 := h.lt.2
  obtain ⟨b0, b1, b2, b3⟩ := hf
  have m3 := fun n => mach_one (h.below (below_drewN (Below.refl _ _) n)) k hk 3 (.inr (.inr rfl)) ((s.fr k).tot - 1)
  have m32 := fun n => mach_one (m3 n) k hk 2 (.inr (.inl rfl)) ((s.fr k).cnt - 1)
  have m31 := fun n => mach_one (m3 n) k hk 1 (.inl rfl) 0
  have m321 := fun n => mach_one (m32 n) k hk 1 (.inl rfl) 0
  simp only [put1_at, put1_put1, fld] at m3 m32 m31 m321
  have HM := Base.Aside.mk (And.intro h (And.intro m3 (And.intro m32 (And.intro m31 m321))))
  clear h m3 m32 m31 m321
  by_cases e0 : kind = 0
  · subst e0
    by_cases e1 : (s.fr k).tot = (s.fr k).cnt
    · have d1 : ((s.fr k).tot == (s.fr k).cnt) = true := by simp [e1]
      have hE : putE (s.fr k) 0 = 14 := if_pos (.inr ⟨rfl, e1⟩)
      have HE := Base.Aside.mk (And.intro hE e1)
      clear hE e1
      go_enter Tryz.func75, Tryz.ntmps75
      go_wp2_with (first
        | (go_at_call 95; refine ha.mono ?_; rintro z w1 ⟨rfl, hw1⟩; obtain rfl := hw1.symm)
        | go_in)
      go_quiet (fail)
      go_wp2
      go_ret
      exact ⟨by rw [HE.out.1]; first | rfl | (simp; done), by unfold putS; rw [HE.out.1]; exact HM.out.1.below (below_drewN (Below.refl _ _) _), (Chg.refl _ _).drewN _⟩
    · have d1 : ((s.fr k).tot == (s.fr k).cnt) = false := by simp [e1]
      have hE : putE (s.fr k) 0 = 0 := if_neg (by simp [e1])
      have HE := Base.Aside.mk (And.intro hE e1)
      clear hE e1
      by_cases e2 : (s.fr k).cnt = 0
      · have d2 : ((s.fr k).cnt == 0) = true := by simp [e2]
        have HE2 := Base.Aside.mk e2
        clear e2
        go_enter Tryz.func75, Tryz.ntmps75
        go_wp2_with (first
          | (go_at_call 95; refine ha.mono ?_; rintro z w1 ⟨rfl, hw1⟩; obtain rfl := hw1.symm)
          | go_in)
        go_quiet (fail)
        go_wp2
        go_ret
        refine ⟨by rw [HE.out.1]; first | rfl | (simp; done), ?_, by repeat (first | exact Chg.refl _ _ | refine Chg.drewN ?_ _ | refine chg_fb ?_ _ _)⟩
        unfold putS
        rw [HE.out.1, if_pos rfl]
        have hF : putF (s.fr k) 0 = ⟨(s.fr k).own, 0, (s.fr k).cnt, (s.fr k).tot - 1⟩ := by unfold putF; simp [HE2.out]
        rw [hF]
        have := HM.out.2.2.2.1 nq
        simpa using this
      · have d2 : ((s.fr k).cnt == 0) = false := by simp [e2]
        have HE2 := Base.Aside.mk e2
        clear e2
        go_enter Tryz.func75, Tryz.ntmps75
        go_wp2_with (first
          | (go_at_call 95; refine ha.mono ?_; rintro z w1 ⟨rfl, hw1⟩; obtain rfl := hw1.symm)
          | go_in)
        go_quiet (fail)
        go_wp2
        go_ret
        refine ⟨by rw [HE.out.1]; first | rfl | (simp; done), ?_, by repeat (first | exact Chg.refl _ _ | refine Chg.drewN ?_ _ | refine chg_fb ?_ _ _)⟩
        unfold putS
        rw [HE.out.1, if_pos rfl]
        have hF : putF (s.fr k) 0 = ⟨(s.fr k).own, (s.fr k).typ, (s.fr k).cnt, (s.fr k).tot - 1⟩ := by unfold putF; simp [HE2.out]
        rw [hF]
        have := HM.out.2.1 nq
        simpa using this
  · have d0 : (kind == 0) = false := by simp [e0]
    have d0' : (kind != 0) = true := by simp [e0]
    by_cases e1 : (s.fr k).typ = kind
    · have d1 : ((s.fr k).typ != kind) = false := by simp [e1]
      have hE : putE (s.fr k) kind = 0 := if_neg (by simp [e0, e1])
      have HE := Base.Aside.mk (And.intro hE (And.intro e1 e0))
      clear hE e1 e0
      by_cases e2 : (s.fr k).cnt - 1 = 0
      · have d2 : ((s.fr k).cnt - 1 == 0) = true := by simp [e2]
        have HE2 := Base.Aside.mk e2
        clear e2
        go_enter Tryz.func75, Tryz.ntmps75
        go_wp2_with (first
          | (go_at_call 95; refine ha.mono ?_; rintro z w1 ⟨rfl, hw1⟩; obtain rfl := hw1.symm)
          | go_in)
        go_quiet (fail)
        go_wp2
        go_ret
        refine ⟨by rw [HE.out.1]; first | rfl | (simp; done), ?_, by repeat (first | exact Chg.refl _ _ | refine Chg.drewN ?_ _ | refine chg_fb ?_ _ _)⟩
        unfold putS
        rw [HE.out.1, if_pos rfl]
        have hF : putF (s.fr k) kind = ⟨(s.fr k).own, 0, (s.fr k).cnt - 1, (s.fr k).tot - 1⟩ := by unfold putF; simp [HE.out.2.2, HE2.out]
        rw [hF]
        have := HM.out.2.2.2.2 nq
        simpa using this
      · have d2 : ((s.fr k).cnt - 1 == 0) = false := by simp [e2]
        have HE2 := Base.Aside.mk e2
        clear e2
        go_enter Tryz.func75, Tryz.ntmps75
        go_wp2_with (first
          | (go_at_call 95; refine ha.mono ?_; rintro z w1 ⟨rfl, hw1⟩; obtain rfl := hw1.symm)
          | go_in)
        go_quiet (fail)
        go_wp2
        go_ret
        refine ⟨by rw [HE.out.1]; first | rfl | (simp; done), ?_, by repeat (first | exact Chg.refl _ _ | refine Chg.drewN ?_ _ | refine chg_fb ?_ _ _)⟩
        unfold putS
        rw [HE.out.1, if_pos rfl]
        have hF : putF (s.fr k) kind = ⟨(s.fr k).own, (s.fr k).typ, (s.fr k).cnt - 1, (s.fr k).tot - 1⟩ := by unfold putF; simp [HE.out.2.2, HE2.out]
        rw [hF]
        have := HM.out.2.2.1 nq
        simpa using this
    · have d1 : ((s.fr k).typ != kind) = true := by simp [e1]
      have hE : putE (s.fr k) kind = 14 := if_pos (.inl ⟨e0, e1⟩)
      have HE := Base.Aside.mk (And.intro hE e0)
      clear hE e1 e0
      go_enter Tryz.func75, Tryz.ntmps75
      go_wp2_with (first
        | (go_at_call 95; refine ha.mono ?_; rintro z w1 ⟨rfl, hw1⟩; obtain rfl := hw1.symm)
        | go_in)
      go_ret
      exact ⟨by rw [HE.out.1]; first | rfl | (simp; done), by unfold putS; rw [HE.out.1]; exact HM.out.1, Chg.refl _ _⟩
end
end Go.Proofs.YthlejchcnfdcpaaGreat.GjB
namespace Go.Proofs.YthlejchcnfdcpaaGreat.GjC
open Go.RowKit Go.Maps Base GaA GaB GaC GmA GmB GmC GpA GgA GvA GeA GfA GfB GfC GfD GfH GjA GjB
set_option linter.unusedVariables false
set_option linter.unusedSimpArgs false

theorem wpK_delete {P : Program} {w : World} {ops : Array Oper} {rest : List Oper} {o : Oper} {a : Act} {Q : Exit → Act → World → Prop} {M c : Nat} {f : Int × Int → Option Mp} (hP : P = Tryz.prog) (hg : o.guard = none) (m x : Operand)
    (hop : o.op = Op.call { callee := Callee.builtin Builtin.delete, args := #[m, x], argTypes := #[115, 155] }) (h : KMap w M f c) (p : Int × Int) (hp : ok p) (hn : (f p).isSome = true)
    (hm : a.eval m = .map (some M)) (hx : a.eval x = kv p)
    (hK : ∀ w', KMap w' M (kdel f p) (c - 1) → Chg (fun k => k = M) w w' → wpList P ops Q rest (a.put o.dst (.tuple #[])) w') :
    wpList P ops Q (o :: rest) a w := by
  subst hP
  refine wpList_plain hg fun K' hK' => ?_
  obtain ⟨w', hrun, r1, r2⟩ := h.drop p hp hn o.type
  unfold Oper.wp
  simp [execOp, hop, resolve, invoke, builtin, hm, hx, hrun, Result.andThen]
  exact hK' _ _ (hK w' r1 r2)
theorem wpK_store {P : Program} {w : World} {ops : Array Oper} {rest : List Oper} {o : Oper} {a : Act} {Q : Exit → Act → World → Prop} {M c : Nat} {f : Int × Int → Option Mp} (hP : P = Tryz.prog) (hg : o.guard = none) (m x v : Operand)
    (hop : o.op = Op.mapUpdate 115 m x v) (h : KMap w M f c) (p : Int × Int) (hp : ok p) (v' : Mp) (hc : c < 1000000) (hn : f p = none)
    (hm : a.eval m = .map (some M)) (hx : a.eval x = kv p) (hv : a.eval v = mpv v')
    (hK : ∀ w', KMap w' M (kput f p v') (c + 1) → Chg (fun k => k = M) w w' → wpList P ops Q rest (a.put o.dst undef) w') :
    wpList P ops Q (o :: rest) a w := by
  subst hP
  refine wpList_plain hg fun K' hK' => ?_
  obtain ⟨w', hrun, r1, r2⟩ := h.store p hp v' hc hn
  unfold Oper.wp
  simp [execOp, hop, hm, hx, hv, hrun, Result.andThen]
  exact hK' _ _ (hK w' r1 r2)
def kindI (b : Bool) : Int := if b then 1 else 0
section
variable {w w' W W' : World} {gb mm hm mb fb : Nat} {f : Int → Option (Int × Nat)} {c : Nat} {s s' : MS} {pi : Nat → PI} {F : Int × Int → Option Mp} {n : Nat} {vb db r r' : Nat}
def UnOut (W : World) (gb mm hm mb fb : Nat) (s : MS) (f : Int → Option (Int × Nat)) (c : Nat) (pi : Nat → PI) (F : Int × Int → Option Mp) (n : Nat) (er : Int) (e : Ending) (w' : World) : Prop := e = .returned (.int .i64 er) ∧ GX w' gb mm hm mb fb s f c pi F n ∧ Chg (fun x => x = fb ∨ x = hm) W w'
set_option maxHeartbeats 8000000 in
set_option maxRecDepth 100000 in
theorem unmap_no (h : GX W gb mm hm mb fb s f c pi F n) (d k : Int) (hd : okI d) (hk : okI k) (hne : (heldR F d k).2 ≠ 0) : Calls Tryz.prog 25 #[.pointer (some ⟨gb, 0, none⟩), .int .i64 d, .int .i64 k] W (UnOut W gb mm hm mb fb s f c pi F n (heldR F d k).2) := by
  have hh := held_calls h d k hd hk
  generalize heldR F d k = R at hh hne ⊢
  have hb : (R.2 == 0) = false := by simp [hne]
  have HG := Base.Aside.mk h
  clear h hne
  go_enter Tryz.func25, Tryz.ntmps25
  go_wp2_with (first
    | (go_at_call 74; refine hh.mono ?_; rintro z w1 ⟨rfl, hB1⟩; have E1 := Base.Aside.mk hB1; clear hB1)
    | go_in)
  go_ret
  have hb2 := below_alloc E1.out (.cells #[.int .i64 R.1.h, .int .i64 R.1.caller, .int .i64 R.1.owner, .int .i64 R.1.ref, .int .i64 R.1.mfn, .bool R.1.wr] 102)
  exact ⟨by first | rfl | (simp; done), HG.out.below hb2, Chg.below _ hb2⟩
set_option maxHeartbeats 8000000 in
set_option maxRecDepth 100000 in
theorem unmap_ok (h : GX W gb mm hm mb fb s f c pi F n) (d k : Int) (hd0 : 0 ≤ d ∧ d < 8) (hk : okI k) (m : Mp) (hm2 : F (d, k) = some m) (hval : 0 ≤ m.mfn ∧ m.mfn < s.n) (hfew : Fr.few (s.fr m.mfn.toNat)) :
    Calls Tryz.prog 25 #[.pointer (some ⟨gb, 0, none⟩), .int .i64 d, .int .i64 k] W (UnOut W gb mm hm mb fb (putS s m.mfn.toNat (kindI m.wr)) f c pi (kdel F (d, k)) (n - 1) 0) := by
  have hR : heldR F d k = (m, 0) := by unfold heldR; rw [if_neg (by simp [hd0]), hm2]
  have hh := held_calls h d k ⟨by omega, by omega⟩ hk
  rw [hR] at hh
  simp only at hh
  obtain ⟨mf, hmf⟩ : ∃ mf : Nat, m.mfn = mf := ⟨m.mfn.toNat, by omega⟩
  rw [hmf] at hh hval hfew ⊢
  simp only [Int.toNat_natCast] at hfew ⊢
  have hkd := fun W => kind_calls m.wr W
  have hpt := fun W' (hW : Below W.heap.size W W') => put_calls (h.below hW).g.m mf (by omega) (kindI m.wr) (by unfold kindI; split <;> omega) (by unfold kindI; split <;> omega) hfew
  have hki : ∀ b : Bool, kindI b = if b then 1 else 0 := fun _ => rfl
  have HG := Base.Aside.mk (And.intro h hm2)
  have hgl := blk_lt h.g.g.blk
  have lfb := h.g.m.lt.2
  have ngf : gb ≠ fb := by obtain ⟨cs, q1, q2⟩ := h.g.m.lst; exact fun e => bne h.g.g.blk q1 (by decide) e
  have S0 : ∀ W', Below W.heap.size W W' → W'.cell? ⟨gb, 0, none⟩ = some (.pointer (some ⟨mb, 0, none⟩)) := fun W' hW => blk_cell (h.below hW).g.g.blk 0
  generalize hkk : kindI m.wr = kk at hpt ⊢
  have hkd2 : ∀ W, Calls Tryz.prog 67 #[.bool m.wr] W fun e w' => e = .returned (.int .i64 kk) ∧ w' = W := fun W => by rw [← hkk]; exact hkd W
  clear h hm2 hkd hki hkk hR
  go_enter Tryz.func25, Tryz.ntmps25
  go_wp2_with (first
    | (go_at_call 74; refine hh.mono ?_; rintro z w1 ⟨rfl, hB1⟩; have E1 := Base.Aside.mk hB1; clear hB1)
    | go_in)
  refine wp_world (fun W2 => Below W.heap.size W W2 ∧ W2.heap[w1.heap.size]? = some (.cells #[.int .i64 m.h, .int .i64 m.caller, .int .i64 m.owner, .int .i64 m.ref, .int .i64 mf, .bool m.wr] 102 (0, 0))) ⟨below_alloc E1.out _, blk_new _ _⟩ ?_
  intro W2 ⟨hb2, hx2⟩
  have k0 := S0 _ hb2
  have C2 := fun i => blk_cell hx2 i
  have k4 : W2.cell? ⟨w1.heap.size, 4, none⟩ = some (.int .i64 mf) := blk_cell hx2 4
  have k5 : W2.cell? ⟨w1.heap.size, 5, none⟩ = some (.bool m.wr) := blk_cell hx2 5
  have L2 := blk_lt hx2
  have L3 := Nat.lt_of_lt_of_le hgl hb2.size
  have S3 : ∀ Wx w3, Below W2.heap.size W2 Wx → Chg (fun x => x = fb) Wx w3 → w3.cell? ⟨gb, 0, none⟩ = some (.pointer (some ⟨mb, 0, none⟩)) ∧ w3.cell? ⟨w1.heap.size, 4, none⟩ = some (.int .i64 mf) ∧ w3.cell? ⟨w1.heap.size, 5, none⟩ = some (.bool m.wr) := by
    intro Wx w3 hb hc
    have hbx : Below W.heap.size W Wx := hb2.trans (hb.mono hb2.size)
    have n1 : gb ≠ fb := ngf
    have n2 : w1.heap.size ≠ fb := by have := E1.out.size; omega
    have hy : Wx.heap[w1.heap.size]? = _ := (hb.block _ L2).trans hx2
    have hz := hc.blk hy n2
    exact ⟨blk_cell (hc.blk (HG.out.1.below hbx).g.g.blk n1) 0, blk_cell hz 4, blk_cell hz 5⟩
  have E2 := Base.Aside.mk (And.intro hb2 hx2)
  clear hb2 hx2 C2 hgl
  go_cut [] from 18 to 27 (fun wx => Base.Aside (GX wx gb mm hm mb fb (putS s mf kk) f c pi F n ∧ Chg (fun x => x = fb) W wx))
  case first =>
    go_region_held3 (fun W' => W'.cell? ⟨gb, 0, none⟩ = some (.pointer (some ⟨mb, 0, none⟩)) ∧ W'.cell? ⟨w1.heap.size, 4, none⟩ = some (.int .i64 mf) ∧ W'.cell? ⟨w1.heap.size, 5, none⟩ = some (.bool m.wr))
      (first
        | go_keep
        | exact ⟨k0, k4, k5⟩
        | (refine S3 _ _ ?_ E3.out.2; (repeat (with_reducible first | exact Below.refl _ _ | refine below_drew ?_ | refine below_alloc ?_ _)); done))
      ((first
        | (go_at_call 67; (with_reducible refine (hkd2 _).mono ?_); rintro z w3 ⟨rfl, hw3⟩; obtain rfl := hw3.symm)
        | (go_at_call 75; (with_reducible refine (hpt _ ?_).mono ?_); (focus (repeat (with_reducible first | exact E2.out.1 | refine below_drew ?_ | refine below_alloc ?_ _))); rintro z w3 ⟨rfl, hM3, hC3⟩; have E3 := Base.Aside.mk (And.intro hM3 hC3); clear hM3 hC3)))
    all_goals
      go_wp2_with fail
      go_meet
    case rel =>
      refine ⟨(HG.out.1.below ?_).mach E3.out.1 (putS_n _ _ _) E3.out.2, (Chg.below _ ?_).trans E3.out.2⟩
      all_goals (repeat (with_reducible first | exact E2.out.1 | refine below_drew ?_ | refine below_alloc ?_ _))
  case rest =>
    have okp : ok (d, k) := ⟨by unfold okI; omega, hk⟩
    have EC := Base.Aside.mk hcut.out
    have CC := fun i => blk_cell hcut.out.1.g.g.blk i
    have LC := blk_lt hcut.out.1.g.g.blk
    clear hcut
    go_wp2_with (first
      | (at_delete; go_loud (refine wpK_delete rfl rfl _ _ rfl ((EC.out.1.below (by (repeat (with_reducible first | exact Below.refl _ _ | refine below_drew ?_ | refine below_alloc ?_ _)))).h) (d, k) okp (by rw [HG.out.2]; rfl) (by go_simp) (by go_simp; rfl) ?_); intro w5 hK5 hC5; have E5 := Base.Aside.mk (And.intro hK5 hC5); clear hK5 hC5)
      | go_in)
    go_ret
    refine ⟨by first | rfl | (simp; done), (EC.out.1.below ?_).maps E5.out.1 E5.out.2, ((EC.out.2.mono fun _ h => .inl h).trans (Chg.below _ ?_)).trans (E5.out.2.mono fun _ h => .inr h)⟩
    all_goals (repeat (with_reducible first | exact Below.refl _ _ | refine below_drew ?_ | refine below_alloc ?_ _))
end
end Go.Proofs.YthlejchcnfdcpaaGreat.GjC
namespace Go.Proofs.YthlejchcnfdcpaaGreat.GjD
open Go.RowKit Go.Maps Base GaA GaB GaC GmA GmB GmC GpA GgA GvA GeA GfA GfB GfC GfD GfH GjA GjB
set_option linter.unusedVariables false
set_option linter.unusedSimpArgs false

/-- Is the map at k one of d's frames? -/
def ownIs (F : Int × Int → Option Mp) (d : Int) (k : Int × Int) : Bool := match F k with | some m => m.owner == d | none => false
/-- The keys in use, each once. -/
structure Keys (F : Int × Int → Option Mp) (L : List (Int × Int)) : Prop where
  nodup : L.Nodup
  ok : ∀ k ∈ L, ok k
  mem : ∀ k, GmB.ok k → ((F k).isSome = true ↔ k ∈ L)
noncomputable def seen (L : List (Int × Int)) (F : Int × Int → Option Mp) (d : Int) (left : Lit → Bool) : Nat := L.countP fun k => ownIs F d k && !left (kl k)
theorem kl_same {p q : Int × Int} (hp : ok p) (hq : ok q) : (kl p).sameKey (kl q) = decide (p = q) := by
  by_cases e : p = q
  · subst e
    rw [WideAt.sameKey_self (kl_key hp)]
    simp
  · cases hs : (kl p).sameKey (kl q)
    · simp [e]
    · exact absurd (WideAt.sameKey_eq hs) (kl_ne hp hq e)
theorem seen_none (L : List (Int × Int)) (F : Int × Int → Option Mp) (d : Int) (left : Lit → Bool) (h : ∀ k ∈ L, left (kl k) = true) : seen L F d left = 0 := by
  unfold seen
  rw [List.countP_eq_zero]
  intro k hk
  rw [h k hk]
  simp
theorem seen_all (L : List (Int × Int)) (F : Int × Int → Option Mp) (d : Int) (left : Lit → Bool) (h : ∀ l, left l = false) : seen L F d left = L.countP (ownIs F d) := by
  unfold seen
  congr 1
  funext k
  rw [h]
  simp
theorem seen_le (L : List (Int × Int)) (F : Int × Int → Option Mp) (d : Int) (left : Lit → Bool) : seen L F d left ≤ L.length := List.countP_le_length
theorem seen_off {L : List (Int × Int)} {F : Int × Int → Option Mp} (d : Int) (left : Lit → Bool) {p : Int × Int} (hok : ∀ k ∈ L, ok k) (hp : ok p) (hn : p ∉ L) : seen L F d (fun z => left z && !z.sameKey (kl p)) = seen L F d left := by
  unfold seen
  refine List.countP_congr fun k hk => ?_
  dsimp only
  rw [kl_same (hok k hk) hp]
  have : k ≠ p := fun e => hn (e ▸ hk)
  simp [this]
theorem seen_step {F : Int × Int → Option Mp} (d : Int) {left : Lit → Bool} {p : Int × Int} (hp : ok p) (hl : left (kl p) = true) : ∀ {L : List (Int × Int)}, L.Nodup → (∀ k ∈ L, ok k) → p ∈ L →
    seen L F d (fun z => left z && !z.sameKey (kl p)) = seen L F d left + (if ownIs F d p = true then 1 else 0)
  | [], _, _, h => by cases h
  | x :: L, hN, hO, hm => by
    obtain ⟨n1, n2⟩ := List.nodup_cons.1 hN
    by_cases e : x = p
    · subst e
      have := seen_off (F := F) d left (fun k hk => hO k (List.mem_cons_of_mem _ hk)) hp n1
      unfold seen at this ⊢
      rw [List.countP_cons, List.countP_cons, this]
      simp [kl_same hp hp, hl]
    · have ih := seen_step (F := F) d hp hl n2 (fun k hk => hO k (List.mem_cons_of_mem _ hk)) ((List.mem_cons.1 hm).resolve_left fun h => e h.symm)
      unfold seen at ih ⊢
      rw [List.countP_cons, List.countP_cons, ih]
      simp [kl_same (hO x (List.mem_cons_self ..)) hp, e]
      omega
section
variable {w w' W W' : World} {gb mm hm mb fb : Nat} {f : Int → Option (Int × Nat)} {c : Nat} {s s' : MS} {pi : Nat → PI} {F : Int × Int → Option Mp} {n : Nat} {vb db r r' : Nat}
set_option maxHeartbeats 8000000 in
set_option maxRecDepth 100000 in
theorem foreign_calls (h : GX W gb mm hm mb fb s f c pi F n) (d : Int) {L : List (Int × Int)} (hL : Keys F L) (hlen : L.length < 1000000) : Calls Tryz.prog 40 #[.pointer (some ⟨gb, 0, none⟩), .int .i64 d] W fun e w' =>
    e = .returned (.int .i64 (L.countP (ownIs F d) : Nat)) ∧ Below W.heap.size W w' := by
  have hn := GgA.none_calls h.g.g
  have C0 := fun i => blk_cell h.g.g.blk i
  have L0 := blk_lt h.g.g.blk
  have hbl := h.h.lt
  obtain ⟨D, hown, hsz, hhas, hat⟩ := h.h
  have HA := Base.Aside.mk (And.intro hhas hat)
  have HL := Base.Aside.mk hL
  clear hhas hat hL
  go_enter Tryz.func40, Tryz.ntmps40
  go_wp2_with (first
    | (go_at_call 52; refine hn.mono ?_; rintro z w1 ⟨rfl, hw1⟩; obtain rfl := hw1.symm)
    | (at_range; refine wpList_range_own _ rfl _ 115 rfl 155 102 keyed Tryz.underlying115 hmv hm n D rfl hown ?_; intro w0 hrg0 hg0 hs0)
    | go_in)
  go_frame
  go_loopw [5] (fun v wr => ∃ (left : Lit → Bool) (cnt : Nat), v = .int .i64 (seen L F d left : Nat) ∧ Base.Aside (wr.ranges Tryz.prog 155 hmv hm W.heap.size n D left cnt ∧ Below W.heap.size W wr ∧ ∀ l, left l = true → Maps.has D l = true))
    (fun _ wr => wr.rangeLeft hm W.heap.size)
  case atStart =>
    refine ⟨_, _, ?_, ⟨hrg0, (Below.refl _ _).grown hg0 (Nat.le_refl _) (fun j hj => by cases hj), fun l h => h⟩⟩
    rw [seen_none]
    · rfl
    · intro k hk
      have hk2 := HL.out.ok k hk
      rw [HA.out.1 k hk2]
      exact (HL.out.mem k hk2).2 hk
  case round =>
    obtain ⟨left, cnt, rfl, hR⟩ := hrel
    have hsl := seen_le L F d left
    go_wp2_with (first
      | (at_next; refine wpList_next_ranges _ rfl _ rfl 155 keyed hmv kv mpv (fun key l hk => by obtain ⟨p, _, hp⟩ := key_inv hk; exact ⟨p, hp⟩) (fun v y hv => by obtain ⟨m, hm, _⟩ := hmv_inv hv; exact ⟨m, hm⟩) hm W.heap.size n _ _ _ rfl hR.out.1 ?_ ?_)
      | go_in)
    · intro hc0 hl0
      go_wp2
      go_ret
      refine ⟨by rw [seen_all _ _ _ _ hl0]; rfl, hR.out.2.1⟩
    · intro p1 p2 m l y1 y2 w2 cnt2 hkey hlk hv hat hrg2 hlt hg2 hs2 hen
      obtain ⟨p', hpo, hpp⟩ := key_inv hkey
      obtain rfl := kv_inj hpp
      generalize hpe : (p1, p2) = p at hkey hpo hen hpp ⊢
      obtain rfl := kl_of hpo hkey
      obtain ⟨m', hm', hy⟩ := hmv_inv hv
      obtain rfl := mpv_inj hm'
      obtain ⟨rfl, rfl⟩ := Prod.mk.inj hy
      have hhp := HA.out.1 p hpo
      rw [hR.out.2.2 _ hlk] at hhp
      have hF : F p = some m := by
        cases hf : F p with
        | none => rw [hf] at hhp; cases hhp
        | some m2 =>
          have h1 := hat (.held (mpv m))
          rw [HA.out.2 p _ hpo, hf] at h1
          have h2 : mpv m2 = mpv m := DataW.held.inj h1
          rw [mpv_inj h2]
      have hin : p ∈ L := (HL.out.mem p hpo).1 (by rw [hF]; rfl)
      have hst := seen_step (F := F) d hpo hlk HL.out.nodup HL.out.ok hin
      have how : ownIs F d p = (m.owner == d) := by unfold ownIs; rw [hF]
      rw [how] at hst
      have hb2 := Below.grown hR.out.2.1 hg2 hR.out.2.1.size (fun j hj => by cases hj; exact Nat.le_refl _)
      have hst2 := Base.Aside.mk hst
      have hq2 := Base.Aside.mk (And.intro hrg2 hb2)
      unfold kv mpv at hen
      clear hst hrg2 hb2 hat hkey hv hm' hhp how hin hs2 hg2 hF hpp
      by_cases ho : m.owner = d
      · subst ho
        go_wp2
        go_roundw
        case rel => exact ⟨_, cnt2, by rw [hst2.out]; simp, ⟨hq2.out.1.alloc _, below_alloc hq2.out.2 _, fun l hl => hR.out.2.2 l (by simp only [Bool.and_eq_true] at hl; exact hl.1)⟩⟩
        case measure => rw [(hq2.out.1.alloc _).left_eq, hR.out.1.left_eq]; exact hlt
      · go_wp2
        go_roundw
        case rel => exact ⟨_, cnt2, by rw [hst2.out]; simp [ho], ⟨hq2.out.1.alloc _, below_alloc hq2.out.2 _, fun l hl => hR.out.2.2 l (by simp only [Bool.and_eq_true] at hl; exact hl.1)⟩⟩
        case measure => rw [(hq2.out.1.alloc _).left_eq, hR.out.1.left_eq]; exact hlt
end
end Go.Proofs.YthlejchcnfdcpaaGreat.GjD
namespace Go.Proofs.YthlejchcnfdcpaaGreat.GjE
open Go.RowKit Go.Maps Base GaA GaB GaC GmA GmB GmC GpA GgA GvA GeA GfA GfB GfC GfD GfH GjA GjB
set_option linter.unusedVariables false
set_option linter.unusedSimpArgs false

/-- The first number from h on that the list does not go on with. -/
def lead : Nat → List Mp → Nat
  | h, [] => h
  | h, m :: t => if m.h = h then lead (h + 1) t else h
theorem lead_le : ∀ (L : List Mp) (h : Nat), lead h L ≤ h + L.length
  | [], h => by simp [lead]
  | m :: t, h => by
    have := lead_le t (h + 1)
    simp only [lead, List.length_cons]
    split <;> omega
theorem lead_snoc (m : Mp) : ∀ (L : List Mp) (h : Nat), lead h (L ++ [m]) = if lead h L = h + L.length then (if m.h = ((h + L.length : Nat) : Int) then h + L.length + 1 else h + L.length) else lead h L
  | [], h => by simp [lead]
  | x :: t, h => by
    have ih := lead_snoc m t (h + 1)
    have hl := lead_le t (h + 1)
    simp only [lead, List.cons_append, List.length_cons]
    by_cases e : x.h = h
    · rw [if_pos e, if_pos e, ih]
      have e2 : h + 1 + t.length = h + (t.length + 1) := by omega
      rw [e2]
    · rw [if_neg e, if_neg e, if_neg (by omega)]
theorem lead_step (L : List Mp) (k : Nat) (hk : k < L.length) : lead k (L.drop k) = if (L[k]).h = k then lead (k + 1) (L.drop (k + 1)) else k := by
  rw [List.drop_eq_getElem_cons hk, lead]
theorem lead_spec {F : Int × Int → Option Mp} (hF : ∀ c h m, F (c, h) = some m → m.h = h) (c : Int) : ∀ k : Nat, lead 0 (mapsL F c k) ≤ k ∧ (∀ i : Nat, i < lead 0 (mapsL F c k) → (F (c, (i : Int))).isSome = true) ∧
    (lead 0 (mapsL F c k) < k → F (c, (lead 0 (mapsL F c k) : Nat)) = none) ∧ ((mapsL F c k).length = k → lead 0 (mapsL F c k) = k)
  | 0 => ⟨Nat.le_refl _, fun i hi => absurd hi (Nat.not_lt_zero i), fun h => absurd h (Nat.not_lt_zero _), fun _ => rfl⟩
  | k + 1 => by
    obtain ⟨i1, i2, i3, i4⟩ := lead_spec hF c k
    have hl := mapsL_len F c k
    have h0 := lead_le (mapsL F c k) 0
    cases hf : F (c, (k : Int)) with
    | none =>
      rw [mapsL_miss hf]
      refine ⟨by omega, i2, fun h => ?_, fun h => by omega⟩
      by_cases e : lead 0 (mapsL F c k) = k
      · rw [e]; exact hf
      · exact i3 (by omega)
    | some m =>
      have hm := hF _ _ _ hf
      rw [mapsL_hit hf, lead_snoc, hm]
      simp only [Nat.zero_add] at *
      rw [List.length_append]
      simp only [List.length_singleton]
      by_cases e1 : lead 0 (mapsL F c k) = (mapsL F c k).length
      · rw [if_pos e1]
        by_cases e2 : (k : Int) = ((mapsL F c k).length : Nat)
        · rw [if_pos e2]
          refine ⟨by omega, fun i hi => ?_, fun h => by omega, fun h => by omega⟩
          by_cases e3 : i = k
          · rw [e3, hf]; rfl
          · exact i2 i (by omega)
        · rw [if_neg e2, ← e1]
          exact ⟨by omega, i2, fun h => i3 (by omega), fun h => by omega⟩
      · rw [if_neg e1]
        refine ⟨by omega, i2, fun h => i3 ?_, fun h => ?_⟩
        · by_cases e3 : lead 0 (mapsL F c k) = k
          · omega
          · omega
        · have := i4 (by omega)
          omega
/-- A row of maps in memory: their handles. -/
def MRow (N : Nat) (W : World) (A : Option Addr) (L : List Mp) : Prop :=
  (A = none ∧ L = []) ∨ ∃ g cs, A = some ⟨g, 0, none⟩ ∧ N ≤ g ∧ W.heap[g]? = some (.cells cs 102 (0, 0)) ∧ ∀ j (hj : j < L.length), cs[6 * j]? = some (.int .i64 (L[j]).h)
theorem flat_at : ∀ (L : List Mp) (j : Nat) (hj : j < L.length), (L.flatMap mcells)[6 * j]? = some (.int .i64 (L[j]).h)
  | [], j, hj => absurd hj (Nat.not_lt_zero _)
  | m :: t, 0, hj => rfl
  | m :: t, j + 1, hj => by
    have ih := flat_at t j (by simpa using hj)
    rw [List.flatMap_cons, List.getElem?_append_right (by simp [mcells]; omega)]
    have e : 6 * (j + 1) - (mcells m).length = 6 * j := by simp [mcells]; omega
    rw [e, ih]
    rfl
theorem mrow_of {N : Nat} {W : World} {v : Value} {L : List Mp} (h : W.ownsRow N 102 6 v L.length (L.flatMap mcells)) : ∃ A c, v = .slice A L.length c ∧ MRow N W A L := by
  obtain ⟨h1, ⟨rfl, h2⟩ | ⟨g, cap, cur, rfl, hb, hg, q1, q2, q3, q4⟩⟩ := h
  · have : L = [] := List.length_eq_zero_iff.1 h2
    subst this
    exact ⟨none, 0, rfl, .inl ⟨rfl, rfl⟩⟩
  · refine ⟨_, cap, rfl, .inr ⟨g, cur, rfl, hb, hg, fun j hj => ?_⟩⟩
    rw [← flat_at L j hj, ← q4, List.getElem?_take, if_pos (by omega), Array.getElem?_toList]
theorem MRow.chg {N : Nat} {W W' : World} {A : Option Addr} {L : List Mp} {F : Nat → Prop} (h : MRow N W A L) (hc : Chg F W W') (hF : ∀ x, F x → x < N) : MRow N W' A L := by
  rcases h with h | ⟨g, cs, h1, h2, h3, h4⟩
  · exact .inl h
  · exact .inr ⟨g, cs, h1, h2, hc.blk h3 (fun hf => by have := hF g hf; omega), h4⟩
theorem MRow.below {N : Nat} {W W' : World} {A : Option Addr} {L : List Mp} (h : MRow N W A L) (hb : Below W.heap.size W W') : MRow N W' A L := h.chg (Chg.below (fun _ => False) hb) (fun x hx => hx.elim)
end Go.Proofs.YthlejchcnfdcpaaGreat.GjE
