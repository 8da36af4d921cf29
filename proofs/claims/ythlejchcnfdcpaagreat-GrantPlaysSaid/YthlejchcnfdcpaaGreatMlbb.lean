/- Proved: Transfer, at every argument (contracts for the laws of the grants). Proved: Transfer, at every argument (contracts for the laws of the grants). Proved: Transfer, at every argument (contracts for the laws of the grants). -/
import Derived.Test.YthlejchcnfdcpaaGreatMlaq
import Derived.Test.YthlejchcnfdcpaaGreatMlas
import Derived.Deep.QuietTactic
import Derived.BigQuiet
import Derived.Deep.RegionHeld3
namespace Go.Proofs.YthlejchcnfdcpaaGreat.GwR
open Go.RowKit Go.Maps Base GaA GaB GaC GaD GmA GmB GmC GpA GgA GeA GeB GfA GfB GfC GfD GfH GwB GwF GwH GwO
set_option linter.unusedVariables false
set_option linter.unusedSimpArgs false

/-- Why a frame is not moved, ahead of the entry's read: d is the caller, e the other. -/
def trA (s : MS) (f : Int → Option (Int × Nat)) (pi : Nat → PI) (d gp e ref : Int) : Int :=
  match f d with
  | none => 1
  | some x => if (f e).isSome = false ∨ d = e ∨ slotB ref = false then 1
    else if (getV (pi x.2).size (pi x.2).fr gp).2 ≠ 0 then (getV (pi x.2).size (pi x.2).fr gp).2
    else if (frV s (getV (pi x.2).size (pi x.2).fr gp).1).2 ≠ 0 ∨ (frV s (getV (pi x.2).size (pi x.2).fr gp).1).1.own ≠ d then 12
    else if (frV s (getV (pi x.2).size (pi x.2).fr gp).1).1.tot ≠ 0 then 9 else 0
section
variable {a : VA} {w w' W W' : World} {gb mm hm : Nat} {f : Int → Option (Int × Nat)} {c : Nat} {s s' : MS} {pi : Nat → PI} {r r' : Nat}
set_option maxHeartbeats 8000000 in
set_option maxRecDepth 100000 in
theorem transfer_arg (h : GW W gb mm hm a.mb a.fb s f c pi) (hV : Vm a W W r s) (d gp e ref : Int) (hd : okI d) (he : okI e) (hb : f d = none ∨ f e = none ∨ d = e ∨ slotB ref = false) :
    Calls Tryz.prog 84 #[.pointer (some ⟨gb, 0, none⟩), .pointer (some ⟨a.vb, 0, none⟩), .int .i64 d, .int .i64 gp, .int .i64 e, .int .i64 ref] W fun z w' => z = .returned (.int .i64 1) ∧ Below W.heap.size W w' := by
  have hno := GgA.none_calls h.g
  have hun := hV.unmade
  have hjo1 := joined_any h.g d hd
  have hjo2 := fun W' (hW : Below W.heap.size W W') => (joined_any (h.below hW).g e he).mono (R' := fun z w' => z = .returned (.bool (f e).isSome) ∧ Below W.heap.size W w') (fun z w' h => ⟨h.1, below_step hW h.2⟩)
  have hso := slot_any ref
  have hcase : (f d).isSome = false ∨ ((f d).isSome = true ∧ (f e).isSome = false) ∨ ((f d).isSome = true ∧ (f e).isSome = true ∧ (d == e) = true) ∨ ((f d).isSome = true ∧ (f e).isSome = true ∧ (d == e) = false ∧ slotB ref = false) := by
    cases h1 : f d with
    | none => exact .inl rfl
    | some x =>
      cases h2 : f e with
      | none => exact .inr (.inl ⟨rfl, rfl⟩)
      | some y =>
        by_cases h3 : d = e
        · exact .inr (.inr (.inl ⟨rfl, rfl, by simp [h3]⟩))
        · refine .inr (.inr (.inr ⟨rfl, rfl, by simp [h3], ?_⟩))
          rcases hb with hb | hb | hb | hb
          · rw [h1] at hb; cases hb
          · rw [h2] at hb; cases hb
          · exact absurd hb h3
          · exact hb
  generalize (f d).isSome = b1 at hjo1 hcase
  generalize (f e).isSome = b2 at hjo2 hcase
  generalize slotB ref = b3 at hso hcase
  clear h hV hb
  rcases hcase with rfl | ⟨rfl, rfl⟩ | ⟨rfl, rfl, h3⟩ | ⟨rfl, rfl, h3, rfl⟩
  all_goals
    go_enter Tryz.func84, Tryz.ntmps84
    go_wp2_with (first
      | (go_at_call 52; (with_reducible refine hno.mono ?_); rintro z w9 ⟨rfl, hw9⟩; obtain rfl := hw9.symm)
      | (go_at_call 62; (with_reducible refine hun.mono ?_); rintro z w9 ⟨rfl, hw9⟩; obtain rfl := hw9.symm)
      | (go_at_call 63; (with_reducible refine hjo1.mono ?_); rintro z w1 ⟨rfl, hB1⟩; have hj2 := hjo2 w1 hB1; have E1 := Base.Aside.mk hB1; clear hB1)
      | (go_at_call 63; (with_reducible refine hj2.mono ?_); rintro z w2 ⟨rfl, hB2⟩; have E2 := Base.Aside.mk hB2; clear hB2)
      | (go_at_call 64; (with_reducible refine (hso _).mono ?_); rintro z w9 ⟨rfl, hw9⟩; obtain rfl := hw9.symm)
      | go_in)
    go_ret
    exact ⟨by first | rfl | (simp; done), by first | exact E2.out | exact E1.out⟩
set_option maxHeartbeats 8000000 in
set_option maxRecDepth 100000 in
theorem transfer_a (h : GW W gb mm hm a.mb a.fb s f c pi) (hV : Vm a W W r s) (d gp e ref : Int) (hd : okI d) (he : okI e) (x y : Int × Nat) (hx : f d = some x) (hy : f e = some y) (hde : d ≠ e) (hsl : slotB ref = true) (hne : trA s f pi d gp e ref ≠ 0) :
    Calls Tryz.prog 84 #[.pointer (some ⟨gb, 0, none⟩), .pointer (some ⟨a.vb, 0, none⟩), .int .i64 d, .int .i64 gp, .int .i64 e, .int .i64 ref] W fun z w' => z = .returned (.int .i64 (trA s f pi d gp e ref)) ∧ Below W.heap.size W w' := by
  have hno := GgA.none_calls h.g
  have hun := hV.unmade
  have hjo1 := joined_any h.g d hd
  have hjo2 := fun W' (hW : Below W.heap.size W W') => (joined_any (h.below hW).g e he).mono (R' := fun z w' => z = .returned (.bool (f e).isSome) ∧ Below W.heap.size W w') (fun z w' h => ⟨h.1, below_step hW h.2⟩)
  have hso := slot_any ref
  rw [hx] at hjo1
  rw [hy] at hjo2
  rw [hsl] at hso
  simp only [Option.isSome_some] at hjo1 hjo2
  have d1 : (d == e) = false := by simp [hde]
  have C0 := fun W' (hW : Below W.heap.size W W') => fun i => blk_cell (h.below hW).g.blk i
  have L0 := blk_lt h.g.blk
  have e1 : mvs f d = some (.agg #[.int .i64 x.1, .pointer (some ⟨x.2, 0, none⟩)]) := by unfold mvs; rw [hx]; rfl
  have hlk := fun W' (hW : Below W.heap.size W W') => (h.below hW).g.mem.look Tryz.underlying114 (zeroM _) d hd.1 hd.2
  simp only [e1, Option.getD_some] at hlk
  have hfd : ∀ (W : World) (a b : Value), (Instr.field 135 (.agg #[a, b]) 1).run Tryz.prog W = .ok b W := fun _ _ _ => by kernel_rfl
  have hge := fun W' (hW : Below W.heap.size W W') => GpA.get_calls ((h.below hW).p d x hx).1 gp ((h.below hW).p d x hx).2
  clear e1
  have hA : trA s f pi d gp e ref = if (getV (pi x.2).size (pi x.2).fr gp).2 ≠ 0 then (getV (pi x.2).size (pi x.2).fr gp).2 else if (frV s (getV (pi x.2).size (pi x.2).fr gp).1).2 ≠ 0 ∨ (frV s (getV (pi x.2).size (pi x.2).fr gp).1).1.own ≠ d then 12 else if (frV s (getV (pi x.2).size (pi x.2).fr gp).1).1.tot ≠ 0 then 9 else 0 := by
    unfold trA
    rw [hx]
    simp only
    rw [if_neg (by rw [hy, hsl]; simp [hde])]
  rw [hA] at hne ⊢
  generalize getV (pi x.2).size (pi x.2).fr gp = q at hge hne ⊢
  have hfr := fun W' (hW : Below W.heap.size W W') => (frame_any (h.below hW).m q.1).mono (R' := fun z w' => z = .returned (.tuple #[.agg #[.int .i64 (frV s q.1).1.own, .int .i64 (frV s q.1).1.typ, .int .i64 (frV s q.1).1.cnt, .int .i64 (frV s q.1).1.tot], .int .i64 (frV s q.1).2]) ∧ Below W.heap.size W w') (fun z w' h => ⟨h.1, below_step hW h.2⟩)
  generalize frV s q.1 = v at hfr hne ⊢
  clear h hV hx hy hsl hA hde
  by_cases h1 : q.2 = 0
  · have b1 : (q.2 != 0) = false := by simp [h1]
    rw [if_neg (by simp [h1])] at hne ⊢
    by_cases h2 : v.2 = 0 ∧ v.1.own = d
    · have b2 : (v.2 != 0) = false := by simp [h2.1]
      have b3 : (v.1.own != d) = false := by simp [h2.2]
      rw [if_neg (by simp [h2.1, h2.2])] at hne ⊢
      by_cases h3 : v.1.tot = 0
      · rw [if_neg (by simp [h3])] at hne
        exact absurd rfl hne
      · have b4 : (v.1.tot != 0) = true := by simp [h3]
        rw [if_pos h3]
        clear h1 h2 h3 hne
        go_enter Tryz.func84, Tryz.ntmps84
        go_wp2_with (first
          | (go_at_call 52; (with_reducible refine hno.mono ?_); rintro z w9 ⟨rfl, hw9⟩; obtain rfl := hw9.symm)
          | (go_at_call 62; (with_reducible refine hun.mono ?_); rintro z w9 ⟨rfl, hw9⟩; obtain rfl := hw9.symm)
          | (go_at_call 63; (with_reducible refine hjo1.mono ?_); rintro z w1 ⟨rfl, hB1⟩; have hj2 := hjo2 w1 hB1; have E1 := Base.Aside.mk hB1; clear hB1)
          | (go_at_call 63; (with_reducible refine hj2.mono ?_); rintro z w2 ⟨rfl, hB2⟩; have hlk2 := hlk w2 hB2; have k2 := C0 w2 hB2; have l2 := Nat.lt_of_lt_of_le L0 hB2.size; have hge2 := hge w2 hB2; have hfr2 := hfr w2 hB2; have E2 := Base.Aside.mk hB2; clear hB2)
          | (go_at_call 64; (with_reducible refine (hso _).mono ?_); rintro z w9 ⟨rfl, hw9⟩; obtain rfl := hw9.symm)
          | (go_at_call 100; (with_reducible refine hge2.mono ?_); rintro z w9 ⟨rfl, hw9⟩; obtain rfl := hw9.symm)
          | (go_at_call 36; (with_reducible refine hfr2.mono ?_); rintro z w3 ⟨rfl, hB3⟩; have E3 := Base.Aside.mk hB3; clear hB3)
          | go_in)
        go_ret
        exact ⟨by first | rfl | (simp; done), below_alloc E3.out _⟩
    · have hc : (v.2 != 0) = true ∨ ((v.2 != 0) = false ∧ (v.1.own != d) = true) := by
        by_cases h3 : v.2 = 0
        · exact .inr ⟨by simp [h3], by simp; exact fun h4 => h2 ⟨h3, h4⟩⟩
        · exact .inl (by simp [h3])
      rw [if_pos (by by_cases h3 : v.2 = 0; exact .inr (fun h4 => h2 ⟨h3, h4⟩); exact .inl h3)]
      clear h1 h2 hne
      rcases hc with b2 | ⟨b2, b3⟩
      all_goals
        go_enter Tryz.func84, Tryz.ntmps84
        go_wp2_with (first
          | (go_at_call 52; (with_reducible refine hno.mono ?_); rintro z w9 ⟨rfl, hw9⟩; obtain rfl := hw9.symm)
          | (go_at_call 62; (with_reducible refine hun.mono ?_); rintro z w9 ⟨rfl, hw9⟩; obtain rfl := hw9.symm)
          | (go_at_call 63; (with_reducible refine hjo1.mono ?_); rintro z w1 ⟨rfl, hB1⟩; have hj2 := hjo2 w1 hB1; have E1 := Base.Aside.mk hB1; clear hB1)
          | (go_at_call 63; (with_reducible refine hj2.mono ?_); rintro z w2 ⟨rfl, hB2⟩; have hlk2 := hlk w2 hB2; have k2 := C0 w2 hB2; have l2 := Nat.lt_of_lt_of_le L0 hB2.size; have hge2 := hge w2 hB2; have hfr2 := hfr w2 hB2; have E2 := Base.Aside.mk hB2; clear hB2)
          | (go_at_call 64; (with_reducible refine (hso _).mono ?_); rintro z w9 ⟨rfl, hw9⟩; obtain rfl := hw9.symm)
          | (go_at_call 100; (with_reducible refine hge2.mono ?_); rintro z w9 ⟨rfl, hw9⟩; obtain rfl := hw9.symm)
          | (go_at_call 36; (with_reducible refine hfr2.mono ?_); rintro z w3 ⟨rfl, hB3⟩; have E3 := Base.Aside.mk hB3; clear hB3)
          | go_in)
        go_ret
        exact ⟨by first | rfl | (simp; done), below_alloc E3.out _⟩
  · have b1 : (q.2 != 0) = true := by simp [h1]
    rw [if_pos h1]
    clear h1 hne
    go_enter Tryz.func84, Tryz.ntmps84
    go_wp2_with (first
      | (go_at_call 52; (with_reducible refine hno.mono ?_); rintro z w9 ⟨rfl, hw9⟩; obtain rfl := hw9.symm)
      | (go_at_call 62; (with_reducible refine hun.mono ?_); rintro z w9 ⟨rfl, hw9⟩; obtain rfl := hw9.symm)
      | (go_at_call 63; (with_reducible refine hjo1.mono ?_); rintro z w1 ⟨rfl, hB1⟩; have hj2 := hjo2 w1 hB1; have E1 := Base.Aside.mk hB1; clear hB1)
      | (go_at_call 63; (with_reducible refine hj2.mono ?_); rintro z w2 ⟨rfl, hB2⟩; have hlk2 := hlk w2 hB2; have k2 := C0 w2 hB2; have l2 := Nat.lt_of_lt_of_le L0 hB2.size; have hge2 := hge w2 hB2; have hfr2 := hfr w2 hB2; have E2 := Base.Aside.mk hB2; clear hB2)
      | (go_at_call 64; (with_reducible refine (hso _).mono ?_); rintro z w9 ⟨rfl, hw9⟩; obtain rfl := hw9.symm)
      | (go_at_call 100; (with_reducible refine hge2.mono ?_); rintro z w9 ⟨rfl, hw9⟩; obtain rfl := hw9.symm)
      | go_in)
    go_ret
    exact ⟨by first | rfl | (simp; done), E2.out⟩
end
end Go.Proofs.YthlejchcnfdcpaaGreat.GwR
namespace Go.Proofs.YthlejchcnfdcpaaGreat.GwS
open Go.RowKit Go.Maps Base GaA GaB GaC GaD GmA GmB GmC GpA GgA GeA GeB GfA GfB GfC GfD GfH GwB GwF GwH GwO
set_option linter.unusedVariables false
set_option linter.unusedSimpArgs false

section
variable {a : VA} {w w' W W' : World} {gb mm hm : Nat} {f : Int → Option (Int × Nat)} {c : Nat} {s s' : MS} {pi : Nat → PI} {r r' : Nat}
set_option maxHeartbeats 8000000 in
set_option maxRecDepth 100000 in
theorem transfer_b (h : GW W gb mm hm a.mb a.fb s f c pi) (hV : Vm a W W r s) (d gp e : Int) (ref : Nat) (h32 : ref < 32) (hd : okI d) (x : Int × Nat) (k pb : Nat) (hx : f d = some x) (hy : f e = some ((k : Int), pb)) (hde : d ≠ e) (m : Nat) (hq : getV (pi x.2).size (pi x.2).fr gp = ((m : Int), 0)) (hv : frV s m = (s.fr m, 0)) (ho : (s.fr m).own = d) (ht : (s.fr m).tot = 0)
    (er : Int) (her : er = if entE (ent (pokeS s a.ps r) k ref) ≠ 0 ∨ (entG (ent (pokeS s a.ps r) k ref)).kd ≠ 2 ∨ (entG (ent (pokeS s a.ps r) k ref)).dom ≠ d then 60 else setE (pi pb).size (pi pb).fr (pi pb).pl (entG (ent (pokeS s a.ps r) k ref)).gp m) (hne : er ≠ 0) :
    Calls Tryz.prog 84 #[.pointer (some ⟨gb, 0, none⟩), .pointer (some ⟨a.vb, 0, none⟩), .int .i64 d, .int .i64 gp, .int .i64 e, .int .i64 (ref : Int)] W fun z w' => z = .returned (.int .i64 er) ∧ Vm a W w' (r + 1) (pokeS s a.ps r) := by
  have he8 : 0 ≤ e ∧ e < 8 := (h.d e _ hy).1
  have he : okI e := ⟨by omega, by omega⟩
  have hkn : k < s.n := by obtain ⟨k2, e1, e2⟩ := (h.d e _ hy).2; simp only at e1; omega
  have hsl : slotB (ref : Int) = true := by unfold slotB; simp; omega
  have hno := GgA.none_calls h.g
  have hun := hV.unmade
  have hjo1 := joined_any h.g d hd
  have hjo2 := fun W' (hW : Below W.heap.size W W') => (joined_any (h.below hW).g e he).mono (R' := fun z w' => z = .returned (.bool (f e).isSome) ∧ Below W.heap.size W w') (fun z w' h => ⟨h.1, below_step hW h.2⟩)
  have hso := slot_any (ref : Int)
  rw [hx] at hjo1
  rw [hy] at hjo2
  rw [hsl] at hso
  simp only [Option.isSome_some] at hjo1 hjo2
  have d1 : (d == e) = false := by simp [hde]
  have C0 := fun W' (hW : Below W.heap.size W W') => fun i => blk_cell (h.below hW).g.blk i
  have L0 := blk_lt h.g.blk
  have e1 : mvs f d = some (.agg #[.int .i64 x.1, .pointer (some ⟨x.2, 0, none⟩)]) := by unfold mvs; rw [hx]; rfl
  have hlk := fun W' (hW : Below W.heap.size W W') => (h.below hW).g.mem.look Tryz.underlying114 (zeroM _) d hd.1 hd.2
  simp only [e1, Option.getD_some] at hlk
  have hfd : ∀ (W : World) (a b : Value), (Instr.field 135 (.agg #[a, b]) 1).run Tryz.prog W = .ok b W := fun _ _ _ => by kernel_rfl
  have hge := fun W' (hW : Below W.heap.size W W') => GpA.get_calls ((h.below hW).p d x hx).1 gp ((h.below hW).p d x hx).2
  clear e1
  simp only [hq] at hge
  have hfr := fun W' (hW : Below W.heap.size W W') => (frame_any (h.below hW).m m).mono (R' := fun z w' => z = .returned (.tuple #[.agg #[.int .i64 d, .int .i64 (s.fr m).typ, .int .i64 (s.fr m).cnt, .int .i64 0], .int .i64 0]) ∧ Below W.heap.size W w') (fun z w' h => ⟨by rw [h.1, hv, ← ho, ← ht], below_step hW h.2⟩)
  obtain ⟨s1, hs1⟩ : ∃ s1, s1 = pokeS s a.ps r := ⟨_, rfl⟩
  have hn1 : s1.n = s.n := by rw [hs1, pokeS_n]
  have hen := fun W' (hW : Below W.heap.size W W') => (GwF.ent_any (h.below hW).g (Vm.start (hV.v.below hW) (hV.m.below hW) hV.hB hV.h64) e he8.1 he8.2 k pb hy hkn ref h32).mono (R' := fun z w' => z = .returned (.tuple #[aggv (entG (ent s1 k ref)), .int .i64 (entE (ent s1 k ref))]) ∧ Vm a W w' (r + 1) s1) (fun z w' h => by
    unfold GwF.EntOut at h
    rw [← hs1] at h
    exact ⟨h.1, Vm.pre hW hV h.2⟩)
  rw [← hs1] at her ⊢
  have hset : ∀ gq W', Vm a W W' (r + 1) s1 → setE (pi pb).size (pi pb).fr (pi pb).pl gq m ≠ 0 → _ := fun gq W' hW hq => set_no ((gw_vm h hW hn1).p e _ hy).1 ((gw_vm h hW hn1).p e _ hy).2 gq m hq
  have e2 : mvs f e = some (.agg #[.int .i64 k, .pointer (some ⟨pb, 0, none⟩)]) := by unfold mvs; rw [hy]; rfl
  have hlkE := fun W' (hW : Vm a W W' (r + 1) s1) => (gw_vm h hW hn1).g.mem.look Tryz.underlying114 (zeroM _) e he.1 he.2
  simp only [e2, Option.getD_some] at hlkE
  have CE := fun W' (hW : Vm a W W' (r + 1) s1) => fun i => blk_cell (gw_vm h hW hn1).g.blk i
  have LE := fun W' (hW : Vm a W W' (r + 1) s1) => blk_lt (gw_vm h hW hn1).g.blk
  generalize ent s1 k ref = l at hen her
  generalize entG l = g at hen her
  generalize entE l = ee at hen her
  unfold aggv at hen
  obtain ⟨g1, g2, g3, g4, g5, g6, g7⟩ := g
  simp only at hen her
  have dd : (d != d) = false := by simp
  have hcase : ((ee != 0) = true ∧ er = 60) ∨ ((ee != 0) = false ∧ (g1 != 2) = true ∧ er = 60) ∨ ((ee != 0) = false ∧ (g1 != 2) = false ∧ (g4 != d) = true ∧ er = 60) ∨ ((ee != 0) = false ∧ (g1 != 2) = false ∧ (g4 != d) = false ∧ er = setE (pi pb).size (pi pb).fr (pi pb).pl g5 m) := by
    by_cases h1 : ee = 0
    · by_cases h2 : g1 = 2
      · by_cases h3 : g4 = d
        · exact .inr (.inr (.inr ⟨by simp [h1], by simp [h2], by simp [h3], by rw [her, if_neg (by simp [h1, h2, h3])]⟩))
        · exact .inr (.inr (.inl ⟨by simp [h1], by simp [h2], by simp [h3], by rw [her, if_pos (.inr (.inr h3))]⟩))
      · exact .inr (.inl ⟨by simp [h1], by simp [h2], by rw [her, if_pos (.inr (.inl h2))]⟩)
    · exact .inl ⟨by simp [h1], by rw [her, if_pos (.inl h1)]⟩
  clear her
  clear h hV hx hy hsl hq hv ho ht hs1 hn1 hkn e2
  rcases hcase with ⟨c1, rfl⟩ | ⟨c1, c2, rfl⟩ | ⟨c1, c2, c3, rfl⟩ | ⟨c1, c2, c3, hse⟩
  rotate_left 3
  · have hset2 := fun W' (hW : Vm a W W' (r + 1) s1) => hset g5 W' hW (by rw [← hse]; exact hne)
    rw [← hse] at hset2
    have b1 : (er != 0) = true := by simp [hne]
    clear hset hse hne
    go_enter Tryz.func84, Tryz.ntmps84
    go_wp2_with (first
      | (go_at_call 52; (with_reducible refine hno.mono ?_); rintro z w9 ⟨rfl, hw9⟩; obtain rfl := hw9.symm)
      | (go_at_call 62; (with_reducible refine hun.mono ?_); rintro z w9 ⟨rfl, hw9⟩; obtain rfl := hw9.symm)
      | (go_at_call 63; (with_reducible refine hjo1.mono ?_); rintro z w1 ⟨rfl, hB1⟩; have hj2 := hjo2 w1 hB1; have E1 := Base.Aside.mk hB1; clear hB1)
      | (go_at_call 63; (with_reducible refine hj2.mono ?_); rintro z w2 ⟨rfl, hB2⟩; have hlk2 := hlk w2 hB2; have k2 := C0 w2 hB2; have l2 := Nat.lt_of_lt_of_le L0 hB2.size; have hge2 := hge w2 hB2; have hfr2 := hfr w2 hB2; have E2 := Base.Aside.mk hB2; clear hB2)
      | (go_at_call 64; (with_reducible refine (hso _).mono ?_); rintro z w9 ⟨rfl, hw9⟩; obtain rfl := hw9.symm)
      | (go_at_call 100; (with_reducible refine hge2.mono ?_); rintro z w9 ⟨rfl, hw9⟩; obtain rfl := hw9.symm)
      | (go_at_call 36; (with_reducible refine hfr2.mono ?_); rintro z w3 ⟨rfl, hB3⟩; have hen3 := fun cs => hen _ (below_alloc hB3 (.cells cs 95)); have E3 := Base.Aside.mk hB3; clear hB3)
      | (go_at_call 99; (with_reducible refine (hen3 _).mono ?_); rintro z w4 ⟨rfl, hv4⟩; have E4 := Base.Aside.mk hv4; clear hv4)
      | go_in)
    have hv5 := E4.out.alloc (.cells #[.int .i64 g1, .bool g2, .bool g3, .int .i64 g4, .int .i64 g5, .int .i64 g6, .int .i64 g7] 32)
    have c5 := fun n => CE _ (hv5.drewN n)
    have l5 := fun n => LE _ (hv5.drewN n)
    have lk5 := fun n => hlkE _ (hv5.drewN n)
    have st5 := fun n => hset2 _ (hv5.drewN n)
    have E5 := Base.Aside.mk hv5
    clear hv5
    go_quiet ((go_at_call 15; refine Calls.quiet_of_same (st5 _)))
    go_wp2
    go_ret
    exact ⟨by first | rfl | (simp; done), E5.out.drewN _⟩
  all_goals
    clear hset
    go_enter Tryz.func84, Tryz.ntmps84
    go_wp2_with (first
      | (go_at_call 52; (with_reducible refine hno.mono ?_); rintro z w9 ⟨rfl, hw9⟩; obtain rfl := hw9.symm)
      | (go_at_call 62; (with_reducible refine hun.mono ?_); rintro z w9 ⟨rfl, hw9⟩; obtain rfl := hw9.symm)
      | (go_at_call 63; (with_reducible refine hjo1.mono ?_); rintro z w1 ⟨rfl, hB1⟩; have hj2 := hjo2 w1 hB1; have E1 := Base.Aside.mk hB1; clear hB1)
      | (go_at_call 63; (with_reducible refine hj2.mono ?_); rintro z w2 ⟨rfl, hB2⟩; have hlk2 := hlk w2 hB2; have k2 := C0 w2 hB2; have l2 := Nat.lt_of_lt_of_le L0 hB2.size; have hge2 := hge w2 hB2; have hfr2 := hfr w2 hB2; have E2 := Base.Aside.mk hB2; clear hB2)
      | (go_at_call 64; (with_reducible refine (hso _).mono ?_); rintro z w9 ⟨rfl, hw9⟩; obtain rfl := hw9.symm)
      | (go_at_call 100; (with_reducible refine hge2.mono ?_); rintro z w9 ⟨rfl, hw9⟩; obtain rfl := hw9.symm)
      | (go_at_call 36; (with_reducible refine hfr2.mono ?_); rintro z w3 ⟨rfl, hB3⟩; have hen3 := fun cs => hen _ (below_alloc hB3 (.cells cs 95)); have E3 := Base.Aside.mk hB3; clear hB3)
      | (go_at_call 99; (with_reducible refine (hen3 _).mono ?_); rintro z w4 ⟨rfl, hv4⟩; have E4 := Base.Aside.mk hv4; clear hv4)
      | go_in)
    go_ret
    exact ⟨by first | rfl | (simp; done), E4.out.alloc _⟩
end
end Go.Proofs.YthlejchcnfdcpaaGreat.GwS
namespace Go.Proofs.YthlejchcnfdcpaaGreat.GwT
open Go.RowKit Go.Maps Base GaA GaB GaC GaD GmA GmB GmC GpA GgA GeA GeB GfA GfB GfC GfD GfH GwB GwF GwH GwO
set_option linter.unusedVariables false
set_option linter.unusedSimpArgs false

section
variable {a : VA} {w w' W W' : World} {gb mm hm : Nat} {f : Int → Option (Int × Nat)} {c : Nat} {s s' : MS} {pi : Nat → PI} {r r' : Nat}
/-- A frame has been moved: x gave it, pb got it. -/
def TrOut (W : World) (a : VA) (s1 : MS) (pi : Nat → PI) (x : Nat) (gp : Int) (pb : Nat) (g5 : Int) (m : Nat) (e : Int) (r : Nat) (z : Ending) (w' : World) : Prop :=
  z = .returned (.int .i64 0) ∧ Mach w' a.mb a.fb (give s1 m e) ∧ V3 w' a.B a.vb a.db a.cb a.mb r a.ps ∧
    P2 w' pb (pi pb).fm (pi pb).pm (pi pb).size (iput (pi pb).fr g5 m) (iput (pi pb).pl m g5) ((pi pb).c + 1) ∧
    P2 w' x (pi x).fm (pi x).pm (pi x).size (idel (pi x).fr gp) (idel (pi x).pl m) ((pi x).c - 1) ∧
    Chg (fun k => k = a.vb ∨ k = a.fb ∨ k = (pi pb).fm ∨ k = (pi pb).pm ∨ k = (pi x).fm ∨ k = (pi x).pm) W w'
set_option maxHeartbeats 8000000 in
set_option maxRecDepth 100000 in
theorem transfer_ok (h : GW W gb mm hm a.mb a.fb s f c pi) (hV : Vm a W W r s) (d gp e : Int) (ref : Nat) (h32 : ref < 32) (hd : okI d) (x1 : Int) (xb : Nat) (k pb : Nat) (hx : f d = some (x1, xb)) (hy : f e = some ((k : Int), pb)) (hde : d ≠ e) (m : Nat) (hq : getV (pi xb).size (pi xb).fr gp = ((m : Int), 0)) (hv : frV s m = (s.fr m, 0)) (ho : (s.fr m).own = d) (ht : (s.fr m).tot = 0)
    (he0 : entE (ent (pokeS s a.ps r) k ref) = 0) (hkd : (entG (ent (pokeS s a.ps r) k ref)).kd = 2) (hdm : (entG (ent (pokeS s a.ps r) k ref)).dom = d) (hse : setE (pi pb).size (pi pb).fr (pi pb).pl (entG (ent (pokeS s a.ps r) k ref)).gp m = 0)
    (hms : m < s.n) (hgp : 0 ≤ gp ∧ gp < (pi xb).size) (hfm : (pi xb).fr gp = some (m : Int)) (hpm : ((pi xb).pl m).isSome = true) (hc : (pi pb).c < 1000)
    (hmm : ∀ q : PI, q = pi xb ∨ q = pi pb → mm ≠ q.fm ∧ mm ≠ q.pm) (hap : (pi xb).fm ≠ (pi pb).fm ∧ (pi xb).fm ≠ (pi pb).pm ∧ (pi xb).pm ≠ (pi pb).fm ∧ (pi xb).pm ≠ (pi pb).pm) (hold : (pi xb).fm < a.B ∧ (pi xb).pm < a.B ∧ (pi pb).fm < a.B ∧ (pi pb).pm < a.B) :
    Calls Tryz.prog 84 #[.pointer (some ⟨gb, 0, none⟩), .pointer (some ⟨a.vb, 0, none⟩), .int .i64 d, .int .i64 gp, .int .i64 e, .int .i64 (ref : Int)] W (TrOut W a (pokeS s a.ps r) pi xb gp pb (entG (ent (pokeS s a.ps r) k ref)).gp m e (r + 1)) := by
  have he8 : 0 ≤ e ∧ e < 8 := (h.d e _ hy).1
  have he : okI e := ⟨by omega, by omega⟩
  have hkn : k < s.n := by obtain ⟨k2, e1, e2⟩ := (h.d e _ hy).2; simp only at e1; omega
  have hsl : slotB (ref : Int) = true := by unfold slotB; simp; omega
  have hno := GgA.none_calls h.g
  have hun := hV.unmade
  have hjo1 := joined_any h.g d hd
  have hjo2 := fun W' (hW : Below W.heap.size W W') => (joined_any (h.below hW).g e he).mono (R' := fun z w' => z = .returned (.bool (f e).isSome) ∧ Below W.heap.size W w') (fun z w' h => ⟨h.1, below_step hW h.2⟩)
  have hso := slot_any (ref : Int)
  rw [hx] at hjo1
  rw [hy] at hjo2
  rw [hsl] at hso
  simp only [Option.isSome_some] at hjo1 hjo2
  have d1 : (d == e) = false := by simp [hde]
  have C0 := fun W' (hW : Below W.heap.size W W') => fun i => blk_cell (h.below hW).g.blk i
  have L0 := blk_lt h.g.blk
  have e1 : mvs f d = some (.agg #[.int .i64 x1, .pointer (some ⟨xb, 0, none⟩)]) := by unfold mvs; rw [hx]; rfl
  have hlk := fun W' (hW : Below W.heap.size W W') => (h.below hW).g.mem.look Tryz.underlying114 (zeroM _) d hd.1 hd.2
  simp only [e1, Option.getD_some] at hlk
  have hfd : ∀ (W : World) (a b : Value), (Instr.field 135 (.agg #[a, b]) 1).run Tryz.prog W = .ok b W := fun _ _ _ => by kernel_rfl
  have hge := fun W' (hW : Below W.heap.size W W') => GpA.get_calls ((h.below hW).p d _ hx).1 gp ((h.below hW).p d _ hx).2
  clear e1
  simp only [hq] at hge
  have hfr := fun W' (hW : Below W.heap.size W W') => (frame_any (h.below hW).m m).mono (R' := fun z w' => z = .returned (.tuple #[.agg #[.int .i64 d, .int .i64 (s.fr m).typ, .int .i64 (s.fr m).cnt, .int .i64 0], .int .i64 0]) ∧ Below W.heap.size W w') (fun z w' h => ⟨by rw [h.1, hv, ← ho, ← ht], below_step hW h.2⟩)
  obtain ⟨s1, hs1⟩ : ∃ s1, s1 = pokeS s a.ps r := ⟨_, rfl⟩
  have hn1 : s1.n = s.n := by rw [hs1, pokeS_n]
  have hen := fun W' (hW : Below W.heap.size W W') => (GwF.ent_any (h.below hW).g (Vm.start (hV.v.below hW) (hV.m.below hW) hV.hB hV.h64) e he8.1 he8.2 k pb hy hkn ref h32).mono (R' := fun z w' => z = .returned (.tuple #[aggv (entG (ent s1 k ref)), .int .i64 (entE (ent s1 k ref))]) ∧ Vm a W w' (r + 1) s1) (fun z w' h => by
    unfold GwF.EntOut at h
    rw [← hs1] at h
    exact ⟨h.1, Vm.pre hW hV h.2⟩)
  rw [← hs1] at he0 hkd hdm hse ⊢
  have hm256 : m < 256 := by
    unfold setE at hse
    by_cases q1 : ¬ (0 ≤ (entG (ent s1 k ref)).gp ∧ (entG (ent s1 k ref)).gp < (pi pb).size)
    · rw [if_pos q1] at hse; cases hse
    · rw [if_neg q1] at hse
      by_cases q2 : ¬ (0 ≤ (m : Int) ∧ (m : Int) < 256)
      · rw [if_pos q2] at hse; cases hse
      · omega
  have hse2 : (0 ≤ (entG (ent s1 k ref)).gp ∧ (entG (ent s1 k ref)).gp < (pi pb).size) ∧ (pi pb).fr (entG (ent s1 k ref)).gp = none ∧ (pi pb).pl m = none := by
    unfold setE at hse
    by_cases q1 : ¬ (0 ≤ (entG (ent s1 k ref)).gp ∧ (entG (ent s1 k ref)).gp < (pi pb).size)
    · rw [if_pos q1] at hse; cases hse
    · rw [if_neg q1, if_neg (by omega)] at hse
      refine ⟨by omega, ?_⟩
      cases q3 : (pi pb).fr (entG (ent s1 k ref)).gp with
      | some z => rw [q3] at hse; simp at hse
      | none =>
        rw [q3] at hse
        cases q4 : (pi pb).pl (m : Int) with
        | some z => rw [q4] at hse; simp at hse
        | none => exact ⟨rfl, rfl⟩
  clear hse
  generalize ent s1 k ref = l at hen he0 hkd hdm hse2 ⊢
  generalize entG l = g at hen hkd hdm hse2 ⊢
  rw [he0] at hen
  unfold aggv at hen
  obtain ⟨g1, g2, g3, g4, g5, g6, g7⟩ := g
  simp only at hen hkd hdm hse2 ⊢
  subst hkd
  subst hdm
  obtain ⟨g5n, hg5⟩ : ∃ n : Nat, g5 = n := ⟨g5.toNat, by omega⟩
  subst hg5
  have dd : (g4 != g4) = false := by simp
  have hset : ∀ W', Vm a W W' (r + 1) s1 → _ := fun W' hW => set_calls ((gw_vm h hW hn1).p e _ hy).1 g5n m (show g5n < (pi pb).size by omega) ((gw_vm h hW hn1).p e _ hy).2 hm256 hse2.2.1 hse2.2.2 hc
  have e2 : mvs f e = some (.agg #[.int .i64 k, .pointer (some ⟨pb, 0, none⟩)]) := by unfold mvs; rw [hy]; rfl
  have e3 : mvs f g4 = some (.agg #[.int .i64 x1, .pointer (some ⟨xb, 0, none⟩)]) := by unfold mvs; rw [hx]; rfl
  have hlkE := fun W' (hW : Vm a W W' (r + 1) s1) => (gw_vm h hW hn1).g.mem.look Tryz.underlying114 (zeroM _) e he.1 he.2
  simp only [e2, Option.getD_some] at hlkE
  have HG : Base.Aside (∀ W', Vm a W W' (r + 1) s1 → GW W' gb mm hm a.mb a.fb s1 f c pi) := ⟨fun W' hW => gw_vm h hW hn1⟩
  have HX := Base.Aside.mk (And.intro hx (And.intro hy (And.intro hmm (And.intro hap (And.intro hold (And.intro hfm (And.intro hpm (And.intro hgp (And.intro e3 (And.intro hn1 (And.intro ho ht)))))))))))
  have hd8 : 0 ≤ g4 ∧ g4 < 8 := (h.d g4 _ hx).1
  have hs64 := (h.p g4 _ hx).2
  simp only at hs64
  have HFR : Base.Aside (s1.fr = s.fr) := ⟨by rw [hs1, pokeS_fr]⟩
  clear h hV hx hy hsl hq hv ho ht hs1 hn1 hkn e2 e3 hse2 hmm hap hold hfm hpm
  go_enter Tryz.func84, Tryz.ntmps84
  go_upto_region 16 with (first
    | (go_at_call 52; (with_reducible refine hno.mono ?_); rintro z w9 ⟨rfl, hw9⟩; obtain rfl := hw9.symm)
    | (go_at_call 62; (with_reducible refine hun.mono ?_); rintro z w9 ⟨rfl, hw9⟩; obtain rfl := hw9.symm)
    | (go_at_call 63; (with_reducible refine hjo1.mono ?_); rintro z w1 ⟨rfl, hB1⟩; have hj2 := hjo2 w1 hB1; have E1 := Base.Aside.mk hB1; clear hB1)
    | (go_at_call 63; (with_reducible refine hj2.mono ?_); rintro z w2 ⟨rfl, hB2⟩; have hlk2 := hlk w2 hB2; have k2 := C0 w2 hB2; have l2 := Nat.lt_of_lt_of_le L0 hB2.size; have hge2 := hge w2 hB2; have hfr2 := hfr w2 hB2; have E2 := Base.Aside.mk hB2; clear hB2)
    | (go_at_call 64; (with_reducible refine (hso _).mono ?_); rintro z w9 ⟨rfl, hw9⟩; obtain rfl := hw9.symm)
    | (go_at_call 100; (with_reducible refine hge2.mono ?_); rintro z w9 ⟨rfl, hw9⟩; obtain rfl := hw9.symm)
    | (go_at_call 36; (with_reducible refine hfr2.mono ?_); rintro z w3 ⟨rfl, hB3⟩; have hen3 := fun cs => hen _ (below_alloc hB3 (.cells cs 95)); have E3 := Base.Aside.mk hB3; clear hB3)
    | (go_at_call 99; (with_reducible refine (hen3 _).mono ?_); rintro z w4 ⟨rfl, hv4⟩; have E4 := Base.Aside.mk hv4; clear hv4)
    | go_in)
  refine wp_world (fun W5 => Vm a W W5 (r + 1) s1 ∧ W5.heap[w4.heap.size]? = some (.cells #[.int .i64 2, .bool g2, .bool g3, .int .i64 g4, .int .i64 g5n, .int .i64 g6, .int .i64 g7] 32 (0, 0))) ⟨E4.out.alloc _, blk_new _ _⟩ ?_
  intro W5 ⟨hv5, hb5⟩
  have hG5 := HG.out W5 hv5
  have q0 : W5.cell? ⟨gb, 1, none⟩ = some (.map (some mm)) := blk_cell hG5.g.blk 1
  have q1 : W5.cell? ⟨w4.heap.size, 4, none⟩ = some (.int .i64 g5n) := blk_cell hb5 4
  have lD := hlkE _ hv5.drew
  have Lg := blk_lt hG5.g.blk
  have Lb := blk_lt hb5
  have KS : ∀ W6 : World, Chg (fun k => k = (pi pb).fm ∨ k = (pi pb).pm) W5.drew W6 → W6.cell? ⟨gb, 1, none⟩ = some (.map (some mm)) ∧ W6.cell? ⟨w4.heap.size, 4, none⟩ = some (.int .i64 g5n) := fun W6 hc =>
    have hp := (hG5.p e _ HX.out.2.1).1
    ⟨blk_cell (hc.blk (blk_drew hG5.g.blk) (by rintro (q | q); exact bnm hG5.g.blk hp.mf q; exact bnm hG5.g.blk hp.mp q)) 1, blk_cell (hc.blk (blk_drew hb5) (by rintro (q | q); exact bnm hb5 hp.mf q; exact bnm hb5 hp.mp q)) 4⟩
  have hse5 := hset _ hv5.drew
  have E5 := Base.Aside.mk (And.intro hv5 hb5)
  clear hb5 hG5 hv5 hset
  go_cut [18] from 105 to 115 (fun v wx => v = .int .i64 0 ∧ Base.Aside (P2 wx pb (pi pb).fm (pi pb).pm (pi pb).size (iput (pi pb).fr g5n m) (iput (pi pb).pl m g5n) ((pi pb).c + 1) ∧ Chg (fun k => k = (pi pb).fm ∨ k = (pi pb).pm) W5 wx))
  case first =>
    go_region_held3 (fun W' => W'.cell? ⟨gb, 1, none⟩ = some (.map (some mm)) ∧ W'.cell? ⟨w4.heap.size, 4, none⟩ = some (.int .i64 g5n))
      (first
        | go_keep
        | (with_reducible exact ⟨q0, q1⟩)
        | (with_reducible exact KS _ E6.out.2))
      ((first
        | (go_at_call 15; (with_reducible refine hse5.mono ?_); rintro z w6 ⟨rfl, hP6, hC6⟩; have E6 := Base.Aside.mk (And.intro hP6 hC6); clear hP6 hC6)))
    all_goals
      go_wp2_with fail
      go_meet
      exact ⟨rfl, ⟨E6.out.1.below (by first | exact Below.refl _ _ | exact (Below.refl _ _).drew), (((Chg.refl _ W5).drew).trans E6.out.2).trans (Chg.below _ (by first | exact Below.refl _ _ | exact (Below.refl _ _).drew))⟩⟩
  case rest =>
    obtain ⟨rfl, hA⟩ := hcut
    obtain ⟨hx, hy, hmm, hap, hold, hfm, hpm, hgp, e3, hn1, ho, ht⟩ := HX.out
    have hG5 := HG.out W5 E5.out.1
    have hp5 := (hG5.p e _ hy).1
    have hxp5 := (hG5.p g4 _ hx).1
    have hF : ∀ y cs t, W5.heap[y]? = some (.cells cs t (0, 0)) → ¬ (y = (pi pb).fm ∨ y = (pi pb).pm) := by
      rintro y cs t hy2 (q | q)
      · exact bnm hy2 hp5.mf q
      · exact bnm hy2 hp5.mp q
    have G6 : G2 wc gb mm hm a.mb f c := hG5.g.chg hA.out.2 (hF _ _ _ hG5.g.blk) (by rintro (q | q); exact (hmm _ (.inr rfl)).1 q; exact (hmm _ (.inr rfl)).2 q)
    have X6 : P2 wc xb (pi xb).fm (pi xb).pm (pi xb).size (pi xb).fr (pi xb).pl (pi xb).c := hxp5.chg hA.out.2 (hF _ _ _ hxp5.blk) (by rintro (q | q); exact hap.1 q; exact hap.2.1 q) (by rintro (q | q); exact hap.2.2.1 q; exact hap.2.2.2 q)
    have hlk6 := G6.mem.look Tryz.underlying114 (zeroM _) g4 hd.1 hd.2
    simp only [e3, Option.getD_some] at hlk6
    have C6 := fun i => blk_cell G6.blk i
    have L6 := blk_lt G6.blk
    have hcl := clear_ok X6 hs64 gp m hgp hfm ⟨by omega, by omega⟩ hpm
    obtain ⟨mcs, M1, M2⟩ := hG5.m.lst
    have M6 : Mach wc a.mb a.fb s1 := hG5.m.chg hA.out.2 (hF _ _ _ hG5.m.blk) (hF _ _ _ M1)
    have hXF : ∀ y cs t, wc.heap[y]? = some (.cells cs t (0, 0)) → ¬ (y = (pi xb).fm ∨ y = (pi xb).pm) := by
      rintro y cs t hy2 (q | q)
      · exact bnm hy2 X6.mf q
      · exact bnm hy2 X6.mp q
    have R7 : ∀ w7, Chg (fun k => k = (pi xb).fm ∨ k = (pi xb).pm) wc w7 → G2 w7 gb mm hm a.mb f c ∧ Mach w7 a.mb a.fb s1 ∧ P2 w7 pb (pi pb).fm (pi pb).pm (pi pb).size (iput (pi pb).fr g5n m) (iput (pi pb).pl m g5n) ((pi pb).c + 1) := by
      intro w7 hc
      obtain ⟨mcs2, N1, N2⟩ := M6.lst
      exact ⟨G6.chg hc (hXF _ _ _ G6.blk) (by rintro (q | q); exact (hmm _ (.inl rfl)).1 q; exact (hmm _ (.inl rfl)).2 q), M6.chg hc (hXF _ _ _ M6.blk) (hXF _ _ _ N1), hA.out.1.chg hc (hXF _ _ _ hA.out.1.blk) (by rintro (q | q); exact hap.1 q.symm; exact hap.2.2.1 q.symm) (by rintro (q | q); exact hap.2.1 q.symm; exact hap.2.2.2 q.symm)⟩
    have hgi := fun w7 (hM : Mach w7 a.mb a.fb s1) => give_ok hM m (by rw [hn1]; exact hms) e he8 (by rw [HFR.out, ho]; omega) (by rw [HFR.out]; exact ht)
    have HR := Base.Aside.mk hA.out
    clear G6 X6 M6 hXF hF hp5 hxp5 hG5 hA C0 hmm hap M1 M2 e3
    go_wp2_with (first
      | (go_at_call 105; (with_reducible refine hcl.mono ?_); rintro z w7 ⟨⟨v7, rfl⟩, hP7, hC7⟩; obtain ⟨hG7, hM7, hQ7⟩ := R7 w7 hC7; have C7 := fun i => blk_cell hG7.blk i; have L7 := blk_lt hG7.blk; have hgi7 := hgi w7 hM7; have E7 := Base.Aside.mk (And.intro hP7 (And.intro hC7 (And.intro hM7 hQ7))); clear hP7 hC7 hG7 hM7 hQ7)
      | (go_at_call 106; (with_reducible refine hgi7.mono ?_); rintro z w8 ⟨rfl, hM8, hC8⟩; have E8 := Base.Aside.mk (And.intro hM8 hC8); clear hM8 hC8)
      | go_in)
    go_ret
    obtain ⟨mcs3, N1, N2⟩ := E7.out.2.2.1.lst
    have hb8 : ∀ y cs t, w7.heap[y]? = some (.cells cs t (0, 0)) → t ≠ 113 → ¬ y = a.fb := fun y cs t hy2 ht2 q => bne hy2 N1 ht2 q
    have hv5 := E5.out.1
    have hB := hv5.hB
    have C57 : Chg (fun k => k = a.fb ∨ k = (pi pb).fm ∨ k = (pi pb).pm ∨ k = (pi xb).fm ∨ k = (pi xb).pm) W5 w8 := ((HR.out.2.mono (by rintro k (q | q); exact .inr (.inl q); exact .inr (.inr (.inl q)))).trans (E7.out.2.1.mono (by rintro k (q | q); exact .inr (.inr (.inr (.inl q))); exact .inr (.inr (.inr (.inr q)))))).trans (E8.out.2.mono fun k q => .inl q)
    refine ⟨by first | rfl | (simp; done), E8.out.1, hv5.v.chg C57 (by rintro k hk (q | q | q | q | q) <;> omega), ?_, ?_, (hv5.c.mono (by rintro k (q | q); exact .inl q; exact .inr (.inl q))).trans (C57.mono fun k q => .inr q)⟩
    · have hQ := E7.out.2.2.2
      exact hQ.chg E8.out.2 (hb8 _ _ _ hQ.blk (by decide)) (fun q => bnm N1 hQ.mf q.symm) (fun q => bnm N1 hQ.mp q.symm)
    · have hQ := E7.out.1
      exact hQ.chg E8.out.2 (hb8 _ _ _ hQ.blk (by decide)) (fun q => bnm N1 hQ.mf q.symm) (fun q => bnm N1 hQ.mp q.symm)
end
end Go.Proofs.YthlejchcnfdcpaaGreat.GwT
