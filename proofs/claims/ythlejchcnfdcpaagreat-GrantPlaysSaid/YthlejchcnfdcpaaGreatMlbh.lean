/- Proved: Read of a live map through a view with rewrites (contracts for the laws of the grants). -/
import Derived.Test.YthlejchcnfdcpaaGreatMlaq
namespace Go.Proofs.YthlejchcnfdcpaaGreat.GwM
open Go.RowKit Go.Maps Base GaA GaB GaC GmA GmB GmC GpA GgA GeA GeB GfA GfB GfC GfD GfH GjA GjB GjC GjE GjF GwB GwF GwH GjH
set_option linter.unusedVariables false
set_option linter.unusedSimpArgs false

section
variable {a : VA} {w w' W W' : World} {gb mm hm : Nat} {f : Int → Option (Int × Nat)} {c : Nat} {s s' : MS} {pi : Nat → PI} {F : Int × Int → Option Mp} {n : Nat} {r r' : Nat}
set_option maxHeartbeats 8000000 in
set_option maxRecDepth 100000 in
theorem read_no (h : GX W gb mm hm a.mb a.fb s f c pi F n) (hV : Vm a W W r s) (d k off l : Int) (hd : okI d) (hk : okI k) (hne : rdE (heldR F d k) off l ≠ 0) :
    Calls Tryz.prog 27 #[.pointer (some ⟨gb, 0, none⟩), .pointer (some ⟨a.vb, 0, none⟩), .int .i64 d, .int .i64 k, .int .i64 off, .int .i64 l] W fun e w' => e = .returned (.tuple #[.slice none 0 0, .int .i64 (rdE (heldR F d k) off l)]) ∧ Below W.heap.size W w' := by
  have hno := GgA.none_calls h.g.g
  have hun := hV.unmade
  have hh := held_calls h d k hd hk
  have hwi := fun W => within_calls off l 256 (by omega) (by omega) W
  clear h hV
  generalize heldR F d k = R at hh hne ⊢
  obtain ⟨m, er⟩ := R
  simp only at hh
  unfold rdE at hne ⊢
  simp only at hne ⊢
  have hcs : (er ≠ 0 ∧ (er == 0) = false) ∨ (er = 0 ∧ inn off l 256 = false) := by
    by_cases e : er = 0
    · rw [if_neg (by simp [e])] at hne
      refine .inr ⟨e, ?_⟩
      cases hi : inn off l 256 with
      | false => rfl
      | true => rw [hi] at hne; simp at hne
    · exact .inl ⟨e, by simp [e]⟩
  clear hne
  rcases hcs with ⟨h1, h2⟩ | ⟨rfl, h2⟩
  · rw [if_pos h1]
    go_enter Tryz.func27, Tryz.ntmps27
    go_wp2_with (first
      | (go_at_call 52; refine hno.mono ?_; rintro z w9 ⟨rfl, hw9⟩; obtain rfl := hw9.symm)
      | (go_at_call 62; refine hun.mono ?_; rintro z w9 ⟨rfl, hw9⟩; obtain rfl := hw9.symm)
      | (go_at_call 74; refine hh.mono ?_; rintro z w1 ⟨rfl, hB1⟩; have E1 := Base.Aside.mk hB1; clear hB1)
      | go_in)
    refine bodyPost_ret (v := .tuple #[.slice none 0 0, .int .i64 er]) (by simp only [results, Tryz.results27]; go_simp; try rfl) rfl ⟨rfl, ?_⟩
    exact below_alloc E1.out _
  · rw [if_neg (by simp), if_pos h2]
    rw [h2] at hwi
    go_enter Tryz.func27, Tryz.ntmps27
    go_wp2_with (first
      | (go_at_call 52; refine hno.mono ?_; rintro z w9 ⟨rfl, hw9⟩; obtain rfl := hw9.symm)
      | (go_at_call 62; refine hun.mono ?_; rintro z w9 ⟨rfl, hw9⟩; obtain rfl := hw9.symm)
      | (go_at_call 74; refine hh.mono ?_; rintro z w1 ⟨rfl, hB1⟩; have E1 := Base.Aside.mk hB1; clear hB1)
      | (go_at_call 77; refine (hwi _).mono ?_; rintro z w6 ⟨rfl, hw6⟩; obtain rfl := hw6.symm)
      | go_in)
    refine bodyPost_ret (v := .tuple #[.slice none 0 0, .int .i64 63]) (by simp only [results, Tryz.results27]; go_simp; try rfl) rfl ⟨rfl, ?_⟩
    exact below_alloc E1.out _
def RoOut (a : VA) (W : World) (r : Nat) (s : MS) (k off l : Int) (e : Ending) (w' : World) : Prop := ∃ (A : Option Addr) (z : Nat) (er : Int) (N : Nat), e = .returned (.tuple #[.slice A z z, .int .i64 er]) ∧ W.heap.size ≤ N ∧ RdOk N s k off l A z er w' ∧ Vm a W w' (r + 1) s
set_option maxHeartbeats 8000000 in
set_option maxRecDepth 100000 in
theorem read_ok (h : GX W gb mm hm a.mb a.fb s f c pi F n) (hV : Vm a W W r s) (d k off l : Int) (hd : okI d) (hk : okI k) (m : Mp) (hm2 : heldR F d k = (m, 0)) (hin : inn off l 256 = true) :
    Calls Tryz.prog 27 #[.pointer (some ⟨gb, 0, none⟩), .pointer (some ⟨a.vb, 0, none⟩), .int .i64 d, .int .i64 k, .int .i64 off, .int .i64 l] W (RoOut a W r (pokeS s a.ps r) m.mfn off l) := by
  have hno := GgA.none_calls h.g.g
  have hun := hV.unmade
  have hh := held_calls h d k hd hk
  rw [hm2] at hh
  simp only at hh
  have hwi := fun W => within_calls off l 256 (by omega) (by omega) W
  rw [hin] at hwi
  have hvr := fun W' (hW : Below W.heap.size W W') => vmread (Vm.start (hV.v.below hW) (hV.m.below hW) hV.hB hV.h64) m.mfn off l
  have HG := Base.Aside.mk hV
  clear h hV hm2 hin
  go_enter Tryz.func27, Tryz.ntmps27
  go_wp2_with (first
    | (go_at_call 52; refine hno.mono ?_; rintro z w9 ⟨rfl, hw9⟩; obtain rfl := hw9.symm)
    | (go_at_call 62; refine hun.mono ?_; rintro z w9 ⟨rfl, hw9⟩; obtain rfl := hw9.symm)
    | (go_at_call 74; refine hh.mono ?_; rintro z w1 ⟨rfl, hB1⟩; have hvr2 := (fun cs => hvr _ (below_alloc hB1 (.cells cs 102))); have E1 := Base.Aside.mk hB1; clear hB1)
    | (go_at_call 77; refine (hwi _).mono ?_; rintro z w6 ⟨rfl, hw6⟩; obtain rfl := hw6.symm)
    | (go_at_call 78; refine (hvr2 _).mono ?_; rintro z w7 ⟨N, A, y, er, rfl, hN7, hR7, hV7⟩; have E7 := Base.Aside.mk (And.intro hN7 (And.intro hR7 hV7)); clear hN7 hR7 hV7)
    | go_in)
  refine bodyPost_ret (v := .tuple #[.slice A y y, .int .i64 er]) (by simp only [results, Tryz.results27]; go_simp; try rfl) rfl ⟨A, y, er, N, rfl, ?_, E7.out.2.1, Vm.pre (below_alloc E1.out _) HG.out E7.out.2.2⟩
  have h1 := (below_alloc E1.out (.cells #[.int .i64 m.h, .int .i64 m.caller, .int .i64 m.owner, .int .i64 m.ref, .int .i64 m.mfn, .bool m.wr] 102)).size
  exact Nat.le_trans h1 E7.out.1
end
end Go.Proofs.YthlejchcnfdcpaaGreat.GwM
