/- Proved: what grant.New makes of a machine (a contract for the laws of the grants). -/
import Derived.Test.YtebhpmmibffbeaaGgA
import Derived.Test.YtebhpmmibffbeaaPhys
namespace Go.Proofs.Ytebhpmmibffbeaa.GnA
open Go.RowKit Go.Maps Go.Proofs.Ytebhpmmibffbeaa.Base Go.Proofs.Ytebhpmmibffbeaa.GaA Go.Proofs.Ytebhpmmibffbeaa.GaB Go.Proofs.Ytebhpmmibffbeaa.GmA Go.Proofs.Ytebhpmmibffbeaa.GpA Go.Proofs.Ytebhpmmibffbeaa.GgA
set_option linter.unusedVariables false
set_option linter.unusedSimpArgs false

/-- A machine of which no frame is anybody's. -/
def ms0 (n : Nat) : MS := ⟨n, fun _ => ⟨-1, 0, 0, 0⟩, fun _ _ => 0⟩
section
variable {w w' : World} {mb fb : Nat} {s : MS}
def GnOut (w : World) (mb : Nat) (e : Ending) (w' : World) : Prop := ∃ gb mm hm, e = .returned (.pointer (some ⟨gb, 0, none⟩)) ∧ w.heap.size ≤ gb ∧ w.heap.size ≤ mm ∧ w.heap.size ≤ hm ∧ mm ≠ hm ∧ G2 w' gb mm hm mb (fun _ => none) 0 ∧ w'.heap[hm]? = some (.map #[] 0) ∧ Below w.heap.size w w'
set_option maxHeartbeats 2000000 in
set_option maxRecDepth 100000 in
theorem gnew_calls (h : Mach w mb fb s) (hn : 0 < s.n) : Calls Try.prog 13 #[.pointer (some ⟨mb, 0, none⟩)] w (GnOut w mb) := by
  have hmm := @run_makeMap Try.prog
  have hs := size_calls h
  have d0 : ((s.n : Int) == 0) = false := by simp; omega
  clear h
  go_enter Try.func13, Try.ntmps13
  go_wp2_with (first
    | (go_at_call 32; refine hs.mono ?_; rintro z w1 ⟨rfl, hw1⟩; obtain rfl := hw1.symm)
    | go_in)
  go_ret
  refine ⟨_, _, _, rfl, ?_, ?_, ?_, ?_, ⟨blk_newest ?_ _, IMap.made_at (blk_alloc (blk_alloc (blk_new _ _) _) _)⟩, blk_alloc (blk_newest ?_ _) _, below_alloc (below_alloc (below_alloc (Below.refl _ _) _) _) _⟩
  all_goals first
    | (simp; done)
    | (simp; omega)
    | omega
theorem mach_new {n : Nat} (hn : n ≤ 1000) {cs : Array Value} (h1 : w.heap[mb]? = some (.cells #[.bool true, .slice (some ⟨fb, 0, none⟩) n n] 70 (0, 0))) (h2 : w.heap[fb]? = some (.cells cs 76 (0, 0))) (h3 : Phys.CellsAre cs n (Phys.newCell n)) : Mach w mb fb (ms0 n) := by
  refine ⟨h1, ⟨cs, h2, h3.1, fun i j hi hj => ?_⟩, hn⟩
  rw [h3.2 i j hi hj]
  have hi' : i < n := hi
  congr 1
  unfold Phys.newCell Phys.frame0 cellM ms0
  by_cases j0 : j = 0
  · simp [j0, hi']
  · by_cases j1 : j = 1
    · simp [j1]
    · by_cases j2 : j = 2
      · simp [j2]
      · by_cases j3 : j = 3
        · simp [j3]
        · have : ¬ j < 4 := by omega
          simp [j0, j1, j2, j3, this]
def MnOut (w : World) (n : Nat) (e : Ending) (w' : World) : Prop := ∃ mb fb, e = .returned (.tuple #[.pointer (some ⟨mb, 0, none⟩), .int .i64 0]) ∧ w.heap.size ≤ mb ∧ w.heap.size ≤ fb ∧ Mach w' mb fb (ms0 n) ∧ Below w.heap.size w w'
theorem mnew_calls (n : Nat) (w : World) (h1 : 1 ≤ n) (h2 : n ≤ 256) : Calls Try.prog 10 #[.int .i64 n] w (MnOut w n) :=
  (Phys.new_calls n w h1 h2).mono fun e w' ⟨mb, fb, cs, he, hm, hf, _, g1, g2, g3, hb⟩ => ⟨mb, fb, he, hm, hf, mach_new (by omega) g1 g2 g3, hb⟩
end
end Go.Proofs.Ytebhpmmibffbeaa.GnA
