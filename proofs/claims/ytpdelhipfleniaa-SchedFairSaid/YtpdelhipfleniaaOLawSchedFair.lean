/- Proved: none over runs while one under waits, and the queue has each ready entry once, under any script; no condition. -/
import Derived.Test.YtpdelhipfleniaaRows
import Derived.Test.YtpdelhipfleniaaAbJ
import Derived.Deep.Slices
import Derived.Deep.Strs
import Derived.WalkKit
import Derived.ProofKit
import Derived.OpenShut
import Derived.ShutString
import Derived.ChangeOld
import Derived.Below
import Derived.SizedLaws
import Derived.Lib.SmallJoins
namespace Go.Proofs.Ytpdelhipfleniaa.schedFair
open Go.ChangeShapes Go.WideShapes Go.ChangeAt Go.RowKit Go.Joins
open Go.ChangeMaps (open_string shut_string)
set_option linter.unusedVariables false
theorem own : ownKnob Try.prog.godebug = none := by kernel_rfl
theorem laidOut : laidOutB Try.prog = true := by kernel_rfl
section
open Go.Deep
theorem cell52 : Try.prog.cellsOf 52 = 4 := by kernel_rfl
theorem cell3 : Try.prog.cellsOf 3 = 1 := by kernel_rfl
theorem wf64 {x : Int} (h : (Lit.int .i64 x).wf = true) : -9223372036854775808 ≤ x ∧ x ≤ 9223372036854775807 := by
  simp [Lit.wf] at h
  have h1 : IntKind.i64.min = -9223372036854775808 := rfl
  have h2 : IntKind.i64.max = 9223372036854775807 := rfl
  omega
set_option maxRecDepth 100000 in
/-- A script, as the argument's reading tells it. -/
theorem open_script {H : Type} {enc : TypeId × Value → H} {W : World} {base : Nat} {spare : Nat → Bool} {held : Bool} {n : Nat} {cs : List Value} {y : DataW H × List MemPlace} (h : DataW.trod enc Try.prog W base spare held n 47 cs = some y) :
    ∃ (A : Option Addr) (l c : Nat) (f : Nat → Int × Int × Int × Int), cs = [.slice A l c] ∧ l ≤ maxLen ∧ AbH.Script W A l f := by
  rcases open_slice Try.underlying47 h with ⟨hcs, _⟩ | ⟨a, len, cap, m, n', D, Pl, hcs, hb, hl, hm, hmm, hx, hel⟩
  · exact ⟨none, 0, 0, fun _ => (0, 0, 0, 0), hcs, Nat.zero_le _, fun i hi => absurd hi (Nat.not_lt_zero _)⟩
  · have hlm : len ≤ m := by rw [hmm]; split <;> omega
    obtain ⟨q, hq⟩ := choose_lt (n := len) (p := fun i (s : Int × Int × Int × Int) => (W.cell? (a.add (i * 4)) = some (.int .i64 s.1) ∧ W.cell? (a.add (i * 4 + 1)) = some (.int .i64 s.2.1) ∧ W.cell? (a.add (i * 4 + 2)) = some (.int .i64 s.2.2.1) ∧ W.cell? (a.add (i * 4 + 3)) = some (.int .i64 s.2.2.2)) ∧ -9223372036854775808 ≤ s.2.1 ∧ s.2.1 ≤ 9223372036854775807) (fun i hi => by
      obtain ⟨cs', h1, h2⟩ := hel i (by omega)
      rw [cell52] at h1
      obtain ⟨_, hlen, hcell⟩ := World.cells?_some h1
      obtain ⟨y0, y1, y2, y3, k, _, _, g0, g1, g2, g3⟩ := trod_struct4 Try.underlying52 h2
      match cs', hlen with
      | [v0, v1, v2, v3], _ =>
        have g0' : DataW.trod enc Try.prog W base spare held k 3 [v0] = some y0 := by simpa [cell3] using g0
        have g1' : DataW.trod enc Try.prog W base spare held k 3 [v1] = some y1 := by simpa [cell3] using g1
        have g2' : DataW.trod enc Try.prog W base spare held k 3 [v2] = some y2 := by simpa [cell3] using g2
        have g3' : DataW.trod enc Try.prog W base spare held k 3 [v3] = some y3 := by simpa [cell3] using g3
        obtain ⟨x0, e0, _, _⟩ := DataW.trod_int Try.underlying3 g0'
        obtain ⟨x1, e1, _, wx1⟩ := DataW.trod_int Try.underlying3 g1'
        obtain ⟨x2, e2, _, _⟩ := DataW.trod_int Try.underlying3 g2'
        obtain ⟨x3, e3, _, _⟩ := DataW.trod_int Try.underlying3 g3'
        obtain rfl := (List.cons.inj e0).1
        obtain rfl := (List.cons.inj e1).1
        obtain rfl := (List.cons.inj e2).1
        obtain rfl := (List.cons.inj e3).1
        have c0 := hcell 0 (by omega)
        have c1 := hcell 1 (by omega)
        have c2 := hcell 2 (by omega)
        have c3 := hcell 3 (by omega)
        rw [Go.Deep.add_add] at c0 c1 c2 c3
        exact ⟨(x0, x1, x2, x3), ⟨by simpa using c0, by simpa using c1, by simpa using c2, by simpa using c3⟩, wf64 wx1⟩)
    exact ⟨some a, len, cap, q, hcs, Nat.le_trans hl (by first | assumption | omega), fun i hi => ⟨⟨a, rfl, (hq i hi).1⟩, (hq i hi).2⟩⟩
end
set_option maxRecDepth 100000 in
theorem contract (H : Type) (enc : TypeId × Value → H) (W : World) (base : Nat) (args : Array Value) (ds gs : List (DataW H)) (before : List MemPlace)
    (hval0 : ∀ (j : Nat) t v, Try.f7.params[j]? = some t → args[j]? = some v → Value.okWide Try.prog W .any base t v)
    (hW : DataW.Whole enc Try.prog Try.f7.params.toList Rows.schedFairSpec.vars false W args.toList ds gs before)
    : Calls Try.prog 7 args W fun e W' => ∃ v, e = .returned v ∧ Rows.schedFairSpec.post enc Try.prog Try.f7 false true false false W args v W' := by
  have hval := hval0
  have hW' := hW
  obtain ⟨p, q, hA0, hV, rfl, hfz, hnd⟩ := hW
  have hA : DataW.TrodAll enc Try.prog W 0 (fun _ => true) true Try.f7.params.toList args.toList ds p := hA0
  rw [Try.params7] at hA hval
  obtain ⟨v0, vs0, d0, ds0, p0, q0, hargs, rfl, rfl, h0, r0⟩ := trodAll_cons hA
  obtain ⟨rfl, rfl, rfl⟩ := trodAll_nil r0
  obtain rfl : args = #[v0] := by cases args; simp_all
  obtain ⟨rfl, rfl⟩ := trodVars_none hV
  have k0 := h0
  have lt0 : ∀ x ∈ p0, x.block < W.heap.size := by obtain ⟨m, hm⟩ := k0; exact DataW.trod_lt m _ _ _ hm
  have hv0 := hval 0 47 v0 rfl rfl
  have bridge : (Calls Try.prog 7 #[v0] W fun e w' => e = .returned (.bool true) ∧ Below W.heap.size W w') → Calls Try.prog 7 #[v0] W fun e W' => ∃ v, e = .returned v ∧ Rows.schedFairSpec.post enc Try.prog Try.f7 false true false false W #[v0] v W' := by
    intro hc
    refine hc.mono fun e W' ⟨he, bel⟩ => ?_
    subst he
    exact ⟨_, rfl, _, _, _, [], _, [], hW', trodAll_mk1 (shut_bool Try.underlying4 _), (trodAll_cons_mk (Below.trod laidOut (by kernel_rfl) (of_decide_eq_true (by kernel_rfl)) k0 bel lt0) trodAll_mk0), rfl, bel.frame _, fun h => by cases h⟩
  refine bridge ?_
  clear bridge hW' hV hA0 hval0 hval hargs
  obtain ⟨m, hm⟩ := k0
  obtain ⟨A, l, c, f, hcs, hl, hs⟩ := open_script hm
  obtain ⟨a0, len0, cap0, rfl⟩ := okWide_slice Try.underlying47 hv0
  simp [Value.cells] at hcs
  obtain ⟨rfl, rfl, rfl⟩ := hcs
  exact AbJ.law _ _ _ f W hl hs

set_option maxRecDepth 100000 in
theorem lifted (os : Os) (started : os.Started) (H : Type) (enc : TypeId × Value → H) :
    ReturnsInHanded {} Try.checked os 7 .any (Rows.schedFairSpec.pre6 enc Try.prog Try.f7 Rows.schedFairRow.domain false) (Rows.schedFairSpec.post enc Try.prog Try.f7 false true false false) := by
  refine returnsInHanded_of_change (C := Try.checked) own started (by kernel_rfl) Try.func7
    (ChangeSpec.witness6 (enc := enc) (C := Try.checked) false ⟨#[], #[.slice none 0 0], []⟩ 8 (by kernel_rfl) (by kernel_rfl) (by kernel_rfl) (by kernel_rfl)) ?_
  intro W base args ds gs before hval0 hW _ _
  exact contract H enc W base args ds gs before hval0 hW 
theorem proved : Rows.SchedFairSaid :=
  OpenClaim.holds_of_wide 7 Try.f7 rfl rfl rfl rfl rfl rfl rfl ⟨rfl, rfl, rfl, rfl, rfl⟩ rfl rfl rfl rfl rfl (by kernel_rfl) Try.func7 (by kernel_rfl)
    (of_decide_eq_true (by kernel_rfl)) (by unfold Func.isWrapper; first | (rw [if_pos (by decide +kernel)]; kernel_rfl) | (rw [if_neg (by decide +kernel)]; exact ⟨rfl, rfl⟩))
    (fun os started H enc _ => lifted os started H enc)
end Go.Proofs.Ytpdelhipfleniaa.schedFair
#print axioms Go.Proofs.Ytpdelhipfleniaa.schedFair.proved
