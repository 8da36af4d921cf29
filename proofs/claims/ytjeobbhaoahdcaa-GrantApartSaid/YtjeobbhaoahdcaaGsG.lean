/- Proved: the entries of an argument, as the walk reads them (for the row of GrantApart). -/
import Derived.Test.YtjeobbhaoahdcaaGsF
import Derived.Test.YtjeobbhaoahdcaaGrC
import Derived.Deep.Slices
import Derived.Deep.Strs
import Derived.WalkKit
import Derived.ProofKit
import Derived.OpenShut
import Derived.ShutString
import Derived.ChangeOld
import Derived.Below
import Derived.SizedLaws
import Derived.Lib.SmallJoins
namespace Go.Proofs.Ytjeobbhaoahdcaa.GsG
open Go.ChangeShapes Go.WideShapes Go.ChangeAt Go.RowKit Go.Joins Go.Deep
open Go.Proofs.Ytjeobbhaoahdcaa.GfC (Gr)
open Go.Proofs.Ytjeobbhaoahdcaa.GoB (LE)
open Go.Proofs.Ytjeobbhaoahdcaa.GsA (EnCells Ents)
set_option linter.unusedVariables false
set_option linter.unusedSimpArgs false

section
variable {H : Type} {enc : TypeId × Value → H} {P : Program} {w : World} {base : Nat} {spare : Nat → Bool} {held : Bool}
theorem trod_struct7 {t : TypeId} {f0 f1 f2 f3 f4 f5 f6 : Field} {fuel : Nat} {cs : List Value} {x : DataW H × List MemPlace} (ht : P.underlying t = some (.struct #[f0, f1, f2, f3, f4, f5, f6])) (h : DataW.trod enc P w base spare held fuel t cs = some x) :
    ∃ y0 y1 y2 y3 y4 y5 y6 n, x.1 = .agg [y0.1, y1.1, y2.1, y3.1, y4.1, y5.1, y6.1] ∧ cs.length = P.cellsOf t ∧ DataW.trod enc P w base spare held n f0.type ((cs.drop f0.offset).take (P.cellsOf f0.type)) = some y0 ∧ DataW.trod enc P w base spare held n f1.type ((cs.drop f1.offset).take (P.cellsOf f1.type)) = some y1 ∧ DataW.trod enc P w base spare held n f2.type ((cs.drop f2.offset).take (P.cellsOf f2.type)) = some y2 ∧ DataW.trod enc P w base spare held n f3.type ((cs.drop f3.offset).take (P.cellsOf f3.type)) = some y3 ∧ DataW.trod enc P w base spare held n f4.type ((cs.drop f4.offset).take (P.cellsOf f4.type)) = some y4 ∧ DataW.trod enc P w base spare held n f5.type ((cs.drop f5.offset).take (P.cellsOf f5.type)) = some y5 ∧ DataW.trod enc P w base spare held n f6.type ((cs.drop f6.offset).take (P.cellsOf f6.type)) = some y6 := by
  obtain ⟨xs, n, _, rfl, hl, hlen, hf⟩ := DataW.trod_struct ht h
  match xs, hlen with
  | [y0, y1, y2, y3, y4, y5, y6], _ => exact ⟨y0, y1, y2, y3, y4, y5, y6, n, by simp, hl, by simpa using hf 0 f0 rfl, by simpa using hf 1 f1 rfl, by simpa using hf 2 f2 rfl, by simpa using hf 3 f3 rfl, by simpa using hf 4 f4 rfl, by simpa using hf 5 f5 rfl, by simpa using hf 6 f6 rfl⟩
end
theorem cellE : Try.prog.cellsOf 63 = 10 := by kernel_rfl
theorem cellG : Try.prog.cellsOf 53 = 7 := by kernel_rfl
theorem cellI : Try.prog.cellsOf 3 = 1 := by kernel_rfl
theorem cellB : Try.prog.cellsOf 4 = 1 := by kernel_rfl
theorem cellU : Try.prog.cellsOf 5 = 1 := by kernel_rfl
instance : Inhabited LE := ⟨⟨0, 0, ⟨0, false, false, 0, 0, 0, 0⟩, 0⟩⟩
theorem add0 (x : Addr) : x.add 0 = x := by unfold Addr.add; rfl
theorem addS (x : Addr) (j : Nat) (h : j ≠ 0) : x.add j = ⟨x.block, x.off + j, none⟩ := by
  unfold Addr.add
  rw [if_neg h]
section
variable {H : Type} {enc : TypeId × Value → H} {W : World} {base : Nat} {spare : Nat → Bool} {held : Bool} {n : Nat} {cs : List Value} {y : DataW H × List MemPlace}
def leC (e : LE) : List Value := [.int .i64 e.dom, .int .i64 e.ref, .int .i64 e.g.kd, .bool e.g.ro, .bool e.g.sb, .int .i64 e.g.dom, .int .i64 e.g.gp, .int .i64 e.g.of, .int .i64 e.g.le, .int .u8 e.fl]
set_option maxRecDepth 100000 in
theorem open_grant (h : DataW.trod enc Try.prog W base spare held n 53 cs = some y) : ∃ g : Gr, cs = [.int .i64 g.kd, .bool g.ro, .bool g.sb, .int .i64 g.dom, .int .i64 g.gp, .int .i64 g.of, .int .i64 g.le] := by
  obtain ⟨y0, y1, y2, y3, y4, y5, y6, k, _, hl, g0, g1, g2, g3, g4, g5, g6⟩ := trod_struct7 Try.underlying53 h
  rw [cellG] at hl
  match cs, hl with
  | [v0, v1, v2, v3, v4, v5, v6], _ =>
    have q0 : DataW.trod enc Try.prog W base spare held k 3 [v0] = some y0 := by simpa [cellI] using g0
    have q1 : DataW.trod enc Try.prog W base spare held k 4 [v1] = some y1 := by simpa [cellB] using g1
    have q2 : DataW.trod enc Try.prog W base spare held k 4 [v2] = some y2 := by simpa [cellB] using g2
    have q3 : DataW.trod enc Try.prog W base spare held k 3 [v3] = some y3 := by simpa [cellI] using g3
    have q4 : DataW.trod enc Try.prog W base spare held k 3 [v4] = some y4 := by simpa [cellI] using g4
    have q5 : DataW.trod enc Try.prog W base spare held k 3 [v5] = some y5 := by simpa [cellI] using g5
    have q6 : DataW.trod enc Try.prog W base spare held k 3 [v6] = some y6 := by simpa [cellI] using g6
    obtain ⟨x0, e0, _, _⟩ := DataW.trod_int Try.underlying3 q0
    obtain ⟨x1, e1, _⟩ := DataW.trod_bool Try.underlying4 q1
    obtain ⟨x2, e2, _⟩ := DataW.trod_bool Try.underlying4 q2
    obtain ⟨x3, e3, _, _⟩ := DataW.trod_int Try.underlying3 q3
    obtain ⟨x4, e4, _, _⟩ := DataW.trod_int Try.underlying3 q4
    obtain ⟨x5, e5, _, _⟩ := DataW.trod_int Try.underlying3 q5
    obtain ⟨x6, e6, _, _⟩ := DataW.trod_int Try.underlying3 q6
    obtain rfl := (List.cons.inj e0).1
    obtain rfl := (List.cons.inj e1).1
    obtain rfl := (List.cons.inj e2).1
    obtain rfl := (List.cons.inj e3).1
    obtain rfl := (List.cons.inj e4).1
    obtain rfl := (List.cons.inj e5).1
    obtain rfl := (List.cons.inj e6).1
    exact ⟨⟨x0, x1, x2, x3, x4, x5, x6⟩, rfl⟩
set_option maxRecDepth 100000 in
theorem open_entry (h : DataW.trod enc Try.prog W base spare held n 63 cs = some y) : ∃ e : LE, cs = leC e := by
  obtain ⟨y0, y1, y2, y3, k, _, hl, g0, g1, g2, g3⟩ := trod_struct4 Try.underlying63 h
  rw [cellE] at hl
  match cs, hl with
  | [v0, v1, v2, v3, v4, v5, v6, v7, v8, v9], _ =>
    have q0 : DataW.trod enc Try.prog W base spare held k 3 [v0] = some y0 := by simpa [cellI] using g0
    have q1 : DataW.trod enc Try.prog W base spare held k 3 [v1] = some y1 := by simpa [cellI] using g1
    have q2 : DataW.trod enc Try.prog W base spare held k 53 [v2, v3, v4, v5, v6, v7, v8] = some y2 := by simpa [cellG] using g2
    have q3 : DataW.trod enc Try.prog W base spare held k 5 [v9] = some y3 := by simpa [cellU] using g3
    obtain ⟨x0, e0, _, _⟩ := DataW.trod_int Try.underlying3 q0
    obtain ⟨x1, e1, _, _⟩ := DataW.trod_int Try.underlying3 q1
    obtain ⟨g, eg⟩ := open_grant q2
    obtain ⟨x3, e3, _, _⟩ := DataW.trod_int Try.underlying5 q3
    obtain rfl := (List.cons.inj e0).1
    obtain rfl := (List.cons.inj e1).1
    obtain rfl := (List.cons.inj e3).1
    refine ⟨⟨x0, x1, g, x3⟩, ?_⟩
    simp only [List.cons.injEq, and_true] at eg
    obtain ⟨rfl, rfl, rfl, rfl, rfl, rfl, rfl⟩ := eg
    rfl
set_option maxRecDepth 100000 in
theorem open_entries (h : DataW.trod enc Try.prog W base spare held n 22 cs = some y) :
    ∃ (A : Option Addr) (l c : Nat) (es : List LE), cs = [.slice A l c] ∧ l ≤ 9223372036854775807 ∧ Ents W A l es := by
  rcases open_slice Try.underlying22 h with ⟨hcs, _⟩ | ⟨a, len, cap, m, n', D, Pl, hcs, hb, hl, hm, hmm, hx, hel⟩
  · exact ⟨none, 0, 0, [], hcs, by omega, rfl, .inl rfl⟩
  · have hlm : len ≤ m := by rw [hmm]; split <;> omega
    obtain ⟨q, hq⟩ := choose_lt (n := len) (p := fun i (p : LE) => EnCells W (a.add (i * 10)) p) (fun i hi => by
      obtain ⟨cs', h1, h2⟩ := hel i (by omega)
      rw [cellE] at h1
      obtain ⟨_, hlen, hcell⟩ := World.cells?_some h1
      obtain ⟨p, hp⟩ := open_entry h2
      subst hp
      have c0 := hcell 0 (by simp)
      have c1 := hcell 1 (by simp)
      have c2 := hcell 2 (by simp)
      have c3 := hcell 3 (by simp)
      have c4 := hcell 4 (by simp)
      have c5 := hcell 5 (by simp)
      have c6 := hcell 6 (by simp)
      have c7 := hcell 7 (by simp)
      have c8 := hcell 8 (by simp)
      have c9 := hcell 9 (by simp)
      rw [add0] at c0
      rw [addS _ _ (by decide)] at c1 c2 c3 c4 c5 c6 c7 c8 c9
      exact ⟨p, by simpa [leC] using c0, by simpa [leC] using c1, by simpa [leC] using c2, by simpa [leC] using c3, by simpa [leC] using c4, by simpa [leC] using c5, by simpa [leC] using c6, by simpa [leC] using c7, by simpa [leC] using c8, by simpa [leC] using c9⟩)
    have hget : ∀ (i : Nat) (p : LE), ((List.range len).map q)[i]? = some p → i < len ∧ q i = p := by
      intro i p hi
      rw [List.getElem?_map] at hi
      obtain ⟨j', hj', rfl⟩ := Option.map_eq_some_iff.1 hi
      obtain ⟨hlt, hval⟩ := List.getElem?_eq_some_iff.1 hj'
      rw [List.getElem_range] at hval
      subst hval
      exact ⟨by simpa using hlt, rfl⟩
    have hmax : maxLen ≤ 9223372036854775807 := by unfold maxLen; omega
    refine ⟨some a, len, cap, (List.range len).map q, hcs, by omega, by simp, ?_⟩
    by_cases h0 : len = 0
    · subst h0
      exact .inl rfl
    · refine .inr ⟨a, rfl, ?_, fun i p hi => ?_⟩
      · have := World.block_lt_of_cell? W _ (hq 0 (by omega)).c0
        rwa [show (a.add (0 * 10)).block = a.block by unfold Addr.add; split <;> rfl] at this
      · obtain ⟨h1, rfl⟩ := hget i p hi
        exact hq i h1
end
end Go.Proofs.Ytjeobbhaoahdcaa.GsG
