/- Proved: what the argument of the law ScriptTolds reads as, opened. -/
import Derived.Test.YtmfllgneeeinkaaDoorTdG
import Derived.Deep.Slices
import Derived.Deep.Strs
namespace Go.Proofs.YtmfllgneeeinkaaDoor.TdH
open Go.RowKit Go.Shelf Go.Deep Go.Proofs.YtmfllgneeeinkaaDoor.Base Go.Proofs.YtmfllgneeeinkaaDoor.TdB
set_option linter.unusedVariables false
set_option linter.unusedSimpArgs false

theorem add0 (a : Addr) : a.add 0 = a := by
  unfold Addr.add
  split
  · simp
  · simp_all
theorem cell3 : Tryd.prog.cellsOf 3 = 1 := by kernel_rfl
theorem cellE : Tryd.prog.cellsOf 22 = 1 := by kernel_rfl
theorem cellB : Tryd.prog.cellsOf 5 = 1 := by kernel_rfl
theorem cellS : Tryd.prog.cellsOf 23 = 1 := by kernel_rfl
theorem wf64 {x : Int} (h : (Lit.int .i64 x).wf = true) : -9223372036854775808 ≤ x ∧ x ≤ 9223372036854775807 := by
  simp [Lit.wf] at h
  have h1 : IntKind.i64.min = -9223372036854775808 := rfl
  have h2 : IntKind.i64.max = 9223372036854775807 := rfl
  omega
theorem wf8 {x : Int} (h : (Lit.int .u8 x).wf = true) : 0 ≤ x ∧ x ≤ 255 := by
  have e1 : IntKind.u8.min = 0 := rfl
  have e2 : IntKind.u8.max = 255 := rfl
  simp [Lit.wf] at h
  omega
set_option maxRecDepth 100000 in
theorem open_bytes {H : Type} {enc : TypeId × Value → H} {W : World} {base : Nat} {spare : Nat → Bool} {held : Bool} {n : Nat} {cs : List Value} {y : DataW H × List MemPlace} (h : DataW.trod enc Tryd.prog W base spare held n 23 cs = some y) :
    ∃ (A : Option Addr) (l c : Nat) (zs : List UInt8), cs = [.slice A l c] ∧ l = zs.length ∧ TdD.Data W A zs ∧ (l = 0 ∨ ∃ e s : List (DataW H), y.1 = .slice e s ∧ e.length = l) := by
  rcases open_slice Tryd.underlying23 h with ⟨hcs, _⟩ | ⟨a, len, cap, m, n', D, Pl, hcs, hb, hl, hm, hmm, hx, hel⟩
  · exact ⟨none, 0, 0, [], hcs, rfl, .inl rfl, .inl rfl⟩
  · have hlm : len ≤ m := by rw [hmm]; split <;> omega
    obtain ⟨q, hq⟩ := choose_lt (n := len) (p := fun i (z : UInt8) => W.cell? (a.add i) = some (.int .u8 (z.toNat : Int))) (fun i hi => by
      obtain ⟨cs', h1, h2⟩ := hel i (by omega)
      rw [cellB] at h1
      obtain ⟨_, hlen, hcell⟩ := World.cells?_some h1
      obtain ⟨x, e, _, wx⟩ := DataW.trod_int Tryd.underlying5 h2
      have hw := wf8 wx
      subst e
      have c0 := hcell 0 (by omega)
      refine ⟨UInt8.ofNat x.toNat, ?_⟩
      have e1 : ((UInt8.ofNat x.toNat).toNat : Int) = x := by
        rw [UInt8.toNat_ofNat']
        omega
      rw [e1]
      rw [add0] at c0
      simpa using c0)
    refine ⟨some a, len, cap, (List.range len).map q, hcs, by simp, ?_, .inr ⟨_, _, by rw [hx], by simp⟩⟩
    by_cases h0 : len = 0
    · subst h0
      exact .inl rfl
    · refine .inr ⟨a, rfl, ?_, fun j hj => ?_⟩
      · have := World.block_lt_of_cell? W _ (hq 0 (by omega))
        rwa [show (a.add 0).block = a.block by unfold Addr.add; split <;> rfl] at this
      · have hj2 : j < len := by simpa using hj
        simpa using hq j hj2
set_option maxRecDepth 100000 in
theorem open_told {H : Type} {enc : TypeId × Value → H} {W : World} {base : Nat} {spare : Nat → Bool} {held : Bool} {n : Nat} {cs : List Value} {y : DataW H × List MemPlace} (h : DataW.trod enc Tryd.prog W base spare held n 25 cs = some y) :
    ∃ (why k : Int) (A : Option Addr) (l c : Nat) (zs : List UInt8), cs = [.int .i64 why, .int .i64 k, .slice A l c] ∧ l = zs.length ∧ (-9223372036854775808 ≤ why ∧ why ≤ 9223372036854775807) ∧ (-9223372036854775808 ≤ k ∧ k ≤ 9223372036854775807) ∧ TdD.Data W A zs ∧
      (l = 0 ∨ ∃ (d0 d1 : DataW H) (e s : List (DataW H)), y.1 = .agg [d0, d1, .slice e s] ∧ e.length = l) := by
  obtain ⟨y0, y1, y2, j, hy, hlen, g0, g1, g2⟩ := trod_struct3 Tryd.underlying25 h
  have hl3 : cs.length = 3 := hlen.trans (by kernel_rfl)
  match cs, hl3 with
  | [v0, v1, v2], _ =>
    have g0' : DataW.trod enc Tryd.prog W base spare held j 22 [v0] = some y0 := by simpa [cellE] using g0
    have g1' : DataW.trod enc Tryd.prog W base spare held j 3 [v1] = some y1 := by simpa [cell3] using g1
    have g2' : DataW.trod enc Tryd.prog W base spare held j 23 [v2] = some y2 := by simpa [cellS] using g2
    obtain ⟨x0, e0, _, wx0⟩ := DataW.trod_int Tryd.underlying22 g0'
    obtain ⟨x1, e1, _, wx1⟩ := DataW.trod_int Tryd.underlying3 g1'
    obtain ⟨A, l, c, zs, e2, hz, hd, hb⟩ := open_bytes g2'
    obtain rfl := (List.cons.inj e0).1
    obtain rfl := (List.cons.inj e1).1
    obtain rfl := (List.cons.inj e2).1
    refine ⟨x0, x1, A, l, c, zs, rfl, hz, wf64 wx0, wf64 wx1, hd, hb.imp id ?_⟩
    rintro ⟨e, s, h1, h2⟩
    exact ⟨y0.1, y1.1, e, s, by rw [hy, h1], h2⟩
end Go.Proofs.YtmfllgneeeinkaaDoor.TdH
