/- Proved: what the argument of the law ScriptPrints reads as, opened; what the row's list of laid variables gives. -/
import Derived.Test.YtafphlimklgijaaDoorSpG
import Derived.Deep.Slices
import Derived.Deep.Strs
import Derived.Lib.LaidTab
namespace Go.Proofs.YtafphlimklgijaaDoor.SpH
open Go.RowKit Go.Shelf Go.Deep Go.Proofs.YtafphlimklgijaaDoor.Base Go.Proofs.YtafphlimklgijaaDoor.TdB Go.Proofs.YtafphlimklgijaaDoor.SpP
set_option linter.unusedVariables false
set_option linter.unusedSimpArgs false

theorem add0 (a : Addr) : a.add 0 = a := by
  unfold Addr.add
  split
  · simp
  · simp_all
theorem addS (a : Addr) (j : Nat) (h : j ≠ 0) : a.add j = ⟨a.block, a.off + j, none⟩ := by
  unfold Addr.add
  rw [if_neg h]
theorem cell3 : Tryd.prog.cellsOf 3 = 1 := by kernel_rfl
theorem cellB : Tryd.prog.cellsOf 5 = 1 := by kernel_rfl
theorem cellS : Tryd.prog.cellsOf 22 = 1 := by kernel_rfl
theorem cellT : Tryd.prog.cellsOf 9 = 1 := by kernel_rfl
theorem cellP : Tryd.prog.cellsOf 41 = 4 := by kernel_rfl
theorem cellPs : Tryd.prog.cellsOf 23 = 1 := by kernel_rfl
theorem wf8 {x : Int} (h : (Lit.int .u8 x).wf = true) : 0 ≤ x ∧ x ≤ 255 := by
  have e1 : IntKind.u8.min = 0 := rfl
  have e2 : IntKind.u8.max = 255 := rfl
  simp [Lit.wf] at h
  omega
/-- A slice's reading: empty, or so many elements. -/
def Long {H : Type} (d : DataW H) (l : Nat) : Prop := l = 0 ∨ ∃ e s : List (DataW H), d = .slice e s ∧ e.length = l
section
variable {H : Type} {enc : TypeId × Value → H} {W : World} {base : Nat} {spare : Nat → Bool} {held : Bool} {n : Nat} {cs : List Value} {y : DataW H × List MemPlace}
set_option maxRecDepth 100000 in
theorem open_bytes (h : DataW.trod enc Tryd.prog W base spare held n 22 cs = some y) :
    ∃ (A : Option Addr) (l c : Nat) (zs : List UInt8), cs = [.slice A l c] ∧ l = zs.length ∧ SpA.Data W A zs ∧ Long y.1 l := by
  rcases open_slice Tryd.underlying22 h with ⟨hcs, _⟩ | ⟨a, len, cap, m, n', D, Pl, hcs, hb, hl, hm, hmm, hx, hel⟩
  · exact ⟨none, 0, 0, [], hcs, rfl, .inl rfl, .inl rfl⟩
  · have hlm : len ≤ m := by rw [hmm]; split <;> omega
    obtain ⟨q, hq⟩ := choose_lt (n := len) (p := fun i (z : UInt8) => W.cell? (a.add i) = some (.int .u8 (z.toNat : Int))) (fun i hi => by
      obtain ⟨cs', h1, h2⟩ := hel i (by omega)
      rw [cellB] at h1
      obtain ⟨_, hlen, hcell⟩ := World.cells?_some h1
      obtain ⟨x, e, _, wx⟩ := DataW.trod_int Tryd.underlying5 h2
      have hw := wf8 wx
      subst e
      have c0 := hcell 0 (by omega)
      refine ⟨UInt8.ofNat x.toNat, ?_⟩
      have e1 : ((UInt8.ofNat x.toNat).toNat : Int) = x := by
        rw [UInt8.toNat_ofNat']
        omega
      rw [e1]
      rw [add0] at c0
      simpa using c0)
    refine ⟨some a, len, cap, (List.range len).map q, hcs, by simp, ?_, .inr ⟨_, _, by rw [hx], by simp⟩⟩
    by_cases h0 : len = 0
    · subst h0
      exact .inl rfl
    · refine .inr ⟨a, rfl, ?_, fun j hj => ?_⟩
      · have := World.block_lt_of_cell? W _ (hq 0 (by omega))
        rwa [show (a.add 0).block = a.block by unfold Addr.add; split <;> rfl] at this
      · have hj2 : j < len := by simpa using hj
        simpa using hq j hj2
set_option maxRecDepth 100000 in
theorem open_poke (h : DataW.trod enc Tryd.prog W base spare held n 41 cs = some y) :
    ∃ (p : Pk), cs = [.int .i64 p.at_, .int .i64 p.mfn, .int .i64 p.off, .slice p.A p.l p.c] ∧ p.l = p.zs.length ∧ SpA.Data W p.A p.zs ∧ ∃ d0 d1 d2 d3 : DataW H, y.1 = .agg [d0, d1, d2, d3] ∧ Long d3 p.l := by
  obtain ⟨xs, j, _, hy, hlen, hxl, hf⟩ := DataW.trod_struct Tryd.underlying41 h
  have hl4 : cs.length = 4 := hlen.trans cellP
  match xs, (show xs.length = 4 from hxl) with
  | [y0, y1, y2, y3], _ =>
    match cs, hl4 with
    | [v0, v1, v2, v3], _ =>
      have g0 : DataW.trod enc Tryd.prog W base spare held j 3 [v0] = some y0 := by simpa [cell3] using hf 0 _ rfl
      have g1 : DataW.trod enc Tryd.prog W base spare held j 3 [v1] = some y1 := by simpa [cell3] using hf 1 _ rfl
      have g2 : DataW.trod enc Tryd.prog W base spare held j 3 [v2] = some y2 := by simpa [cell3] using hf 2 _ rfl
      have g3 : DataW.trod enc Tryd.prog W base spare held j 22 [v3] = some y3 := by simpa [cellS] using hf 3 _ rfl
      obtain ⟨x0, e0, _, _⟩ := DataW.trod_int Tryd.underlying3 g0
      obtain ⟨x1, e1, _, _⟩ := DataW.trod_int Tryd.underlying3 g1
      obtain ⟨x2, e2, _, _⟩ := DataW.trod_int Tryd.underlying3 g2
      obtain ⟨A, l, c, zs, e3, hz, hd, hb⟩ := open_bytes g3
      obtain rfl := (List.cons.inj e0).1
      obtain rfl := (List.cons.inj e1).1
      obtain rfl := (List.cons.inj e2).1
      obtain rfl := (List.cons.inj e3).1
      exact ⟨⟨x0, x1, x2, A, l, c, zs⟩, rfl, hz, hd, y0.1, y1.1, y2.1, y3.1, by rw [hy]; rfl, hb⟩
/-- The readings of the rewrites, one by one. -/
def LongP (d : DataW H) (p : Pk) : Prop := ∃ d0 d1 d2 d3 : DataW H, d = .agg [d0, d1, d2, d3] ∧ Long d3 p.l
set_option maxRecDepth 100000 in
theorem open_pokes (h : DataW.trod enc Tryd.prog W base spare held n 23 cs = some y) :
    ∃ (A : Option Addr) (l c : Nat) (ps : List Pk), cs = [.slice A l c] ∧ l = ps.length ∧ (ps = [] ∨ ∃ x, A = some x ∧ x.block < W.heap.size ∧ ∀ (i : Nat) (p : Pk), ps[i]? = some p → SpD.PkCells W (x.add (i * 4)) p) ∧ (∀ p ∈ ps, p.l = p.zs.length ∧ SpA.Data W p.A p.zs) ∧
      (ps = [] ∨ ∃ e s : List (DataW H), y.1 = .slice e s ∧ e.length = l ∧ ∀ (i : Nat) (p : Pk), ps[i]? = some p → ∃ d : DataW H, e[i]? = some d ∧ LongP d p) := by
  rcases open_slice Tryd.underlying23 h with ⟨hcs, _⟩ | ⟨a, len, cap, m, n', D, Pl, hcs, hb, hl, hm, hmm, hx, hel⟩
  · exact ⟨none, 0, 0, [], hcs, rfl, .inl rfl, by simp, .inl rfl⟩
  · have hlm : len ≤ m := by rw [hmm]; split <;> omega
    obtain ⟨q, hq⟩ := choose_lt (n := len) (p := fun i (p : Pk) => SpD.PkCells W (a.add (i * 4)) p ∧ p.l = p.zs.length ∧ SpA.Data W p.A p.zs ∧ LongP (D i) p) (fun i hi => by
      obtain ⟨cs', h1, h2⟩ := hel i (by omega)
      rw [cellP] at h1
      obtain ⟨_, hlen, hcell⟩ := World.cells?_some h1
      obtain ⟨p, hp, hz, hd, d0, d1, d2, d3, hy, hL⟩ := open_poke h2
      subst hp
      have c0 := hcell 0 (by simp)
      have c1 := hcell 1 (by simp)
      have c2 := hcell 2 (by simp)
      have c3 := hcell 3 (by simp)
      rw [add0] at c0
      rw [addS _ _ (by decide)] at c1 c2 c3
      exact ⟨p, ⟨by simpa using c0, by simpa using c1, by simpa using c2, by simpa using c3⟩, hz, hd, d0, d1, d2, d3, hy, hL⟩)
    have hget : ∀ (i : Nat) (p : Pk), ((List.range len).map q)[i]? = some p → i < len ∧ q i = p := by
      intro i p hi
      rw [List.getElem?_map] at hi
      obtain ⟨j', hj', rfl⟩ := Option.map_eq_some_iff.1 hi
      obtain ⟨hlt, hval⟩ := List.getElem?_eq_some_iff.1 hj'
      rw [List.getElem_range] at hval
      subst hval
      exact ⟨by simpa using hlt, rfl⟩
    refine ⟨some a, len, cap, (List.range len).map q, hcs, by simp, ?_, ?_, .inr ⟨_, _, by rw [hx], by simp, ?_⟩⟩
    · by_cases h0 : len = 0
      · subst h0
        exact .inl rfl
      · refine .inr ⟨a, rfl, ?_, fun i p hi => ?_⟩
        · have := World.block_lt_of_cell? W _ (hq 0 (by omega)).1.c0
          rwa [show (a.add (0 * 4)).block = a.block by unfold Addr.add; split <;> rfl] at this
        · obtain ⟨h1, rfl⟩ := hget i p hi
          exact (hq i h1).1
    · intro p hp
      obtain ⟨i, hi⟩ := List.getElem?_of_mem hp
      obtain ⟨h1, rfl⟩ := hget i p hi
      exact ⟨(hq i h1).2.1, (hq i h1).2.2.1⟩
    · intro i p hi
      obtain ⟨h1, rfl⟩ := hget i p hi
      exact ⟨D i, by simp [h1], (hq i h1).2.2.2⟩
end
end Go.Proofs.YtafphlimklgijaaDoor.SpH
