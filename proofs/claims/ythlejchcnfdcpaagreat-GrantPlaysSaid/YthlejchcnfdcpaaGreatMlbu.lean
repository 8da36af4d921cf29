/- Proved: play, at every op (the plain law of the grants). Proved: maps, copies, transfers and revocations answer the same under any script (the plain law of the grants, and the walk of GrantPlays). Proved: the ops of an argument, as the walk reads them (for the row of GrantPlays). -/
import Derived.Test.YthlejchcnfdcpaaGreatMlam
import Derived.Test.YthlejchcnfdcpaaGreatMlbt
import Derived.Deep.Slices
import Derived.Deep.Strs
import Derived.WalkKit
import Derived.ProofKit
import Derived.OpenShut
import Derived.ShutString
import Derived.ChangeOld
import Derived.Below
import Derived.SizedLaws
import Derived.Lib.SmallJoins
namespace Go.Proofs.YthlejchcnfdcpaaGreat.GzX
open Go.RowKit Go.Maps Base GaA GaB GaC GaD GmA GmB GmC GpA GgA GeA GeB GfA GfB GfC GfD GjA GjB GjC GjE GjK GwA GwB GwE GwF GwJ GwO GwQ RpA RmA RmB RgA GxA GxC GxD GyA GyB GyE GyN GbA GzA GzB GzC GzD GfF GoB GxB GzE GzF GzG GzH GzI GzJ GzK GzL GzM GzN GzO GzP GzQ GzR GzS GzT GzU GzV GzW
set_option linter.unusedVariables false
set_option linter.unusedSimpArgs false

section
variable {w0 W W' : World} {a : BX} {P Q : Value} {σ τ σ' τ' : SS} {v : VP} {rp rd : Nat}
/-- play, at every op. -/
theorem play_any (hs : St w0.heap.size a) (hp : Pu a σ) (hx : a.xb = w0.heap.size) (o : OpV) (ok : OkO w0 o) (h : J w0 W a P Q σ σ) :
    Calls Tryz.prog 5 #[.pointer (some ⟨w0.heap.size, 0, none⟩), .agg (opC o)] W (PlayOut w0 a P Q) := by
  by_cases h64 : 64 < o.ps.length
  · exact play_long hs hp hx o h64 h
  have h64 : o.ps.length ≤ 64 := by omega
  by_cases h0 : o.wh = 0
  · exact play_map hs hp hx o ok h64 h0 h
  by_cases h1 : o.wh = 1
  · exact play_unmap hs hp hx o ok h64 h1 h
  by_cases h2 : o.wh = 2
  · exact play_read hs hp hx o ok h64 h2 h
  by_cases h3 : o.wh = 3
  · exact play_write hs hp hx o ok h64 h3 h
  by_cases h6 : o.wh = 6
  · exact play_revoke hs hp hx o ok h64 h6 h
  by_cases h7 : o.wh = 7
  · exact play_leave hs hp hx o ok h64 h7 h
  by_cases h8 : o.wh = 8
  · exact play_join hs hp hx o ok h64 h8 h
  by_cases h9 : o.wh = 9
  · exact play_lay hs hp hx o ok h64 h9 h
  exact play_moves hs hp hx o ok h64 ⟨h0, h1, h2, h3, h6, h7, h8, h9⟩ h
end
end Go.Proofs.YthlejchcnfdcpaaGreat.GzX
namespace Go.Proofs.YthlejchcnfdcpaaGreat.GzY
open Go.RowKit Go.Maps Base GaA GaB GaC GaD GmA GmB GmC GpA GgA GeA GeB GfA GfB GfC GfD GjA GjB GjC GjE GjK GwA GwB GwE GwF GwJ GwO GwQ RpA RmA RmB RgA GxA GxC GxD GyA GyB GyE GyN GbA GzA GzB GzC GzD GfF GbB GlA GoB GsA GzE GzL GzM GzQ GzX
set_option linter.unusedVariables false
set_option linter.unusedSimpArgs false

/-- What both hold behind begin. -/
def s0 (a : BA) (s : MS) : SS := ⟨s, memG a.pb 3, 3, piB a, fun _ => none, 0, []⟩
theorem memG_fst (pb : Nat → Nat) (d : Nat) : (memG pb 3 d).map (·.1) = if d < 3 then some (4 * (d : Int)) else none := by
  unfold memG
  by_cases h : d < 3
  · rw [if_pos (by omega), if_pos h]; rfl
  · rw [if_neg (by omega), if_neg h]; rfl
theorem mN0 (pb : Nat → Nat) (k : Nat) : mN (memG pb 3) k = (List.range 8).countP fun d : Nat => (if d < 3 then some (4 * (d : Int)) else none) == some (k : Int) := by
  unfold mN
  congr 1
  funext d
  rw [memG_fst]
theorem mJ0 (pb : Nat → Nat) : mJ (memG pb 3) = 3 := by
  have : mJ (memG pb 3) = (List.range 8).countP fun d : Nat => decide (d < 3) := by
    unfold mJ
    congr 1
    funext d
    unfold memG
    by_cases h : d < 3
    · rw [if_pos (by omega)]; simp [h]
    · rw [if_neg (by omega)]; simp [h]
  rw [this]
  decide
theorem cnt0 (e : Nat) : cntO (frD e 4) = 4 := by
  have : cntO (frD e 4) = (List.range 8).countP fun d : Nat => decide (d < 4) := by
    unfold cntO
    congr 1
    funext d
    unfold frD
    by_cases h : d < 4
    · rw [if_pos (by omega)]; simp [h]
    · rw [if_neg (by omega)]; simp [h]
  rw [this]
  decide
theorem pos0 (e : Nat) (he : e < 3) : Pos 8 (frD e 4) (plD e 4) := by
  refine ⟨fun i m h => ?_, fun m i h => ?_⟩
  · unfold frD at h
    split at h
    · rename_i hi
      injection h with h
      refine ⟨by omega, by omega, ?_⟩
      unfold plD
      rw [if_pos (by omega)]
      congr 1
      omega
    · cases h
  · unfold plD at h
    split at h
    · rename_i hi
      injection h with h
      unfold frD
      rw [if_pos (by omega)]
      congr 1
      omega
    · cases h
theorem ll0 (e : Nat) : LL 8 (frD e 4) = lstD e 4 := by
  unfold LL lstD
  refine List.map_congr_left fun j hj => ?_
  unfold frD
  by_cases h : j < 4
  · rw [if_pos (by omega), if_pos h]
    show 4 * (e : Int) + j = _
    omega
  · rw [if_neg (by omega), if_neg h]
    rfl
theorem fr0 (pb : Nat → Nat) : ∀ k, k < 13 → (msB 3 0).fr k = ⟨((msB 3 0).fr k).own, if mN (memG pb 3) k = 1 then 1 else 0, mN (memG pb 3) k, mN (memG pb 3) k⟩ ∧ mN (memG pb 3) k ≤ 1 := by
  intro k hk
  rw [mN0]
  match k, hk with
  | 0, _ => exact ⟨rfl, by decide⟩
  | 1, _ => exact ⟨rfl, by decide⟩
  | 2, _ => exact ⟨rfl, by decide⟩
  | 3, _ => exact ⟨rfl, by decide⟩
  | 4, _ => exact ⟨rfl, by decide⟩
  | 5, _ => exact ⟨rfl, by decide⟩
  | 6, _ => exact ⟨rfl, by decide⟩
  | 7, _ => exact ⟨rfl, by decide⟩
  | 8, _ => exact ⟨rfl, by decide⟩
  | 9, _ => exact ⟨rfl, by decide⟩
  | 10, _ => exact ⟨rfl, by decide⟩
  | 11, _ => exact ⟨rfl, by decide⟩
  | 12, _ => exact ⟨rfl, by decide⟩
section
variable {w0 W W' : World} {a : BA} {P Q : Value} {s : MS}
theorem st_of (h : Bd w0 W a s s N3 P Q) : St w0.heap.size a := by
  obtain ⟨g1, g2, g3, g4, g5, g6, g7, _⟩ := h.bo.ge
  exact ⟨⟨g1, g2, g3, g4, g5, g6, g7⟩, h.bo.mh, h.bo.ne, h.bo.inj, h.bo.sep⟩
theorem pu_of (h : Bd w0 W a s s N3 P Q) (hn : s.n = 13) (hf : s.fr = (msB 3 0).fr) : Pu a (s0 a s) := by
  refine ⟨hn, fun d x hx => ?_, Lk.mk (fun i hi => absurd hi (Nat.not_lt_zero _)) (fun k m hk => nomatch hk) List.nodup_nil, fun m hm => absurd hm List.not_mem_nil, rfl, fun k hk => ?_, fun i hi => ?_, ?_⟩
  · obtain ⟨e, he, rfl, rfl⟩ := memG_some hx
    exact ⟨by omega, ⟨e, he, rfl⟩, 4 * e, by simp, by omega⟩
  · obtain ⟨h1, h2⟩ := fr0 a.pb k hk
    have ht : totT (s0 a s) k = mN (memG a.pb 3) k := by
      show List.countP _ [] + mN (memG a.pb 3) k = _
      simp
    have hc : cntT (s0 a s) k = mN (memG a.pb 3) k := by
      show List.countP _ [] + mN (memG a.pb 3) k = _
      simp
    have h3 : (s0 a s).s.fr k = (msB 3 0).fr k := by show s.fr k = _; rw [hf]
    generalize mN (memG a.pb 3) k = n at h1 h2 ht hc
    refine ⟨?_, ?_, ?_⟩
    · rw [h3, h1, ht]
    · rw [h3, h1, hc]
    · rw [h3, h1]
      simp only
      refine ⟨fun e => if_neg (by omega), fun e => if_pos (by omega)⟩
  · have hpi : (s0 a s).pi (a.pb i) = piI a i := pi_at h.bo i hi
    refine ⟨?_, ?_, ?_⟩
    · rw [hpi]; exact ⟨rfl, rfl, rfl⟩
    · rw [hpi]; exact pos0 i hi
    · rw [hpi]
      show 4 ≤ cntO (frD i 4)
      rw [cnt0]
      exact Nat.le_refl _
  · show 3 ≤ mJ (memG a.pb 3)
    rw [mJ0]
    exact Nat.le_refl _
theorem j_of (h : Bd w0 W a s s N3 P Q) (hn : s.n = 13) : J w0 W ⟨a, []⟩ P Q (s0 a s) (s0 a s) := by
  have hs := st_of h
  have hq : ∀ i, i < 3 → Q3 W (a.qb i) (a.qr i) (a.qc i) 8 (frD i 4) (plD i 4) := fun i hi => by
    have := h.bo.q i hi
    rw [← ll0] at this
    exact ⟨this, pos0 i hi, by omega⟩
  have hpi : ∀ i, i < 3 → piB a (a.pb i) = piI a i := fun i hi => pi_at h.bo i hi
  refine ⟨hs, ⟨h.bo.blk, h.bo.rp, h.bo.rq, h.bel, fun b hb => absurd hb List.not_mem_nil⟩, ⟨h.bo.m, h.bo.g, KMap.made_at h.bo.hk, fun i hi => ?_⟩, ⟨⟨none, 0, ⟨h.bo.h.blk, ?_, World.ownsRow_nil _ _ _ _, h.bo.w, fun d x hd => ?_, fun d x hd => ?_, by show 0 ≤ 128; omega⟩, fun x hx => by cases hx⟩, fun i hi => ?_⟩⟩
  · show P2 W (a.pb i) (a.fm i) (a.pm i) 8 (piB a (a.pb i)).fr (piB a (a.pb i)).pl (piB a (a.pb i)).c
    rw [hpi i hi]
    exact h.bo.p i hi
  · obtain ⟨cs, m1, m2⟩ := h.bo.h.mem
    refine ⟨cs, m1, fun i j hi hj => ?_⟩
    rw [m2 i j hi hj]
    have : memR a.qb 3 i = fD (memG a.pb 3) (qqOf a) i := by
      unfold memR fD memG
      by_cases h3 : i < 3
      · have := qq_at hs i h3
        rw [if_pos h3, if_pos (by omega)]
        simp only [Int.toNat_natCast, this]
        congr 1
      · rw [if_neg h3, if_neg (by omega)]
    show (memC (memR a.qb 3 i))[j]? = (memC (fD (memG a.pb 3) (qqOf a) i))[j]?
    rw [this]
  · obtain ⟨e, he, rfl, rfl⟩ := memG_some hd
    show Q3 W (qqOf a (a.pb e)).1 (qqOf a (a.pb e)).2.1 (qqOf a (a.pb e)).2.2 (piB a (a.pb e)).size (piB a (a.pb e)).fr (piB a (a.pb e)).pl
    rw [qq_at hs e he, hpi e he]
    exact hq e he
  · obtain ⟨e, he, rfl, rfl⟩ := memG_some hd
    exact ⟨by omega, 4 * e, by simp, by show 4 * e < s.n; omega⟩
  · show Q3 W (a.qb i) (a.qr i) (a.qc i) 8 (piB a (a.pb i)).fr (piB a (a.pb i)).pl
    rw [hpi i hi]
    exact hq i hi
end
/-- An op's cells, as the walk reads them. -/
structure OpCells (w : World) (x : Addr) (o : OpV) : Prop where
  c : ∀ j v, (opC o).toList[j]? = some v → w.cell? (x.add j) = some v
/-- The ops of an argument. -/
structure Ops (w : World) (A : Option Addr) (l : Nat) (os : List OpV) : Prop where
  len : l = os.length
  cells : os = [] ∨ ∃ x, A = some x ∧ x.block < w.heap.size ∧ ∀ i o, os[i]? = some o → OpCells w (x.add (i * 28)) o
  ok : ∀ o ∈ os, OkO w o
theorem OpCells.below {w w' : World} {x : Addr} {o : OpV} (h : OpCells w x o) (hb : Below w.heap.size w w') : OpCells w' x o := ⟨fun j v hv => cell_below hb (h.c j v hv)⟩
theorem wpList_load_op {ops : Array Oper} {rest : List Oper} {op : Oper} {a : Act} {w : World} {Q : Exit → Act → World → Prop} (hgd : op.guard = none) (x : Operand) (ho : op.op = .load 37 x)
    (ad : Addr) (hx : a.eval x = .pointer (some ad)) (o : OpV) (hc : OpCells w ad o)
    (h : wpList Tryz.prog ops Q rest (a.put op.dst (.agg (opC o))) w) : wpList Tryz.prog ops Q (op :: rest) a w := by
  have hl : (loadCells ad (opC o).toList.length).run Tryz.prog w = .ok (opC o).toList.toArray w := run_loadCells_list (P := Tryz.prog) w ad (opC o).toList hc.c
  have hsz : (opC o).toList.length = 28 := rfl
  have hi : (Tryz.prog.info? 37).map (·.size) = some 28 := by kernel_rfl
  have hu := Tryz.underlying37
  rw [hsz, Array.toArray_toList] at hl
  have hlv : (loadVar 37 ad).run Tryz.prog w = .ok (.agg (opC o)) w := by
    have hagg : (isAgg 37).run Tryz.prog w = .ok true w := by
      unfold isAgg
      rw [Sem.run_bind, run_underlying hu w]
      simp
    cases hq : Tryz.prog.info? 37 with
    | none => rw [hq] at hi; cases hi
    | some i =>
      have hs : i.size = 28 := by rw [hq] at hi; simpa using hi
      simp [loadVar, Sem.run_bind, hagg, sizeOf, typeInfo, hq, hs, hl]
  refine wpList_plain hgd fun K hK => ?_
  unfold Oper.wp execOp
  simp only [ho, hx, Instr.loadAt, Instr.sureAddr, Sem.run_bind, Sem.run_pure, Result.andThen_ok, hlv]
  exact hK _ _ h
theorem Ops.at_ {w : World} {A : Option Addr} {l : Nat} {os : List OpV} (h : Ops w A l os) (i : Nat) (hi : i < l) : ∃ x o, A = some x ∧ x.block < w.heap.size ∧ OpCells w (x.add (i * 28)) o ∧ OkO w o := by
  have hl := h.len
  rcases h.cells with h0 | ⟨x, h1, h2, h3⟩
  · rw [h0] at hl
    simp at hl
    omega
  · have hg : os[i]? = some (os[i]'(by omega)) := List.getElem?_eq_getElem (by omega)
    exact ⟨x, _, h1, h2, h3 i _ hg, h.ok _ (List.getElem_mem _)⟩
set_option maxHeartbeats 16000000 in
set_option maxRecDepth 100000 in
theorem law_calls (w : World) (A : Option Addr) (l cap : Nat) (es : List LE) (hA : Ents w A l es) (hl : l ≤ 9223372036854775807) (A2 : Option Addr) (l2 cap2 : Nat) (os : List OpV) (hO : Ops w A2 l2 os) (hl2 : l2 ≤ 9223372036854775807) :
    Calls Tryz.prog 3 #[.slice A l cap, .slice A2 l2 cap2] w fun e w' => e = .returned (.bool true) ∧ Below w.heap.size w w' := by
  have hbg := begin_any w A l cap es hA hl
  unfold BeginAny at hbg
  have HO := Base.Aside.mk hO
  clear hA hO
  go_enter Tryz.func3, Tryz.ntmps3
  go_wp2_with (first
    | (go_at_call 4; (with_reducible refine hbg.mono ?_); rintro z w1 ⟨a, P, Q, s, rfl, hax, hsn, hsf, hbd⟩; have E1 := Base.Aside.mk (And.intro hax (And.intro (st_of hbd) (And.intro (pu_of hbd hsn hsf) (j_of hbd hsn)))); clear hax hsn hsf hbd)
    | go_in)
  go_loopw [7] (fun v wr => ∃ (i : Nat) (W2 : World), i ≤ l2 ∧ v = .int .i64 i ∧ wr = W2 ∧ Base.Aside (∃ σ, Pu a σ ∧ J w W2 ⟨a, []⟩ P Q σ σ)) (fun v _ => l2 - (intOf v).toNat)
  case atStart => exact ⟨0, w1, Nat.zero_le _, rfl, rfl, ⟨⟨_, E1.out.2.2.1, E1.out.2.2.2⟩⟩⟩
  case round => as_aux_lemma =>
    obtain ⟨i, W2, hi, rfl, hwr, hB⟩ := hrel
    obtain rfl := hwr.symm
    obtain ⟨σ, hp, hj⟩ := hB.out
    have hsm := fun W' (h : ∃ σ, Pu a σ ∧ J w W' ⟨a, []⟩ P Q σ σ) => (by
      obtain ⟨σ, hp, hj⟩ := h
      exact (same_both (a := ⟨a, []⟩) E1.out.2.1 hp E1.out.1 hj).mono (R' := fun e w' => e = .returned (.bool true) ∧ ∃ σ, Pu a σ ∧ J w w' ⟨a, []⟩ P Q σ σ) (fun e w' h => ⟨h.1, σ, hp, h.2⟩) : Calls Tryz.prog 6 #[.pointer (some ⟨w.heap.size, 0, none⟩)] W' fun e w' => e = .returned (.bool true) ∧ ∃ σ, Pu a σ ∧ J w w' ⟨a, []⟩ P Q σ σ)
    by_cases hlt : i < l2
    · obtain ⟨x, o, rfl, hx, hoc, hok⟩ := HO.out.at_ i hlt
      have hc2 := hoc.below hj.x.bel
      have hpl : Calls Tryz.prog 5 #[.pointer (some ⟨w.heap.size, 0, none⟩), .agg (opC o)] W2 fun e w' => ∃ σ', Pu a σ' ∧ e = .returned (.bool true) ∧ J w w' ⟨a, []⟩ P Q σ' σ' := play_any (a := ⟨a, []⟩) E1.out.2.1 hp E1.out.1 o hok hj
      generalize hoo : (Value.agg (opC o)) = vo at hpl
      have hco := Base.Aside.mk (And.intro hc2 hoo)
      clear hc2 hok hoc hB hp hj hoo
      have e2 : (0 : Int) ≤ (i : Int) := Int.natCast_nonneg _
      have e3 : (i : Int) < (l2 : Int) := by omega
      go_wp2_with (first
        | (refine wpList_load_op rfl _ rfl (x.add (i * 28)) (by first | rfl | (simp; done)) o hco.out.1 ?_; rw [hco.out.2])
        | (go_at_call 5; (with_reducible refine hpl.mono ?_); rintro z w4 ⟨σ4, hp4, rfl, hj4⟩; have hs4 := hsm w4 ⟨σ4, hp4, hj4⟩; clear hp4 hj4)
        | (go_at_call 6; (with_reducible refine hs4.mono ?_); rintro z w5 ⟨rfl, h5⟩; have E5 := Base.Aside.mk h5; clear h5)
        | go_in)
      exact ⟨⟨i + 1, w5, by omega, by simp, rfl, E5⟩, by simp [intOf]; omega⟩
    · obtain rfl : i = l2 := by omega
      have hs4 := hsm W2 ⟨σ, hp, hj⟩
      clear hp hj hB hsm
      go_wp2_with (first
        | (go_at_call 6; (with_reducible refine hs4.mono ?_); rintro z w5 ⟨rfl, h5⟩; have E5 := Base.Aside.mk h5; clear h5)
        | go_in)
      go_ret
      obtain ⟨σ5, hp5, hj5⟩ := E5.out
      exact ⟨by first | rfl | (simp; done), hj5.x.bel⟩
end Go.Proofs.YthlejchcnfdcpaaGreat.GzY
namespace Go.Proofs.YthlejchcnfdcpaaGreat.GzZ
open Go.ChangeShapes Go.WideShapes Go.ChangeAt Go.RowKit Go.Joins Go.Deep
open GaC (Bytes Holds)
open GmB (okI)
open GfF (En)
open GoB (LE)
open GwB (Pk)
open GwE (Pks PkAt)
open GsG (open_entry leC add0 addS cellE cellI cellB cellU)
open GzM (OpV opC OkO)
open GzY (Ops OpCells)
set_option linter.unusedVariables false
set_option linter.unusedSimpArgs false

section
variable {H : Type} {enc : TypeId × Value → H} {P : Program} {w : World} {base : Nat} {spare : Nat → Bool} {held : Bool}
theorem trod_struct4a {t : TypeId} {f0 f1 f2 f3 : Field} {fuel : Nat} {cs : List Value} {x : DataW H × List MemPlace} (ht : P.underlying t = some (.struct #[f0, f1, f2, f3])) (h : DataW.trod enc P w base spare held fuel t cs = some x) :
    ∃ y0 y1 y2 y3 n, x.1 = .agg [y0.1, y1.1, y2.1, y3.1] ∧ cs.length = P.cellsOf t ∧ DataW.trod enc P w base spare held n f0.type ((cs.drop f0.offset).take (P.cellsOf f0.type)) = some y0 ∧ DataW.trod enc P w base spare held n f1.type ((cs.drop f1.offset).take (P.cellsOf f1.type)) = some y1 ∧ DataW.trod enc P w base spare held n f2.type ((cs.drop f2.offset).take (P.cellsOf f2.type)) = some y2 ∧ DataW.trod enc P w base spare held n f3.type ((cs.drop f3.offset).take (P.cellsOf f3.type)) = some y3 := by
  obtain ⟨xs, n, _, rfl, hl, hlen, hf⟩ := DataW.trod_struct ht h
  match xs, hlen with
  | [y0, y1, y2, y3], _ => exact ⟨y0, y1, y2, y3, n, by simp, hl, by simpa using hf 0 f0 rfl, by simpa using hf 1 f1 rfl, by simpa using hf 2 f2 rfl, by simpa using hf 3 f3 rfl⟩
theorem trod_struct5 {t : TypeId} {f0 f1 f2 f3 f4 : Field} {fuel : Nat} {cs : List Value} {x : DataW H × List MemPlace} (ht : P.underlying t = some (.struct #[f0, f1, f2, f3, f4])) (h : DataW.trod enc P w base spare held fuel t cs = some x) :
    ∃ y0 y1 y2 y3 y4 n, x.1 = .agg [y0.1, y1.1, y2.1, y3.1, y4.1] ∧ cs.length = P.cellsOf t ∧ DataW.trod enc P w base spare held n f0.type ((cs.drop f0.offset).take (P.cellsOf f0.type)) = some y0 ∧ DataW.trod enc P w base spare held n f1.type ((cs.drop f1.offset).take (P.cellsOf f1.type)) = some y1 ∧ DataW.trod enc P w base spare held n f2.type ((cs.drop f2.offset).take (P.cellsOf f2.type)) = some y2 ∧ DataW.trod enc P w base spare held n f3.type ((cs.drop f3.offset).take (P.cellsOf f3.type)) = some y3 ∧ DataW.trod enc P w base spare held n f4.type ((cs.drop f4.offset).take (P.cellsOf f4.type)) = some y4 := by
  obtain ⟨xs, n, _, rfl, hl, hlen, hf⟩ := DataW.trod_struct ht h
  match xs, hlen with
  | [y0, y1, y2, y3, y4], _ => exact ⟨y0, y1, y2, y3, y4, n, by simp, hl, by simpa using hf 0 f0 rfl, by simpa using hf 1 f1 rfl, by simpa using hf 2 f2 rfl, by simpa using hf 3 f3 rfl, by simpa using hf 4 f4 rfl⟩
theorem trod_struct11 {t : TypeId} {f0 f1 f2 f3 f4 f5 f6 f7 f8 f9 f10 : Field} {fuel : Nat} {cs : List Value} {x : DataW H × List MemPlace} (ht : P.underlying t = some (.struct #[f0, f1, f2, f3, f4, f5, f6, f7, f8, f9, f10])) (h : DataW.trod enc P w base spare held fuel t cs = some x) :
    ∃ y0 y1 y2 y3 y4 y5 y6 y7 y8 y9 y10 n, x.1 = .agg [y0.1, y1.1, y2.1, y3.1, y4.1, y5.1, y6.1, y7.1, y8.1, y9.1, y10.1] ∧ cs.length = P.cellsOf t ∧ DataW.trod enc P w base spare held n f0.type ((cs.drop f0.offset).take (P.cellsOf f0.type)) = some y0 ∧ DataW.trod enc P w base spare held n f1.type ((cs.drop f1.offset).take (P.cellsOf f1.type)) = some y1 ∧ DataW.trod enc P w base spare held n f2.type ((cs.drop f2.offset).take (P.cellsOf f2.type)) = some y2 ∧ DataW.trod enc P w base spare held n f3.type ((cs.drop f3.offset).take (P.cellsOf f3.type)) = some y3 ∧ DataW.trod enc P w base spare held n f4.type ((cs.drop f4.offset).take (P.cellsOf f4.type)) = some y4 ∧ DataW.trod enc P w base spare held n f5.type ((cs.drop f5.offset).take (P.cellsOf f5.type)) = some y5 ∧ DataW.trod enc P w base spare held n f6.type ((cs.drop f6.offset).take (P.cellsOf f6.type)) = some y6 ∧ DataW.trod enc P w base spare held n f7.type ((cs.drop f7.offset).take (P.cellsOf f7.type)) = some y7 ∧ DataW.trod enc P w base spare held n f8.type ((cs.drop f8.offset).take (P.cellsOf f8.type)) = some y8 ∧ DataW.trod enc P w base spare held n f9.type ((cs.drop f9.offset).take (P.cellsOf f9.type)) = some y9 ∧ DataW.trod enc P w base spare held n f10.type ((cs.drop f10.offset).take (P.cellsOf f10.type)) = some y10 := by
  obtain ⟨xs, n, _, rfl, hl, hlen, hf⟩ := DataW.trod_struct ht h
  match xs, hlen with
  | [y0, y1, y2, y3, y4, y5, y6, y7, y8, y9, y10], _ => exact ⟨y0, y1, y2, y3, y4, y5, y6, y7, y8, y9, y10, n, by simp, hl, by simpa using hf 0 f0 rfl, by simpa using hf 1 f1 rfl, by simpa using hf 2 f2 rfl, by simpa using hf 3 f3 rfl, by simpa using hf 4 f4 rfl, by simpa using hf 5 f5 rfl, by simpa using hf 6 f6 rfl, by simpa using hf 7 f7 rfl, by simpa using hf 8 f8 rfl, by simpa using hf 9 f9 rfl, by simpa using hf 10 f10 rfl⟩
end
theorem cellN : Tryz.prog.cellsOf 29 = 5 := by kernel_rfl
theorem cellP : Tryz.prog.cellsOf 146 = 4 := by kernel_rfl
theorem cellO : Tryz.prog.cellsOf 37 = 28 := by kernel_rfl
theorem cellL : Tryz.prog.cellsOf 30 = 1 := by kernel_rfl
theorem cellK : Tryz.prog.cellsOf 35 = 1 := by kernel_rfl
theorem bytesU : Tryz.prog.bytesOf 5 = 1 := by kernel_rfl
instance : Inhabited Pk := ⟨⟨0, 0, 0, []⟩⟩
instance : Inhabited OpV := ⟨⟨0, 0, 0, 0, 0, false, ⟨false, 0, 0, 0, 0⟩, ⟨false, 0, 0, 0, 0⟩, none, 0, [], default, none, 0, []⟩⟩
theorem wf_i64 {x : Int} (h : (Lit.int .i64 x).wf = true) : okI x := by
  have h1 : IntKind.i64.min = -9223372036854775808 := rfl
  have h2 : IntKind.i64.max = 9223372036854775807 := rfl
  simp [Lit.wf] at h
  unfold okI
  omega
theorem wf_u8 {x : Int} (h : (Lit.int .u8 x).wf = true) : 0 ≤ x ∧ x < 256 := by
  have h1 : IntKind.u8.min = 0 := rfl
  have h2 : IntKind.u8.max = 255 := rfl
  simp [Lit.wf] at h
  omega
section
variable {H : Type}
/-- No part weighs more than an argument may. -/
def Sz (t : TypeId) (d : DataW H) : Prop := ∀ n ∈ d.weights Tryz.prog t, n ≤ reachBytes
theorem all_mem {e : TypeId} : ∀ {l : List (DataW H)} {d : DataW H}, d ∈ l → ∀ n ∈ d.weights Tryz.prog e, n ∈ DataW.weightsAll Tryz.prog e l
  | x :: r, d, hd, n, hn => by
    simp only [DataW.weightsAll, List.mem_append]
    rcases List.mem_cons.1 hd with rfl | h
    · exact .inl hn
    · exact .inr (all_mem h n hn)
  | [], _, hd, _, _ => absurd hd List.not_mem_nil
theorem sz_slice {t e : TypeId} {el sp : List (DataW H)} (hu : Tryz.prog.underlying t = some (.slice e)) (h : Sz t (.slice el sp)) : el.length * Tryz.prog.bytesOf e ≤ reachBytes ∧ ∀ d ∈ el, Sz e d := by
  have h1 : ∀ n ∈ ((el.length + sp.length) * Tryz.prog.bytesOf e :: (DataW.weightsAll Tryz.prog e el ++ DataW.weightsAll Tryz.prog e sp)), n ≤ reachBytes := by
    have := h
    unfold Sz at this
    simp only [DataW.weights, hu] at this
    exact this
  refine ⟨?_, fun d hd n hn => h1 n (List.mem_cons_of_mem _ (List.mem_append.2 (.inl (all_mem hd n hn))))⟩
  have h2 := h1 _ List.mem_cons_self
  rw [Nat.add_mul] at h2
  omega
theorem sz_part {t f : TypeId} {fs : Array Field} {j : Nat} {ds : List (DataW H)} {d : DataW H} (hu : Tryz.prog.underlying t = some (.struct fs)) (h : Sz t (.agg ds)) (hf : (fs.toList.map (·.type))[j]? = some f) (hd : ds[j]? = some d) : Sz f d := by
  intro n hn
  refine h n ?_
  simp only [DataW.weights, hu]
  exact DataW.weights_mem_each hf hd n hn
end
section
variable {H : Type} {enc : TypeId × Value → H} {W : World} {base : Nat} {spare : Nat → Bool} {held : Bool} {n : Nat} {cs : List Value} {y : DataW H × List MemPlace}
theorem range_get {α : Type} {len : Nat} {q : Nat → α} {i : Nat} {p : α} (hi : ((List.range len).map q)[i]? = some p) : i < len ∧ q i = p := by
  rw [List.getElem?_map] at hi
  obtain ⟨j', hj', rfl⟩ := Option.map_eq_some_iff.1 hi
  obtain ⟨hlt, hval⟩ := List.getElem?_eq_some_iff.1 hj'
  rw [List.getElem_range] at hval
  subst hval
  exact ⟨by simpa using hlt, rfl⟩
set_option maxRecDepth 100000 in
theorem open_bytes (h : DataW.trod enc Tryz.prog W base spare held n 30 cs = some y) (hz : Sz 30 y.1) :
    ∃ (A : Option Addr) (c : Nat) (zs : List UInt8), cs = [.slice A zs.length c] ∧ Bytes W A zs ∧ (zs ≠ [] → ∀ x, A = some x → x.block < W.heap.size) ∧ zs.length ≤ 140737488355328 := by
  rcases open_slice1 Tryz.underlying30 cellU h with ⟨hcs, _⟩ | ⟨a, len, cap, m, n', V, D, Pl, hcs, hb, hl, hm, hmm, hx, hel⟩
  · exact ⟨none, 0, [], hcs, .inl rfl, fun h => absurd rfl h, by simp⟩
  · have hlm : len ≤ m := by rw [hmm]; split <;> omega
    rw [hx] at hz
    have hz1 := (sz_slice Tryz.underlying30 hz).1
    rw [bytesU] at hz1
    simp only [List.length_map, List.length_range] at hz1
    have hrb : reachBytes = 140737488351232 := rfl
    obtain ⟨q, hq⟩ := choose_lt (n := len) (p := fun i (u : UInt8) => W.cell? (a.add i) = some (.int .u8 (u.toNat : Int))) (fun i hi => by
      obtain ⟨h1, h2⟩ := hel i (by omega)
      obtain ⟨k, e0, _, hw⟩ := DataW.trod_int Tryz.underlying5 h2
      have e1 := (List.cons.inj e0).1
      obtain ⟨w1, w2⟩ := wf_u8 hw
      refine ⟨UInt8.ofNat k.toNat, ?_⟩
      rw [h1, e1]
      have : ((UInt8.ofNat k.toNat).toNat : Int) = k := by
        rw [UInt8.toNat_ofNat']
        omega
      rw [this])
    have hlen : ((List.range len).map q).length = len := by simp
    have hlt : 0 < len → a.block < W.heap.size := fun h0 => by
      have := World.block_lt_of_cell? W _ (hq 0 h0)
      rwa [show (a.add 0).block = a.block by unfold Addr.add; split <;> rfl] at this
    refine ⟨some a, cap, (List.range len).map q, by rw [hlen]; exact hcs, ?_, fun h0 x hx => ?_, by rw [hlen]; omega⟩
    · by_cases h0 : len = 0
      · subst h0
        exact .inl rfl
      · refine .inr ⟨a, rfl, hlt (by omega), fun j hj => ?_⟩
        rw [hlen] at hj
        rw [List.getElem_map, List.getElem_range]
        exact hq j hj
    · injection hx with hx
      subst hx
      refine hlt (Nat.pos_of_ne_zero fun h1 => h0 ?_)
      rw [h1]
      rfl
set_option maxRecDepth 100000 in
theorem open_end (h : DataW.trod enc Tryz.prog W base spare held n 29 cs = some y) : ∃ t : En, okI t.dom ∧ cs = [.bool t.gr, .int .i64 t.dom, .int .i64 t.ref, .int .i64 t.gpfn, .int .i64 t.off] := by
  obtain ⟨y0, y1, y2, y3, y4, k, hy, hl, g0, g1, g2, g3, g4⟩ := trod_struct5 Tryz.underlying29 h
  rw [cellN] at hl
  match cs, hl with
  | [v0, v1, v2, v3, v4], _ =>
    have q0 : DataW.trod enc Tryz.prog W base spare held k 4 [v0] = some y0 := by simpa [cellI, cellB, cellU, cellN, cellE, cellP, cellL, cellK] using g0
    have q1 : DataW.trod enc Tryz.prog W base spare held k 3 [v1] = some y1 := by simpa [cellI, cellB, cellU, cellN, cellE, cellP, cellL, cellK] using g1
    have q2 : DataW.trod enc Tryz.prog W base spare held k 3 [v2] = some y2 := by simpa [cellI, cellB, cellU, cellN, cellE, cellP, cellL, cellK] using g2
    have q3 : DataW.trod enc Tryz.prog W base spare held k 3 [v3] = some y3 := by simpa [cellI, cellB, cellU, cellN, cellE, cellP, cellL, cellK] using g3
    have q4 : DataW.trod enc Tryz.prog W base spare held k 3 [v4] = some y4 := by simpa [cellI, cellB, cellU, cellN, cellE, cellP, cellL, cellK] using g4
    clear g0 g1 g2 g3 g4
    obtain ⟨x0, e0, _⟩ := DataW.trod_bool Tryz.underlying4 q0
    obtain rfl := (List.cons.inj e0).1
    obtain ⟨x1, e1, _, w1⟩ := DataW.trod_int Tryz.underlying3 q1
    obtain rfl := (List.cons.inj e1).1
    obtain ⟨x2, e2, _, w2⟩ := DataW.trod_int Tryz.underlying3 q2
    obtain rfl := (List.cons.inj e2).1
    obtain ⟨x3, e3, _, w3⟩ := DataW.trod_int Tryz.underlying3 q3
    obtain rfl := (List.cons.inj e3).1
    obtain ⟨x4, e4, _, w4⟩ := DataW.trod_int Tryz.underlying3 q4
    obtain rfl := (List.cons.inj e4).1
    exact ⟨⟨x0, x1, x2, x3, x4⟩, wf_i64 w1, rfl⟩
set_option maxRecDepth 100000 in
theorem open_poke (h : DataW.trod enc Tryz.prog W base spare held n 146 cs = some y) (hz : Sz 146 y.1) : ∃ p : Pk, (∃ A c, cs = [.int .i64 p.at_, .int .i64 p.mfn, .int .i64 p.off, .slice A p.zs.length c] ∧ Bytes W A p.zs) ∧ (-9223372036854775808 ≤ p.at_ ∧ p.at_ ≤ 9223372036854775807 ∧ p.zs.length ≤ 140737488355328) := by
  obtain ⟨y0, y1, y2, y3, k, hy, hl, g0, g1, g2, g3⟩ := trod_struct4a Tryz.underlying146 h
  rw [cellP] at hl
  match cs, hl with
  | [v0, v1, v2, v3], _ =>
    have q0 : DataW.trod enc Tryz.prog W base spare held k 3 [v0] = some y0 := by simpa [cellI, cellB, cellU, cellN, cellE, cellP, cellL, cellK] using g0
    have q1 : DataW.trod enc Tryz.prog W base spare held k 3 [v1] = some y1 := by simpa [cellI, cellB, cellU, cellN, cellE, cellP, cellL, cellK] using g1
    have q2 : DataW.trod enc Tryz.prog W base spare held k 3 [v2] = some y2 := by simpa [cellI, cellB, cellU, cellN, cellE, cellP, cellL, cellK] using g2
    have q3 : DataW.trod enc Tryz.prog W base spare held k 30 [v3] = some y3 := by simpa [cellI, cellB, cellU, cellN, cellE, cellP, cellL, cellK] using g3
    clear g0 g1 g2 g3
    obtain ⟨x0, e0, _, w0⟩ := DataW.trod_int Tryz.underlying3 q0
    obtain rfl := (List.cons.inj e0).1
    obtain ⟨x1, e1, _, w1⟩ := DataW.trod_int Tryz.underlying3 q1
    obtain rfl := (List.cons.inj e1).1
    obtain ⟨x2, e2, _, w2⟩ := DataW.trod_int Tryz.underlying3 q2
    obtain rfl := (List.cons.inj e2).1
    rw [hy] at hz
    obtain ⟨A, c, zs, e3, b1, b2, b3⟩ := open_bytes q3 (sz_part Tryz.underlying146 hz (j := 3) rfl rfl)
    obtain rfl := (List.cons.inj e3).1
    obtain ⟨o1, o2⟩ := wf_i64 w0
    exact ⟨⟨x0, x1, x2, zs⟩, ⟨A, c, rfl, b1⟩, o1, o2, b3⟩
set_option maxRecDepth 100000 in
theorem open_pokes (h : DataW.trod enc Tryz.prog W base spare held n 35 cs = some y) (hz : Sz 35 y.1) :
    ∃ (A : Option Addr) (c : Nat) (ps : List Pk), cs = [.slice A ps.length c] ∧ Pks W A ps := by
  rcases open_slice Tryz.underlying35 h with ⟨hcs, _⟩ | ⟨a, len, cap, m, n', D, Pl, hcs, hb, hl, hm, hmm, hx, hel⟩
  · exact ⟨none, 0, [], hcs, .inl rfl⟩
  · have hlm : len ≤ m := by rw [hmm]; split <;> omega
    rw [hx] at hz
    have hz1 := (sz_slice Tryz.underlying35 hz).2
    obtain ⟨q, hq⟩ := choose_lt (n := len) (p := fun i (p : Pk) => PkAt W (a.add (i * 4)) p) (fun i hi => by
      obtain ⟨cs', h1, h2⟩ := hel i (by omega)
      rw [cellP] at h1
      obtain ⟨_, hlen, hcell⟩ := World.cells?_some h1
      obtain ⟨p, ⟨A, c, hp, hb2⟩, ho⟩ := open_poke h2 (hz1 (D i) (List.mem_map.2 ⟨i, List.mem_range.2 hi, rfl⟩))
      subst hp
      have c0 := hcell 0 (by simp)
      have c1 := hcell 1 (by simp)
      have c2 := hcell 2 (by simp)
      have c3 := hcell 3 (by simp)
      rw [add0] at c0
      rw [addS _ _ (by decide)] at c1 c2 c3
      exact ⟨p, by simpa using c0, by simpa using c1, by simpa using c2, ⟨A, c, by simpa using c3, hb2⟩, ho⟩)
    have hlen : ((List.range len).map q).length = len := by simp
    refine ⟨some a, cap, (List.range len).map q, by rw [hlen]; exact hcs, ?_⟩
    by_cases h0 : len = 0
    · subst h0
      exact .inl rfl
    · refine .inr ⟨a, rfl, ?_, fun i p hi => ?_⟩
      · have := World.block_lt_of_cell? W _ (hq 0 (by omega)).c0
        rwa [show (a.add (0 * 4)).block = a.block by unfold Addr.add; split <;> rfl] at this
      · obtain ⟨h1, rfl⟩ := range_get hi
        exact hq i h1
set_option maxRecDepth 100000 in
theorem open_op (h : DataW.trod enc Tryz.prog W base spare held n 37 cs = some y) (hz : Sz 37 y.1) : ∃ o : OpV, cs = (opC o).toList ∧ OkO W o := by
  obtain ⟨y0, y1, y2, y3, y4, y5, y6, y7, y8, y9, y10, k, hy, hl, g0, g1, g2, g3, g4, g5, g6, g7, g8, g9, g10⟩ := trod_struct11 Tryz.underlying37 h
  rw [cellO] at hl
  match cs, hl with
  | [v0, v1, v2, v3, v4, v5, v6, v7, v8, v9, v10, v11, v12, v13, v14, v15, v16, v17, v18, v19, v20, v21, v22, v23, v24, v25, v26, v27], _ =>
    have q0 : DataW.trod enc Tryz.prog W base spare held k 3 [v0] = some y0 := by simpa [cellI, cellB, cellU, cellN, cellE, cellP, cellL, cellK] using g0
    have q1 : DataW.trod enc Tryz.prog W base spare held k 3 [v1] = some y1 := by simpa [cellI, cellB, cellU, cellN, cellE, cellP, cellL, cellK] using g1
    have q2 : DataW.trod enc Tryz.prog W base spare held k 3 [v2] = some y2 := by simpa [cellI, cellB, cellU, cellN, cellE, cellP, cellL, cellK] using g2
    have q3 : DataW.trod enc Tryz.prog W base spare held k 3 [v3] = some y3 := by simpa [cellI, cellB, cellU, cellN, cellE, cellP, cellL, cellK] using g3
    have q4 : DataW.trod enc Tryz.prog W base spare held k 3 [v4] = some y4 := by simpa [cellI, cellB, cellU, cellN, cellE, cellP, cellL, cellK] using g4
    have q5 : DataW.trod enc Tryz.prog W base spare held k 4 [v5] = some y5 := by simpa [cellI, cellB, cellU, cellN, cellE, cellP, cellL, cellK] using g5
    have q6 : DataW.trod enc Tryz.prog W base spare held k 29 [v6, v7, v8, v9, v10] = some y6 := by simpa [cellI, cellB, cellU, cellN, cellE, cellP, cellL, cellK] using g6
    have q7 : DataW.trod enc Tryz.prog W base spare held k 29 [v11, v12, v13, v14, v15] = some y7 := by simpa [cellI, cellB, cellU, cellN, cellE, cellP, cellL, cellK] using g7
    have q8 : DataW.trod enc Tryz.prog W base spare held k 30 [v16] = some y8 := by simpa [cellI, cellB, cellU, cellN, cellE, cellP, cellL, cellK] using g8
    have q9 : DataW.trod enc Tryz.prog W base spare held k 34 [v17, v18, v19, v20, v21, v22, v23, v24, v25, v26] = some y9 := by simpa [cellI, cellB, cellU, cellN, cellE, cellP, cellL, cellK] using g9
    have q10 : DataW.trod enc Tryz.prog W base spare held k 35 [v27] = some y10 := by simpa [cellI, cellB, cellU, cellN, cellE, cellP, cellL, cellK] using g10
    clear g0 g1 g2 g3 g4 g5 g6 g7 g8 g9 g10
    obtain ⟨x0, e0, _, w0⟩ := DataW.trod_int Tryz.underlying3 q0
    obtain rfl := (List.cons.inj e0).1
    obtain ⟨x1, e1, _, w1⟩ := DataW.trod_int Tryz.underlying3 q1
    obtain rfl := (List.cons.inj e1).1
    obtain ⟨x2, e2, _, w2⟩ := DataW.trod_int Tryz.underlying3 q2
    obtain rfl := (List.cons.inj e2).1
    obtain ⟨x3, e3, _, w3⟩ := DataW.trod_int Tryz.underlying3 q3
    obtain rfl := (List.cons.inj e3).1
    obtain ⟨x4, e4, _, w4⟩ := DataW.trod_int Tryz.underlying3 q4
    obtain rfl := (List.cons.inj e4).1
    obtain ⟨x5, e5, _⟩ := DataW.trod_bool Tryz.underlying4 q5
    obtain rfl := (List.cons.inj e5).1
    rw [hy] at hz
    obtain ⟨ef, o6, e6⟩ := open_end q6
    obtain ⟨et, o7, e7⟩ := open_end q7
    obtain ⟨A, c, zs, e8, b1, b2, b3⟩ := open_bytes q8 (sz_part Tryz.underlying37 hz (j := 8) rfl rfl)
    obtain ⟨e, e9⟩ := open_entry q9
    obtain ⟨pA, pc, ps, e10, p1⟩ := open_pokes q10 (sz_part Tryz.underlying37 hz (j := 10) rfl rfl)
    unfold leC at e9
    simp only [List.cons.injEq, and_true] at e6 e7 e8 e9 e10
    obtain ⟨rfl, rfl, rfl, rfl, rfl⟩ := e6
    obtain ⟨rfl, rfl, rfl, rfl, rfl⟩ := e7
    obtain rfl := e8
    obtain ⟨rfl, rfl, rfl, rfl, rfl, rfl, rfl, rfl, rfl, rfl⟩ := e9
    obtain rfl := e10
    exact ⟨⟨x0, x1, x2, x3, x4, x5, ef, et, A, c, zs, e, pA, pc, ps⟩, rfl, ⟨wf_i64 w1, wf_i64 w2, wf_i64 w3, wf_i64 w4, o6, o7⟩, b1, b2, b3, p1⟩
set_option maxRecDepth 100000 in
theorem open_ops (h : DataW.trod enc Tryz.prog W base spare held n 23 cs = some y) (hz : Sz 23 y.1) :
    ∃ (A : Option Addr) (l c : Nat) (os : List OpV), cs = [.slice A l c] ∧ l ≤ 9223372036854775807 ∧ Ops W A l os := by
  rcases open_slice Tryz.underlying23 h with ⟨hcs, _⟩ | ⟨a, len, cap, m, n', D, Pl, hcs, hb, hl, hm, hmm, hx, hel⟩
  · exact ⟨none, 0, 0, [], hcs, by omega, rfl, .inl rfl, fun o ho => absurd ho List.not_mem_nil⟩
  · have hlm : len ≤ m := by rw [hmm]; split <;> omega
    rw [hx] at hz
    have hz1 := (sz_slice Tryz.underlying23 hz).2
    obtain ⟨q, hq⟩ := choose_lt (n := len) (p := fun i (o : OpV) => OpCells W (a.add (i * 28)) o ∧ OkO W o) (fun i hi => by
      obtain ⟨cs', h1, h2⟩ := hel i (by omega)
      rw [cellO] at h1
      obtain ⟨_, hlen, hcell⟩ := World.cells?_some h1
      obtain ⟨o, ho, hok⟩ := open_op h2 (hz1 (D i) (List.mem_map.2 ⟨i, List.mem_range.2 hi, rfl⟩))
      subst ho
      refine ⟨o, ⟨fun j v hv => ?_⟩, hok⟩
      rw [← hv]
      exact hcell j (List.getElem?_eq_some_iff.1 hv).1)
    have hmax : maxLen ≤ 9223372036854775807 := by unfold maxLen; omega
    refine ⟨some a, len, cap, (List.range len).map q, hcs, by omega, by simp, ?_, fun o ho => ?_⟩
    · by_cases h0 : len = 0
      · subst h0
        exact .inl rfl
      · refine .inr ⟨a, rfl, ?_, fun i p hi => ?_⟩
        · have := World.block_lt_of_cell? W _ ((hq 0 (by omega)).1.c 0 _ rfl)
          rwa [show ((a.add (0 * 28)).add 0).block = a.block by unfold Addr.add; repeat' split <;> rfl] at this
        · obtain ⟨h1, rfl⟩ := range_get hi
          exact (hq i h1).1
    · obtain ⟨i, hi, rfl⟩ := List.mem_map.1 ho
      exact (hq i (List.mem_range.1 hi)).2
end
end Go.Proofs.YthlejchcnfdcpaaGreat.GzZ
