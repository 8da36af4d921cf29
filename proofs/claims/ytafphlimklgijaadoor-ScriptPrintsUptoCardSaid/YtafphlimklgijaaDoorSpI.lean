/- Proved: acts as text: the program's line of an act is the document's, or both refuse it alike, for every act; a tied card of the second form: the conditions are that what is read is of bulk at most 1048576, and that the five listed tables of Go's own library hold their data when the call begins, which the card ties to the program's text. -/
import Derived.Test.YtafphlimklgijaaDoorSpH
import Derived.Test.YtafphlimklgijaaDoorCards
import Derived.Test.YtafphlimklgijaaDoorTie
import Derived.WalkKit
import Derived.ProofKit
import Derived.OpenShut
import Derived.ChangeOld
import Derived.Below
import Derived.SizedLaws
import Derived.Lib.SmallJoins
import Derived.JoinedCond
import Derived.Deep.DeepHandedRow
import Derived.SevenTiedAt
import Derived.Lay
import Derived.LaidLaws
import Derived.LaidMore
import Derived.Stop.Joined
namespace Go.Proofs.YtafphlimklgijaaDoor.scriptPrints
open Go.ChangeShapes Go.WideShapes Go.ChangeAt Go.RowKit Go.Joins
set_option linter.unusedVariables false
theorem own : ownKnob Tryd.prog.godebug = none := by kernel_rfl
theorem laidOut : laidOutB Tryd.prog = true := by kernel_rfl

theorem bulk_pos {H : Type} (d : DataW H) : 1 ≤ Rows.uptoBulk d := by
  cases d with
  | lit l => cases l <;> simp [Rows.uptoBulk]
  | _ => simp [Rows.uptoBulk]
theorem bulk_len {H : Type} (l : List (DataW H)) : l.length ≤ Rows.uptoBulkAll l := by
  induction l with
  | nil => simp [Rows.uptoBulkAll]
  | cons x r ih => have := bulk_pos x; simp only [Rows.uptoBulkAll, List.length_cons]; omega

theorem laidMet_tail {P : Program} {w : World} {x : String × DataW Unit} {l : List (String × DataW Unit)} (h : laidMet P (x :: l) w) : laidMet P l w := by
  obtain ⟨ps, ⟨g, t, cs, fuel, p, q, h1, h2, h3, h4, h5, rfl⟩, hn, hc⟩ := h
  exact ⟨q, h5, (List.nodup_append.1 hn).2.1, fun b off hm => hc b off (List.mem_append_right _ hm)⟩
set_option maxRecDepth 100000 in
theorem pow_of {W : World} (h : laidMetH Tryd.prog Rows.scriptPrintsUptoRow.laid W) : SpA.Pow W := by
  have h1 : laidMet Tryd.prog Rows.scriptPrintsUptoRow.laid W := h
  have h3 := laidMet_tail (laidMet_tail h1)
  exact Lib.tabIs_of_head (t := 89) (e := 68) (n := 20) (k := .u64) (zs := Lib.pow10Tab) (show Tryd.prog.globalNamed "internal/strconv.uint64pow10" = some 2 by kernel_rfl) (by kernel_rfl) Tryd.underlying89 Tryd.underlying68 (by kernel_rfl) (by kernel_rfl) h3
set_option maxRecDepth 100000 in
theorem asc_of {W : World} (h : laidMetH Tryd.prog Rows.scriptPrintsUptoRow.laid W) : SpB.Asc W := by
  have h1 : laidMet Tryd.prog Rows.scriptPrintsUptoRow.laid W := h
  have h3 := laidMet_tail (laidMet_tail (laidMet_tail (laidMet_tail h1)))
  exact Lib.tabIs_of_head (t := 56) (e := 5) (n := 256) (k := .u8) (zs := Lib.asciiSpaceTab) (show Tryd.prog.globalNamed "strings.asciiSpace" = some 0 by kernel_rfl) (by kernel_rfl) Tryd.underlying56 Tryd.underlying5 (by kernel_rfl) (by kernel_rfl) h3
theorem bulk_mem {H : Type} {d : DataW H} {l : List (DataW H)} (h : d ∈ l) : Rows.uptoBulk d ≤ Rows.uptoBulkAll l := by
  induction l with
  | nil => cases h
  | cons x r ih =>
    simp only [Rows.uptoBulkAll]
    cases List.mem_cons.1 h with
    | inl e => subst e; omega
    | inr e => have := ih e; omega
theorem long_le {H : Type} {d : DataW H} {l : Nat} (h : SpH.Long d l) : l ≤ Rows.uptoBulk d := by
  rcases h with h | ⟨e, s, rfl, h2⟩
  · omega
  · have := bulk_len e
    simp only [Rows.uptoBulk]
    omega
set_option maxRecDepth 100000 in
theorem open_act {H : Type} {enc : TypeId × Value → H} {W : World} {base : Nat} {spare : Nat → Bool} {held : Bool} {n : Nat} {cs : List Value} {y : DataW H × List MemPlace} (h : DataW.trod enc Tryd.prog W base spare held n 25 cs = some y) (hb : Rows.uptoBulk y.1 ≤ 1048576) :
    ∃ (what d a b c : Int) (T : ByteArray) (A : Option Addr) (l cc : Nat) (zs : List UInt8) (PA : Option Addr) (pl pc : Nat) (ps : List SpP.Pk), cs = [.int .i64 what, .int .i64 d, .int .i64 a, .int .i64 b, .int .i64 c, .string T, .slice A l cc, .slice PA pl pc] ∧
      l = zs.length ∧ SpA.Data W A zs ∧ SpD.Pks W PA pl ps ∧ l ≤ 1048576 ∧ pl ≤ 1048576 ∧ T.size ≤ 1048576 := by
  obtain ⟨xs, j, _, hy, hlen, hxl, hf⟩ := DataW.trod_struct Tryd.underlying25 h
  have hl8 : cs.length = 8 := hlen.trans (by kernel_rfl)
  match xs, (show xs.length = 8 from hxl) with
  | [y0, y1, y2, y3, y4, y5, y6, y7], _ =>
    match cs, hl8 with
    | [v0, v1, v2, v3, v4, v5, v6, v7], _ =>
      have g0 : DataW.trod enc Tryd.prog W base spare held j 3 [v0] = some y0 := by simpa [SpH.cell3] using hf 0 _ rfl
      have g1 : DataW.trod enc Tryd.prog W base spare held j 3 [v1] = some y1 := by simpa [SpH.cell3] using hf 1 _ rfl
      have g2 : DataW.trod enc Tryd.prog W base spare held j 3 [v2] = some y2 := by simpa [SpH.cell3] using hf 2 _ rfl
      have g3 : DataW.trod enc Tryd.prog W base spare held j 3 [v3] = some y3 := by simpa [SpH.cell3] using hf 3 _ rfl
      have g4 : DataW.trod enc Tryd.prog W base spare held j 3 [v4] = some y4 := by simpa [SpH.cell3] using hf 4 _ rfl
      have g5 : DataW.trod enc Tryd.prog W base spare held j 9 [v5] = some y5 := by simpa [SpH.cellT] using hf 5 _ rfl
      have g6 : DataW.trod enc Tryd.prog W base spare held j 22 [v6] = some y6 := by simpa [SpH.cellS] using hf 6 _ rfl
      have g7 : DataW.trod enc Tryd.prog W base spare held j 23 [v7] = some y7 := by simpa [SpH.cellPs] using hf 7 _ rfl
      obtain ⟨x0, e0, _, _⟩ := DataW.trod_int Tryd.underlying3 g0
      obtain ⟨x1, e1, _, _⟩ := DataW.trod_int Tryd.underlying3 g1
      obtain ⟨x2, e2, _, _⟩ := DataW.trod_int Tryd.underlying3 g2
      obtain ⟨x3, e3, _, _⟩ := DataW.trod_int Tryd.underlying3 g3
      obtain ⟨x4, e4, _, _⟩ := DataW.trod_int Tryd.underlying3 g4
      obtain ⟨T, e5, r5, _⟩ := DataW.trod_string Tryd.underlying9 g5
      obtain ⟨A, l, c, zs, e6, hz, hd, hL⟩ := SpH.open_bytes g6
      obtain ⟨PA, pl, pc, ps, e7, hpl, hpc, hpd, hpb⟩ := SpH.open_pokes g7
      obtain rfl := (List.cons.inj e0).1
      obtain rfl := (List.cons.inj e1).1
      obtain rfl := (List.cons.inj e2).1
      obtain rfl := (List.cons.inj e3).1
      obtain rfl := (List.cons.inj e4).1
      obtain rfl := (List.cons.inj e5).1
      obtain rfl := (List.cons.inj e6).1
      obtain rfl := (List.cons.inj e7).1
      have hall : Rows.uptoBulkAll [y0.1, y1.1, y2.1, y3.1, y4.1, y5.1, y6.1, y7.1] ≤ 1048576 := by
        have hb2 := hb
        rw [hy] at hb2
        simp only [List.map_cons, List.map_nil, Rows.uptoBulk] at hb2
        omega
      have b5 := Nat.le_trans (bulk_mem (d := y5.1) (by simp)) hall
      have b6 := Nat.le_trans (bulk_mem (d := y6.1) (by simp)) hall
      have b7 := Nat.le_trans (bulk_mem (d := y7.1) (by simp)) hall
      have t5 : T.size ≤ 1048576 := by
        rw [r5] at b5
        simp only [Rows.uptoBulk] at b5
        have e : T.data.toList.length = T.size := by rw [Array.length_toList]; rfl
        omega
      have t6 := Nat.le_trans (long_le hL) b6
      have t7 : pl ≤ 1048576 := by
        rcases hpb with h | ⟨e, s, h1, h2, _⟩
        · rw [hpl, h]
          simp
        · exact Nat.le_trans (long_le (.inr ⟨e, s, h1, h2⟩)) b7
      refine ⟨x0, x1, x2, x3, x4, T, A, l, c, zs, PA, pl, pc, ps, rfl, hz, hd, ⟨hpl, hpc, fun p hp => ⟨(hpd p hp).1, ?_, (hpd p hp).2⟩⟩, t6, t7, t5⟩
      rcases hpb with h | ⟨e, s, h1, h2, h3⟩
      · rw [h] at hp
        cases hp
      · obtain ⟨i, hi⟩ := List.getElem?_of_mem hp
        obtain ⟨d, hd1, d0, d1, d2, d3, hd2, hd3⟩ := h3 i p hi
        have c1 := bulk_mem (List.mem_of_getElem? hd1)
        have c2 := long_le hd3
        rw [hd2] at c1
        have c3 := bulk_mem (d := d3) (l := [d0, d1, d2, d3]) (by simp)
        rw [h1] at b7
        simp only [Rows.uptoBulk] at b7 c1
        omega
set_option maxRecDepth 100000 in
theorem contract (H : Type) (enc : TypeId × Value → H) (W : World) (base : Nat) (args : Array Value) (ds gs : List (DataW H)) (before : List MemPlace)
    (hval0 : ∀ (j : Nat) t v, Tryd.f3.params[j]? = some t → args[j]? = some v → Value.okWide Tryd.prog W .any base t v)
    (hW : DataW.Whole enc Tryd.prog Tryd.f3.params.toList Rows.scriptPrintsSpec.vars false W args.toList ds gs before)
    (hk : Rows.uptoSmall H (ds ++ gs) = true) (hL : laidMetH Tryd.prog Rows.scriptPrintsUptoRow.laid W) :
    Calls Tryd.prog 3 args W fun e W' => ∃ v, e = .returned v ∧ Rows.scriptPrintsSpec.post enc Tryd.prog Tryd.f3 false true false false W args v W' := by
  have hval := hval0
  have hW' := hW
  obtain ⟨p, q, hA0, hV, rfl, hfz, hnd⟩ := hW
  have hA : DataW.TrodAll enc Tryd.prog W 0 (fun _ => true) true Tryd.f3.params.toList args.toList ds p := hA0
  rw [Tryd.params3] at hA hval
  obtain ⟨v0, vs0, d0, ds0, p0, q0, hargs, rfl, rfl, h0, r0⟩ := trodAll_cons hA
  obtain ⟨rfl, rfl, rfl⟩ := trodAll_nil r0
  obtain rfl : args = #[v0] := by cases args; simp_all
  obtain ⟨rfl, rfl⟩ := trodVars_none hV
  have k0 := h0
  have lt0 : ∀ x ∈ p0, x.block < W.heap.size := by obtain ⟨m, hm⟩ := k0; exact DataW.trod_lt m _ _ _ hm
  have hv0 := hval 0 25 v0 rfl rfl
  have bridge : (Calls Tryd.prog 3 #[v0] W fun e w' => e = .returned (.bool true) ∧ Below W.heap.size W w') → Calls Tryd.prog 3 #[v0] W fun e W' => ∃ v, e = .returned v ∧ Rows.scriptPrintsSpec.post enc Tryd.prog Tryd.f3 false true false false W #[v0] v W' := by
    intro hc
    refine hc.mono fun e W' ⟨he, bel⟩ => ?_
    subst he
    exact ⟨_, rfl, _, _, _, [], _, [], hW', trodAll_mk1 (shut_bool Tryd.underlying4 _), (trodAll_cons_mk (Below.trod laidOut (by kernel_rfl) (of_decide_eq_true (by kernel_rfl)) k0 bel lt0) trodAll_mk0), rfl, bel.frame _, fun h => by cases h⟩
  refine bridge ?_
  clear bridge hW' hV hA0 hval0 hval hargs
  obtain ⟨cs, hcs, _⟩ := okWide_struct Tryd.underlying25 hv0
  subst hcs
  obtain ⟨fuel, hf⟩ := h0
  have hbk : Rows.uptoBulk d0 ≤ 1048576 := by
    have hk2 : Rows.uptoBulkAll [d0] ≤ 1048576 := of_decide_eq_true hk
    simp only [Rows.uptoBulkAll] at hk2
    omega
  obtain ⟨what, d, a, b, c, T, A, l, cc, zs, PA, pl, pc, ps, hcells, hz, hd, hps, hl, hpl, hT⟩ := open_act hf hbk
  obtain ⟨cl⟩ := cs
  have hcl : cl = [.int .i64 what, .int .i64 d, .int .i64 a, .int .i64 b, .int .i64 c, .string T, .slice A l cc, .slice PA pl pc] := by
    first
      | simpa [Value.cells] using hcells
  subst hcl
  exact SpG.law W what d a b c T A l cc zs PA pl pc ps ⟨asc_of hL, pow_of hL, hz, hd, hps⟩ hl hpl hT

noncomputable def zero : Value := .agg #[.int .i64 0, .int .i64 0, .int .i64 0, .int .i64 0, .int .i64 0, .string ⟨#[]⟩, .slice none 0 0, .slice none 0 0]
set_option maxRecDepth 100000 in
theorem reads (os : Os) {H : Type} (enc : TypeId × Value → H) : ∃ places, DataW.whole enc Tryd.prog ((World.laidAll Tryd.prog os Rows.scriptPrintsUptoRow.laid).forCall (fun _ _ => 0) ⟨#[], #[zero], []⟩).memory Tryd.f3.params.toList Rows.scriptPrintsSpec.vars false #[zero].toList 8 = some ([.agg [.lit (.int .i64 0), .lit (.int .i64 0), .lit (.int .i64 0), .lit (.int .i64 0), .lit (.int .i64 0), .lit (.string []), .nil, .nil]], [], places) :=
  ⟨[], by kernel_rfl⟩

set_option maxRecDepth 100000 in
theorem lifted (os : Os) (started : os.Started) (H : Type) (enc : TypeId × Value → H) (F : Stop.Interp) :
    ReturnsInHanded {} Tryd.checked os 3 .any ((Rows.OpenSpec.upto Rows.scriptPrintsSpec).preRow enc Tryd.prog Tryd.f3 Rows.scriptPrintsUptoRow.domain false Rows.scriptPrintsUptoRow.laid) (((Rows.OpenSpec.upto Rows.scriptPrintsSpec).at F).post enc Tryd.prog Tryd.f3 false true false false) := by
  obtain ⟨places, hx⟩ := reads os enc
  have hok : Input.okWideB Tryd.prog ((World.laidAll Tryd.prog os Rows.scriptPrintsUptoRow.laid).forCall (fun _ _ => 0) ⟨#[], #[zero], []⟩) 3 ⟨#[], #[zero], []⟩ = true := by kernel_rfl
  refine returnsInHanded_of_row (C := Tryd.checked) (s := Rows.OpenSpec.upto Rows.scriptPrintsSpec) own started (by kernel_rfl) Tryd.func3
    ⟨World.laidAll Tryd.prog os Rows.scriptPrintsUptoRow.laid, fun _ _ => 0, ⟨#[], #[zero], []⟩, World.laidAll_os _ _ _, World.shaped_of_ZipB (by kernel_rfl) (by kernel_rfl),
      (Input.okWide_of_okWideB (base := 0) hok).1, (Input.okWide_of_okWideB hok).2,
      OpenSpec.preRow_of_cond 8 hx (by kernel_rfl) (fun k hk => by cases hk; kernel_rfl) (by kernel_rfl) (by rw [MakeChecks.laidMetH_plain _ _ _ (by kernel_rfl)]; exact laidMet_laidAll _ (by kernel_rfl) (by kernel_rfl)),
      by simp only [Assume.holds]; exact ⟨by simp, by simp, fun _ => Modest.zero, by simp, by simp⟩⟩ ?_
  intro W base args ds gs before hval hW _ hcond _ hL _ _
  exact contract H enc W base args ds gs before hval hW (hcond _ rfl) hL

theorem saidUpto : Rows.ScriptPrintsUptoSaid :=
  OpenClaim.holds_of_cond 3 Tryd.f3 rfl rfl rfl rfl rfl rfl rfl ⟨rfl, rfl, rfl, rfl, rfl⟩ rfl rfl rfl rfl rfl (by kernel_rfl) Tryd.func3 (by kernel_rfl)
    (of_decide_eq_true (by kernel_rfl)) (by unfold Func.isWrapper; first | (rw [if_pos (by decide +kernel)]; kernel_rfl) | (rw [if_neg (by decide +kernel)]; exact ⟨rfl, rfl⟩))
    (fun os started H enc _ F => by rw [OpenClaim.pre_eq_preRow]; exact lifted os started H enc F)

theorem plain (f : FuncId) (fn : Func) (hf : Tryd.pinned.checked.prog.funcNamed "tenement/tenementlaw23.ScriptPrints" = some f) (hfn : Tryd.pinned.checked.prog.funcs[f]? = some fn) :
    false = Tryd.pinned.checked.prog.looks [] ∧ ∀ (j : Nat) t, fn.params[j]? = some t → Tryd.pinned.checked.prog.wantsStandIn t = false := by
  obtain rfl : f = 3 := Option.some.inj ((show Tryd.prog.funcNamed "tenement/tenementlaw23.ScriptPrints" = some 3 by kernel_rfl).symm.trans hf) |>.symm
  obtain rfl : fn = Tryd.f3 := (Option.some.inj (Tryd.func3.symm.trans hfn)).symm
  refine ⟨by kernel_rfl, fun j t ht => ?_⟩
  rw [Tryd.params3] at ht
  obtain rfl : t = 25 := by simpa using Array.mem_of_getElem? ht
  exact (show Tryd.prog.wantsStandIn 25 = false by kernel_rfl)

theorem proved : Rows.ScriptPrintsUptoCardSaid :=
  Claim7.holds_tied_plain_at .later [] _ _ _ _ saidUpto (fun _ h => by cases h) (by kernel_rfl) (fun _ h => by cases h) scriptPrintsUpto_row_tie rfl ⟨rfl, rfl⟩ (by kernel_rfl) rfl plain (by kernel_rfl)
end Go.Proofs.YtafphlimklgijaaDoor.scriptPrints
#print axioms Go.Proofs.YtafphlimklgijaaDoor.scriptPrints.proved
