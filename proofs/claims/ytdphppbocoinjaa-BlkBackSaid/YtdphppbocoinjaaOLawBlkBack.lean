/- Proved: a request that can be packed is unpacked as itself, its segments from its page, if it has one; the condition is the row's own: each argument takes at most 2^47 - 4096 bytes. -/
import Derived.Test.YtdphppbocoinjaaRows
import Derived.Test.YtdphppbocoinjaaBkPure
import Derived.Test.YtdphppbocoinjaaWSized
import Derived.Deep.Slices
import Derived.Deep.Strs
import Derived.WalkKit
import Derived.ProofKit
import Derived.OpenShut
import Derived.ShutString
import Derived.ChangeOld
import Derived.Below
import Derived.SizedLaws
import Derived.Lib.SmallJoins
namespace Go.Proofs.Ytdphppbocoinjaa.blkBack
open Go.ChangeShapes Go.WideShapes Go.ChangeAt Go.RowKit Go.Joins
open Go.ChangeMaps (open_string shut_string)
open Go.Proofs.YtdphppbocoinjaaW.PrintWords Go.Proofs.YtdphppbocoinjaaW.PrintLast
set_option linter.unusedVariables false
theorem own : ownKnob Try.prog.godebug = none := by kernel_rfl
theorem laidOut : laidOutB Try.prog = true := by kernel_rfl
section
open Go.Deep Go.Proofs.Ytdphppbocoinjaa.PBlkBack
instance : Inhabited S81 := ⟨z81⟩
theorem add_add' (a : Addr) (i j : Nat) : (a.add i).add j = a.add (i + j) := Go.Deep.add_add a i j
theorem cell81 : Try.prog.cellsOf 81 = 3 := by kernel_rfl
theorem cell3 : Try.prog.cellsOf 3 = 1 := by kernel_rfl
/-- A request's segments, as the argument's reading tells them. -/
theorem open_segs {H : Type} {enc : TypeId × Value → H} {W : World} {base : Nat} {spare : Nat → Bool} {held : Bool} {n : Nat} {v : Value} {y : DataW H × List MemPlace} (h : DataW.trod enc Try.prog W base spare held n 53 [v] = some y) :
    ∃ (A : Option Addr) (c : Nat) (l : List S81), v = .slice A l.length c ∧ l.length ≤ c ∧ Kd.C k81 W A l.length l ∧ (l.length = 0 ∨ ∃ el sp, y.1 = .slice el sp ∧ el.length = l.length) := by
  rcases open_slice Try.underlying53 h with ⟨hcs, _⟩ | ⟨a, len, cap, m, n', D, Pl, hcs, hb, hl, hm, hmm, hx, hel⟩
  · obtain rfl := (List.cons.inj hcs).1
    exact ⟨none, 0, [], rfl, Nat.le_refl _, ⟨rfl, by simp, fun h => absurd h (by simp)⟩, .inl rfl⟩
  · obtain rfl := (List.cons.inj hcs).1
    have hlm : len ≤ m := by rw [hmm]; split <;> omega
    obtain ⟨q, hq⟩ := choose_lt (n := len) (p := fun i (s : S81) => W.cell? (a.add (i * 3)) = some (.int .i64 s.f0) ∧ W.cell? (a.add (i * 3 + 1)) = some (.int .i64 s.f1) ∧ W.cell? (a.add (i * 3 + 2)) = some (.int .i64 s.f2)) (fun i hi => by
      obtain ⟨cs', h1, h2⟩ := hel i (by omega)
      rw [cell81] at h1
      obtain ⟨_, hlen, hcell⟩ := World.cells?_some h1
      obtain ⟨y0, y1, y2, k, _, _, g0, g1, g2⟩ := trod_struct3 Try.underlying81 h2
      match cs', hlen with
      | [v0, v1, v2], _ =>
        have g0' : DataW.trod enc Try.prog W base spare held k 3 [v0] = some y0 := by simpa [cell3] using g0
        have g1' : DataW.trod enc Try.prog W base spare held k 3 [v1] = some y1 := by simpa [cell3] using g1
        have g2' : DataW.trod enc Try.prog W base spare held k 3 [v2] = some y2 := by simpa [cell3] using g2
        obtain ⟨x0, e0, _, _⟩ := DataW.trod_int Try.underlying3 g0'
        obtain ⟨x1, e1, _, _⟩ := DataW.trod_int Try.underlying3 g1'
        obtain ⟨x2, e2, _, _⟩ := DataW.trod_int Try.underlying3 g2'
        obtain rfl := (List.cons.inj e0).1
        obtain rfl := (List.cons.inj e1).1
        obtain rfl := (List.cons.inj e2).1
        have c0 := hcell 0 (by omega)
        have c1 := hcell 1 (by omega)
        have c2 := hcell 2 (by omega)
        rw [Go.Deep.add_add] at c0 c1 c2
        exact ⟨⟨x0, x1, x2⟩, by simpa using c0, by simpa using c1, by simpa using c2⟩)
    have hlen : ((List.range len).map q).length = len := by simp
    refine ⟨some a, cap, (List.range len).map q, by rw [hlen], by rw [hlen]; exact hl, ⟨rfl, by rw [hlen]; exact Nat.le_trans hl hm, fun _ => ⟨a, rfl, fun j p hj => ?_⟩⟩, .inr ⟨_, _, by rw [hx], by simp⟩⟩
    rw [List.getElem?_map] at hj
    obtain ⟨j', hj', rfl⟩ := Option.map_eq_some_iff.1 hj
    obtain ⟨hlt, hval⟩ := List.getElem?_eq_some_iff.1 hj'
    rw [List.getElem_range] at hval
    subst hval
    rw [List.length_range] at hlt
    obtain ⟨c0, c1, c2⟩ := hq j hlt
    refine ⟨_, ?_, k81_mk W (q j), fun i u hu => ?_⟩
    · rfl
    · rw [show j * k81.sz + i = j * 3 + i from rfl]
      match i, hu with
      | 0, hu => obtain rfl := Option.some.inj hu; exact c0
      | 1, hu => obtain rfl := Option.some.inj hu; exact c1
      | 2, hu => obtain rfl := Option.some.inj hu; exact c2
theorem bytes81 : Try.prog.bytesOf 81 = 24 := by kernel_rfl
/-- .. no more than the argument's weight allows. -/
theorem sized_segs {H : Type} {ts : List TypeId} {ds : List (DataW H)} {d0 d1 d2 : DataW H} {el sp : List (DataW H)} (hsz : (DataW.weightsEach Try.prog ts ds).all (· ≤ reachBytes) = true) (ht : ts[0]? = some 66) (hd : ds[0]? = some (.agg [d0, d1, d2, .slice el sp])) : el.length * 24 ≤ 140737488351232 := by
  have h := List.all_eq_true.1 hsz _ (DataW.weights_mem_each (P := Try.prog) ht hd ((el.length + sp.length) * Try.prog.bytesOf 81) (by simp [DataW.weights, DataW.weightsEach, Try.underlying66, Try.underlying53]))
  have h2 : (el.length + sp.length) * Try.prog.bytesOf 81 ≤ reachBytes := by simpa using h
  rw [bytes81] at h2
  have h3 : reachBytes = 140737488351232 := rfl
  omega
theorem wf64 {x : Int} (h : (Lit.int .i64 x).wf = true) : -9223372036854775808 ≤ x ∧ x < 9223372036854775808 := by
  simp [Lit.wf] at h
  have h1 : IntKind.i64.min = -9223372036854775808 := rfl
  have h2 : IntKind.i64.max = 9223372036854775807 := rfl
  omega
end
set_option maxRecDepth 100000 in
theorem contract (H : Type) (enc : TypeId × Value → H) (W : World) (base : Nat) (args : Array Value) (ds gs : List (DataW H)) (before : List MemPlace)
    (hval0 : ∀ (j : Nat) t v, Try.f14.params[j]? = some t → args[j]? = some v → Value.okWide Try.prog W .any base t v)
    (hW : DataW.Whole enc Try.prog Try.f14.params.toList Rows.blkBackSpec.vars false W args.toList ds gs before)
    (hsz0 : (DataW.weightsEach Try.prog (Try.f14.params.toList ++ Rows.blkBackSpec.plain.varTypes Try.prog) (ds ++ gs)).all (· ≤ reachBytes) = true)
    : Calls Try.prog 14 args W fun e W' => ∃ v, e = .returned v ∧ Rows.blkBackSpec.post enc Try.prog Try.f14 false true false false W args v W' := by
  have hsz := hsz0
  have hval := hval0
  have hW' := hW
  obtain ⟨p, q, hA0, hV, rfl, hfz, hnd⟩ := hW
  have hA : DataW.TrodAll enc Try.prog W 0 (fun _ => true) true Try.f14.params.toList args.toList ds p := hA0
  rw [Try.params14] at hA hval hsz
  obtain ⟨v0, vs0, d0, ds0, p0, q0, hargs, rfl, rfl, h0, r0⟩ := trodAll_cons hA
  obtain ⟨v1, vs1, d1, ds1, p1, q1, rfl, rfl, rfl, h1, r1⟩ := trodAll_cons r0
  obtain ⟨rfl, rfl, rfl⟩ := trodAll_nil r1
  obtain rfl : args = #[v0, v1] := by cases args; simp_all
  obtain ⟨rfl, rfl⟩ := trodVars_none hV
  have k0 := h0
  have lt0 : ∀ x ∈ p0, x.block < W.heap.size := by obtain ⟨m, hm⟩ := k0; exact DataW.trod_lt m _ _ _ hm
  have hv0 := hval 0 66 v0 rfl rfl
  have k1 := h1
  have lt1 : ∀ x ∈ p1, x.block < W.heap.size := by obtain ⟨m, hm⟩ := k1; exact DataW.trod_lt m _ _ _ hm
  have hv1 := hval 1 3 v1 rfl rfl
  have bridge : (Calls Try.prog 14 #[v0, v1] W fun e w' => e = .returned (.bool true) ∧ Below W.heap.size W w') → Calls Try.prog 14 #[v0, v1] W fun e W' => ∃ v, e = .returned v ∧ Rows.blkBackSpec.post enc Try.prog Try.f14 false true false false W #[v0, v1] v W' := by
    intro hc
    refine hc.mono fun e W' ⟨he, bel⟩ => ?_
    subst he
    exact ⟨_, rfl, _, _, _, [], _, [], hW', trodAll_mk1 (shut_bool Try.underlying4 _), (trodAll_cons_mk (Below.trod laidOut (by kernel_rfl) (of_decide_eq_true (by kernel_rfl)) k0 bel lt0) (trodAll_cons_mk (Below.trod laidOut (by kernel_rfl) (of_decide_eq_true (by kernel_rfl)) k1 bel lt1) trodAll_mk0)), rfl, bel.frame _, fun h => by cases h⟩
  refine bridge ?_
  clear bridge hW' hV hA0 hval0 hval hargs
  obtain ⟨c0_0, c0_1, c0_2, c0_3, y0_0, y0_1, y0_2, y0_3, m0, rfl, rfl, rfl, hy0_0, hy0_1, hy0_2, hy0_3⟩ := open_agg4 Try.underlying66 (by kernel_rfl) (by kernel_rfl) hv0 h0
  obtain ⟨x0_0, e0_0, hd0_0, wx0_0⟩ := DataW.trod_int Try.underlying3 hy0_0
  obtain rfl := (List.cons.inj e0_0).1
  obtain ⟨x0_1, e0_1, hd0_1, wx0_1⟩ := DataW.trod_int Try.underlying3 hy0_1
  obtain rfl := (List.cons.inj e0_1).1
  obtain ⟨x0_2, e0_2, hd0_2, wx0_2⟩ := DataW.trod_int Try.underlying3 hy0_2
  obtain rfl := (List.cons.inj e0_2).1
  obtain ⟨x1, rfl, rfl, rfl, wx1⟩ := open_int Try.underlying3 hv1 h1
  obtain ⟨A3, c3, l3, e3, hlc3, hC3, hs3⟩ := open_segs hy0_3
  obtain rfl := e3
  have hz : l3.length < 6000000000000 := by
    rcases hs3 with h | ⟨el, sp, h, hl⟩
    · omega
    · rw [h] at hsz
      have := sized_segs hsz rfl rfl
      omega
  obtain ⟨b0, b1⟩ := wf64 wx1
  exact (Go.Proofs.Ytdphppbocoinjaa.BK.law_calls x0_0 x0_1 x0_2 A3 c3 l3 x1 W hC3 hlc3 hz b0 b1).mono fun e w' h => h

set_option maxRecDepth 100000 in
theorem lifted (os : Os) (started : os.Started) (H : Type) (enc : TypeId × Value → H) :
    ReturnsInHanded {} Try.checked os 14 .any (Rows.blkBackSpec.pre6 enc Try.prog Try.f14 Rows.blkBackRow.domain false) (Rows.blkBackSpec.post enc Try.prog Try.f14 false true false false) := by
  refine returnsInHanded_of_change_sized (C := Try.checked) own started (by kernel_rfl) Try.func14
    (ChangeSpec.witness6 (enc := enc) (C := Try.checked) false ⟨#[], #[.agg #[.int .i64 0, .int .i64 0, .int .i64 0, .slice none 0 0], .int .i64 0], []⟩ 8 (by kernel_rfl) (by kernel_rfl) (by kernel_rfl) (by kernel_rfl)) ?_
  intro W base args ds gs before hval0 hW _ hsz0 _
  exact contract H enc W base args ds gs before hval0 hW hsz0
theorem proved : Rows.BlkBackSaid :=
  OpenClaim.holds_of_wide 14 Try.f14 rfl rfl rfl rfl rfl rfl rfl ⟨rfl, rfl, rfl, rfl, rfl⟩ rfl rfl rfl rfl rfl (by kernel_rfl) Try.func14 (by kernel_rfl)
    (of_decide_eq_true (by kernel_rfl)) (by unfold Func.isWrapper; first | (rw [if_pos (by decide +kernel)]; kernel_rfl) | (rw [if_neg (by decide +kernel)]; exact ⟨rfl, rfl⟩))
    (fun os started H enc _ => lifted os started H enc)
end Go.Proofs.Ytdphppbocoinjaa.blkBack
#print axioms Go.Proofs.Ytdphppbocoinjaa.blkBack.proved
