/- Proved: GrantApart answers true at every argument (the walk of the law). -/
import Derived.Test.YtjeobbhaoahdcaaGsA
import Derived.Test.YtjeobbhaoahdcaaGsD
import Derived.Test.YtjeobbhaoahdcaaGsE
import Derived.Outline
import Derived.Deep.CutRange
import Derived.BigQuiet
namespace Go.Proofs.Ytjeobbhaoahdcaa.GsF
open Go.RowKit Go.Maps Go.Proofs.Ytjeobbhaoahdcaa.Base Go.Proofs.Ytjeobbhaoahdcaa.GaA Go.Proofs.Ytjeobbhaoahdcaa.GaB Go.Proofs.Ytjeobbhaoahdcaa.GaC Go.Proofs.Ytjeobbhaoahdcaa.GmB Go.Proofs.Ytjeobbhaoahdcaa.GpA Go.Proofs.Ytjeobbhaoahdcaa.GgA Go.Proofs.Ytjeobbhaoahdcaa.GvA Go.Proofs.Ytjeobbhaoahdcaa.GeA Go.Proofs.Ytjeobbhaoahdcaa.GeB Go.Proofs.Ytjeobbhaoahdcaa.GfA Go.Proofs.Ytjeobbhaoahdcaa.GfB Go.Proofs.Ytjeobbhaoahdcaa.GfC Go.Proofs.Ytjeobbhaoahdcaa.GfD Go.Proofs.Ytjeobbhaoahdcaa.GfE Go.Proofs.Ytjeobbhaoahdcaa.GfF Go.Proofs.Ytjeobbhaoahdcaa.GfG Go.Proofs.Ytjeobbhaoahdcaa.GfH Go.Proofs.Ytjeobbhaoahdcaa.GfI Go.Proofs.Ytjeobbhaoahdcaa.GbA Go.Proofs.Ytjeobbhaoahdcaa.GbB Go.Proofs.Ytjeobbhaoahdcaa.GbC Go.Proofs.Ytjeobbhaoahdcaa.GlA Go.Proofs.Ytjeobbhaoahdcaa.GoB Go.Proofs.Ytjeobbhaoahdcaa.GsA Go.Proofs.Ytjeobbhaoahdcaa.GsB Go.Proofs.Ytjeobbhaoahdcaa.GsC Go.Proofs.Ytjeobbhaoahdcaa.GsD Go.Proofs.Ytjeobbhaoahdcaa.GsE
set_option linter.unusedVariables false
set_option linter.unusedSimpArgs false

/-- What the law holds behind begin. -/
structure Ap (w W : World) (xb mo fo cap : Nat) (tf uf : En) (a : BA) (P Q : Value) (S S' : MS) : Prop where
  x : W.heap[xb]? = some (.cells #[.pointer (some ⟨a.mb, 0, none⟩), .pointer (some ⟨a.gb, 0, none⟩), P, .pointer (some ⟨a.rb, 0, none⟩), .pointer (some ⟨a.hb, 0, none⟩), Q] 35 (0, 0))
  e1 : W.heap[w.heap.size]? = some (.cells #[.bool tf.gr, .int .i64 tf.dom, .int .i64 tf.ref, .int .i64 tf.gpfn, .int .i64 tf.off] 24 (0, 0))
  e2 : W.heap[w.heap.size + 1]? = some (.cells #[.bool uf.gr, .int .i64 uf.dom, .int .i64 uf.ref, .int .i64 uf.gpfn, .int .i64 uf.off] 24 (0, 0))
  m : Mach W a.mb a.fb S'
  o : MachC W mo fo S cap
  ne : fo ≠ a.fb
  bel : Below w.heap.size w W
section
variable {w W W' : World} {xb mo fo cap : Nat} {tf uf : En} {a : BA} {P Q : Value} {S S' : MS} {vb db r : Nat}
theorem Ap.below (h : Ap w W xb mo fo cap tf uf a P Q S S') (hb : Below W.heap.size W W') : Ap w W' xb mo fo cap tf uf a P Q S S' :=
  ⟨blk_below h.x (blk_lt h.x) hb, blk_below h.e1 (blk_lt h.e1) hb, blk_below h.e2 (blk_lt h.e2) hb, h.m.below hb, h.o.below hb, h.ne, h.bel.trans (hb.mono h.bel.size)⟩
/-- .. and its grants and view. -/
structure Aq (w W : World) (xb mo fo cap : Nat) (tf uf : En) (a : BA) (P Q : Value) (S : MS) (vb db : Nat) : Prop where
  p : Ap w W xb mo fo cap tf uf a P Q S S
  g : GW W a.gb a.mm a.hm a.mb a.fb S (memG a.pb 3) 3 (piB a)
  v : V2 W vb db a.mb 0
  ge : w.heap.size ≤ a.fb ∧ w.heap.size ≤ vb
  n : S.n = 13
  fr : S.fr = (msB 3 0).fr
  pi : ∀ e, e < 3 → piB a (a.pb e) = piI a e
theorem Aq.below (h : Aq w W xb mo fo cap tf uf a P Q S vb db) (hb : Below W.heap.size W W') : Aq w W' xb mo fo cap tf uf a P Q S vb db := ⟨h.p.below hb, h.g.below hb, h.v.below hb, h.ge, h.n, h.fr, h.pi⟩
theorem aq_start {W0 W1 W2 W3 : World} (hb0 : Below w.heap.size w W0) (h1 : W0.heap[w.heap.size]? = some (.cells #[.bool tf.gr, .int .i64 tf.dom, .int .i64 tf.ref, .int .i64 tf.gpfn, .int .i64 tf.off] 24 (0, 0)))
    (h2 : W0.heap[w.heap.size + 1]? = some (.cells #[.bool uf.gr, .int .i64 uf.dom, .int .i64 uf.ref, .int .i64 uf.gpfn, .int .i64 uf.off] 24 (0, 0))) (hx : a.xb = W0.heap.size) (hn : S.n = 13) (hfr : S.fr = (msB 3 0).fr) (hbd : Bd W0 W1 a S S N3 P Q)
    (hO : MachC W2 mo fo S cap) (ho : W1.heap.size ≤ fo) (hB2 : Below W1.heap.size W1 W2) (hB3 : Below W2.heap.size W2 W3) (hV : V2 W3 vb db a.mb 0) (hv : W2.heap.size ≤ vb) : Aq w W3 W0.heap.size mo fo cap tf uf a P Q S vb db := by
  have hb3 := (hbd.below hB2).below hB3
  have hb03 : Below W0.heap.size W0 W3 := hb3.bel
  have z0 := hb0.size
  have z1 := hbd.bel.size
  have z2 := hB2.size
  obtain ⟨cs, q1, q2⟩ := hbd.bo.m.lst
  have q3 := blk_lt q1
  refine ⟨⟨xblk hb3 hx, blk_below h1 (blk_lt h1) hb03, blk_below h2 (blk_lt h2) hb03, hb3.bo.m, hO.below hB3, by omega, hb0.trans (hb03.mono z0)⟩, bo_gw hb3.bo hn, hV, ⟨?_, by omega⟩, hn, hfr, fun e he => pi_at hb3.bo e he⟩
  have := hbd.bo.ge.2.1
  omega
def ApOut (w : World) (xb mo fo cap : Nat) (tf uf : En) (a : BA) (P Q : Value) (S : MS) (caller : Int) (W : World) : Prop := ∃ S' : MS, S'.n = 13 ∧ S.n = 13 ∧ (∀ i k : Nat, S'.byt i k ≠ S.byt i k → (S.fr i).own ≠ caller → Perm S caller uf i k) ∧ Ap w W xb mo fo cap tf uf a P Q S S'
theorem aq_copy (h : Aq w W xb mo fo cap tf uf a P Q S vb db) (hd : okI tf.dom) (hu : okI uf.dom) (caller n : Int) :
    Calls Try.prog 11 #[.pointer (some ⟨a.gb, 0, none⟩), .pointer (some ⟨vb, 0, none⟩), .int .i64 caller, .agg #[.bool tf.gr, .int .i64 tf.dom, .int .i64 tf.ref, .int .i64 tf.gpfn, .int .i64 tf.off], .agg #[.bool uf.gr, .int .i64 uf.dom, .int .i64 uf.ref, .int .i64 uf.gpfn, .int .i64 uf.off], .int .i64 n] W fun e w' => (∃ x : Int, e = .returned (.int .i64 x)) ∧ ApOut w xb mo fo cap tf uf a P Q S caller w' := by
  obtain ⟨c1, c2⟩ := copy_apart h.n h.fr h.pi caller n tf uf 0
  refine (copy_any h.g h.v (by omega) caller n tf uf hd hu).mono ?_
  rintro e w' ⟨q1, q2, q3, q4⟩
  refine ⟨⟨_, q1⟩, _, c1, h.n, c2, ?_⟩
  obtain ⟨cs, m1, m2⟩ := h.p.m.lst
  obtain ⟨ds, o1, o2⟩ := h.p.o.lst
  refine ⟨q4.blk h.p.x ?_, q4.blk h.p.e1 ?_, q4.blk h.p.e2 ?_, q2.m, h.p.o.chg q4 ?_ ?_, h.p.ne, q4.out h.p.bel h.p.bel.size ?_⟩
  · rintro (e | e)
    · exact bne h.p.x h.v.blk (by decide) e
    · exact bne h.p.x m1 (by decide) e
  · rintro (e | e)
    · exact bne h.p.e1 h.v.blk (by decide) e
    · exact bne h.p.e1 m1 (by decide) e
  · rintro (e | e)
    · exact bne h.p.e2 h.v.blk (by decide) e
    · exact bne h.p.e2 m1 (by decide) e
  · rintro (e | e)
    · exact bne h.p.o.blk h.v.blk (by decide) e
    · exact bne h.p.o.blk m1 (by decide) e
  · rintro (e | e)
    · exact bne o1 h.v.blk (by decide) e
    · exact h.p.ne e
  · rintro x (rfl | rfl)
    · exact h.ge.2
    · exact h.ge.1
/-- permits, where it is asked. -/
theorem permits_of (h : MachC W mo fo S cap) (hn : S.n = 13) {caller : Int} {i k : Nat} (hp : Perm S caller uf i k) :
    Calls Try.prog 14 #[.pointer (some ⟨mo, 0, none⟩), .int .i64 caller, .agg #[.bool uf.gr, .int .i64 uf.dom, .int .i64 uf.ref, .int .i64 uf.gpfn, .int .i64 uf.off], .int .i64 (S.fr i).own, .int .i64 i, .int .i64 k] W fun e w' => e = .returned (.bool true) ∧ Below W.heap.size W w' := by
  obtain ⟨e, ref, sb, gp, of, le, he, hr, h1, h2, h3, h4, hb, hG, hm, g0, g1, o0, o1, l1, l0, k1, k2⟩ := hp
  rw [h1, h2, h3, h4]
  exact permits_ok h hn e ref k he hr caller gp of le i uf.gpfn uf.off sb hb hG hm g0 g1 o0 o1 l1 l0 k1 k2
/-- What the last loop holds. -/
structure Al (w W : World) (xb mo fo cap : Nat) (tf uf : En) (a : BA) (P Q : Value) (S S' : MS) (i N1 N2 fN : Nat) : Prop where
  p : Ap w W xb mo fo cap tf uf a P Q S S'
  b1 : W.heap[N1]? = some (.cells (u8s (MS.rd S i 0 256)).toArray 5 (0, 0))
  b2 : W.heap[N2]? = some (.cells (u8s (MS.rd S' i 0 256)).toArray 5 (0, 0))
  f : W.heap[fN]? = some (.cells #[.int .i64 (S.fr i).own, .int .i64 (S.fr i).typ, .int .i64 (S.fr i).cnt, .int .i64 (S.fr i).tot] 46 (0, 0))
theorem Al.below {i N1 N2 fN : Nat} (h : Al w W xb mo fo cap tf uf a P Q S S' i N1 N2 fN) (hb : Below W.heap.size W W') : Al w W' xb mo fo cap tf uf a P Q S S' i N1 N2 fN :=
  ⟨h.p.below hb, blk_below h.b1 (blk_lt h.b1) hb, blk_below h.b2 (blk_lt h.b2) hb, blk_below h.f (blk_lt h.f) hb⟩
theorem u8_at {N i k : Nat} {T : MS} (h : W.heap[N]? = some (.cells (u8s (MS.rd T i 0 256)).toArray 5 (0, 0))) (hk : k < 256) : W.cell? ⟨N, k, none⟩ = some (.int .u8 ((T.byt i k).toNat : Int)) := by
  rw [blk_cell h]
  simp only [u8s, MS.rd, List.getElem?_toArray, List.getElem?_map]
  rw [List.getElem?_range hk]
  simp
theorem rd_old (h : MachC W mo fo S cap) (i : Nat) (hi : i < S.n) : Calls Try.prog 12 #[.pointer (some ⟨mo, 0, none⟩), .int .i64 i, .int .i64 0, .int .i64 256] W fun e w' => e = .returned (.tuple #[.slice (some ⟨W.heap.size, 0, none⟩) 256 256, .int .i64 0]) ∧ w'.heap[W.heap.size]? = some (.cells (u8s (MS.rd S i 0 256)).toArray 5 (0, 0)) ∧ Below W.heap.size W w' :=
  GsB.read_calls h i hi 0 256 (by omega)
theorem rd_new {mb fb : Nat} (h : Mach W mb fb S) (i : Nat) (hi : i < S.n) : Calls Try.prog 12 #[.pointer (some ⟨mb, 0, none⟩), .int .i64 i, .int .i64 0, .int .i64 256] W fun e w' => e = .returned (.tuple #[.slice (some ⟨W.heap.size, 0, none⟩) 256 256, .int .i64 0]) ∧ w'.heap[W.heap.size]? = some (.cells (u8s (MS.rd S i 0 256)).toArray 5 (0, 0)) ∧ Below W.heap.size W w' :=
  GaC.read_calls h i hi 0 256 (by omega)
end
set_option maxHeartbeats 16000000 in
set_option maxRecDepth 100000 in
theorem law_calls (w : World) (A : Option Addr) (l cap : Nat) (es : List LE) (hA : Ents w A l es) (hl : l ≤ 9223372036854775807) (caller n : Int) (tf uf : En) (hd : okI tf.dom) (hu : okI uf.dom) :
    Calls Try.prog 3 #[.slice A l cap, .int .i64 caller, .agg #[.bool tf.gr, .int .i64 tf.dom, .int .i64 tf.ref, .int .i64 tf.gpfn, .int .i64 tf.off], .agg #[.bool uf.gr, .int .i64 uf.dom, .int .i64 uf.ref, .int .i64 uf.gpfn, .int .i64 uf.off], .int .i64 n] w fun e w' => e = .returned (.bool true) ∧ Below w.heap.size w w' := by
  have HD := Base.Aside.mk (And.intro hd hu)
  have HA := Base.Aside.mk (And.intro hA hl)
  clear hd hu hA hl
  go_enter Try.func3, Try.ntmps3
  go_upto_region 1 with fail
  refine wp_world (fun W => Below w.heap.size w W ∧ W.heap[w.heap.size]? = some (.cells #[.bool tf.gr, .int .i64 tf.dom, .int .i64 tf.ref, .int .i64 tf.gpfn, .int .i64 tf.off] 24 (0, 0)) ∧ W.heap[w.heap.size + 1]? = some (.cells #[.bool uf.gr, .int .i64 uf.dom, .int .i64 uf.ref, .int .i64 uf.gpfn, .int .i64 uf.off] 24 (0, 0))) ?_ ?_
  · refine ⟨box2 w tf uf, blk_alloc (blk_new w _) _, ?_⟩
    have := blk_new (w.alloc (.cells #[.bool tf.gr, .int .i64 tf.dom, .int .i64 tf.ref, .int .i64 tf.gpfn, .int .i64 tf.off] 24)) (.cells #[.bool uf.gr, .int .i64 uf.dom, .int .i64 uf.ref, .int .i64 uf.gpfn, .int .i64 uf.off] 24)
    rwa [World.size_alloc] at this
  intro W0 ⟨hb0, h1, h2⟩
  have hbeg := begin_any W0 A l cap es (HA.out.1.below hb0) HA.out.2
  have E0 := Base.Aside.mk (And.intro hb0 (And.intro h1 h2))
  clear hb0 h1 h2
  go_upto_region 6 with (first
    | (go_at_call 8; refine hbeg.mono ?_; rintro z w1 ⟨a, P, Q, S, rfl, hxb, hn, hfr, hbd⟩; have hx1 := xblk hbd hxb; have C1 := (fun i => blk_cell hx1 i); have L1 := blk_lt hx1; have hcp := mcopy_calls hbd.bo.m (by omega); have E1 := Base.Aside.mk (And.intro hxb (And.intro hn (And.intro hfr hbd))); clear hxb hn hfr hbd hx1)
    | (go_at_call 9; (with_reducible refine hcp.mono ?_); rintro z w2 ⟨mo, fo, cap2, rfl, hO, ho1, ho2, hB2⟩; have hbd2 := E1.out.2.2.2.below hB2; have hx2 := xblk hbd2 E1.out.1; have C2 := (fun i => blk_cell hx2 i); have L2 := blk_lt hx2; have hvn := GvA.new_calls hbd2.bo.m (Nat.lt_of_lt_of_eq (by omega : 0 < 13) E1.out.2.1.symm); have E2 := Base.Aside.mk (And.intro hO (And.intro ho2 hB2)); clear hO ho1 ho2 hB2 hbd2 hx2)
    | (go_at_call 10; refine hvn.mono ?_; rintro z w3 ⟨vb, db, rfl, hv1, hv2, hV, hB3⟩; have haq := aq_start E0.out.1 E0.out.2.1 E0.out.2.2 E1.out.1 E1.out.2.1 E1.out.2.2.1 E1.out.2.2.2 E2.out.1 E2.out.2.1 E2.out.2.2 hB3 hV hv1; have E3 := Base.Aside.mk haq; clear haq hv1 hv2 hV hB3)
    | go_in)
  have hcy := fun W' (hW : Below w3.heap.size w3 W') => aq_copy (E3.out.below hW) HD.out.1 HD.out.2 caller n
  have X3 := fun i => blk_cell E3.out.p.x i
  have D3 := fun i => blk_cell E3.out.p.e1 i
  have F3 := fun i => blk_cell E3.out.p.e2 i
  have L3 := blk_lt E3.out.p.x
  have M3 := blk_lt E3.out.p.e1
  have N3 := blk_lt E3.out.p.e2
  clear C1 L1 C2 L2 hbeg hcp hvn E0 E1 E2 HA
  go_cut [] from 44 to 53 (fun wx => Base.Aside (ApOut w W0.heap.size mo fo cap2 tf uf a P Q S caller wx))
  case first => as_aux_lemma =>
    go_region_held3 (fun W' => W'.cell? ⟨W0.heap.size, 1, none⟩ = some (.pointer (some ⟨a.gb, 0, none⟩)) ∧
        (W'.cell? ⟨w.heap.size, 0, none⟩ = some (.bool tf.gr) ∧ W'.cell? ⟨w.heap.size, 1, none⟩ = some (.int .i64 tf.dom) ∧ W'.cell? ⟨w.heap.size, 2, none⟩ = some (.int .i64 tf.ref) ∧ W'.cell? ⟨w.heap.size, 3, none⟩ = some (.int .i64 tf.gpfn) ∧ W'.cell? ⟨w.heap.size, 4, none⟩ = some (.int .i64 tf.off)) ∧
        (W'.cell? ⟨w.heap.size + 1, 0, none⟩ = some (.bool uf.gr) ∧ W'.cell? ⟨w.heap.size + 1, 1, none⟩ = some (.int .i64 uf.dom) ∧ W'.cell? ⟨w.heap.size + 1, 2, none⟩ = some (.int .i64 uf.ref) ∧ W'.cell? ⟨w.heap.size + 1, 3, none⟩ = some (.int .i64 uf.gpfn) ∧ W'.cell? ⟨w.heap.size + 1, 4, none⟩ = some (.int .i64 uf.off)))
      (first
        | go_keep
        | exact ⟨X3 1, ⟨D3 0, D3 1, D3 2, D3 3, D3 4⟩, F3 0, F3 1, F3 2, F3 3, F3 4⟩
        | exact ⟨blk_cell E4.out.2.x 1, ⟨blk_cell E4.out.2.e1 0, blk_cell E4.out.2.e1 1, blk_cell E4.out.2.e1 2, blk_cell E4.out.2.e1 3, blk_cell E4.out.2.e1 4⟩, blk_cell E4.out.2.e2 0, blk_cell E4.out.2.e2 1, blk_cell E4.out.2.e2 2, blk_cell E4.out.2.e2 3, blk_cell E4.out.2.e2 4⟩)
      ((first
        | (go_at_call 11; (with_reducible refine (hcy _ ?_).mono ?_); (focus (repeat (with_reducible first | exact Below.refl _ _ | refine below_drew ?_ | refine below_alloc ?_ _))); rintro z w4 ⟨⟨x4, rfl⟩, S4, n4, m4, p4, h4⟩; have E4 := Base.Aside.mk (And.intro (And.intro n4 (And.intro m4 p4)) h4); clear n4 m4 p4 h4)))
    all_goals
      go_wp2_with fail
      go_meet
    case rel => exact ⟨⟨S4, E4.out.1.1, E4.out.1.2.1, E4.out.1.2.2, E4.out.2⟩⟩
  case rest =>
    obtain ⟨S4, n4, nS, hP4, h4⟩ := hcut.out
    have E5 := Base.Aside.mk (And.intro n4 (And.intro nS hP4))
    have H5 := Base.Aside.mk h4
    clear n4 nS hP4 h4 hcut hcy X3 D3 F3 L3 M3 N3 E3
    go_wp2_with fail
    go_loopw [16] (fun v wr => ∃ (i : Nat) (W2 : World), i ≤ 13 ∧ v = .int .i64 i ∧ wr = W2 ∧ Base.Aside (Ap w W2 W0.heap.size mo fo cap2 tf uf a P Q S S4)) (fun v _ => 13 - (intOf v).toNat)
    case atStart => exact ⟨0, wc, by omega, rfl, rfl, H5⟩
    case round => as_aux_lemma =>
      obtain ⟨i, W2, hi, rfl, hwr, hB⟩ := hrel
      obtain rfl := hwr.symm
      have C5 := fun i => blk_cell hB.out.x i
      have L5 := blk_lt hB.out.x
      by_cases hlt : i < 13
      · have hr1 := rd_old hB.out.o i (Nat.lt_of_lt_of_eq hlt E5.out.2.1.symm)
        go_wp2_with (first
          | (go_at_call 12; (with_reducible refine hr1.mono ?_); rintro z w6 ⟨rfl, hN1, hB6⟩; have h6 := hB.out.below hB6; have C6 := (fun i => blk_cell h6.x i); have L6 := blk_lt h6.x; have hr2 := rd_new h6.m i (Nat.lt_of_lt_of_eq hlt E5.out.1.symm); have E6 := Base.Aside.mk (And.intro h6 hN1); clear h6 hN1 hB6)
          | (go_at_call 12; (with_reducible refine hr2.mono ?_); rintro z w7 ⟨rfl, hN2, hB7⟩; have h7 := E6.out.1.below hB7; have C7 := (fun i => blk_cell h7.x i); have L7 := blk_lt h7.x; have hfr := GsB.frame_calls h7.o i (Nat.lt_of_lt_of_eq hlt E5.out.2.1.symm); have E7 := Base.Aside.mk (And.intro h7 (And.intro (blk_below E6.out.2 (blk_lt E6.out.2) hB7) hN2)); clear h7 hN2 hB7)
          | (go_at_call 13; (with_reducible refine hfr.mono ?_); rintro z w8 ⟨rfl, hB8⟩; have E8 := Base.Aside.mk (And.intro (E7.out.1.below hB8) (And.intro (blk_below E7.out.2.1 (blk_lt E7.out.2.1) hB8) (blk_below E7.out.2.2 (blk_lt E7.out.2.2) hB8))); clear hB8)
          | go_in)
        have E9 := Base.Aside.mk (⟨E8.out.1.below (below_alloc (Below.refl _ _) _), blk_alloc E8.out.2.1 _, blk_alloc E8.out.2.2 _, blk_new _ _⟩ : Al w (w8.alloc (.cells #[.int .i64 (S.fr i).own, .int .i64 (S.fr i).typ, .int .i64 (S.fr i).cnt, .int .i64 (S.fr i).tot] 46)) W0.heap.size mo fo cap2 tf uf a P Q S S4 i W2.heap.size w6.heap.size w8.heap.size)
        clear C5 L5 C6 L6 C7 L7 hr1 hr2 hfr E6 E7 E8 hB
        go_loopw [23] (fun v wr => ∃ (k : Nat) (W3 : World), k ≤ 256 ∧ v = .int .i64 k ∧ wr = W3 ∧ Base.Aside (Al w W3 W0.heap.size mo fo cap2 tf uf a P Q S S4 i W2.heap.size w6.heap.size w8.heap.size)) (fun v _ => 256 - (intOf v).toNat)
        case atStart => exact ⟨0, _, by omega, rfl, rfl, E9⟩
        case round => as_aux_lemma =>
          obtain ⟨k, W3, hk, rfl, hwr3, hB3⟩ := hrel
          obtain rfl := hwr3.symm
          by_cases hlk : k < 256
          · have c1 := u8_at hB3.out.b1 hlk
            have c2 := u8_at hB3.out.b2 hlk
            have cf := fun j => blk_cell hB3.out.f j
            have ce := fun j => blk_cell hB3.out.p.e2 j
            have l1 := blk_lt hB3.out.b1
            have l2 := blk_lt hB3.out.b2
            have lf := blk_lt hB3.out.f
            have le := blk_lt hB3.out.p.e2
            have hk0 : (0 : Int) ≤ (k : Int) := Int.natCast_nonneg _
            have hk2 : (k : Int) < 256 := by omega
            go_upto_region 18 with fail
            go_cut [119] from 94 to 119 (fun v wx => v = .bool false ∧ Base.Aside (Al w wx W0.heap.size mo fo cap2 tf uf a P Q S S4 i W2.heap.size w6.heap.size w8.heap.size))
            case first => as_aux_lemma =>
              have hper := fun (hne : S4.byt i k ≠ S.byt i k) (hc : (S.fr i).own ≠ caller) W' (hW : Below W3.heap.size W3 W') => permits_of (hB3.out.below hW).p.o E5.out.2.1 (E5.out.2.2 i k hne hc)
              by_cases heq : S4.byt i k = S.byt i k
              · have hx : (((S.byt i k).toNat : Int) != ((S4.byt i k).toNat : Int)) = false := by rw [heq]; simp
                clear heq hper
                go_quiet (fail)
                go_wp2
                go_meet
                case rel => exact ⟨rfl, ⟨hB3.out.below (below_drewN (Below.refl _ _) _)⟩⟩
              · have hx : (((S.byt i k).toNat : Int) != ((S4.byt i k).toNat : Int)) = true := by
                  simp only [bne_iff_ne, ne_eq]
                  intro h
                  exact heq (UInt8.toNat_inj.1 (by omega))
                by_cases hc : (S.fr i).own = caller
                · have hy : ((S.fr i).own != caller) = false := by rw [hc]; simp
                  clear heq hper hc
                  go_quiet (fail)
                  go_wp2
                  go_meet
                  case rel => exact ⟨rfl, ⟨hB3.out.below (below_drewN (Below.refl _ _) _)⟩⟩
                · have hy : ((S.fr i).own != caller) = true := by simp [hc]
                  have hpm := fun W' (hW : Below W3.heap.size W3 W') => (hper heq hc W' hW).mono (R' := fun e w' => e = .returned (.bool true) ∧ Al w w' W0.heap.size mo fo cap2 tf uf a P Q S S4 i W2.heap.size w6.heap.size w8.heap.size) (fun e w' ⟨q1, q2⟩ => ⟨q1, (hB3.out.below hW).below q2⟩)
                  clear heq hper hc
                  go_region_held3 (fun W' => W'.cell? ⟨W2.heap.size, k, none⟩ = some (.int .u8 ((S.byt i k).toNat : Int)) ∧ W'.cell? ⟨w6.heap.size, k, none⟩ = some (.int .u8 ((S4.byt i k).toNat : Int)) ∧ W'.cell? ⟨w8.heap.size, 0, none⟩ = some (.int .i64 (S.fr i).own) ∧
                      (W'.cell? ⟨w.heap.size + 1, 0, none⟩ = some (.bool uf.gr) ∧ W'.cell? ⟨w.heap.size + 1, 1, none⟩ = some (.int .i64 uf.dom) ∧ W'.cell? ⟨w.heap.size + 1, 2, none⟩ = some (.int .i64 uf.ref) ∧ W'.cell? ⟨w.heap.size + 1, 3, none⟩ = some (.int .i64 uf.gpfn) ∧ W'.cell? ⟨w.heap.size + 1, 4, none⟩ = some (.int .i64 uf.off)))
                    (first
                      | go_keep
                      | exact ⟨c1, c2, cf 0, ce 0, ce 1, ce 2, ce 3, ce 4⟩
                      | exact ⟨u8_at E10.out.b1 hlk, u8_at E10.out.b2 hlk, blk_cell E10.out.f 0, blk_cell E10.out.p.e2 0, blk_cell E10.out.p.e2 1, blk_cell E10.out.p.e2 2, blk_cell E10.out.p.e2 3, blk_cell E10.out.p.e2 4⟩)
                    ((first
                      | (go_at_call 14; (with_reducible refine (hpm _ ?_).mono ?_); (focus (repeat (with_reducible first | exact Below.refl _ _ | refine below_drew ?_ | refine below_alloc ?_ _))); rintro z w10 ⟨rfl, h10⟩; have E10 := Base.Aside.mk h10; clear h10)))
                  all_goals
                    go_wp2_with fail
                    go_meet
                  case rel => exact ⟨rfl, E10⟩
            case rest =>
              obtain ⟨rfl, hE⟩ := hcut
              clear c1 c2 cf ce l1 l2 lf le
              go_wp2
              go_roundw
              case rel => exact ⟨k + 1, wc, by omega, by simp, rfl, hE⟩
              case measure => simp [intOf]; omega
          · obtain rfl : k = 256 := by omega
            go_wp2
            go_roundw
            case rel => exact ⟨i + 1, W3, by omega, by simp, rfl, ⟨hB3.out.p⟩⟩
            case measure => simp [intOf]; omega
      · obtain rfl : i = 13 := by omega
        have hsz := GaA.size_calls hB.out.m
        rw [E5.out.1] at hsz
        go_wp2_with (first
          | (go_at_call 15; (with_reducible refine hsz.mono ?_); rintro z w6 ⟨rfl, hw6⟩; obtain rfl := hw6.symm)
          | go_in)
        go_ret
        exact ⟨by first | rfl | (simp; done), hB.out.bel⟩
end Go.Proofs.Ytjeobbhaoahdcaa.GsF
