/- Proved: what begin makes of any entries (a contract for the laws of the grants). Proved: the entries of an argument, as the walk reads them (for the row of GrantApart). -/
import Derived.Test.YthlejchcnfdcpaaGreatMlal
import Derived.Deep.Slices
import Derived.Deep.Strs
import Derived.WalkKit
import Derived.ProofKit
import Derived.OpenShut
import Derived.ShutString
import Derived.ChangeOld
import Derived.Below
import Derived.SizedLaws
import Derived.Lib.SmallJoins
namespace Go.Proofs.YthlejchcnfdcpaaGreat.GsA
open Go.RowKit Go.Maps Base GaA GaB GaC GaD GmA GpA GgA RpA RmA RmB RmC RgA GnA GfC GfD GbA GbB GbC GlA GoB
set_option linter.unusedVariables false
set_option linter.unusedSimpArgs false

/-- An entry's cells, as the walk reads them. -/
structure EnCells (w : World) (x : Addr) (e : LE) : Prop where
  c0 : w.cell? x = some (.int .i64 e.dom)
  c1 : w.cell? ⟨x.block, x.off + 1, none⟩ = some (.int .i64 e.ref)
  c2 : w.cell? ⟨x.block, x.off + 2, none⟩ = some (.int .i64 e.g.kd)
  c3 : w.cell? ⟨x.block, x.off + 3, none⟩ = some (.bool e.g.ro)
  c4 : w.cell? ⟨x.block, x.off + 4, none⟩ = some (.bool e.g.sb)
  c5 : w.cell? ⟨x.block, x.off + 5, none⟩ = some (.int .i64 e.g.dom)
  c6 : w.cell? ⟨x.block, x.off + 6, none⟩ = some (.int .i64 e.g.gp)
  c7 : w.cell? ⟨x.block, x.off + 7, none⟩ = some (.int .i64 e.g.of)
  c8 : w.cell? ⟨x.block, x.off + 8, none⟩ = some (.int .i64 e.g.le)
  c9 : w.cell? ⟨x.block, x.off + 9, none⟩ = some (.int .u8 e.fl)
/-- The entries of an argument. -/
structure Ents (w : World) (A : Option Addr) (l : Nat) (es : List LE) : Prop where
  len : l = es.length
  cells : es = [] ∨ ∃ x, A = some x ∧ x.block < w.heap.size ∧ ∀ i e, es[i]? = some e → EnCells w (x.add (i * 10)) e
theorem EnCells.below {w w' : World} {x : Addr} {e : LE} (h : EnCells w x e) (hb : Below w.heap.size w w') : EnCells w' x e :=
  ⟨cell_below hb h.c0, cell_below hb h.c1, cell_below hb h.c2, cell_below hb h.c3, cell_below hb h.c4, cell_below hb h.c5, cell_below hb h.c6, cell_below hb h.c7, cell_below hb h.c8, cell_below hb h.c9⟩
theorem Ents.at_ {w : World} {A : Option Addr} {l : Nat} {es : List LE} (h : Ents w A l es) (i : Nat) (hi : i < l) : ∃ x, A = some x ∧ x.block < w.heap.size ∧ EnCells w (x.add (i * 10)) (es[i]'(by have := h.len; omega)) := by
  have hl := h.len
  rcases h.cells with h | ⟨x, h1, h2, h3⟩
  · rw [h] at hl
    simp at hl
    omega
  · exact ⟨x, h1, h2, h3 i _ (List.getElem?_eq_getElem (by omega))⟩
theorem Ents.below {w w' : World} {A : Option Addr} {l : Nat} {es : List LE} (h : Ents w A l es) (hb : Below w.heap.size w w') : Ents w' A l es := by
  refine ⟨h.len, ?_⟩
  rcases h.cells with h | ⟨x, h1, h2, h3⟩
  · exact .inl h
  · exact .inr ⟨x, h1, Nat.lt_of_lt_of_le h2 hb.size, fun i e hi => (h3 i e hi).below hb⟩
/-- Both worlds behind begin. -/
def BdS (w W : World) (a : BA) (P Q : Value) : Prop := ∃ s : MS, s.n = 13 ∧ s.fr = (msB 3 0).fr ∧ Bd w W a s s N3 P Q
def BeginAny (w : World) (e : Ending) (w' : World) : Prop := ∃ (a : BA) (P Q : Value) (s : MS), e = .returned (.tuple #[.pointer (some ⟨w.heap.size, 0, none⟩), .bool true]) ∧ a.xb = w.heap.size ∧ s.n = 13 ∧ s.fr = (msB 3 0).fr ∧ Bd w w' a s s N3 P Q
set_option maxHeartbeats 16000000 in
set_option maxRecDepth 100000 in
theorem begin_any (w : World) (A : Option Addr) (l cap : Nat) (es : List LE) (hA : Ents w A l es) (hl : l ≤ 9223372036854775807) : Calls Tryz.prog 4 #[.slice A l cap] w (BeginAny w) := by
  have HE := Base.Aside.mk hA
  clear hA
  go_enter Tryz.func4, Tryz.ntmps4
  go_wp2_with (first
    | (go_at_call 7; (with_reducible refine (pnew13 _).mono ?_); rintro z w1 ⟨mb, fb, rfl, hm1, hf1, hM1, hB1⟩; have s1 := st_one hm1 hf1 hM1 hB1; have C1 := (fun i => blk_cell s1.1 i); have F1 := (fun i => blk_frozen s1.1 i); have L1 := blk_lt s1.1; have S1 := Base.Aside.mk s1.2; clear hM1 hB1 hm1 hf1 s1)
    | (go_at_call 8; (with_reducible refine (rnew13 _).mono ?_); rintro z w2 ⟨rb, Fb, Bb, cF, cB, bs, rfl, hr1, hr2, hr3, hr4, hR2, hB2⟩; have s2 := S1.out.below hB2; have R3 := rmach_xb hR2 s2.blk 3 (.pointer (some ⟨rb, 0, none⟩)); have C2 := (fun i => blk_cell s2.blk i); have F2 := (fun i => blk_frozen s2.blk i); have L2 := blk_lt s2.blk; have z2 := S1.out.bel.size; have s3 := s2.set 3 (.pointer (some ⟨rb, 0, none⟩)) (.pointer none) (.pointer (some ⟨rb, 0, none⟩)) (.pointer none) rfl; have hgn := gnew_calls s3.m (by decide); have S3 := Base.Aside.mk s3; have R3 := Base.Aside.mk (And.intro R3 (And.intro hr1 (And.intro hr2 (And.intro hr3 hr4)))); clear hR2 hB2 hr1 hr2 hr3 hr4 s2 s3)
    | (go_at_call 9; refine hgn.mono ?_; rintro z w3 ⟨gb, mm, hm, rfl, hg1, hg2, hg3, hg4, hG3, hk3, hB3⟩; have s4 := S3.out.below hB3; have R4 := rmach_xb (R3.out.1.below hB3) s4.blk 1 (.pointer (some ⟨gb, 0, none⟩)); have C3 := (fun i => blk_cell s4.blk i); have F3 := (fun i => blk_frozen s4.blk i); have L3 := blk_lt s4.blk; have G4 := g2_xb hG3 s4.blk 1 (.pointer (some ⟨gb, 0, none⟩)); have k4 := map_xb hk3 s4.blk 1 (.pointer (some ⟨gb, 0, none⟩)); have s5 := s4.set 1 (.pointer (some ⟨gb, 0, none⟩)) (.pointer (some ⟨gb, 0, none⟩)) (.pointer (some ⟨rb, 0, none⟩)) (.pointer none) rfl; have S5 := Base.Aside.mk (And.intro s5 (And.intro R4 (And.intro G4 k4))); have S6 := Base.Aside.mk (And.intro hg1 (And.intro hg2 (And.intro hg3 (And.intro hg4 S3.out.bel.size)))); clear hg1 hg2 hg3 hg4 hG3 hk3 hB3 s4 s5 R4 G4 k4)
    | (go_at_call 10; (with_reducible refine (RgA.new_calls _ rb).mono ?_); rintro z w4 ⟨hb, Db, cD, rfl, hh1, hh2, hH4, hB4⟩; have s6 := S5.out.1.below hB4; have C4 := (fun i => blk_cell s6.blk i); have F4 := (fun i => blk_frozen s6.blk i); have L4 := blk_lt s6.blk; have H5 := r6_xb hH4 s6.blk 4 (.pointer (some ⟨hb, 0, none⟩)); have R5 := rmach_xb (S5.out.2.1.below hB4) s6.blk 4 (.pointer (some ⟨hb, 0, none⟩)); have G5 := g2_xb (S5.out.2.2.1.below hB4) s6.blk 4 (.pointer (some ⟨hb, 0, none⟩)); have k5 := map_xb (blk_below S5.out.2.2.2 (blk_lt S5.out.2.2.2) hB4) s6.blk 4 (.pointer (some ⟨hb, 0, none⟩)); have s7 := s6.set 4 (.pointer (some ⟨hb, 0, none⟩)) (.pointer (some ⟨gb, 0, none⟩)) (.pointer (some ⟨rb, 0, none⟩)) (.pointer (some ⟨hb, 0, none⟩)) rfl; have S7 := Base.Aside.mk (And.intro s7 (And.intro R5 (And.intro G5 (And.intro k5 (And.intro H5 (And.intro hh1 (And.intro hh2 S5.out.1.bel.size))))))); clear hh1 hh2 hH4 hB4 s6 s7 H5 R5 G5 k5)
    | go_in)
  refine wp_world (fun W => Row0 w W 0) ?_ ?_
  · obtain ⟨s7, hR, hG, hk, hH, h1, h2, h3⟩ := S7.out
    obtain ⟨g1, g2, g3, g4, g5⟩ := S6.out
    obtain ⟨r1, r2, r3, r4⟩ := R3.out.2
    rw [msB_zero] at hR
    have e1 : ∀ pb, memG pb 0 = fun _ => none := fun pb => by funext x; exact if_neg (by omega)
    have e2 : ∀ qb, memR qb 0 = fun _ => (-1, none) := fun qb => by funext x; exact if_neg (by omega)
    have z1 := S1.out.bel.size
    refine ⟨⟨w.heap.size, mb, fb, gb, mm, hm, rb, Fb, Bb, cF, cB, bs, hb, Db, cD, fun _ => 0, fun _ => 0, fun _ => 0, fun _ => 0, fun _ => 0, fun _ => 0⟩, .slice none 0 0, .slice none 0 0, rfl, ⟨⟨s7.blk, s7.m, hR, ?_, hk, ?_, fun e he => absurd he (Nat.not_lt_zero _), fun e he => absurd he (Nat.not_lt_zero _), World.ownsRow_nil _ _ _ _, World.ownsRow_nil _ _ _ _, ?_, g4, fun e he => absurd he (Nat.not_lt_zero _), fun e e' he => absurd he (Nat.not_lt_zero _), ⟨?_, fun e he => absurd he (Nat.not_lt_zero _), fun e e' he => absurd he (Nat.not_lt_zero _)⟩⟩, s7.bel⟩⟩
    · rw [e1]; exact hG
    · rw [e2]; exact hH
    · have z2 := s7.bel.size
      refine ⟨Nat.le_refl _, s7.hf, ?_, ?_, ?_, ?_, fun b hb => ?_, z2⟩
      · show w.heap.size ≤ mm; omega
      · show w.heap.size ≤ hm; omega
      · show w.heap.size ≤ Fb; omega
      · show w.heap.size ≤ Db; omega
      · have := r4 b hb; omega
    · show w.heap.size ≤ hb; omega
  clear S7 S6 R3 S5 S3 S1
  intro W0 h0
  obtain ⟨i0, hi, hz0, hz1, hz2⟩ := info_parts infoP
  obtain ⟨i1, hj, hy0, hy1, hy2⟩ := info_parts infoQ
  go_loopw [5] (fun v wr => ∃ (k : Nat) (W2 : World), k ≤ 3 ∧ v = .int .i64 k ∧ wr = W2 ∧ Base.Aside (Row0 w W2 k)) (fun v _ => 3 - (intOf v).toNat)
  case atStart => exact ⟨0, W0, by omega, rfl, rfl, ⟨h0⟩⟩
  case round => as_aux_lemma =>
    obtain ⟨k, W2, hk, rfl, hwr, hA⟩ := hrel
    obtain rfl := hwr.symm
    obtain ⟨a, P, Q, hxb, hbd⟩ := hA.out
    by_cases hlt : k < 3
    · have HD := Base.Aside.mk (And.intro hxb hbd)
      clear hA hbd hxb
      go_wp2_with (first
        | (go_at_call 11; (with_reducible refine (pnew8 _).mono ?_); rintro z w3 ⟨pb, fm, pm, rfl, hP, hp, hB1⟩; have E3 := Base.Aside.mk (And.intro hP (And.intro hp hB1)); clear hP hp hB1)
        | (go_at_call 12; (with_reducible refine (rnew8 _).mono ?_); rintro z w4 ⟨qb, qr, qc, rfl, hq1, hq2, hR, hB2⟩; have hin := in_new HD.out.2 E3.out.1 E3.out.2.1 E3.out.2.2 hR ⟨hq1, hq2⟩ hB2; have hbk := xblk hin.bd HD.out.1; have C4 := (fun i => blk_cell hbk i); have L4 := blk_lt hbk; have E4 := Base.Aside.mk hin; clear hq1 hq2 hR hB2 hin hbk)
        | go_in)
      obtain ⟨a2, ha2⟩ : ∃ a2, a2 = nms a k pb fm pm qb qr qc := ⟨_, rfl⟩
      have hxx : a2.xb = w.heap.size := by rw [ha2]; exact HD.out.1
      have e1 : a2.pb k = pb := by rw [ha2]; exact if_pos rfl
      have e4 : a2.qb k = qb := by rw [ha2]; exact if_pos rfl
      have hin := E4.out
      rw [← ha2] at hin
      obtain ⟨N, hN⟩ : ∃ N, N = W2.heap.size := ⟨_, rfl⟩
      rw [← hN] at hin
      have HX := Base.Aside.mk (And.intro hxx (And.intro e1 e4))
      have H4 := Base.Aside.mk hin
      clear E3 E4 HD hin C4 L4 ha2 hxx e1 e4 hN
      go_loopw [10] (fun v wr => ∃ (i : Nat) (W5 : World), i ≤ 4 ∧ v = .int .i64 i ∧ wr = W5 ∧ Base.Aside (In w W5 a2 (msB k i) (msB k i) k i i P Q N)) (fun v _ => 4 - (intOf v).toNat)
      case atStart => exact ⟨0, w4, by omega, rfl, rfl, H4⟩
      case round => as_aux_lemma =>
        obtain ⟨i, W5, hi4, rfl, hwr5, hA5⟩ := hrel
        obtain rfl := hwr5.symm
        have b5 := xblk hA5.out.bd HX.out.1
        have C5 := fun i => blk_cell b5 i
        have L5 := blk_lt b5
        by_cases hil : i < 4
        · have c1 := in_alloc hA5.out hlt hil
          clear b5
          go_wp2_with (first
            | (go_at_call 13; refine c1.mono ?_; rintro z w6 ⟨⟨x6, rfl⟩, h6⟩; have b6 := xblk h6.bd HX.out.1; have C6 := (fun i => blk_cell b6 i); have L6 := blk_lt b6; have c2 := in_ralloc h6 hlt hil; clear b6 h6)
            | (go_at_call 14; refine c2.mono ?_; rintro z w7 ⟨⟨x7, rfl⟩, h7⟩; have c3 := in_pset h7 hlt hil; rw [HX.out.2.1] at c3; clear h7)
            | (go_at_call 15; refine c3.mono ?_; rintro z w8 ⟨rfl, h8⟩; have c4 := in_qset h8 hlt hil; rw [HX.out.2.2] at c4; clear h8)
            | (go_at_call 16; refine c4.mono ?_; rintro z w9 ⟨rfl, h9⟩; have E9 := Base.Aside.mk h9; clear h9)
            | go_in)
          exact ⟨⟨i + 1, w9, by omega, by simp, rfl, E9⟩, by simp [intOf]; omega⟩
        · obtain rfl : i = 4 := by omega
          have ht : Bd w W5 a2 (msB k 4) (msB k 4) ⟨k + 1, k, k, k, k⟩ P Q := ⟨hA5.out.bd.bo.take hA5.out.cur hA5.out.old, hA5.out.bd.bel⟩
          have HT := Base.Aside.mk ht
          clear ht b5
          go_wp2_with (first
            | (at_builtin; refine wpList_append_own_at _ rfl _ _ 42 rfl w.heap.size 55 i0 (.pointer none) 1 8 Tryz.underlying42 hi hz0 hz1 hz2 rfl (by decide) _ k _ rfl (HT.out.bo.rp.alloc _) ⟨W5.heap.size, 0, none⟩ 1 1 [.pointer (some ⟨pb, 0, none⟩)] rfl rfl (cell_one_new _ _ _) (by intro u hu; simp at hu; subst hu; rfl) (by unfold maxLen; omega) (by omega) (by have := HT.out.bel.size; simp; omega) ?_)
            | go_in)
          intro v6 w6 hown6 hg6 hnil6 hloc6
          obtain ⟨g6, cap6, rfl, hg62⟩ := row_full hown6 (by omega)
          have h6 := bd_appP HT.out HX.out.1 hg6 (by rw [HX.out.2.1]; exact hown6)
          have C6 := fun i => blk_cell h6.1 i
          have F6 := fun i => blk_frozen h6.1 i
          have L6 := blk_lt h6.1
          have hnw := new_set w6 ⟨w.heap.size, 2, none⟩ (.slice (some ⟨g6, 0, none⟩) (k + 1 : Nat) cap6)
          have hsz6 : (w6.setCell ⟨w.heap.size, 2, none⟩ (.slice (some ⟨g6, 0, none⟩) (k + 1 : Nat) cap6)).heap.size = w6.heap.size := size_set _ _ _
          have H6 := Base.Aside.mk h6.2
          have HN := Base.Aside.mk (And.intro hnw hsz6)
          clear h6 hown6 hg6 hnil6 hloc6 hg62 hnw hsz6
          go_wp2_with (first
            | (at_builtin; refine wpList_append_own_at _ rfl _ _ 45 rfl w.heap.size 58 i1 (.pointer none) 1 8 Tryz.underlying45 hj hy0 hy1 hy2 rfl (by decide) _ k _ rfl (H6.out.bo.rq.alloc _) ⟨w6.heap.size, 0, none⟩ 1 1 [.pointer (some ⟨qb, 0, none⟩)] rfl rfl (HN.out.1 _ _) (by intro u hu; simp at hu; subst hu; rfl) (by unfold maxLen; omega) (by omega) (by have h1 := H6.out.bel.size; rw [HN.out.2] at h1; simp; omega) ?_)
            | go_in)
          intro v7 w7 hown7 hg7 hnil7 hloc7
          obtain ⟨g7, cap7, rfl, hg72⟩ := row_full hown7 (by omega)
          have h7 := bd_appQ H6.out HX.out.1 hg7 (by rw [HX.out.2.2]; exact hown7)
          have C7 := fun i => blk_cell h7.1 i
          have F7 := fun i => blk_frozen h7.1 i
          have L7 := blk_lt h7.1
          have c8 := bd_joinG h7.2 hlt
          rw [HX.out.2.1] at c8
          clear h7 hown7 hg7 hnil7 hloc7 hg72
          go_wp2_with (first
            | (go_at_call 17; refine c8.mono ?_; rintro z w8 ⟨rfl, h8⟩; have b8 := xblk h8 HX.out.1; have C8 := (fun i => blk_cell b8 i); have L8 := blk_lt b8; have c9 := bd_joinH h8 hlt; rw [HX.out.2.2] at c9; clear b8 h8)
            | (go_at_call 18; refine c9.mono ?_; rintro z w9 ⟨rfl, h9⟩; have E9 := Base.Aside.mk h9; clear h9)
            | go_in)
          exact ⟨⟨k + 1, w9, by omega, by simp, rfl, ⟨⟨a2, _, _, HX.out.1, E9.out⟩⟩⟩, by simp [intOf]; omega⟩
    · obtain rfl : k = 3 := by omega
      have HD := Base.Aside.mk (And.intro hxb hbd)
      clear hA hbd hxb
      go_wp2
      go_loopw [11] (fun v wr => ∃ (i : Nat) (W3 : World), i ≤ l ∧ v = .int .i64 i ∧ wr = W3 ∧ Base.Aside (BdS w W3 a P Q)) (fun v _ => l - (intOf v).toNat)
      case atStart => exact ⟨0, W2, by omega, rfl, rfl, ⟨⟨_, rfl, rfl, HD.out.2⟩⟩⟩
      case round => as_aux_lemma =>
        obtain ⟨i, W3, hil, rfl, hwr3, hB⟩ := hrel
        obtain rfl := hwr3.symm
        by_cases hlt : i < l
        · obtain ⟨x, hx1, hx2, hx3⟩ := HE.out.at_ i hlt
          subst hx1
          obtain ⟨s, hs1, hs2, hs⟩ := hB.out
          have hy := hx3.below hs.bel
          obtain ⟨e, he⟩ : ∃ e, es[i]'(by have := HE.out.len; omega) = e := ⟨_, rfl⟩
          rw [he] at hy
          have hly := lay_any hs HD.out.1 e ⟨hs1, hs1⟩ (fun k hk => by rw [hs2]; exact ⟨msB_low 3 0 k (by omega), msB_low 3 0 k (by omega)⟩)
          have k0 := hy.c0
          have k1 := hy.c1
          have k2 := hy.c2
          have k3 := hy.c3
          have k4 := hy.c4
          have k5 := hy.c5
          have k6 := hy.c6
          have k7 := hy.c7
          have k8 := hy.c8
          have k9 := hy.c9
          have hq0 : (i : Int) < (l : Int) := by omega
          have HS := Base.Aside.mk (And.intro hs1 hs2)
          clear hy hx3 hx2 hs he hs1 hs2 hB
          go_wp2_with (first
            | (go_at_call 19; (with_reducible refine hly.mono ?_); rintro z w4 ⟨rfl, h4⟩; have E4 := Base.Aside.mk (⟨_, (layS_n s e).trans HS.out.1, (layS_fr s e).trans HS.out.2, h4⟩ : BdS w w4 a P Q); clear h4)
            | go_in)
          exact ⟨⟨i + 1, w4, by omega, by simp, rfl, E4⟩, by simp [intOf]; omega⟩
        · obtain rfl : i = l := by omega
          go_wp2
          go_ret2
          obtain ⟨s, hs1, hs2, hs⟩ := hB.out
          exact ⟨a, P, Q, s, by first | rfl | (simp; done), HD.out.1, hs1, hs2, hs⟩
end Go.Proofs.YthlejchcnfdcpaaGreat.GsA
namespace Go.Proofs.YthlejchcnfdcpaaGreat.GsG
open Go.ChangeShapes Go.WideShapes Go.ChangeAt Go.RowKit Go.Joins Go.Deep
open GfC (Gr)
open GoB (LE)
open GsA (EnCells Ents)
set_option linter.unusedVariables false
set_option linter.unusedSimpArgs false

section
variable {H : Type} {enc : TypeId × Value → H} {P : Program} {w : World} {base : Nat} {spare : Nat → Bool} {held : Bool}
theorem trod_struct7 {t : TypeId} {f0 f1 f2 f3 f4 f5 f6 : Field} {fuel : Nat} {cs : List Value} {x : DataW H × List MemPlace} (ht : P.underlying t = some (.struct #[f0, f1, f2, f3, f4, f5, f6])) (h : DataW.trod enc P w base spare held fuel t cs = some x) :
    ∃ y0 y1 y2 y3 y4 y5 y6 n, x.1 = .agg [y0.1, y1.1, y2.1, y3.1, y4.1, y5.1, y6.1] ∧ cs.length = P.cellsOf t ∧ DataW.trod enc P w base spare held n f0.type ((cs.drop f0.offset).take (P.cellsOf f0.type)) = some y0 ∧ DataW.trod enc P w base spare held n f1.type ((cs.drop f1.offset).take (P.cellsOf f1.type)) = some y1 ∧ DataW.trod enc P w base spare held n f2.type ((cs.drop f2.offset).take (P.cellsOf f2.type)) = some y2 ∧ DataW.trod enc P w base spare held n f3.type ((cs.drop f3.offset).take (P.cellsOf f3.type)) = some y3 ∧ DataW.trod enc P w base spare held n f4.type ((cs.drop f4.offset).take (P.cellsOf f4.type)) = some y4 ∧ DataW.trod enc P w base spare held n f5.type ((cs.drop f5.offset).take (P.cellsOf f5.type)) = some y5 ∧ DataW.trod enc P w base spare held n f6.type ((cs.drop f6.offset).take (P.cellsOf f6.type)) = some y6 := by
  obtain ⟨xs, n, _, rfl, hl, hlen, hf⟩ := DataW.trod_struct ht h
  match xs, hlen with
  | [y0, y1, y2, y3, y4, y5, y6], _ => exact ⟨y0, y1, y2, y3, y4, y5, y6, n, by simp, hl, by simpa using hf 0 f0 rfl, by simpa using hf 1 f1 rfl, by simpa using hf 2 f2 rfl, by simpa using hf 3 f3 rfl, by simpa using hf 4 f4 rfl, by simpa using hf 5 f5 rfl, by simpa using hf 6 f6 rfl⟩
end
theorem cellE : Tryz.prog.cellsOf 34 = 10 := by kernel_rfl
theorem cellG : Tryz.prog.cellsOf 32 = 7 := by kernel_rfl
theorem cellI : Tryz.prog.cellsOf 3 = 1 := by kernel_rfl
theorem cellB : Tryz.prog.cellsOf 4 = 1 := by kernel_rfl
theorem cellU : Tryz.prog.cellsOf 5 = 1 := by kernel_rfl
instance : Inhabited LE := ⟨⟨0, 0, ⟨0, false, false, 0, 0, 0, 0⟩, 0⟩⟩
theorem add0 (x : Addr) : x.add 0 = x := by unfold Addr.add; rfl
theorem addS (x : Addr) (j : Nat) (h : j ≠ 0) : x.add j = ⟨x.block, x.off + j, none⟩ := by
  unfold Addr.add
  rw [if_neg h]
section
variable {H : Type} {enc : TypeId × Value → H} {W : World} {base : Nat} {spare : Nat → Bool} {held : Bool} {n : Nat} {cs : List Value} {y : DataW H × List MemPlace}
def leC (e : LE) : List Value := [.int .i64 e.dom, .int .i64 e.ref, .int .i64 e.g.kd, .bool e.g.ro, .bool e.g.sb, .int .i64 e.g.dom, .int .i64 e.g.gp, .int .i64 e.g.of, .int .i64 e.g.le, .int .u8 e.fl]
set_option maxRecDepth 100000 in
theorem open_grant (h : DataW.trod enc Tryz.prog W base spare held n 32 cs = some y) : ∃ g : Gr, cs = [.int .i64 g.kd, .bool g.ro, .bool g.sb, .int .i64 g.dom, .int .i64 g.gp, .int .i64 g.of, .int .i64 g.le] := by
  obtain ⟨y0, y1, y2, y3, y4, y5, y6, k, _, hl, g0, g1, g2, g3, g4, g5, g6⟩ := trod_struct7 Tryz.underlying32 h
  rw [cellG] at hl
  match cs, hl with
  | [v0, v1, v2, v3, v4, v5, v6], _ =>
    have q0 : DataW.trod enc Tryz.prog W base spare held k 3 [v0] = some y0 := by simpa [cellI] using g0
    have q1 : DataW.trod enc Tryz.prog W base spare held k 4 [v1] = some y1 := by simpa [cellB] using g1
    have q2 : DataW.trod enc Tryz.prog W base spare held k 4 [v2] = some y2 := by simpa [cellB] using g2
    have q3 : DataW.trod enc Tryz.prog W base spare held k 3 [v3] = some y3 := by simpa [cellI] using g3
    have q4 : DataW.trod enc Tryz.prog W base spare held k 3 [v4] = some y4 := by simpa [cellI] using g4
    have q5 : DataW.trod enc Tryz.prog W base spare held k 3 [v5] = some y5 := by simpa [cellI] using g5
    have q6 : DataW.trod enc Tryz.prog W base spare held k 3 [v6] = some y6 := by simpa [cellI] using g6
    obtain ⟨x0, e0, _, _⟩ := DataW.trod_int Tryz.underlying3 q0
    obtain ⟨x1, e1, _⟩ := DataW.trod_bool Tryz.underlying4 q1
    obtain ⟨x2, e2, _⟩ := DataW.trod_bool Tryz.underlying4 q2
    obtain ⟨x3, e3, _, _⟩ := DataW.trod_int Tryz.underlying3 q3
    obtain ⟨x4, e4, _, _⟩ := DataW.trod_int Tryz.underlying3 q4
    obtain ⟨x5, e5, _, _⟩ := DataW.trod_int Tryz.underlying3 q5
    obtain ⟨x6, e6, _, _⟩ := DataW.trod_int Tryz.underlying3 q6
    obtain rfl := (List.cons.inj e0).1
    obtain rfl := (List.cons.inj e1).1
    obtain rfl := (List.cons.inj e2).1
    obtain rfl := (List.cons.inj e3).1
    obtain rfl := (List.cons.inj e4).1
    obtain rfl := (List.cons.inj e5).1
    obtain rfl := (List.cons.inj e6).1
    exact ⟨⟨x0, x1, x2, x3, x4, x5, x6⟩, rfl⟩
set_option maxRecDepth 100000 in
theorem open_entry (h : DataW.trod enc Tryz.prog W base spare held n 34 cs = some y) : ∃ e : LE, cs = leC e := by
  obtain ⟨y0, y1, y2, y3, k, _, hl, g0, g1, g2, g3⟩ := trod_struct4 Tryz.underlying34 h
  rw [cellE] at hl
  match cs, hl with
  | [v0, v1, v2, v3, v4, v5, v6, v7, v8, v9], _ =>
    have q0 : DataW.trod enc Tryz.prog W base spare held k 3 [v0] = some y0 := by simpa [cellI] using g0
    have q1 : DataW.trod enc Tryz.prog W base spare held k 3 [v1] = some y1 := by simpa [cellI] using g1
    have q2 : DataW.trod enc Tryz.prog W base spare held k 32 [v2, v3, v4, v5, v6, v7, v8] = some y2 := by simpa [cellG] using g2
    have q3 : DataW.trod enc Tryz.prog W base spare held k 5 [v9] = some y3 := by simpa [cellU] using g3
    obtain ⟨x0, e0, _, _⟩ := DataW.trod_int Tryz.underlying3 q0
    obtain ⟨x1, e1, _, _⟩ := DataW.trod_int Tryz.underlying3 q1
    obtain ⟨g, eg⟩ := open_grant q2
    obtain ⟨x3, e3, _, _⟩ := DataW.trod_int Tryz.underlying5 q3
    obtain rfl := (List.cons.inj e0).1
    obtain rfl := (List.cons.inj e1).1
    obtain rfl := (List.cons.inj e3).1
    refine ⟨⟨x0, x1, g, x3⟩, ?_⟩
    simp only [List.cons.injEq, and_true] at eg
    obtain ⟨rfl, rfl, rfl, rfl, rfl, rfl, rfl⟩ := eg
    rfl
set_option maxRecDepth 100000 in
theorem open_entries (h : DataW.trod enc Tryz.prog W base spare held n 22 cs = some y) :
    ∃ (A : Option Addr) (l c : Nat) (es : List LE), cs = [.slice A l c] ∧ l ≤ 9223372036854775807 ∧ Ents W A l es := by
  rcases open_slice Tryz.underlying22 h with ⟨hcs, _⟩ | ⟨a, len, cap, m, n', D, Pl, hcs, hb, hl, hm, hmm, hx, hel⟩
  · exact ⟨none, 0, 0, [], hcs, by omega, rfl, .inl rfl⟩
  · have hlm : len ≤ m := by rw [hmm]; split <;> omega
    obtain ⟨q, hq⟩ := choose_lt (n := len) (p := fun i (p : LE) => EnCells W (a.add (i * 10)) p) (fun i hi => by
      obtain ⟨cs', h1, h2⟩ := hel i (by omega)
      rw [cellE] at h1
      obtain ⟨_, hlen, hcell⟩ := World.cells?_some h1
      obtain ⟨p, hp⟩ := open_entry h2
      subst hp
      have c0 := hcell 0 (by simp)
      have c1 := hcell 1 (by simp)
      have c2 := hcell 2 (by simp)
      have c3 := hcell 3 (by simp)
      have c4 := hcell 4 (by simp)
      have c5 := hcell 5 (by simp)
      have c6 := hcell 6 (by simp)
      have c7 := hcell 7 (by simp)
      have c8 := hcell 8 (by simp)
      have c9 := hcell 9 (by simp)
      rw [add0] at c0
      rw [addS _ _ (by decide)] at c1 c2 c3 c4 c5 c6 c7 c8 c9
      exact ⟨p, by simpa [leC] using c0, by simpa [leC] using c1, by simpa [leC] using c2, by simpa [leC] using c3, by simpa [leC] using c4, by simpa [leC] using c5, by simpa [leC] using c6, by simpa [leC] using c7, by simpa [leC] using c8, by simpa [leC] using c9⟩)
    have hget : ∀ (i : Nat) (p : LE), ((List.range len).map q)[i]? = some p → i < len ∧ q i = p := by
      intro i p hi
      rw [List.getElem?_map] at hi
      obtain ⟨j', hj', rfl⟩ := Option.map_eq_some_iff.1 hi
      obtain ⟨hlt, hval⟩ := List.getElem?_eq_some_iff.1 hj'
      rw [List.getElem_range] at hval
      subst hval
      exact ⟨by simpa using hlt, rfl⟩
    have hmax : maxLen ≤ 9223372036854775807 := by unfold maxLen; omega
    refine ⟨some a, len, cap, (List.range len).map q, hcs, by omega, by simp, ?_⟩
    by_cases h0 : len = 0
    · subst h0
      exact .inl rfl
    · refine .inr ⟨a, rfl, ?_, fun i p hi => ?_⟩
      · have := World.block_lt_of_cell? W _ (hq 0 (by omega)).c0
        rwa [show (a.add (0 * 10)).block = a.block by unfold Addr.add; split <;> rfl] at this
      · obtain ⟨h1, rfl⟩ := hget i p hi
        exact hq i h1
end
end Go.Proofs.YthlejchcnfdcpaaGreat.GsG
