/- Proved: the document's Push, at every argument (a contract for the laws of the grants). -/
import Derived.Test.YthlejchcnfdcpaaGreatMlaj
import Derived.Test.YthlejchcnfdcpaaGreatMlaz
namespace Go.Proofs.YthlejchcnfdcpaaGreat.GyK
open Go.RowKit Go.Maps Base GaA GaB GaC GaD GmB GmC GpA GeA GeB GfA GfB GfC GfD GfE GfF GfG GfH GjA GjC GwA GwB GwF RpA RmA RmB RgA GxA GxB GxC GxD GyA GyB GyC GyD GyE GyF GyH GyI
set_option linter.unusedVariables false
set_option linter.unusedSimpArgs false

section
variable {w0 w w' W W0 W' : World} {a : DA} {v : DVA} {A : Option Addr} {cap : Nat} {s s' : MS} {f : Int → Option (Int × Nat)} {pi : Nat → PI} {qq : Nat → Nat × Nat × Nat} {L : List Mp} {F : Int × Int → Option Mp} {r : Nat}
/-- A page is written. -/
theorem DV.write (h : DV w0 a v W W' A cap s f pi qq L r) (hM : RMach w' a.rb a.Fb a.Bb a.cF a.cB a.bs s') (hn : s'.n = s.n) (hc : Chg (fun y => y ∈ a.bs) W' w') : DV w0 a v W w' A cap s' f pi qq L r :=
  ⟨h.dw.out hc hM hn (fun x hx => h.dw.kbs x hx), h.vd.chg hc (fun x hx => h.vd.ge.2 x hx) (h.vd.out h.dw.m), h.ch.trans (hc.mono fun _ h => .inr h), h.h64⟩
theorem bytes_dv {B : Option Addr} {zs : List UInt8} (hz : Bytes W B zs) (hx : zs ≠ [] → ∀ x, B = some x → x.block ≠ v.ub ∧ x.block ∉ a.bs) (h : DV w0 a v W W' A cap s f pi qq L r) : Bytes W' B zs := by
  rcases Decidable.em (zs = []) with rfl | hne
  · exact .inl rfl
  · obtain ⟨x, rfl, hy⟩ := hz.resolve_left hne
    exact .inr ⟨x, rfl, hy.chg h.ch (fun hf => hf.elim (hx hne x rfl).1 (hx hne x rfl).2)⟩
def PsOut (w0 : World) (a : DA) (v : DVA) (W : World) (A : Option Addr) (cap : Nat) (s : MS) (f : Int → Option (Int × Nat)) (pi : Nat → PI) (qq : Nat → Nat × Nat × Nat) (L : List Mp) (q : (Int × Int) × Int) (zs : List UInt8) (r : Nat) (e : Ending) (w' : World) : Prop :=
  e = .returned (.int .i64 (pushE s q zs.length)) ∧ DV w0 a v W w' A cap (pushS s q zs) f pi qq L r
set_option maxHeartbeats 8000000 in
set_option maxRecDepth 100000 in
theorem rpush (h : DV w0 a v W W A cap s f pi qq L r) (caller : Int) (t : En) (B : Option Addr) (c : Nat) (zs : List UInt8) (hz : Bytes W B zs) (hx : zs ≠ [] → ∀ x, B = some x → x.block ≠ v.ub ∧ x.block ∉ a.bs) :
    Calls Tryz.prog 89 #[.pointer (some ⟨a.hb, 0, none⟩), .pointer (some ⟨v.ub, 0, none⟩), .int .i64 caller, .agg #[.bool t.gr, .int .i64 t.dom, .int .i64 t.ref, .int .i64 t.gpfn, .int .i64 t.off], .slice B zs.length c] W (PsOut w0 a v W A cap (pkn s v.ps r (findN f caller t zs.length)) f pi qq L (findR (pokeS s v.ps r) f pi caller t zs.length true) zs (r + findN f caller t zs.length)) := by
  have hb1 := below_alloc (Below.refl W.heap.size W) (.cells #[.bool t.gr, .int .i64 t.dom, .int .i64 t.ref, .int .i64 t.gpfn, .int .i64 t.off] 29)
  have hend := rend_any (h.below hb1).re caller zs.length t true
  unfold EndOut placed at hend
  obtain ⟨s1, hs1⟩ : ∃ s1, s1 = pkn s v.ps r (findN f caller t zs.length) := ⟨_, rfl⟩
  obtain ⟨r1, hr1⟩ : ∃ r1, r1 = r + findN f caller t zs.length := ⟨_, rfl⟩
  generalize hq : findR (pokeS s v.ps r) f pi caller t zs.length true = q at hend ⊢
  rw [← hs1, ← hr1] at hend ⊢
  clear hq hs1 hr1
  obtain ⟨⟨qa, qb⟩, q2⟩ := q
  simp only at hend
  obtain ⟨n, hn⟩ : ∃ n, n = zs.length := ⟨_, rfl⟩
  have HP := Base.Aside.mk (And.intro hb1 (And.intro h (And.intro hz (And.intro hx hn))))
  have C0 := fun w2 (h2 : DV w0 a v W w2 A cap s1 f pi qq L r1) => fun i => blk_cell h2.dw.blk i
  have hwr := fun w2 (h2 : DV w0 a v W w2 A cap s1 f pi qq L r1) => (rwrite_any h2.dw.m qa qb B c zs (bytes_dv hz hx h2) (fun hne x hx2 => (hx hne x hx2).2)).mono (R' := fun e w' => e = .returned (.int .i64 (wrE s1 qa qb zs.length)) ∧ DV w0 a v W w' A cap (wrS s1 qa qb zs) f pi qq L r1) (fun e w' h3 => ⟨h3.1, DV.write h2 h3.2.1 (GwA.wrS_n _ _ _ _) h3.2.2⟩)
  have his := fun w2 (h2 : DV w0 a v W w2 A cap s1 f pi qq L r1) => is_any h2.dw.m qa
  unfold PsOut
  rw [← hn] at hend hwr ⊢
  clear h hb1 hz hx hn
  by_cases q0 : q2 = 0
  · subst q0
    have hE : pushE s1 ((qa, qb), 0) n = if isTab (frV s1 qa).1 then 13 else wrE s1 qa qb n := by unfold pushE; rw [if_neg (fun h => h rfl)]
    have hS : pushS s1 ((qa, qb), 0) zs = if isTab (frV s1 qa).1 then s1 else wrS s1 qa qb zs := by unfold pushS; rw [if_neg (fun h => h rfl)]
    rw [hE, hS]
    by_cases hin : 0 ≤ qa ∧ qa < s1.n
    · obtain ⟨m, rfl⟩ : ∃ m : Nat, qa = m := ⟨qa.toNat, by omega⟩
      have hv : frV s1 m = (s1.fr m, 0) := by unfold frV; rw [if_pos hin, Int.toNat_natCast]
      rw [hv]
      have hbt : (decide (0 ≤ (m : Int)) && decide ((m : Int) < s1.n)) = true := by simp; omega
      simp only [hbt] at his
      have i0 : (0 : Int) ≤ (m : Int) := hin.1
      have i1 : (m : Int) < (s1.n : Int) := hin.2
      have hcl := fun w2 (h2 : DV w0 a v W w2 A cap s1 f pi qq L r1) => h2.dw.m.cell m 1 (by omega) (by omega)
      obtain ⟨y, hy⟩ : ∃ y, y = (s1.fr m).typ := ⟨_, rfl⟩
      have hcy : ∀ w2, DV w0 a v W w2 A cap s1 f pi qq L r1 → w2.cell? ⟨a.Fb, m * 4 + 1, none⟩ = some (.int .i64 y) := fun w2 h2 => by
        have := hcl w2 h2
        simp only [cellM] at this
        simp at this
        rw [this, hy]
      have hcase : (isTab (s1.fr m) ∧ (y == 2) = true) ∨ (isTab (s1.fr m) ∧ (y == 2) = false ∧ (y == 3) = true) ∨ (¬ isTab (s1.fr m) ∧ (y == 2) = false ∧ (y == 3) = false) := by
        unfold isTab
        rw [← hy]
        by_cases z2 : y = 2
        · exact .inl ⟨.inl z2, by simp [z2]⟩
        · by_cases z3 : y = 3
          · exact .inr (.inl ⟨.inr z3, by simp [z2], by simp [z3]⟩)
          · exact .inr (.inr ⟨fun h => h.elim z2 z3, by simp [z2], by simp [z3]⟩)
      clear hcl hy hin hE hS hv hbt
      rcases hcase with ⟨p, d1⟩ | ⟨p, d1, d2⟩ | ⟨p, d1, d2⟩
      rotate_left 2
      · rw [if_neg p, if_neg p]
        go_enter Tryz.func89, Tryz.ntmps89
        go_wp2_with (first
          | (go_at_call 110; (with_reducible refine hend.mono ?_); rintro z w2 ⟨⟨m1, o, rfl, hmo⟩, hV2⟩; obtain ⟨rfl, rfl⟩ := hmo rfl; have E1 := Base.Aside.mk (DV.pre HP.out.1 hV2); have C2 := C0 _ E1.out; have L2 := blk_lt E1.out.dw.blk; have D2 := fun i => blk_cell E1.out.dw.m.blk i; have M2 := E1.out.dw.m.lt; have cy := hcy _ E1.out; have is2 := his _ E1.out; have wr2 := hwr _ E1.out; clear hV2)
          | (go_at_call 96; (with_reducible refine is2.mono ?_); rintro z w4 ⟨rfl, hw4⟩; obtain rfl := hw4.symm)
          | (go_at_call 59; (with_reducible refine wr2.mono ?_); rintro z w5 ⟨rfl, hV5⟩; have E5 := Base.Aside.mk hV5; clear hV5)
          | go_in)
        go_ret
        exact ⟨by first | rfl | (simp; done), E5.out⟩
      all_goals
        rw [if_pos p, if_pos p]
        clear hwr
        go_enter Tryz.func89, Tryz.ntmps89
        go_wp2_with (first
          | (go_at_call 110; (with_reducible refine hend.mono ?_); rintro z w2 ⟨⟨m1, o, rfl, hmo⟩, hV2⟩; obtain ⟨rfl, rfl⟩ := hmo rfl; have E1 := Base.Aside.mk (DV.pre HP.out.1 hV2); have C2 := C0 _ E1.out; have L2 := blk_lt E1.out.dw.blk; have D2 := fun i => blk_cell E1.out.dw.m.blk i; have M2 := E1.out.dw.m.lt; have cy := hcy _ E1.out; have is2 := his _ E1.out; clear hV2)
          | (go_at_call 96; (with_reducible refine is2.mono ?_); rintro z w4 ⟨rfl, hw4⟩; obtain rfl := hw4.symm)
          | go_in)
        go_ret
        exact ⟨by first | rfl | (simp; done), E1.out⟩
    · have hv : frV s1 qa = (⟨0, 0, 0, 0⟩, 1) := by unfold frV; rw [if_neg hin]
      rw [hv, if_neg (by unfold isTab; decide), if_neg (by unfold isTab; decide)]
      have hbt : (decide (0 ≤ qa) && decide (qa < s1.n)) = false := by simp; omega
      simp only [hbt] at his
      clear hv hin hE hS hbt
      go_enter Tryz.func89, Tryz.ntmps89
      go_wp2_with (first
        | (go_at_call 110; (with_reducible refine hend.mono ?_); rintro z w2 ⟨⟨m1, o, rfl, hmo⟩, hV2⟩; obtain ⟨rfl, rfl⟩ := hmo rfl; have E1 := Base.Aside.mk (DV.pre HP.out.1 hV2); have C2 := C0 _ E1.out; have L2 := blk_lt E1.out.dw.blk; have is2 := his _ E1.out; have wr2 := hwr _ E1.out; clear hV2)
        | (go_at_call 96; (with_reducible refine is2.mono ?_); rintro z w4 ⟨rfl, hw4⟩; obtain rfl := hw4.symm)
        | (go_at_call 59; (with_reducible refine wr2.mono ?_); rintro z w5 ⟨rfl, hV5⟩; have E5 := Base.Aside.mk hV5; clear hV5)
        | go_in)
      go_ret
      exact ⟨by first | rfl | (simp; done), E5.out⟩
  · have d1 : (q2 != 0) = true := by simp [q0]
    have hE : pushE s1 ((qa, qb), q2) n = q2 := if_pos q0
    have hS : pushS s1 ((qa, qb), q2) zs = s1 := if_pos q0
    rw [hE, hS]
    clear hE hS q0 hwr his
    go_enter Tryz.func89, Tryz.ntmps89
    go_wp2_with (first
      | (go_at_call 110; (with_reducible refine hend.mono ?_); rintro z w2 ⟨⟨m, o, rfl, hmo⟩, hV2⟩; have E1 := Base.Aside.mk (DV.pre HP.out.1 hV2); clear hV2 hmo)
      | go_in)
    go_ret
    exact ⟨by first | rfl | (simp; done), E1.out⟩
end
end Go.Proofs.YthlejchcnfdcpaaGreat.GyK
