/- Proved: the document's Read and where its Write is refused (contracts for the laws of the grants). Proved: the document's Write of a live map, and Revoke (contracts for the laws of the grants). Proved: Unmap, Leave, Join, Revoke and Write answer the same on both sides (the plain law of the grants). -/
import Derived.Test.YthlejchcnfdcpaaGreatMlar
import Derived.Test.YthlejchcnfdcpaaGreatMlax
import Derived.Test.YthlejchcnfdcpaaGreatMlbe
namespace Go.Proofs.YthlejchcnfdcpaaGreat.GyG
open Go.RowKit Go.Maps Base GaA GaB GaC GaD GmB GmC GpA GeA GeB GfA GfB GfC GfD GjA GjC GjH GjI GwA GwB RpA RmA RmB RgA GxA GxB GxC GxD GyA GyB GyC GyD GyE
set_option linter.unusedVariables false
set_option linter.unusedSimpArgs false

section
variable {w0 w w' W W0 W' : World} {a : DA} {v : DVA} {A : Option Addr} {cap : Nat} {s s' : MS} {f : Int → Option (Int × Nat)} {pi : Nat → PI} {qq : Nat → Nat × Nat × Nat} {L : List Mp} {F : Int × Int → Option Mp} {r : Nat}
set_option maxHeartbeats 8000000 in
set_option maxRecDepth 100000 in
theorem rgread_no (h : DW W a A cap s f pi qq L) (hL : Lk F L) (ub : Nat) (d k off l : Int) (hne : rdE (heldR F d k) off l ≠ 0) :
    Calls Tryz.prog 28 #[.pointer (some ⟨a.hb, 0, none⟩), .pointer (some ⟨ub, 0, none⟩), .int .i64 d, .int .i64 k, .int .i64 off, .int .i64 l] W fun e w' => e = .returned (.tuple #[.slice none 0 0, .int .i64 (rdE (heldR F d k) off l)]) ∧ Below W.heap.size W w' := by
  have hh := rheld h hL d k
  have hwi := fun W => rwithin off l 256 (by omega) (by omega) W
  clear h
  generalize heldR F d k = R at hh hne ⊢
  obtain ⟨m, er⟩ := R
  simp only at hh
  unfold rdE at hne ⊢
  simp only at hne ⊢
  have hcs : (er ≠ 0 ∧ (er != 0) = true) ∨ (er = 0 ∧ inn off l 256 = false) := by
    by_cases e : er = 0
    · rw [if_neg (by simp [e])] at hne
      refine .inr ⟨e, ?_⟩
      cases hi : inn off l 256 with
      | false => rfl
      | true => rw [hi] at hne; simp at hne
    · exact .inl ⟨e, by simp [e]⟩
  clear hne
  rcases hcs with ⟨h1, h2⟩ | ⟨rfl, h2⟩
  · rw [if_pos h1]
    go_enter Tryz.func28, Tryz.ntmps28
    go_wp2_with (first
      | (go_at_call 79; refine hh.mono ?_; rintro z w1 ⟨rfl, hB1⟩; have E1 := Base.Aside.mk hB1; clear hB1)
      | go_in)
    go_ret2
    exact ⟨by first | rfl | (simp; done), below_alloc E1.out _⟩
  · rw [if_neg (by simp), if_pos h2]
    rw [h2] at hwi
    go_enter Tryz.func28, Tryz.ntmps28
    go_wp2_with (first
      | (go_at_call 79; refine hh.mono ?_; rintro z w1 ⟨rfl, hB1⟩; have E1 := Base.Aside.mk hB1; clear hB1)
      | (go_at_call 80; refine (hwi _).mono ?_; rintro z w6 ⟨rfl, hw6⟩; obtain rfl := hw6.symm)
      | go_in)
    go_ret2
    exact ⟨by first | rfl | (simp; done), below_alloc E1.out _⟩
def RgOut (w0 : World) (a : DA) (v : DVA) (W : World) (A : Option Addr) (cap : Nat) (s : MS) (f : Int → Option (Int × Nat)) (pi : Nat → PI) (qq : Nat → Nat × Nat × Nat) (L : List Mp) (r : Nat) (k off l : Int) (e : Ending) (w' : World) : Prop :=
  ∃ (B : Option Addr) (z c : Nat) (er : Int), e = .returned (.tuple #[.slice B z c, .int .i64 er]) ∧ RrOk W s k off l B z er w' ∧ DV w0 a v W w' A cap s f pi qq L r
set_option maxHeartbeats 8000000 in
set_option maxRecDepth 100000 in
theorem rgread_ok (h : DV w0 a v W W A cap s f pi qq L r) (hL : Lk F L) (d k off l : Int) (m : Mp) (hm2 : heldR F d k = (m, 0)) (hin : inn off l 256 = true) :
    Calls Tryz.prog 28 #[.pointer (some ⟨a.hb, 0, none⟩), .pointer (some ⟨v.ub, 0, none⟩), .int .i64 d, .int .i64 k, .int .i64 off, .int .i64 l] W (RgOut w0 a v W A cap (pokeS s v.ps r) f pi qq L (r + 1) m.mfn off l) := by
  have hh := rheld h.dw hL d k
  rw [hm2] at hh
  simp only at hh
  have hwi := fun W => rwithin off l 256 (by omega) (by omega) W
  rw [hin] at hwi
  have hvr := fun W' (hW : Below W.heap.size W W') => (dvread (h.below hW).re m.mfn off l).mono (R' := RgOut w0 a v W A cap (pokeS s v.ps r) f pi qq L (r + 1) m.mfn off l) (fun e w' ⟨B, z, c, er, h1, h2, h3⟩ => ⟨B, z, c, er, h1, RrOk.mono h2 hW.size, h3.pre hW⟩)
  clear h hm2 hin
  go_enter Tryz.func28, Tryz.ntmps28
  go_wp2_with (first
    | (go_at_call 79; refine hh.mono ?_; rintro z w1 ⟨rfl, hB1⟩; have hvr2 := (fun cs => hvr _ (below_alloc hB1 (.cells cs 102))); clear hB1)
    | (go_at_call 80; refine (hwi _).mono ?_; rintro z w6 ⟨rfl, hw6⟩; obtain rfl := hw6.symm)
    | (go_at_call 81; refine (hvr2 _).mono ?_; rintro z w7 ⟨B, y, c, er, rfl, hR7, hV7⟩; have E7 := Base.Aside.mk (And.intro hR7 hV7); clear hR7 hV7)
    | go_in)
  go_ret2
  exact ⟨B, y, c, er, by first | rfl | (simp; done), E7.out.1, E7.out.2⟩
set_option maxHeartbeats 8000000 in
set_option maxRecDepth 100000 in
theorem rgwrite_no (h : DW W a A cap s f pi qq L) (hL : Lk F L) (d k off : Int) (B : Option Addr) (l c : Nat) (hne : weE (heldR F d k) off l ≠ 0) :
    Calls Tryz.prog 30 #[.pointer (some ⟨a.hb, 0, none⟩), .int .i64 d, .int .i64 k, .int .i64 off, .slice B l c] W fun e w' => e = .returned (.int .i64 (weE (heldR F d k) off l)) ∧ Below W.heap.size W w' := by
  have hh := rheld h hL d k
  have hwi := fun W => rwithin off l 256 (by omega) (by omega) W
  clear h
  generalize heldR F d k = R at hh hne ⊢
  obtain ⟨m, er⟩ := R
  obtain ⟨m1, m2, m3, m4, m5, m6⟩ := m
  simp only at hh
  unfold weE at hne ⊢
  simp only at hne ⊢
  have hcs : (er ≠ 0 ∧ (er != 0) = true) ∨ (er = 0 ∧ m6 = false) ∨ (er = 0 ∧ m6 = true ∧ inn off l 256 = false) := by
    by_cases e : er = 0
    · rw [if_neg (by simp [e])] at hne
      cases m6 with
      | false => exact .inr (.inl ⟨e, rfl⟩)
      | true =>
        rw [if_neg (by simp)] at hne
        refine .inr (.inr ⟨e, rfl, ?_⟩)
        cases hi : inn off l 256 with
        | false => rfl
        | true => rw [hi] at hne; simp at hne
    · exact .inl ⟨e, by simp [e]⟩
  clear hne
  rcases hcs with ⟨h1, h2⟩ | ⟨rfl, rfl⟩ | ⟨rfl, rfl, h2⟩
  · rw [if_pos h1]
    go_enter Tryz.func30, Tryz.ntmps30
    go_wp2_with (first
      | (go_at_call 79; refine hh.mono ?_; rintro z w1 ⟨rfl, hB1⟩; have E1 := Base.Aside.mk hB1; clear hB1)
      | go_in)
    go_ret
    exact ⟨by first | rfl | (simp; done), below_alloc E1.out _⟩
  · rw [if_neg (by simp), if_pos rfl]
    go_enter Tryz.func30, Tryz.ntmps30
    go_wp2_with (first
      | (go_at_call 79; refine hh.mono ?_; rintro z w1 ⟨rfl, hB1⟩; have E1 := Base.Aside.mk hB1; clear hB1)
      | go_in)
    go_ret
    exact ⟨by first | rfl | (simp; done), below_alloc E1.out _⟩
  · rw [if_neg (by simp), if_neg (by simp), if_pos h2]
    rw [h2] at hwi
    go_enter Tryz.func30, Tryz.ntmps30
    go_wp2_with (first
      | (go_at_call 79; refine hh.mono ?_; rintro z w1 ⟨rfl, hB1⟩; have E1 := Base.Aside.mk hB1; clear hB1)
      | (go_at_call 80; refine (hwi _).mono ?_; rintro z w6 ⟨rfl, hw6⟩; obtain rfl := hw6.symm)
      | go_in)
    go_ret
    exact ⟨by first | rfl | (simp; done), below_alloc E1.out _⟩
end
end Go.Proofs.YthlejchcnfdcpaaGreat.GyG
namespace Go.Proofs.YthlejchcnfdcpaaGreat.GyM
open Go.RowKit Go.Maps Base GaA GaB GaC GaD GmB GmC GpA GeA GeB GfA GfB GfC GfD GjA GjC GjH GjI GwA GwB GwN RpA RmA RmB RgA GxA GxB GxC GxD GyA GyB GyC
set_option linter.unusedVariables false
set_option linter.unusedSimpArgs false

section
variable {w0 w w' W W0 W' : World} {a : DA} {A : Option Addr} {cap : Nat} {s s' : MS} {f : Int → Option (Int × Nat)} {pi : Nat → PI} {qq : Nat → Nat × Nat × Nat} {L : List Mp} {F : Int × Int → Option Mp}
/-- Pages of the document's machine were written, and no more. -/
def RwOut (W : World) (a : DA) (A : Option Addr) (cap : Nat) (s s' : MS) (f : Int → Option (Int × Nat)) (pi : Nat → PI) (qq : Nat → Nat × Nat × Nat) (L : List Mp) (er : Int) (e : Ending) (w' : World) : Prop := e = .returned (.int .i64 er) ∧ DW w' a A cap s' f pi qq L ∧ Chg (fun x => x ∈ a.bs) W w'
theorem dw_write (h : DW W a A cap s f pi qq L) (k off : Int) (B : Option Addr) (c : Nat) (zs : List UInt8) (hz : Bytes W B zs) (hx : zs ≠ [] → ∀ x, B = some x → x.block ∉ a.bs) :
    Calls Tryz.prog 59 #[.pointer (some ⟨a.rb, 0, none⟩), .int .i64 k, .int .i64 off, .slice B zs.length c] W (RwOut W a A cap s (wrS s k off zs) f pi qq L (wrE s k off zs.length)) :=
  (rwrite_any h.m k off B c zs hz hx).mono fun e w' h3 => ⟨h3.1, h.out h3.2.2 h3.2.1 (GwA.wrS_n _ _ _ _) (fun x hx => h.kbs x hx), h3.2.2⟩
theorem RwOut.pre {er : Int} {e : Ending} (hb : Below W0.heap.size W0 W) (h : RwOut W a A cap s s' f pi qq L er e w') : RwOut W0 a A cap s s' f pi qq L er e w' := ⟨h.1, h.2.1, (Chg.below _ hb).trans h.2.2⟩
theorem page_lt (h : DW W a A cap s f pi qq L) : ∀ b ∈ a.bs, b < W.heap.size := fun b hb => by obtain ⟨cs, hcs⟩ := page_mem h.m hb; exact blk_lt hcs
set_option maxHeartbeats 8000000 in
set_option maxRecDepth 100000 in
theorem rgwrite_ok (h : DW W a A cap s f pi qq L) (hL : Lk F L) (d k off : Int) (B : Option Addr) (c : Nat) (zs : List UInt8) (hz : Bytes W B zs) (hx : zs ≠ [] → ∀ x, B = some x → x.block ∉ a.bs) (m : Mp) (hm2 : heldR F d k = (m, 0)) (hwr : m.wr = true) (hin : inn off zs.length 256 = true) :
    Calls Tryz.prog 30 #[.pointer (some ⟨a.hb, 0, none⟩), .int .i64 d, .int .i64 k, .int .i64 off, .slice B zs.length c] W (RwOut W a A cap s (wrS s m.mfn off zs) f pi qq L (wrE s m.mfn off zs.length)) := by
  have hh := rheld h hL d k
  rw [hm2] at hh
  simp only at hh
  have hwi := fun W => rwithin off zs.length 256 (by omega) (by omega) W
  rw [hin] at hwi
  rw [hwr] at hh
  have hpw := fun W' (hW : Below W.heap.size W W') => dw_write (h.below hW) m.mfn off B c zs (hz.below hW) hx
  unfold RwOut at hpw
  have hpl := page_lt h
  have S0 : ∀ W', Below W.heap.size W W' → W'.cell? ⟨a.hb, 0, none⟩ = some (.pointer (some ⟨a.rb, 0, none⟩)) := fun W' hW => blk_cell (h.below hW).blk 0
  have hgl := blk_lt h.blk
  have HG := Base.Aside.mk h
  clear h hm2 hin hz hx
  obtain ⟨m1, m2, m3, m4, m5, m6⟩ := m
  simp only at hh hpw hwr ⊢
  subst hwr
  generalize wrE s m5 off zs.length = er at hpw ⊢
  generalize wrS s m5 off zs = s2 at hpw ⊢
  go_enter Tryz.func30, Tryz.ntmps30
  go_wp2_with (first
    | (go_at_call 79; refine hh.mono ?_; rintro z w1 ⟨rfl, hB1⟩; have E1 := Base.Aside.mk hB1; clear hB1)
    | (go_at_call 80; refine (hwi _).mono ?_; rintro z w6 ⟨rfl, hw6⟩; obtain rfl := hw6.symm)
    | go_in)
  refine wp_world (fun W2 => Below W.heap.size W W2 ∧ W2.heap[w1.heap.size]? = some (.cells #[.int .i64 m1, .int .i64 m2, .int .i64 m3, .int .i64 m4, .int .i64 m5, .bool true] 102 (0, 0))) ⟨below_alloc E1.out _, blk_new _ _⟩ ?_
  intro W2 ⟨hb2, hx2⟩
  have k0 := S0 _ hb2
  have k4 : W2.cell? ⟨w1.heap.size, 4, none⟩ = some (.int .i64 m5) := blk_cell hx2 4
  have L2 := blk_lt hx2
  have L3 := Nat.lt_of_lt_of_le hgl hb2.size
  have S3 : ∀ Wx w3, Below W2.heap.size W2 Wx → (DW w3 a A cap s2 f pi qq L ∧ Chg (fun x => x ∈ a.bs) Wx w3) → w3.cell? ⟨a.hb, 0, none⟩ = some (.pointer (some ⟨a.rb, 0, none⟩)) ∧ w3.cell? ⟨w1.heap.size, 4, none⟩ = some (.int .i64 m5) := by
    intro Wx w3 hb hc
    have n2 : w1.heap.size ∉ a.bs := fun hq => by have := hpl _ hq; have := E1.out.size; omega
    have hy : Wx.heap[w1.heap.size]? = _ := (hb.block _ L2).trans hx2
    exact ⟨blk_cell hc.1.blk 0, blk_cell (hc.2.blk hy n2) 4⟩
  have E2 := Base.Aside.mk hb2
  clear hb2 hx2 hgl
  go_cut [10] from 31 to 40 (fun v wx => v = .int .i64 er ∧ Base.Aside (DW wx a A cap s2 f pi qq L ∧ Chg (fun x => x ∈ a.bs) W wx))
  case first =>
    go_region_held3 (fun W' => W'.cell? ⟨a.hb, 0, none⟩ = some (.pointer (some ⟨a.rb, 0, none⟩)) ∧ W'.cell? ⟨w1.heap.size, 4, none⟩ = some (.int .i64 m5))
      (first
        | go_keep
        | exact ⟨k0, k4⟩
        | (refine S3 _ _ ?_ E3.out; (repeat (with_reducible first | exact Below.refl _ _ | refine below_drew ?_ | refine below_alloc ?_ _)); done))
      ((first
        | (go_at_call 59; (with_reducible refine (hpw _ ?_).mono ?_); (focus (repeat (with_reducible first | exact E2.out | refine below_drew ?_ | refine below_alloc ?_ _))); rintro z w3 ⟨rfl, hM3, hC3⟩; have E3 := Base.Aside.mk (And.intro hM3 hC3); clear hM3 hC3)))
    all_goals
      go_wp2_with fail
      go_meet
    case rel =>
      refine ⟨rfl, ⟨E3.out.1, (Chg.below _ ?_).trans E3.out.2⟩⟩
      all_goals (repeat (with_reducible first | exact E2.out | refine below_drew ?_ | refine below_alloc ?_ _))
  case rest =>
    obtain ⟨rfl, hA⟩ := hcut
    go_wp2
    go_ret
    exact ⟨by first | rfl | (simp; done), hA.out.1, hA.out.2⟩
set_option maxHeartbeats 8000000 in
set_option maxRecDepth 100000 in
theorem rrevoke_arg (h : DW W a A cap s f pi qq L) (d ref : Int) (hb : f d = none ∨ slotB ref = false) :
    Calls Tryz.prog 32 #[.pointer (some ⟨a.hb, 0, none⟩), .int .i64 d, .int .i64 ref] W fun e w' => e = .returned (.int .i64 1) ∧ w' = W := by
  have hjo := rjoined h d
  have hso := rslot_any ref
  have hcase : (f d).isSome = false ∨ ((f d).isSome = true ∧ slotB ref = false) := by
    cases h2 : f d with
    | none => exact .inl rfl
    | some x =>
      rcases hb with hb | hb
      · rw [h2] at hb; cases hb
      · exact .inr ⟨rfl, hb⟩
  generalize (f d).isSome = b2 at hjo hcase
  generalize slotB ref = b3 at hso hcase
  clear h hb
  rcases hcase with rfl | ⟨rfl, rfl⟩
  all_goals
    go_enter Tryz.func32, Tryz.ntmps32
    go_wp2_with (first
      | (go_at_call 68; (with_reducible refine hjo.mono ?_); rintro z w1 ⟨rfl, hw1⟩; obtain rfl := hw1.symm)
      | (go_at_call 69; (with_reducible refine (hso _).mono ?_); rintro z w9 ⟨rfl, hw9⟩; obtain rfl := hw9.symm)
      | go_in)
    go_ret
    exact ⟨by first | rfl | (simp; done), by first | rfl | trivial⟩
set_option maxHeartbeats 8000000 in
set_option maxRecDepth 100000 in
theorem rrevoke_busy (h : DW W a A cap s f pi qq L) (d : Int) (hf : (f d).isSome = true) (ref : Nat) (h32 : ref < 32) (i0 : Nat) (hi0 : i0 < L.length) (how : L[i0].owner = d) (hrf : L[i0].ref = ref) :
    Calls Tryz.prog 32 #[.pointer (some ⟨a.hb, 0, none⟩), .int .i64 d, .int .i64 ref] W fun e w' => e = .returned (.int .i64 9) ∧ w' = W := by
  have hjo := rjoined h d
  rw [hf] at hjo
  have hsl : slotB (ref : Int) = true := by unfold slotB; simp; omega
  have hso := rslot_any ref
  rw [hsl] at hso
  have C0 := fun i => blk_cell h.blk i
  have L0 := blk_lt h.blk
  have hfew := h.few
  obtain ⟨n, hn⟩ : ∃ n, n = L.length := ⟨_, rfl⟩
  rw [← hn] at C0 hfew
  have HN := Base.Aside.mk (And.intro hn (And.intro h (And.intro hi0 (And.intro how hrf))))
  have hin : i0 < n := by omega
  have LI := Base.Aside.mk (fun j (hj : j < n) => (show j < L.length by omega))
  clear hn h hf hsl how hrf
  go_enter Tryz.func32, Tryz.ntmps32
  go_wp2_with (first
    | (go_at_call 68; (with_reducible refine hjo.mono ?_); rintro z w1 ⟨rfl, hw1⟩; obtain rfl := hw1.symm)
    | (go_at_call 69; (with_reducible refine (hso _).mono ?_); rintro z w9 ⟨rfl, hw9⟩; obtain rfl := hw9.symm)
    | go_in)
  go_loopw [7] (fun i wr => ∃ j : Nat, j ≤ i0 ∧ i = .int .i64 j ∧ wr = W) (fun i _ => n - (intOf i).toNat)
  case atStart => exact ⟨0, Nat.zero_le _, rfl, rfl⟩
  case round =>
    obtain ⟨j, hj, rfl, hwr⟩ := hrel
    obtain rfl := hwr.symm
    have hjn : j < n := by omega
    have hjL := LI.out j hjn
    obtain ⟨g, hg, LG, hw⟩ := HN.out.2.1.words (by omega)
    subst hg
    obtain ⟨_, _, w2, w3, _⟩ := hw j hjL
    have e2 : (0 : Int) ≤ (j : Int) := Int.natCast_nonneg _
    have e3 : (j : Int) < (n : Int) := by omega
    have hlast : j = i0 → L[j].owner = d ∧ L[j].ref = ref := by rintro rfl; exact HN.out.2.2.2
    obtain ⟨m, hm⟩ : ∃ m, m = L[j] := ⟨_, rfl⟩
    rw [← hm] at w2 w3 hlast
    have HL := Base.Aside.mk hlast
    clear hm hw hlast
    cases q1 : (m.owner == d) with
    | true =>
      cases q2 : (m.ref == (ref : Int)) with
      | true =>
        go_wp2
        go_ret
        exact ⟨by first | rfl | (simp; done), rfl⟩
      | false =>
        have hne : j ≠ i0 := fun e => by have := (HL.out e).2; rw [this] at q2; simp at q2
        have HX := Base.Aside.mk hne
        clear hne
        go_wp2
        exact ⟨⟨j + 1, by have := HX.out; omega, by simp, trivial⟩, by simp [intOf]; omega⟩
    | false =>
      have hne : j ≠ i0 := fun e => by have := (HL.out e).1; rw [this] at q1; simp at q1
      have HX := Base.Aside.mk hne
      clear hne
      go_wp2
      exact ⟨⟨j + 1, by have := HX.out; omega, by simp, trivial⟩, by simp [intOf]; omega⟩
set_option maxHeartbeats 8000000 in
set_option maxRecDepth 100000 in
theorem rrevoke_ok (h : DW W a A cap s f pi qq L) (d : Nat) (k : Nat) (pb : Nat) (hd : f d = some ((k : Int), pb)) (ref : Nat) (h32 : ref < 32) (hfree : ∀ m, m ∈ L → ¬ (m.owner = d ∧ m.ref = ref)) :
    Calls Tryz.prog 32 #[.pointer (some ⟨a.hb, 0, none⟩), .int .i64 d, .int .i64 ref] W (RwOut W a A cap s (wrS s k (8 * ref) z8) f pi qq L (wrE s k (8 * ref) 8)) := by
  have hjo := rjoined h d
  rw [hd] at hjo
  have hsl : slotB (ref : Int) = true := by unfold slotB; simp; omega
  have hso := rslot_any ref
  rw [hsl] at hso
  simp only [Option.isSome_some] at hjo
  have ho8 : (0 : Int) ≤ d ∧ (d : Int) < 8 := (h.d d _ hd).1
  have c9 := h.mfn d (by omega)
  have hfd : (fD f qq d).1 = k := by unfold fD; rw [hd]
  rw [hfd] at c9
  have C0 := fun i => blk_cell h.blk i
  have L0 := blk_lt h.blk
  have hfew := h.few
  have hpl := page_lt h
  have hldb := h.ldb
  obtain ⟨n, hn⟩ : ∃ n, n = L.length := ⟨_, rfl⟩
  rw [← hn] at C0 hfew
  have hmk : ∀ w : World, (Instr.makeSlice 30 (.int .i64 8) (.int .i64 8)).run Tryz.prog w = .ok (.slice (some ⟨w.heap.size, 0, none⟩) 8 8) (w.alloc (.cells #[.int .u8 0, .int .u8 0, .int .u8 0, .int .u8 0, .int .u8 0, .int .u8 0, .int .u8 0, .int .u8 0] 5)) := fun _ => by kernel_rfl
  have hpw := fun W' (hW : Below W.heap.size W W') (g : Nat) (hg : W.heap.size ≤ g) (hz : W'.heap[g]? = some (.cells #[.int .u8 0, .int .u8 0, .int .u8 0, .int .u8 0, .int .u8 0, .int .u8 0, .int .u8 0, .int .u8 0] 5 (0, 0))) => dw_write (h.below hW) k (8 * ref) (some ⟨g, 0, none⟩) 8 z8 (.inr ⟨_, rfl, Holds.of_block hz⟩) (fun _ x hx hq => by injection hx with hx; subst hx; have := hpl _ hq; simp at this; omega)
  unfold RwOut at hpw ⊢
  have hz8 : z8.length = 8 := rfl
  rw [hz8] at hpw
  generalize wrE s k (8 * ref) 8 = er at hpw ⊢
  generalize wrS s k (8 * ref) z8 = s2 at hpw ⊢
  have SG : ∀ W', DW W' a A cap s2 f pi qq L → W'.cell? ⟨a.hb, 0, none⟩ = some (.pointer (some ⟨a.rb, 0, none⟩)) ∧ W'.cell? ⟨a.hb, 1, none⟩ = some (.slice (some ⟨a.Db, 0, none⟩) 8 a.cD) ∧ W'.cell? ⟨a.Db, d * 2, none⟩ = some (.int .i64 k) := fun W' h2 => ⟨blk_cell h2.blk 0, blk_cell h2.blk 1, by have := h2.mfn d (by omega); rw [hfd] at this; exact this⟩
  have S0 : ∀ W', Below W.heap.size W W' → W'.cell? ⟨a.hb, 0, none⟩ = some (.pointer (some ⟨a.rb, 0, none⟩)) ∧ W'.cell? ⟨a.hb, 1, none⟩ = some (.slice (some ⟨a.Db, 0, none⟩) 8 a.cD) ∧ W'.cell? ⟨a.Db, d * 2, none⟩ = some (.int .i64 k) := fun W' hb => ⟨blk_cell (h.below hb).blk 0, blk_cell (h.below hb).blk 1, by have := (h.below hb).mfn d (by omega); rw [hfd] at this; exact this⟩
  have HN := Base.Aside.mk (And.intro hn (And.intro h hfree))
  have LI := Base.Aside.mk (fun j (hj : j < n) => (show j < L.length by omega))
  clear hn h hd hsl hfree hfd hz8
  go_enter Tryz.func32, Tryz.ntmps32
  go_wp2_with (first
    | (go_at_call 68; (with_reducible refine hjo.mono ?_); rintro z w1 ⟨rfl, hw1⟩; obtain rfl := hw1.symm)
    | (go_at_call 69; (with_reducible refine (hso _).mono ?_); rintro z w9 ⟨rfl, hw9⟩; obtain rfl := hw9.symm)
    | go_in)
  go_loopw [7] (fun i wr => ∃ j : Nat, j ≤ n ∧ i = .int .i64 j ∧ wr = W) (fun i _ => n - (intOf i).toNat)
  case atStart => exact ⟨0, Nat.zero_le _, rfl, rfl⟩
  case round =>
    obtain ⟨j, hj, rfl, hwr⟩ := hrel
    obtain rfl := hwr.symm
    by_cases hlt : j < n
    · have hjL := LI.out j hlt
      obtain ⟨g, hg, LG, hw⟩ := HN.out.2.1.words (by omega)
      subst hg
      obtain ⟨_, _, w2, w3, _⟩ := hw j hjL
      have e2 : (0 : Int) ≤ (j : Int) := Int.natCast_nonneg _
      have e3 : (j : Int) < (n : Int) := by omega
      have hnot : ¬ (L[j].owner = d ∧ L[j].ref = ref) := HN.out.2.2 _ (List.getElem_mem _)
      obtain ⟨m, hm⟩ : ∃ m, m = L[j] := ⟨_, rfl⟩
      rw [← hm] at w2 w3 hnot
      have HL := Base.Aside.mk hnot
      clear hm hw hnot hpw SG S0
      cases q1 : (m.owner == (d : Int)) with
      | true =>
        have q2 : (m.ref == (ref : Int)) = false := by
          cases q2 : (m.ref == (ref : Int)) with
          | false => rfl
          | true => exact absurd ⟨by simpa using q1, by simpa using q2⟩ HL.out
        go_wp2
        exact ⟨⟨j + 1, by omega, by simp, trivial⟩, by simp [intOf]; omega⟩
      | false =>
        go_wp2
        exact ⟨⟨j + 1, by omega, by simp, trivial⟩, by simp [intOf]; omega⟩
    · obtain rfl : j = n := by omega
      clear hlt LI
      have e2 : (0 : Int) ≤ (d : Int) := ho8.1
      have e3 : (d : Int) < 8 := ho8.2
      have r0 : (0 : Int) ≤ ref := by omega
      have r1 : (ref : Int) < 32 := by omega
      have sm : IntKind.i64.wrap (8 * (ref : Int)) = 8 * (ref : Int) := IntWalk.i64_in _ (by omega)
      have K0 := S0 W (Below.refl _ _)
      obtain ⟨k0, k1, k2⟩ := K0
      go_upto_region 8 with fail
      go_cut [6] from 48 to 64 (fun v wx => v = .int .i64 er ∧ Base.Aside (DW wx a A cap s2 f pi qq L ∧ Chg (fun x => x ∈ a.bs) W wx))
      case first =>
        go_region_held3 (fun W' => W'.cell? ⟨a.hb, 0, none⟩ = some (.pointer (some ⟨a.rb, 0, none⟩)) ∧ W'.cell? ⟨a.hb, 1, none⟩ = some (.slice (some ⟨a.Db, 0, none⟩) 8 a.cD) ∧ W'.cell? ⟨a.Db, d * 2, none⟩ = some (.int .i64 k))
          (first
            | go_keep
            | (with_reducible exact ⟨k0, k1, k2⟩)
            | (with_reducible exact SG _ E3.out.1)
            | (refine S0 _ ?_; (repeat (with_reducible first | exact Below.refl _ _ | refine below_drew ?_ | refine below_alloc ?_ _)); done))
          ((first
            | (go_at_call 59; (with_reducible refine (hpw _ ?_ _ (Nat.le_refl _) ?_).mono ?_); (focus (repeat (with_reducible first | exact Below.refl _ _ | refine below_drew ?_ | refine below_alloc ?_ _))); (focus (exact blk_new W _)); rintro z w3 ⟨rfl, hM3, hC3⟩; have E3 := Base.Aside.mk (And.intro hM3 hC3); clear hM3 hC3)))
        all_goals
          go_wp2_with fail
          go_meet
          refine ⟨rfl, ⟨E3.out.1, (Chg.below _ ?_).trans E3.out.2⟩⟩
          all_goals (repeat (with_reducible first | exact Below.refl _ _ | refine below_drew ?_ | refine below_alloc ?_ _))
      case rest =>
        obtain ⟨rfl, hA⟩ := hcut
        go_wp2
        go_ret
        exact ⟨by first | rfl | (simp; done), hA.out.1, hA.out.2⟩
end
end Go.Proofs.YthlejchcnfdcpaaGreat.GyM
namespace Go.Proofs.YthlejchcnfdcpaaGreat.GzG
open Go.RowKit Go.Maps Base GaA GaB GaC GaD GmA GmB GmC GpA GgA GeA GeB GfA GfB GfC GfD GjA GjB GjC GjE GjK GwA GwB GwE GwF GwJ GwO GwQ RpA RmA RmB RgA GxA GxC GxD GyA GyB GyE GyN GbA GzA GzB GzC GzD GjI GwN GyM GyQ GyP GzE
set_option linter.unusedVariables false
set_option linter.unusedSimpArgs false

section
variable {w0 W W' : World} {a : BX} {P Q : Value} {σ τ σ' τ' : SS}
/-- Both calls answer the same, and leave both sides alike. -/
def TwoJ (w0 : World) (a : BX) (P Q : Value) (σ : SS) (cP cD : World → (Ending → World → Prop) → Prop) : Prop :=
  ∃ (u : Int) (σ' : SS), Pu a σ' ∧
    (∀ W, J w0 W a P Q σ σ → cP W fun e w' => e = .returned (.int .i64 u) ∧ J w0 w' a P Q σ' σ) ∧
    (∀ W, J w0 W a P Q σ' σ → cD W fun e w' => e = .returned (.int .i64 u) ∧ J w0 w' a P Q σ' σ')
theorem held_cases (h : Pu a σ) (d k : Int) : ((heldR σ.F d k).2 ≠ 0) ∨ ∃ (i : Nat) (hi : i < σ.L.length), (0 ≤ d ∧ d < 8) ∧ σ.F (d, k) = some σ.L[i] ∧ heldR σ.F d k = (σ.L[i], 0) ∧ d = σ.L[i].caller ∧ k = σ.L[i].h := by
  by_cases hd : 0 ≤ d ∧ d < 8
  · cases e : σ.F (d, k) with
    | none =>
      refine .inl ?_
      unfold heldR
      rw [if_neg (fun h => h hd), e]
      decide
    | some m =>
      obtain ⟨i, hi, e1, e2⟩ := h.lk.get e
      injection e2 with e3 e4
      refine .inr ⟨i, hi, hd, by rw [e1], ?_, by rw [e1, e3], by rw [e1, e4]⟩
      unfold heldR
      rw [if_neg (fun h => h hd), e, e1]
  · refine .inl ?_
    unfold heldR
    rw [if_pos hd]
    decide
theorem kindI_eq (b : Bool) : kindI b = if b then 1 else 0 := rfl
def unN (σ : SS) (i : Nat) (m : Mp) (k : Nat) : SS := { σ with s := putS σ.s k (kindI m.wr), F := kdel σ.F (m.caller, m.h), n := σ.n - 1, L := σ.L.take i ++ σ.L.drop (i + 1) }
theorem put_map (h : Pu a σ) (i : Nat) (hi : i < σ.L.length) (k : Nat) (hk : σ.L[i].mfn = k) (hk13 : k < 13) : putE (σ.s.fr k) (kindI σ.L[i].wr) = 0 := by
  refine FrOk.put (h.fr k hk13) σ.L[i].wr ?_
  have h1 := countP_pop (L := σ.L) (fun m : Mp => m.mfn == (k : Int)) i hi
  have h2 := countP_pop (L := σ.L) (fun m : Mp => m.mfn == (k : Int) && m.wr) i hi
  have h3 : (σ.L.take i ++ σ.L.drop (i + 1)).countP (fun m : Mp => m.mfn == (k : Int) && m.wr) ≤ (σ.L.take i ++ σ.L.drop (i + 1)).countP (fun m : Mp => m.mfn == (k : Int)) := List.countP_mono_left (fun x _ hx => by simp only [Bool.and_eq_true] at hx; exact hx.1)
  unfold cntT totT
  simp only [hk, beq_self_eq_true, if_true, Bool.true_and] at h1 h2
  cases hw : σ.L[i].wr with
  | true => rw [hw] at h2; simp only [if_true] at h2 ⊢; omega
  | false => rw [hw] at h2; simp only [Bool.false_eq_true, if_false] at h2 ⊢; omega
theorem pu_unmap (h : Pu a σ) (i : Nat) (hi : i < σ.L.length) (k : Nat) (hk : σ.L[i].mfn = k) (hk13 : k < 13) : Pu a (unN σ i σ.L[i] k) := by
  have hp := put_map h i hi k hk hk13
  have hps : putS σ.s k (kindI σ.L[i].wr) = MS.put1 σ.s k (putF (σ.s.fr k) (kindI σ.L[i].wr)) := if_pos hp
  have hll : (σ.L.take i ++ σ.L.drop (i + 1)).length = σ.L.length - 1 := by rw [List.length_append, List.length_take, List.length_drop]; omega
  refine ⟨by show (putS _ _ _).n = 13; rw [GyQ.putS_n]; exact h.n, h.mem, Lk.pop h.lk i hi, fun x hx => ?_, ?_, fun j hj => ?_, fun i hi => ⟨(h.pi i hi).e, (h.pi i hi).pos, (h.pi i hi).c⟩, h.cm⟩
  · rcases List.mem_append.1 hx with hx | hx
    · exact h.maps x (List.mem_of_mem_take hx)
    · exact h.maps x (List.mem_of_mem_drop hx)
  · show σ.n - 1 = _
    rw [h.len]
    exact hll.symm
  · have ht : totT σ j = totT (unN σ i σ.L[i] k) j + if j = k then 1 else 0 := by
      show σ.L.countP _ + mN σ.f j = (σ.L.take i ++ σ.L.drop (i + 1)).countP _ + mN σ.f j + _
      rw [countP_pop (L := σ.L) (fun m : Mp => m.mfn == (j : Int)) i hi]
      by_cases e : j = k
      · subst e; simp [hk]; omega
      · have : ¬ (k : Int) = (j : Int) := by omega
        simp [hk, e, this]
    have hc2 : cntT σ j = cntT (unN σ i σ.L[i] k) j + if j = k then (if σ.L[i].wr then 1 else 0) else 0 := by
      show σ.L.countP _ + mN σ.f j = (σ.L.take i ++ σ.L.drop (i + 1)).countP _ + mN σ.f j + _
      rw [countP_pop (L := σ.L) (fun m : Mp => m.mfn == (j : Int) && m.wr) i hi]
      by_cases e : j = k
      · subst e; simp [hk]; omega
      · have : ¬ (k : Int) = (j : Int) := by omega
        simp [hk, e, this]
    by_cases e : j = k
    · subst e
      rw [if_pos rfl] at ht hc2
      refine FrOk.less (h.fr j hj) σ.L[i].wr ht hc2 ?_
      show (putS σ.s j (kindI σ.L[i].wr)).fr j = _
      rw [hps]
      exact if_pos rfl
    · rw [if_neg e] at ht hc2
      refine FrOk.same (h.fr j hj) ht.symm hc2.symm ?_
      have : (putS σ.s k (kindI σ.L[i].wr)).fr j = σ.s.fr j := by
        rw [hps]
        exact if_neg e
      exact ⟨by show ((putS _ _ _).fr j).typ = _; rw [this], by show ((putS _ _ _).fr j).cnt = _; rw [this], by show ((putS _ _ _).fr j).tot = _; rw [this]⟩
theorem unmap_both (hs : St w0.heap.size a) (hp : Pu a σ) (d k : Int) (hd : okI d) (hk : okI k) :
    TwoJ w0 a P Q σ (fun W R => Calls Tryz.prog 25 #[.pointer (some ⟨a.gb, 0, none⟩), .int .i64 d, .int .i64 k] W R)
      (fun W R => Calls Tryz.prog 26 #[.pointer (some ⟨a.hb, 0, none⟩), .int .i64 d, .int .i64 k] W R) := by
  rcases held_cases hp d k with hne | ⟨i, hi, hd8, hF, hh, hdc, hkh⟩
  · refine ⟨(heldR σ.F d k).2, σ, hp, fun W h => ?_, fun W h => ?_⟩
    · refine (GjC.unmap_no (h.p.gx hp hs) d k hd hk hne).mono fun e w' ⟨h1, h2, h3⟩ => ⟨h1, h.gx h2 rfl h3 (fun x hx => hx.elim .inl (fun e => .inr (.inl e)))⟩
    · obtain ⟨A, cap, hdw, hob⟩ := h.d.d
      exact (runmap_no hdw hp.lk d k hne).mono fun e w' ⟨h1, h2⟩ => ⟨h1, by rw [h2]; exact h⟩
  · obtain ⟨_, hh16, j, hj, hj13⟩ := hp.maps _ (List.getElem_mem hi)
    have hpu := pu_unmap hp i hi j hj hj13
    refine ⟨0, unN σ i σ.L[i] j, hpu, fun W h => ?_, fun W h => ?_⟩
    · refine (GjC.unmap_ok (h.p.gx hp hs) d k hd8 hk σ.L[i] hF (by rw [hj, hp.n]; omega) (by rw [hj, Int.toNat_natCast]; exact hp.frfew j hj13)).mono fun e w' ⟨h1, h2, h3⟩ => ⟨h1, J.gx (σ' := unN σ i σ.L[i] j) h ?_ rfl h3 (fun x hx => hx.elim .inl (fun e => .inr (.inl e)))⟩
      rw [hj, Int.toNat_natCast, hdc, hkh] at h2
      exact h2
    · obtain ⟨A, cap, hdw, hob⟩ := h.d.d
      refine (runmap_ok hdw hp.lk d k hd8 σ.L[i] hF j hj (by rw [hp.n]; exact hj13) (hp.frfew j hj13) (hp.frtk j hj13) (put_map hp i hi j hj hj13)).mono fun e w' ⟨h1, i2, hi2, A2, c2, h2, h3, h4, h5⟩ => ⟨h1, ?_⟩
      rw [hF] at h2
      have h6 := Option.some.inj h2
      obtain rfl : i = i2 := hp.lk.one hi hi2 (by rw [h6]) (by rw [h6])
      refine J.dw (τ' := unN σ i σ.L[i] j) h hdw hob h3 (fun x hx => ?_) rfl h4 (fun x hx => hx.elim .inl (fun e => .inr (.inr (.inr (.inl e)))))
      cases A2 with
      | none => cases hx
      | some y =>
        have e1 : y.block = x := Option.some.inj hx
        rw [← e1]
        exact Nat.le_trans h.x.bel.size (h5 y rfl)
end
end Go.Proofs.YthlejchcnfdcpaaGreat.GzG
