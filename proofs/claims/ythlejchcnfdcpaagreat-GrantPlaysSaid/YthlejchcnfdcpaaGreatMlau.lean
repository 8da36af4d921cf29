/- Proved: what the document's machine reads and writes, at every argument (contracts for the laws of the grants). Proved: the document's view: a rewrite (contracts for the laws of the grants). Proved: the document's view: New, Read (contracts for the laws of the grants). -/
import Derived.Test.YthlejchcnfdcpaaGreatMlas
import Derived.Test.YthlejchcnfdcpaaGreatMlat
import Derived.Outline
import Derived.Deep.QuietTactic
import Derived.BigQuiet
import Derived.Deep.RegionHeld3
namespace Go.Proofs.YthlejchcnfdcpaaGreat.GxB
open Go.RowKit Go.Maps Base GaA GaB GaC GaD RpA RmA RmB RmC GfA GfB GoA GjB GwO GwQ GwE GxA
set_option linter.unusedVariables false
set_option linter.unusedSimpArgs false

/-- Bytes are copied behind a slice of none. -/
theorem run_app0 (w : World) (ty : TypeId) (g : Nat) (hg : w.heap[g]? = some (.cells #[] 5 (0, 0))) (ad : Addr) (c : Nat) (zs : List UInt8) (hz : Bytes w (some ad) zs) (h47 : zs.length ≤ 140737488355328) (B : Nat) (hB : B ≤ g) :
    ∃ A' c' w', (Builtin.append_ #[30, 30] ty #[.slice (some ⟨g, 0, none⟩) 0 0, .slice (some ad) zs.length c]).run Tryz.prog w = .ok (.slice A' zs.length c') w' ∧ w'.ownsRow B 5 1 (.slice A' zs.length c') zs.length (u8s zs) ∧ Chg (fun x => x = g) w w' := by
  obtain ⟨i, hi, hz0, hz1, hz2⟩ := info_parts info8
  have hnews : ∀ j u, (u8s zs)[j]? = some u → w.cell? (ad.add j) = some u := by
    rcases hz with h | ⟨x, h, hh⟩
    · subst h
      intro j u hu
      simp [u8s] at hu
    · injection h with h
      subst h
      exact hh.src
  have hown : w.ownsRow B 5 1 (.slice (some ⟨g, 0, none⟩) 0 0) 0 [] := by
    refine ⟨rfl, .inr ⟨g, 0, #[], rfl, hB, hg, ?_⟩⟩
    simp
  obtain ⟨v', w', hrun, h2, h3, _, h5⟩ := run_append_own_at (P := Tryz.prog) w B 30 ty 5 i _ 1 1 Tryz.underlying30 hi hz0 hz1 hz2 rfl (by decide) _ 0 [] hown ad zs.length c (u8s zs) (by rw [u8s_len]; omega) hnews u8s_one (by unfold maxLen; omega) (by omega) (Nat.le_of_lt (Nat.lt_of_le_of_lt hB (blk_lt hg)))
  rw [Nat.zero_add, List.nil_append] at h2
  have hb : Chg (fun x => x = g) w w' := ⟨h3.os, h3.tape, h3.output, h3.size, fun k hk hf => h3.block k hk (by intro e; injection e with e; exact hf e)⟩
  rcases h2.2 with ⟨h6, h7⟩ | ⟨g', cap, cur, h6, h7, h8⟩
  · subst h6
    have hl : zs.length = 0 := by
      have := h2.1
      rw [h7] at this
      simp at this
      omega
    rw [hl] at h2
    rw [hl] at hrun ⊢
    exact ⟨none, 0, w', hrun, h2, hb⟩
  · subst h6
    exact ⟨_, cap, w', hrun, h2, hb⟩
theorem wpList_app0 {w : World} {ops : Array Oper} {rest : List Oper} {o : Oper} {a : Act} {Q : Exit → Act → World → Prop} (hgd : o.guard = none) (s x : Operand)
    (ho : o.op = .call { callee := .builtin .append, args := #[s, x], argTypes := #[30, 30] }) (g : Nat) (hs : a.eval s = .slice (some ⟨g, 0, none⟩) 0 0) (hg : w.heap[g]? = some (.cells #[] 5 (0, 0))) (ad : Addr) (n c : Nat) (zs : List UInt8) (hx : a.eval x = .slice (some ad) n c) (hn : n = zs.length) (hz : Bytes w (some ad) zs) (h47 : zs.length ≤ 140737488355328) (B : Nat) (hB : B ≤ g)
    (h : ∀ A' c' w', w'.ownsRow B 5 1 (.slice A' zs.length c') zs.length (u8s zs) → Chg (fun y => y = g) w w' → wpList Tryz.prog ops Q rest (a.put o.dst (.slice A' zs.length c')) w') : wpList Tryz.prog ops Q (o :: rest) a w := by
  subst hn
  refine wpList_plain hgd fun K hK => ?_
  obtain ⟨A', c', w', hr, h2, h3⟩ := run_app0 w o.type g hg ad c zs hz h47 B hB
  unfold Oper.wp execOp
  simp only [ho, resolve, invoke, builtin, Sem.run_bind, Sem.run_pure, Result.andThen_ok, List.map_toArray, List.map_cons, List.map_nil, hs, hx, hr]
  exact hK _ _ (h A' c' w' h2 h3)
section
variable {w w' : World} {rb Fb Bb cF cB : Nat} {bs : List Nat} {s : MS}
/-- What the document's Read comes to. -/
structure RrOk (W : World) (s : MS) (k off n : Int) (A : Option Addr) (l : Nat) (er : Int) (w' : World) : Prop where
  res : (inR s k off n ∧ er = 0 ∧ l = n.toNat ∧ Bytes w' A (MS.rd s k.toNat off.toNat n.toNat) ∧ ∀ x, A = some x → W.heap.size ≤ x.block) ∨ (¬ inR s k off n ∧ er = 1 ∧ A = none ∧ l = 0)
def RrOut (W : World) (s : MS) (k off n : Int) (e : Ending) (w' : World) : Prop := ∃ (A : Option Addr) (l c : Nat) (er : Int), e = .returned (.tuple #[.slice A l c, .int .i64 er]) ∧ RrOk W s k off n A l er w' ∧ Below W.heap.size W w'
set_option maxHeartbeats 4000000 in
set_option maxRecDepth 100000 in
theorem rread_bad (h : RMach w rb Fb Bb cF cB bs s) (k off n : Int) (hb : ¬ inR s k off n) : Calls Tryz.prog 104 #[.pointer (some ⟨rb, 0, none⟩), .int .i64 k, .int .i64 off, .int .i64 n] w fun e w' => e = .returned (.tuple #[.slice none 0 0, .int .i64 1]) ∧ w' = w := by
  have hin := in_bad h k off n hb
  clear h hb
  go_enter Tryz.func104, Tryz.ntmps104
  go_wp2_with (first
    | (go_at_call 97; (with_reducible refine hin.mono ?_); rintro z w1 ⟨rfl, hw1⟩; obtain rfl := hw1.symm)
    | go_in)
  go_ret2
  exact ⟨by first | rfl | (simp; done), rfl⟩
set_option maxHeartbeats 4000000 in
set_option maxRecDepth 100000 in
theorem rread_any (h : RMach w rb Fb Bb cF cB bs s) (k off n : Int) : Calls Tryz.prog 104 #[.pointer (some ⟨rb, 0, none⟩), .int .i64 k, .int .i64 off, .int .i64 n] w (RrOut w s k off n) := by
  by_cases hb : inR s k off n
  · have hb2 := hb
    unfold inR at hb
    obtain ⟨j, rfl⟩ : ∃ j : Nat, k = j := ⟨k.toNat, by omega⟩
    obtain ⟨o, rfl⟩ : ∃ o : Nat, off = o := ⟨off.toNat, by omega⟩
    obtain ⟨m, rfl⟩ : ∃ m : Nat, n = m := ⟨n.toNat, by omega⟩
    have hj : j < s.n := by omega
    have hin := in_ok h j o m hj (by omega)
    have C0 := fun i => blk_cell h.blk i
    have L0 := blk_lt h.blk
    have hs2 := RMach.slot h j hj
    have LB := h.lt.2.2
    have hpg := h.page j hj
    have LP := blk_lt hpg
    obtain ⟨pk, hpk⟩ : ∃ pk, pk = bs.getD j 0 := ⟨_, rfl⟩
    rw [← hpk] at hs2 hpg LP
    have b1 : (0 : Int) ≤ (j : Int) := by omega
    have b2 : (j : Int) < (s.n : Int) := by omega
    have b3 : (0 : Int) ≤ (o : Int) := by omega
    have b4 : (o : Int) + m ≤ 256 := by omega
    have b5 : (o : Int) ≤ (o : Int) + m := by omega
    have b6 : (0 : Int) ≤ (o : Int) + m := by omega
    have hhold : ∀ W', Below w.heap.size w W' → Bytes W' (some ⟨pk, o, none⟩) (MS.rd s j o m) := by
      intro W' hW
      refine .inr ⟨_, rfl, Nat.lt_of_lt_of_le LP hW.size, fun i hi => ?_⟩
      have e0 : (MS.rd s j o m)[i] = s.byt j (o + i) := by simp [MS.rd]
      rw [rd_len] at hi
      have hc := blk_cell (blk_below hpg LP hW) (o + i)
      rw [addB, hc, e0, List.getElem?_toArray]
      unfold u8s MS.rd
      rw [List.getElem?_map, List.getElem?_map, List.getElem?_range (by omega)]
      simp
    have hzl := rd_len s j o m
    have HB := Base.Aside.mk hb2
    have HZ := Base.Aside.mk hhold
    clear h hpk hb2 hhold hpg
    by_cases hq : o = 256
    · subst hq
      obtain rfl : m = 0 := by omega
      have hin2 : Calls Tryz.prog 97 #[.pointer (some ⟨rb, 0, none⟩), .int .i64 j, .int .i64 256, .int .i64 0] w fun e w' => e = .returned (.bool true) ∧ w' = w := hin
      clear hin hb b3 b4 b5 b6
      have hin := hin2
      clear hin2
      go_enter Tryz.func104, Tryz.ntmps104
      go_wp2_with (first
        | (go_at_call 97; (with_reducible refine hin.mono ?_); rintro z w1 ⟨rfl, hw1⟩; obtain rfl := hw1.symm)
        | go_in)
      go_ret2
      refine ⟨some ⟨w.heap.size, 0, none⟩, 0, 0, 0, by first | rfl | (simp; done), ⟨.inl ⟨HB.out, rfl, rfl, .inl (List.eq_nil_of_length_eq_zero (rd_len _ _ _ _)), fun x hx => ?_⟩⟩, below_alloc (Below.refl _ _) _⟩
      injection hx with hx
      subst hx
      exact Nat.le_refl _
    · have hq2 : ¬ 256 = o := fun h => hq h.symm
      go_enter Tryz.func104, Tryz.ntmps104
      go_wp2_with (first
        | (go_at_call 97; (with_reducible refine hin.mono ?_); rintro z w1 ⟨rfl, hw1⟩; obtain rfl := hw1.symm)
        | (at_builtin; refine wpList_app0 (by rfl) _ _ (by rfl) w.heap.size (by rfl) (blk_new _ _) ⟨pk, o, none⟩ _ _ (MS.rd s j o m) (by rfl) (by rw [rd_len]; first | rfl | omega) (HZ.out _ (below_alloc (Below.refl _ _) _)) (by rw [rd_len]; omega) w.heap.size (Nat.le_refl _) ?_; intro A4 c4 w4 hr4 hc4; have E4 := Base.Aside.mk (And.intro hr4 hc4); clear hr4 hc4)
        | go_in)
      go_ret2
      refine ⟨A4, m, c4, 0, by first | rfl | (simp [rd_len]; done), ⟨.inl ⟨HB.out, rfl, rfl, ?_, ?_⟩⟩, ?_⟩
      · exact GwB.row_bytes E4.out.1
      · intro x hx
        have := GwB.own_geA E4.out.1 x.block (by rw [hx]; rfl)
        exact this
      · exact E4.out.2.out (below_alloc (Below.refl _ _) _) (by simp) (fun k hk => by omega)
  · refine (rread_bad h k off n hb).mono ?_
    rintro e w' ⟨rfl, rfl⟩
    exact ⟨none, 0, 0, 1, rfl, ⟨.inr ⟨hb, rfl, rfl, rfl⟩⟩, Below.refl _ _⟩
set_option maxHeartbeats 4000000 in
set_option maxRecDepth 100000 in
theorem rwrite_no (h : RMach w rb Fb Bb cF cB bs s) (k off : Int) (A : Option Addr) (c : Nat) (zs : List UInt8) (hne : wrE s k off zs.length ≠ 0) : Calls Tryz.prog 59 #[.pointer (some ⟨rb, 0, none⟩), .int .i64 k, .int .i64 off, .slice A zs.length c] w fun e w' => e = .returned (.int .i64 (wrE s k off zs.length)) ∧ w' = w := by
  unfold wrE at hne ⊢
  obtain ⟨n, hn⟩ : ∃ n, n = zs.length := ⟨_, rfl⟩
  rw [← hn] at hne ⊢
  by_cases hb : inR s k off n
  · have hb2 := hb
    unfold inR at hb
    obtain ⟨j, rfl⟩ : ∃ j : Nat, k = j := ⟨k.toNat, by omega⟩
    obtain ⟨o, rfl⟩ : ∃ o : Nat, off = o := ⟨off.toNat, by omega⟩
    rw [if_pos hb2] at hne ⊢
    rw [Int.toNat_natCast] at hne ⊢
    have hown : (s.fr j).own = -1 := by
      by_cases q : (s.fr j).own = -1
      · exact q
      · rw [if_neg q] at hne
        exact absurd rfl hne
    rw [if_pos hown]
    have hin := in_ok h j o n (by omega) (by omega)
    have C0 := fun i => blk_cell h.blk i
    have L0 := blk_lt h.blk
    have LF := h.lt.2.1
    have c0 := h.own j (by omega)
    have e2 : (0 : Int) ≤ (j : Int) := Int.natCast_nonneg _
    have e3 : (j : Int) < (s.n : Int) := by omega
    rw [hown] at c0
    clear h hb2 hne hn hown hb
    go_enter Tryz.func59, Tryz.ntmps59
    go_wp2_with (first
      | (go_at_call 97; (with_reducible refine hin.mono ?_); rintro z w1 ⟨rfl, hw1⟩; obtain rfl := hw1.symm)
      | go_in)
    go_ret
    exact ⟨by first | rfl | (simp; done), rfl⟩
  · have hin := in_bad h k off n hb
    rw [if_neg hb]
    clear h hb hne hn
    go_enter Tryz.func59, Tryz.ntmps59
    go_wp2_with (first
      | (go_at_call 97; (with_reducible refine hin.mono ?_); rintro z w1 ⟨rfl, hw1⟩; obtain rfl := hw1.symm)
      | go_in)
    go_ret
    exact ⟨by first | rfl | (simp; done), rfl⟩
theorem wr_zero {s : MS} {k off : Int} {n : Nat} (h : wrE s k off n = 0) : inR s k off n ∧ (s.fr k.toNat).own ≠ -1 := by
  unfold wrE at h
  by_cases q : inR s k off n
  · rw [if_pos q] at h
    refine ⟨q, fun q2 => ?_⟩
    rw [if_pos q2] at h
    cases h
  · rw [if_neg q] at h
    cases h
set_option maxHeartbeats 4000000 in
set_option maxRecDepth 100000 in
theorem rwrite_nil (h : RMach w rb Fb Bb cF cB bs s) (k off : Nat) (hk : k < s.n) (hown : (s.fr k).own ≠ -1) (ho : off ≤ 256) (A : Option Addr) (c : Nat) : Calls Tryz.prog 59 #[.pointer (some ⟨rb, 0, none⟩), .int .i64 k, .int .i64 off, .slice A 0 c] w fun e w' => e = .returned (.int .i64 0) ∧ w' = w := by
  have hin : Calls Tryz.prog 97 #[.pointer (some ⟨rb, 0, none⟩), .int .i64 k, .int .i64 off, .int .i64 0] w fun e w' => e = .returned (.bool true) ∧ w' = w := in_ok h k off 0 hk (by omega)
  have C0 := fun i => blk_cell h.blk i
  have L0 := blk_lt h.blk
  have LF := h.lt.2.1
  have c0 := h.own k hk
  have e2 : (0 : Int) ≤ (k : Int) := Int.natCast_nonneg _
  have e3 : (k : Int) < (s.n : Int) := by omega
  have d0 : ((s.fr k).own == -1) = false := by simp [hown]
  clear h hown
  go_enter Tryz.func59, Tryz.ntmps59
  go_wp2_with (first
    | (go_at_call 97; (with_reducible refine hin.mono ?_); rintro z w1 ⟨rfl, hw1⟩; obtain rfl := hw1.symm)
    | go_in)
  refine wp_loop_once ?_
  go_wp2
  go_ret
  exact ⟨by first | rfl | (simp; done), rfl⟩
/-- The document's Write, at every argument. -/
theorem rwrite_any (h : RMach w rb Fb Bb cF cB bs s) (k off : Int) (A : Option Addr) (c : Nat) (zs : List UInt8) (hz : Bytes w A zs) (hx : zs ≠ [] → ∀ x, A = some x → x.block ∉ bs) :
    Calls Tryz.prog 59 #[.pointer (some ⟨rb, 0, none⟩), .int .i64 k, .int .i64 off, .slice A zs.length c] w fun e w' => e = .returned (.int .i64 (wrE s k off zs.length)) ∧ RMach w' rb Fb Bb cF cB bs (wrS s k off zs) ∧ Chg (fun y => y ∈ bs) w w' := by
  by_cases hq : wrE s k off zs.length = 0
  · obtain ⟨h1, h2⟩ := wr_zero hq
    have hS : wrS s k off zs = MS.wr s k.toNat off.toNat zs := if_pos hq
    rw [hq, hS]
    unfold inR at h1
    obtain ⟨j, rfl⟩ : ∃ j : Nat, k = j := ⟨k.toNat, by omega⟩
    obtain ⟨o, rfl⟩ : ∃ o : Nat, off = o := ⟨off.toNat, by omega⟩
    rw [Int.toNat_natCast] at h2
    rw [Int.toNat_natCast, Int.toNat_natCast]
    rcases Decidable.em (zs = []) with rfl | hne
    · rw [wr_none]
      refine (rwrite_nil h j o (by omega) h2 (by omega) A c).mono ?_
      rintro e w' ⟨q1, rfl⟩
      exact ⟨q1, h, Chg.refl _ _⟩
    · obtain ⟨x, rfl, hy⟩ := hz.resolve_left hne
      have hm := RMach.mem h j (by omega)
      refine (rwrite h j o (by omega) h2 x c zs hy (by omega) (fun e => hx hne x rfl (e ▸ hm))).mono ?_
      rintro e w' ⟨q1, q2, q3⟩
      exact ⟨q1, q2, q3.mono fun y hy => by rw [hy]; exact hm⟩
  · have hS : wrS s k off zs = s := if_neg hq
    rw [hS]
    refine (rwrite_no h k off A c zs hq).mono ?_
    rintro e w' ⟨q1, rfl⟩
    exact ⟨q1, h, Chg.refl _ _⟩
set_option maxHeartbeats 4000000 in
set_option maxRecDepth 100000 in
/-- A frame that rests is given away. -/
theorem rgive_ok (h : RMach w rb Fb Bb cF cB bs s) (k : Nat) (hk : k < s.n) (d : Int) (h0 : 0 ≤ d ∧ d < 8) (ho : (s.fr k).own ≠ -1) (ht : (s.fr k).tot = 0) : Calls Tryz.prog 108 #[.pointer (some ⟨rb, 0, none⟩), .int .i64 k, .int .i64 d] w fun e w' => e = .returned (.int .i64 0) ∧ RMach w' rb Fb Bb cF cB bs (give s k d) ∧ Chg (fun x => x = Fb) w w' := by
  have hi := is_calls h k hk
  have C0 := fun i => blk_cell h.blk i
  have L0 := blk_lt h.blk
  have LF := h.lt.2.1
  have c0 := h.own k hk
  have c3 := h.cell k 3 hk (by omega)
  have e2 : (0 : Int) ≤ (k : Int) := Int.natCast_nonneg _
  have e3 : (k : Int) < (s.n : Int) := by omega
  simp only [cellM] at c3
  simp at c3
  rw [ht] at c3
  have d1 : ((s.fr k).own == -1) = false := by simp [ho]
  have F0 := h.frozen
  have hd := RmB.domain_in d h0.1 h0.2
  have hst : Calls Tryz.prog 113 #[.pointer (some ⟨rb, 0, none⟩), .int .i64 k] w fun e w' => e = .returned (.int .i64 0) ∧ w' = w := by
    clear h hi hd F0 ho ht
    go_enter Tryz.func113, Tryz.ntmps113
    go_wp2
    go_ret
    exact ⟨by first | rfl | (simp; done), rfl⟩
  have HG := Base.Aside.mk (RmB.RMach.give h k hk d)
  clear h ho ht c3
  go_enter Tryz.func108, Tryz.ntmps108
  go_wp2_with (first
    | (go_at_call 96; (with_reducible refine hi.mono ?_); rintro z w1 ⟨rfl, hw1⟩; obtain rfl := hw1.symm)
    | (go_at_call 113; (with_reducible refine hst.mono ?_); rintro z w1 ⟨rfl, hw1⟩; obtain rfl := hw1.symm)
    | (go_at_call 48; (with_reducible refine (hd _).mono ?_); rintro z w1 ⟨rfl, hw1⟩; obtain rfl := hw1.symm)
    | go_in)
  go_ret
  exact ⟨by first | rfl | (simp; done), HG.out, Chg.set (F := fun x => x = Fb) (p := ⟨Fb, k * 4, none⟩) (Chg.refl _ w) (.inl rfl) _⟩
end
end Go.Proofs.YthlejchcnfdcpaaGreat.GxB
namespace Go.Proofs.YthlejchcnfdcpaaGreat.GxC
open Go.RowKit Go.Maps Base GaA GaB GaC GaD RpA RmA RmB RmC GvA GfA GfB GoA GwA GwB GwE GxA GxB
set_option linter.unusedVariables false
set_option linter.unusedSimpArgs false

section
variable {W W' : World} {rb Fb Bb cF cB : Nat} {bs : List Nat} {s : MS} {ub : Nat} {lv rv : Value}
/-- May it be rewritten, once the part lies in a frame? -/
theorem rewB_in {s : MS} {k : Nat} (hk : k < s.n) : rewB s k = (decide (0 ≤ (s.fr k).own) && (s.fr k).typ != 2 && (s.fr k).typ != 3) := by
  unfold rewB frV
  rw [if_pos (by omega), Int.toNat_natCast]
  simp
theorem page_mem {W : World} {rb Fb Bb cF cB : Nat} {bs : List Nat} {s : MS} (h : RMach W rb Fb Bb cF cB bs s) {b : Nat} (hb : b ∈ bs) : ∃ cs, W.heap[b]? = some (.cells cs 5 (0, 0)) := by
  obtain ⟨i, hi, rfl⟩ := List.mem_iff_getElem.1 hb
  have := h.page i (by rw [← h.len]; exact hi)
  rw [List.getD_eq_getElem?_getD, List.getElem?_eq_getElem hi] at this
  exact ⟨_, this⟩
theorem rewS_out {s : MS} {k off : Int} {zs : List UInt8} (h : ¬ inR s k off zs.length) : rewS s k off zs = s := by
  unfold rewS
  split
  · have : wrE s k off zs.length = 1 := if_neg h
    unfold wrS
    rw [this, if_neg (by decide)]
  · rfl
set_option maxHeartbeats 8000000 in
set_option maxRecDepth 100000 in
theorem rrew (hv : W.heap[ub]? = some (.cells #[.pointer (some ⟨rb, 0, none⟩), lv, rv] 80 (0, 0))) (h : RMach W rb Fb Bb cF cB bs s) (p0 k off : Int) (A : Option Addr) (c : Nat) (zs : List UInt8) (hz : Bytes W A zs) (hx : zs ≠ [] → ∀ x, A = some x → x.block ∉ bs) (hbs : ∀ b ∈ bs, b < W.heap.size) :
    Calls Tryz.prog 103 #[.pointer (some ⟨ub, 0, none⟩), .agg #[.int .i64 p0, .int .i64 k, .int .i64 off, .slice A zs.length c]] W fun e w' => (∃ v, e = .returned v) ∧ RMach w' rb Fb Bb cF cB bs (rewS s k off zs) ∧ Chg (fun y => y ∈ bs) W w' := by
  have hb1 := below_alloc (Below.refl W.heap.size W) (.cells #[.int .i64 p0, .int .i64 k, .int .i64 off, .slice A zs.length c] 146)
  have C0 := fun i => blk_cell (blk_below hv (blk_lt hv) hb1) i
  have L0 := blk_lt hv
  have hbx := blk_new W (.cells #[.int .i64 p0, .int .i64 k, .int .i64 off, .slice A zs.length c] 146)
  obtain ⟨n, hn⟩ : ∃ n, n = zs.length := ⟨_, rfl⟩
  by_cases hin : inR s k off zs.length
  · have hin2 := hin
    unfold inR at hin
    obtain ⟨j, rfl⟩ : ∃ j : Nat, k = j := ⟨k.toNat, by omega⟩
    obtain ⟨o, rfl⟩ : ∃ o : Nat, off = o := ⟨off.toNat, by omega⟩
    have hj : j < s.n := by omega
    have hok := fun m => in_ok (h.below (w' := (W.alloc (.cells #[.int .i64 p0, .int .i64 j, .int .i64 o, .slice A zs.length c] 146)).drewN m) (below_drewN hb1 m)) j o zs.length hj (by omega)
    have hrS : rewS s j o zs = if (decide (0 ≤ (s.fr j).own) && (s.fr j).typ != 2 && (s.fr j).typ != 3) = true then wrS s j o zs else s := by unfold rewS; rw [rewB_in hj]
    obtain ⟨o0, y0, cn0, tt0, hfr⟩ : ∃ o y cn tt, s.fr j = ⟨o, y, cn, tt⟩ := ⟨_, _, _, _, rfl⟩
    rw [hfr] at hrS
    simp only at hrS
    have HR := Base.Aside.mk hrS
    clear hrS
    have e2 : (0 : Int) ≤ (j : Int) := Int.natCast_nonneg _
    have e3 : (j : Int) < (s.n : Int) := by omega
    have CF : ∀ W', Below W.heap.size W W' → W'.cell? ⟨ub, 0, none⟩ = some (.pointer (some ⟨rb, 0, none⟩)) ∧ W'.cell? ⟨rb, 0, none⟩ = some (.slice (some ⟨Fb, 0, none⟩) s.n cF) ∧ W'.cell? ⟨Fb, j * 4, none⟩ = some (.int .i64 o0) ∧ W'.cell? ⟨Fb, j * 4 + 1, none⟩ = some (.int .i64 y0) ∧ W'.cell? ⟨Fb, j * 4 + 2, none⟩ = some (.int .i64 cn0) ∧ W'.cell? ⟨Fb, j * 4 + 3, none⟩ = some (.int .i64 tt0) := by
      intro W' hW
      have h' := h.below hW
      have c0 := h'.cell j 0 hj (by omega)
      have c1 := h'.cell j 1 hj (by omega)
      have c2 := h'.cell j 2 hj (by omega)
      have c3 := h'.cell j 3 hj (by omega)
      simp only [cellM, hfr] at c0 c1 c2 c3
      simp at c0 c1 c2 c3
      exact ⟨blk_cell (blk_below hv (blk_lt hv) hW) 0, blk_cell h'.blk 0, c0, c1, c2, c3⟩
    have CB : ∀ W', Below (W.heap.size + 1) (W.alloc (.cells #[.int .i64 p0, .int .i64 j, .int .i64 o, .slice A zs.length c] 146)) W' → W'.cell? ⟨W.heap.size, 1, none⟩ = some (.int .i64 j) ∧ W'.cell? ⟨W.heap.size, 2, none⟩ = some (.int .i64 o) ∧ W'.cell? ⟨W.heap.size, 3, none⟩ = some (.slice A zs.length c) := by
      intro W' hW
      have h' := blk_below hbx (by omega) hW
      exact ⟨blk_cell h' 1, blk_cell h' 2, blk_cell h' 3⟩
    have hwr := fun W' (hW : Below W.heap.size W W') => (rwrite_any (h.below hW) j o A c zs (hz.below hW) hx).mono (R' := fun e w' => (∃ v, e = .returned v) ∧ RMach w' rb Fb Bb cF cB bs (wrS s j o zs) ∧ Chg (fun y => y ∈ bs) W w' ∧ ∀ k o, W'.heap[k]? = some o → k ∉ bs → w'.heap[k]? = some o) (fun e w' h => ⟨⟨_, h.1⟩, h.2.1, (Chg.below _ hW).trans h.2.2, fun k o hk hn => h.2.2.blk hk hn⟩)
    have nub : ub ∉ bs := fun hm => by
      obtain ⟨cs, hcs⟩ := page_mem h hm
      exact RmB.blk_ne hv hcs (by decide) rfl
    have nbx : W.heap.size ∉ bs := fun hm => absurd (hbs _ hm) (by omega)
    have CK : ∀ W', Below W.heap.size W W' → Below (W.heap.size + 1) (W.alloc (.cells #[.int .i64 p0, .int .i64 j, .int .i64 o, .slice A zs.length c] 146)) W' → W'.heap[ub]? = some (.cells #[.pointer (some ⟨rb, 0, none⟩), lv, rv] 80 (0, 0)) ∧ W'.heap[W.heap.size]? = some (.cells #[.int .i64 p0, .int .i64 j, .int .i64 o, .slice A zs.length c] 146 (0, 0)) := fun W' h1 h2 => ⟨blk_below hv (blk_lt hv) h1, blk_below hbx (by omega) h2⟩
    have HH := Base.Aside.mk (And.intro h hb1)
    rw [← hn] at hok hb1 hbx C0 HH CB hwr CK ⊢
    have hcase : (decide (o0 < 0) = true ∧ (decide (0 ≤ o0) && y0 != 2 && y0 != 3) = false) ∨ (decide (o0 < 0) = false ∧ (y0 == 2) = true ∧ (decide (0 ≤ o0) && y0 != 2 && y0 != 3) = false) ∨ (decide (o0 < 0) = false ∧ (y0 == 2) = false ∧ (y0 == 3) = true ∧ (decide (0 ≤ o0) && y0 != 2 && y0 != 3) = false) ∨ (decide (o0 < 0) = false ∧ (y0 == 2) = false ∧ (y0 == 3) = false ∧ (decide (0 ≤ o0) && y0 != 2 && y0 != 3) = true) := by
      by_cases q1 : o0 < 0
      · exact .inl ⟨decide_eq_true q1, by simp; omega⟩
      · by_cases q2 : y0 = 2
        · exact .inr (.inl ⟨decide_eq_false q1, by simp [q2], by simp [q2]⟩)
        · by_cases q3 : y0 = 3
          · exact .inr (.inr (.inl ⟨decide_eq_false q1, by simp [q3], by simp [q3], by simp [q3]⟩))
          · exact .inr (.inr (.inr ⟨decide_eq_false q1, by simp [q2], by simp [q3], by simp [q2, q3]; omega⟩))
    clear h hin hin2 hfr hz hn hbx hv hx hbs
    have hrun : True := trivial
    go_enter Tryz.func103, Tryz.ntmps103
    go_wp2
    go_quiet ((go_at_call 97; refine Calls.quiet_of_same (hok _)))
    go_wp2
    refine wp_world (fun W2 => Below W.heap.size W W2 ∧ Below (W.heap.size + 1) (W.alloc (.cells #[.int .i64 p0, .int .i64 j, .int .i64 o, .slice A n c] 146)) W2) ⟨below_drewN HH.out.2 _, ?_⟩ ?_
    · have := below_drewN (Below.refl (W.alloc (.cells #[.int .i64 p0, .int .i64 j, .int .i64 o, .slice A n c] 146)).heap.size (W.alloc (.cells #[.int .i64 p0, .int .i64 j, .int .i64 o, .slice A n c] 146))) nq
      rwa [World.size_alloc] at this
    intro W2 ⟨hb2, hb3⟩
    obtain ⟨c1, c2, c3, c4, c5, c6⟩ := CF W2 hb2
    obtain ⟨q1, q2, q3⟩ := CB W2 hb3
    have z2 := hb3.size
    rw [World.size_alloc] at z2
    have KK : ∀ W', Below W2.heap.size W2 W' → Below W.heap.size W W' ∧ Below (W.heap.size + 1) (W.alloc (.cells #[.int .i64 p0, .int .i64 j, .int .i64 o, .slice A n c] 146)) W' := fun W' hW => ⟨below_step hb2 hW, hb3.trans (hW.mono (by omega))⟩
    have KS : ∀ W', Below W2.heap.size W2 W' → W'.cell? ⟨ub, 0, none⟩ = some (.pointer (some ⟨rb, 0, none⟩)) ∧ W'.cell? ⟨rb, 0, none⟩ = some (.slice (some ⟨Fb, 0, none⟩) s.n cF) ∧ W'.cell? ⟨Fb, j * 4, none⟩ = some (.int .i64 o0) ∧ W'.cell? ⟨Fb, j * 4 + 1, none⟩ = some (.int .i64 y0) ∧ W'.cell? ⟨Fb, j * 4 + 2, none⟩ = some (.int .i64 cn0) ∧ W'.cell? ⟨Fb, j * 4 + 3, none⟩ = some (.int .i64 tt0) ∧ W'.cell? ⟨W.heap.size, 1, none⟩ = some (.int .i64 j) := fun W' hW => by
      obtain ⟨k1, k2⟩ := KK W' hW
      obtain ⟨c1, c2, c3, c4, c5, c6⟩ := CF W' k1
      exact ⟨c1, c2, c3, c4, c5, c6, (CB W' k2).1⟩
    have LU : ub < W2.heap.size := by omega
    have LW : W.heap.size < W2.heap.size := by omega
    have E2 := Base.Aside.mk (And.intro hb2 hb3)
    clear hb2 hb3 C0 hok
    go_cut [4] from 18 to 28 (fun v wx => ∃ g, v = .pointer (some ⟨g, 0, none⟩) ∧ Base.Aside (wx.heap[g]? = some (.cells #[.int .i64 o0, .int .i64 y0, .int .i64 cn0, .int .i64 tt0] 95 (0, 0)) ∧ Below W2.heap.size W2 wx))
    case first =>
      go_region_held3 (fun W' => W'.cell? ⟨ub, 0, none⟩ = some (.pointer (some ⟨rb, 0, none⟩)) ∧ W'.cell? ⟨rb, 0, none⟩ = some (.slice (some ⟨Fb, 0, none⟩) s.n cF) ∧ W'.cell? ⟨Fb, j * 4, none⟩ = some (.int .i64 o0) ∧ W'.cell? ⟨Fb, j * 4 + 1, none⟩ = some (.int .i64 y0) ∧ W'.cell? ⟨Fb, j * 4 + 2, none⟩ = some (.int .i64 cn0) ∧ W'.cell? ⟨Fb, j * 4 + 3, none⟩ = some (.int .i64 tt0) ∧ W'.cell? ⟨W.heap.size, 1, none⟩ = some (.int .i64 j))
        (first
          | go_keep
          | (refine KS _ ?_; (repeat (with_reducible first | exact Below.refl _ _ | refine below_drew ?_ | refine below_alloc ?_ _ | (refine below_set ?_ (Nat.le_refl _) _))); done))
        (fail)
      all_goals
        go_wp2_with fail
        go_meet
        exact ⟨W2.heap.size, rfl, ⟨blk_drew (blk_new W2 _), below_drew (below_alloc (Below.refl _ _) _)⟩⟩
    case rest =>
      obtain ⟨g, rfl, hA⟩ := hcut
      have D0 := fun i => blk_cell hA.out.1 i
      have LG := blk_lt hA.out.1
      obtain ⟨k1, k2⟩ := KK wc hA.out.2
      have EA := Base.Aside.mk (And.intro k1 hA.out.2)
      obtain ⟨c1, c2, c3, c4, c5, c6⟩ := CF wc k1
      obtain ⟨q1, q2, q3⟩ := CB wc k2
      have z3 := hA.out.2.size
      have KT : ∀ W', Below wc.heap.size wc W' → W'.cell? ⟨ub, 0, none⟩ = some (.pointer (some ⟨rb, 0, none⟩)) ∧ W'.cell? ⟨W.heap.size, 1, none⟩ = some (.int .i64 j) ∧ W'.cell? ⟨W.heap.size, 2, none⟩ = some (.int .i64 o) ∧ W'.cell? ⟨W.heap.size, 3, none⟩ = some (.slice A n c) := fun W' hW => by
        obtain ⟨k1, k2⟩ := KK W' (below_step hA.out.2 hW)
        exact ⟨(CF W' k1).1, CB W' k2⟩
      have S3 : ∀ (W' w3 : World), Below wc.heap.size wc W' → (∀ k o, W'.heap[k]? = some o → k ∉ bs → w3.heap[k]? = some o) → w3.cell? ⟨ub, 0, none⟩ = some (.pointer (some ⟨rb, 0, none⟩)) ∧ w3.cell? ⟨W.heap.size, 1, none⟩ = some (.int .i64 j) ∧ w3.cell? ⟨W.heap.size, 2, none⟩ = some (.int .i64 o) ∧ w3.cell? ⟨W.heap.size, 3, none⟩ = some (.slice A n c) := fun W' w3 hW hk => by
        obtain ⟨k1, k2⟩ := KK W' (below_step hA.out.2 hW)
        obtain ⟨m1, m2⟩ := CK W' k1 k2
        have m3 := hk _ _ m1 nub
        have m4 := hk _ _ m2 nbx
        exact ⟨blk_cell m3 0, blk_cell m4 1, blk_cell m4 2, blk_cell m4 3⟩
      clear hA k1 k2 KS KK CF CK
      rcases hcase with ⟨d1, hr⟩ | ⟨d1, d2, hr⟩ | ⟨d1, d2, d3, hr⟩ | ⟨d1, d2, d3, hr⟩
      rotate_left 3
      · have HRR := Base.Aside.mk hr
        clear hr
        go_wp2
        go_region_held3 (fun W' => W'.cell? ⟨ub, 0, none⟩ = some (.pointer (some ⟨rb, 0, none⟩)) ∧ W'.cell? ⟨W.heap.size, 1, none⟩ = some (.int .i64 j) ∧ W'.cell? ⟨W.heap.size, 2, none⟩ = some (.int .i64 o) ∧ W'.cell? ⟨W.heap.size, 3, none⟩ = some (.slice A n c))
          (first
            | go_keep
            | (refine KT _ ?_; (repeat (with_reducible first | exact Below.refl _ _ | refine below_drew ?_ | refine below_alloc ?_ _)); done)
            | (with_reducible exact E3.out.2.2))
          ((first
            | (go_at_call 59; (with_reducible refine (hwr _ ?_).mono ?_); (focus (repeat (with_reducible first | exact EA.out.1 | refine below_drew ?_ | refine below_alloc ?_ _))); rintro z w3 ⟨⟨v, rfl⟩, hM3, hC3, hk3⟩; have s3 := S3 _ _ (by (repeat (with_reducible first | exact Below.refl _ _ | refine below_drew ?_ | refine below_alloc ?_ _))) hk3; have E3 := Base.Aside.mk (And.intro hM3 (And.intro hC3 s3)); clear hM3 hC3 hk3 s3)))
        all_goals
          go_wp2_with fail
          refine bodyPost_end (results_none rfl _ _ _) rfl ?_
          rw [HR.out, if_pos HRR.out]
          exact ⟨⟨_, rfl⟩, E3.out.1, E3.out.2.1⟩
      all_goals
        have HRR := Base.Aside.mk hr
        clear hr
        go_wp2
        refine bodyPost_ret (results_none rfl _ _ _) rfl ?_
        rw [HR.out, if_neg (by rw [HRR.out]; decide)]
        exact ⟨⟨_, rfl⟩, HH.out.1.below EA.out.1, Chg.below _ EA.out.1⟩
  · rw [rewS_out hin]
    have hbad := fun m => in_bad (h.below (w' := (W.alloc (.cells #[.int .i64 p0, .int .i64 k, .int .i64 off, .slice A zs.length c] 146)).drewN m) (below_drewN hb1 m)) k off zs.length hin
    have HH := Base.Aside.mk (And.intro h hb1)
    rw [← hn] at hbad hb1 hbx C0 HH ⊢
    clear h hin hb1 hz hn
    go_enter Tryz.func103, Tryz.ntmps103
    go_wp2
    go_quiet ((go_at_call 97; refine Calls.quiet_of_same (hbad _)))
    go_wp2
    refine bodyPost_ret (results_none rfl _ _ _) rfl ?_
    exact ⟨⟨_, rfl⟩, HH.out.1.below (below_drewN HH.out.2 _), Chg.below _ (below_drewN HH.out.2 _)⟩
end
end Go.Proofs.YthlejchcnfdcpaaGreat.GxC
namespace Go.Proofs.YthlejchcnfdcpaaGreat.GxD
open Go.RowKit Go.Maps Base GaA GaB GaC GaD RpA RmA RmB RmC GvA GfA GfB GoA GwA GwB GwE GxA GxB GxC
set_option linter.unusedVariables false
set_option linter.unusedSimpArgs false

/-- The document's view in memory, behind r reads; its rewrites lie in the old world w0, which stays. -/
structure Vd (w0 W : World) (ub rb : Nat) (bs : List Nat) (A : Option Addr) (cap r : Nat) (ps : List Pk) : Prop where
  blk : W.heap[ub]? = some (.cells #[.pointer (some ⟨rb, 0, none⟩), .slice A ps.length cap, .int .i64 (cr r)] 80 (0, 0))
  old : Below w0.heap.size w0 W
  pks : Pks w0 A ps
  ge : w0.heap.size ≤ ub ∧ ∀ b ∈ bs, w0.heap.size ≤ b
section
variable {w0 W W' : World} {rb Fb Bb cF cB ub cap r : Nat} {bs : List Nat} {s : MS} {A : Option Addr} {ps : List Pk}
theorem Vd.chg {F : Nat → Prop} (h : Vd w0 W ub rb bs A cap r ps) (hc : Chg F W W') (hF : ∀ x, F x → w0.heap.size ≤ x) (hu : ¬ F ub) : Vd w0 W' ub rb bs A cap r ps :=
  ⟨hc.blk h.blk hu, hc.out h.old h.old.size hF, h.pks, h.ge⟩
theorem Vd.below (h : Vd w0 W ub rb bs A cap r ps) (hb : Below W.heap.size W W') : Vd w0 W' ub rb bs A cap r ps :=
  h.chg (Chg.below (fun _ => False) hb) (fun _ h => h.elim) (fun h => h)
theorem Vd.out (h : Vd w0 W ub rb bs A cap r ps) (hM : RMach W rb Fb Bb cF cB bs s) : ub ∉ bs := fun hm => by
  obtain ⟨cs, hcs⟩ := page_mem hM hm
  exact RmB.blk_ne h.blk hcs (by decide) rfl
/-- One read more. -/
theorem Vd.more (h : Vd w0 W ub rb bs A cap r ps) : Vd w0 (W.setCell ⟨ub, 2, none⟩ (.int .i64 (cr (r + 1)))) ub rb bs A cap (r + 1) ps :=
  ⟨blk_put h.blk 2 _ (by simp), below_set h.old h.ge.1 _, h.pks, h.ge⟩
theorem due_more {ps : List Pk} {i : Nat} {p : Pk} (hp : ps[i]? = some p) (n : Int) : GwB.due (ps.take (i + 1)) n = if (p.at_ == n) = true then GwB.due (ps.take i) n ++ [p] else GwB.due (ps.take i) n := by
  rw [List.take_add_one, hp]
  unfold GwB.due
  rw [List.filter_append]
  by_cases q : (p.at_ == n) = true
  · simp [q]
  · simp [q]
set_option maxHeartbeats 4000000 in
set_option maxRecDepth 100000 in
theorem vnew_long (p : Value) (n : Nat) (w : World) (h64 : 64 < n) : Calls Tryz.prog 21 #[p, .slice A n cap] w fun e w' => e = .returned (.tuple #[.pointer none, .int .i64 2]) ∧ w' = w := by
  have d1 : decide (64 < n) = true := decide_eq_true h64
  have d2 : decide ((64 : Int) < n) = true := decide_eq_true (by omega)
  go_enter Tryz.func21, Tryz.ntmps21
  go_wp2
  go_ret2
  exact ⟨by first | rfl | (simp; done), rfl⟩
def VnOut (w : World) (rb : Nat) (A : Option Addr) (n cap : Nat) (e : Ending) (w' : World) : Prop := ∃ ub, e = .returned (.tuple #[.pointer (some ⟨ub, 0, none⟩), .int .i64 0]) ∧ w'.heap[ub]? = some (.cells #[.pointer (some ⟨rb, 0, none⟩), .slice A n cap, .int .i64 0] 80 (0, 0)) ∧ w.heap.size ≤ ub ∧ Below w.heap.size w w'
set_option maxHeartbeats 4000000 in
set_option maxRecDepth 100000 in
theorem vnew_any (n : Nat) (w : World) (h64 : n ≤ 64) : Calls Tryz.prog 21 #[.pointer (some ⟨rb, 0, none⟩), .slice A n cap] w (VnOut w rb A n cap) := by
  have d1 : decide (64 < n) = false := decide_eq_false (by omega)
  have d2 : decide ((64 : Int) < n) = false := decide_eq_false (by omega)
  go_enter Tryz.func21, Tryz.ntmps21
  go_wp2
  go_ret2
  exact ⟨w.heap.size, by first | rfl | (simp; done), blk_new w _, Nat.le_refl _, below_alloc (Below.refl _ _) _⟩
def VrOut (w0 W : World) (rb Fb Bb cF cB : Nat) (bs : List Nat) (ub : Nat) (A0 : Option Addr) (cap r : Nat) (ps : List Pk) (s : MS) (k off n : Int) (e : Ending) (w' : World) : Prop :=
  ∃ (A : Option Addr) (l c : Nat) (er : Int), e = .returned (.tuple #[.slice A l c, .int .i64 er]) ∧ RrOk W s k off n A l er w' ∧ RMach w' rb Fb Bb cF cB bs s ∧ Vd w0 w' ub rb bs A0 cap (r + 1) ps ∧ Chg (fun x => x = ub ∨ x ∈ bs) W w'
theorem RrOk.mono {W1 W2 w' : World} {k off n : Int} {A : Option Addr} {l : Nat} {er : Int} (h : RrOk W2 s k off n A l er w') (hs : W1.heap.size ≤ W2.heap.size) : RrOk W1 s k off n A l er w' := by
  obtain ⟨h⟩ := h
  exact ⟨h.imp (fun ⟨a, b, c, d, e⟩ => ⟨a, b, c, d, fun x hx => Nat.le_trans hs (e x hx)⟩) id⟩
set_option maxHeartbeats 8000000 in
set_option maxRecDepth 100000 in
theorem rvread (h : Vd w0 W ub rb bs A cap r ps) (hM : RMach W rb Fb Bb cF cB bs s) (h64 : ps.length ≤ 64) (k off n : Int) : Calls Tryz.prog 81 #[.pointer (some ⟨ub, 0, none⟩), .int .i64 k, .int .i64 off, .int .i64 n] W (VrOut w0 W rb Fb Bb cF cB bs ub A cap r ps (pokeS s ps r) k off n) := by
  have C0 := fun i => blk_cell h.blk i
  have L0 := blk_lt h.blk
  have hcs := cr_step r
  obtain ⟨m, hm⟩ : ∃ m, m = ps.length := ⟨_, rfl⟩
  have hps : pokeS s ps r = pokeL s (GwB.due (ps.take m) (cr r)) := by rw [hm, List.take_length]; rfl
  rw [← hm] at C0
  have HN := Base.Aside.mk hm
  have m64 : m ≤ 64 := by omega
  have HH := Base.Aside.mk (And.intro h (And.intro hM hps))
  clear h hM hps hm h64
  go_enter Tryz.func81, Tryz.ntmps81
  go_wp2
  go_loopw [10] (fun v wr => ∃ (i : Nat) (W2 : World), i ≤ m ∧ v = .int .i64 i ∧ wr = W2 ∧ Base.Aside (RMach W2 rb Fb Bb cF cB bs (pokeL s (GwB.due (ps.take i) (cr r))) ∧ Vd w0 W2 ub rb bs A cap r ps ∧ Chg (fun x => x ∈ bs) W W2)) (fun v _ => m - (intOf v).toNat)
  case atStart => exact ⟨0, _, by omega, rfl, rfl, ⟨HH.out.2.1, HH.out.1, Chg.refl _ _⟩⟩
  case round => as_aux_lemma =>
    obtain ⟨i, W2, hi, rfl, hwr, hA2⟩ := hrel
    obtain rfl := hwr.symm
    have C2 := fun i => blk_cell hA2.out.2.1.blk i
    have F2 := fun i => blk_frozen hA2.out.2.1.blk i
    have L2 := blk_lt hA2.out.2.1.blk
    rw [← HN.out] at C2
    by_cases hlt : i < m
    · have hip : i < ps.length := by have := HN.out; omega
      obtain ⟨p, hp⟩ : ∃ p, p = ps[i] := ⟨_, rfl⟩
      have hpi : ps[i]? = some p := by rw [hp]; exact List.getElem?_eq_getElem hip
      rcases hA2.out.2.1.pks with h0 | ⟨x, rfl, hx1, hx2⟩
      · rw [h0] at hip
        simp at hip
      have hpk0 := hx2 i p hpi
      have hpk := hpk0.below (by rw [add_block]; exact hx1) hA2.out.2.1.old
      obtain ⟨A3, c3, hc3, hz3⟩ := hpk0.c3
      have k0 := hpk.c0
      have k1 := hpk.c1
      have k2 := hpk.c2
      have k3 : W2.cell? ⟨(x.add (i * 4)).block, (x.add (i * 4)).off + 3, none⟩ = some (.slice A3 p.zs.length c3) := (hA2.out.2.1.old.cell (p := ⟨(x.add (i * 4)).block, (x.add (i * 4)).off + 3, none⟩) (by show (x.add (i * 4)).block < _; rw [add_block]; exact hx1)).trans hc3
      have hxb : (x.add (i * 4)).block < W2.heap.size := by rw [add_block]; exact Nat.lt_of_lt_of_le hx1 hA2.out.2.1.old.size
      have i0' : (0 : Int) ≤ i := by omega
      have i1' : (i : Int) < m := by omega
      have hnb : p.zs ≠ [] → ∀ y, A3 = some y → y.block ∉ bs := by
        intro hne y hy hmem
        obtain ⟨y2, hy2, hh⟩ := hz3.resolve_left hne
        rw [hy] at hy2
        injection hy2 with hy2
        subst hy2
        have := hA2.out.2.1.ge.2 _ hmem
        have := hh.lt
        omega
      have hbl : ∀ b ∈ bs, b < W2.heap.size := fun b hb => by
        obtain ⟨cs, hcs⟩ := page_mem hA2.out.1 hb
        exact blk_lt hcs
      have hz2 : Bytes W2 A3 p.zs := hz3.below hA2.out.2.1.old
      have hrw := fun m => rrew (blk_below hA2.out.2.1.blk (blk_lt hA2.out.2.1.blk) (below_drewN (Below.refl W2.heap.size W2) m)) (hA2.out.1.below (below_drewN (Below.refl W2.heap.size W2) m)) p.at_ p.mfn p.off A3 c3 p.zs (hz2.below (below_drewN (Below.refl W2.heap.size W2) m)) hnb hbl
      have HI := Base.Aside.mk (And.intro hpi hip)
      have hcase : (p.at_ == cr r) = true ∨ (p.at_ == cr r) = false := by cases (p.at_ == cr r) <;> simp
      clear hpi hp hip hx2 hpk hpk0 hz3 hc3 hz2 hnb hbl C0 hcs
      rcases hcase with hd | hd
      · have hdm : GwB.due (ps.take (i + 1)) (cr r) = GwB.due (ps.take i) (cr r) ++ [p] := by rw [due_more HI.out.1, if_pos hd]
        have HD := Base.Aside.mk hdm
        clear hdm
        go_wp2
        go_quiet (fail)
        go_wp2_with (first
          | (go_at_call 103; (with_reducible refine (hrw _).mono ?_); rintro z w3 ⟨⟨v, rfl⟩, hM3, hC3⟩; have E3 := Base.Aside.mk (And.intro hM3 hC3); clear hM3 hC3)
          | go_in)
        refine ⟨⟨i + 1, _, by omega, by simp, rfl, ?_⟩, by simp [intOf]; omega⟩
        obtain ⟨q1, q2, q3⟩ := hA2.out
        have hc : Chg (fun y => y ∈ bs) W2 w3 := (Chg.below _ (below_drewN (Below.refl _ _) _)).trans E3.out.2
        refine ⟨?_, q2.chg hc (fun x hx => q2.ge.2 x hx) (q2.out q1), q3.trans hc⟩
        rw [HD.out, pokeL_snoc]
        exact E3.out.1
      · have hdm : GwB.due (ps.take (i + 1)) (cr r) = GwB.due (ps.take i) (cr r) := by rw [due_more HI.out.1, if_neg (by rw [hd]; decide)]
        have HD := Base.Aside.mk hdm
        clear hdm
        go_wp2
        go_quiet (fail)
        go_wp2
        refine ⟨⟨i + 1, _, by omega, by simp, rfl, ?_⟩, by simp [intOf]; omega⟩
        obtain ⟨q1, q2, q3⟩ := hA2.out
        have hb := below_drewN (Below.refl W2.heap.size W2) nq
        refine ⟨?_, q2.below hb, q3.trans (Chg.below _ hb)⟩
        rw [HD.out]
        exact q1.below hb
    · obtain rfl : i = m := by omega
      have hM2 : RMach W2 rb Fb Bb cF cB bs (pokeS s ps r) := by
        rw [HH.out.2.2]
        exact hA2.out.1
      have h3 := hA2.out.2.1.more
      have hub : ub ∉ bs := hA2.out.2.1.out hM2
      have hc1 : Chg (fun x => x = ub) W2 (W2.setCell ⟨ub, 2, none⟩ (.int .i64 (cr (r + 1)))) := Chg.set (F := fun x => x = ub) (p := ⟨ub, 2, none⟩) (Chg.refl _ W2) (.inl rfl) _
      have hM3 : RMach (W2.setCell ⟨ub, 2, none⟩ (.int .i64 (cr (r + 1)))) rb Fb Bb cF cB bs (pokeS s ps r) := hM2.chg hc1 (RmB.blk_ne hM2.blk hA2.out.2.1.blk (by decide)) (by obtain ⟨cs, hcs, _⟩ := hM2.frs; exact RmB.blk_ne hcs hA2.out.2.1.blk (by decide)) (by obtain ⟨cs, hcs, _⟩ := hM2.rows; exact RmB.blk_ne hcs hA2.out.2.1.blk (by decide)) (fun b hb e => hub (e ▸ hb))
      have hrd := fun W4 (hb : Below (W2.setCell ⟨ub, 2, none⟩ (.int .i64 (cr (r + 1)))).heap.size (W2.setCell ⟨ub, 2, none⟩ (.int .i64 (cr (r + 1)))) W4) => rread_any (hM3.below hb) k off n
      have hge := hA2.out.2.2.size
      have HE := Base.Aside.mk (And.intro h3 (And.intro hM3 (And.intro (Chg.trans (hA2.out.2.2.mono (G := fun x => x = ub ∨ x ∈ bs) fun _ h => .inr h) (hc1.mono fun _ h => .inl h)) hge)))
      clear hlt hM2 h3 hc1 hM3 C0 hub hge
      go_wp2_with (first
        | (go_at_call 104; (with_reducible refine (hrd _ ?_).mono ?_); (focus (repeat (with_reducible first | exact Below.refl _ _ | refine below_drew ?_ | refine below_drewN ?_ _))); rintro z w4 ⟨A4, l4, c4, er4, rfl, hk4, hB4⟩; have E4 := Base.Aside.mk (And.intro hk4 hB4); clear hk4 hB4)
        | go_in)
      go_ret2
      have hb4 : Below (W2.setCell ⟨ub, 2, none⟩ (.int .i64 (cr (r + 1)))).heap.size (W2.setCell ⟨ub, 2, none⟩ (.int .i64 (cr (r + 1)))) w4 := below_step (by first | exact Below.refl _ _ | exact (Below.refl _ _).drew) E4.out.2
      obtain ⟨q1, q2, q3, q4⟩ := HE.out
      refine ⟨A4, l4, c4, er4, by first | rfl | (simp; done), RrOk.mono E4.out.1 ?_, q2.below hb4, q1.below hb4, q3.trans (Chg.below _ hb4)⟩
      have hsz : W2.heap.size = (W2.setCell ⟨ub, 2, none⟩ (.int .i64 (cr (r + 1)))).heap.size := (size_set _ _ _).symm
      first
      | (have h5 : ((W2.setCell ⟨ub, 2, none⟩ (.int .i64 (cr (r + 1)))).drew).heap.size = (W2.setCell ⟨ub, 2, none⟩ (.int .i64 (cr (r + 1)))).heap.size := rfl; omega)
      | omega
end
end Go.Proofs.YthlejchcnfdcpaaGreat.GxD
