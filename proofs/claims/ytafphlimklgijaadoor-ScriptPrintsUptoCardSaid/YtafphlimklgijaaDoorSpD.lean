/- Proved: an act's line, the program's own function: where there is one (a contract for the law ScriptPrints). -/
import Derived.Test.YtafphlimklgijaaDoorSpC
namespace Go.Proofs.YtafphlimklgijaaDoor.SpD
open Go.RowKit Go.Shelf Go.Proofs.YtafphlimklgijaaDoor.Base Go.Proofs.YtafphlimklgijaaDoor.TdA Go.Proofs.YtafphlimklgijaaDoor.TdB Go.Proofs.YtafphlimklgijaaDoor.TdC Go.Proofs.YtafphlimklgijaaDoor.SpA Go.Proofs.YtafphlimklgijaaDoor.SpP Go.Proofs.YtafphlimklgijaaDoor.SpB Go.Proofs.YtafphlimklgijaaDoor.SpC
set_option linter.unusedVariables false
set_option linter.unusedSimpArgs false

/-- A rewrite's cells, as the walk reads them. -/
structure PkCells (w : World) (x : Addr) (p : Pk) : Prop where
  c0 : w.cell? x = some (.int .i64 p.at_)
  c1 : w.cell? ⟨x.block, x.off + 1, none⟩ = some (.int .i64 p.mfn)
  c2 : w.cell? ⟨x.block, x.off + 2, none⟩ = some (.int .i64 p.off)
  c3 : w.cell? ⟨x.block, x.off + 3, none⟩ = some (.slice p.A p.l p.c)
/-- The rewrites of an argument. -/
structure Pks (w : World) (PA : Option Addr) (pl : Nat) (ps : List Pk) : Prop where
  len : pl = ps.length
  cells : ps = [] ∨ ∃ x, PA = some x ∧ x.block < w.heap.size ∧ ∀ i p, ps[i]? = some p → PkCells w (x.add (i * 4)) p
  data : ∀ p ∈ ps, p.l = p.zs.length ∧ p.l ≤ 1048576 ∧ SpA.Data w p.A p.zs
theorem add_block (x : Addr) (i : Nat) : (x.add i).block = x.block := by unfold Addr.add; split <;> rfl
theorem PkCells.below {w w' : World} {x : Addr} {p : Pk} (h : PkCells w x p) (hb : Below w.heap.size w w') : PkCells w' x p :=
  ⟨cell_below hb h.c0, cell_below hb h.c1, cell_below hb h.c2, cell_below hb h.c3⟩
theorem Pks.below {w w' : World} {PA : Option Addr} {pl : Nat} {ps : List Pk} (h : Pks w PA pl ps) (hb : Below w.heap.size w w') : Pks w' PA pl ps := by
  refine ⟨h.len, ?_, fun p hp => ⟨(h.data p hp).1, (h.data p hp).2.1, (h.data p hp).2.2.below hb⟩⟩
  rcases h.cells with h | ⟨x, h1, h2, h3⟩
  · exact .inl h
  · exact .inr ⟨x, h1, Nat.lt_of_lt_of_le h2 hb.size, fun i p hi => (h3 i p hi).below hb⟩
/-- What Print is handed. -/
structure Arg (w : World) (A : Option Addr) (l : Nat) (zs : List UInt8) (PA : Option Addr) (pl : Nat) (ps : List Pk) : Prop where
  asc : Asc w
  pow : Pow w
  len : l = zs.length
  data : SpA.Data w A zs
  pks : Pks w PA pl ps
theorem Arg.below {w w' : World} {A : Option Addr} {l : Nat} {zs : List UInt8} {PA : Option Addr} {pl : Nat} {ps : List Pk} (h : Arg w A l zs PA pl ps) (hb : Below w.heap.size w w') : Arg w' A l zs PA pl ps :=
  ⟨tab_below h.asc hb, tab_below h.pow hb, h.len, h.data.below hb, h.pks.below hb⟩
def strs (l : List (List UInt8)) : List Value := l.map fun x => .string ⟨x.toArray⟩
theorem strs_snoc (l : List (List UInt8)) (x : List UInt8) : strs (l ++ [x]) = strs l ++ [.string ⟨x.toArray⟩] := by simp [strs]
theorem info9 : (Tryd.prog.info? 9).map (fun i => (i.zero, i.size, i.bytes)) = some (some (.string ⟨#[]⟩), 1, 16) := by kernel_rfl
theorem cellsE {w W : World} {cs cs0 : Array Value} (E : En w W cs) (h : cs0 = cs) (i : Nat) : W.cell? ⟨w.heap.size, i, none⟩ = cs0[i]? := by
  rw [blk_cell E.blk i, h]
theorem words_step {w W W3 W4 : World} {cs : Array Value} {g n cap : Nat} {xs : List Value} {o : Obj} (E : En w W cs) (own : W.ownsRow (w.heap.size + 1) 9 1 (.slice (some ⟨g, 0, none⟩) n cap) n xs) (hB : Below W.heap.size W W3)
    (hg : (W3.alloc o).grownBy W4 (Value.ownBlock (.slice (some ⟨g, 0, none⟩) n cap))) : En w W4 cs ∧ Below (w.heap.size + 1) W W4 ∧ ∀ b x, W.heap[b]? = some x → b ≠ g → W4.heap[b]? = some x := by
  have hgb : w.heap.size + 1 ≤ g := (own.lt g rfl).1
  have h3 := below_alloc hB o
  have hsz := E.size
  have h4 : Below (w.heap.size + 1) W W4 := (h3.mono hsz).grown hg (by have := h3.size; omega) (fun k hk => by cases hk; exact hgb)
  refine ⟨⟨E.bel.trans h4⟩, h4, fun b x hb hne => ?_⟩
  have hbl := blk_lt hb
  have h5 := blk_below hb hbl h3
  exact (hg.block b (blk_lt h5) (by intro e; exact hne (Option.some.inj e))).trans h5
theorem row_below {W W' : World} {b e s k : Nat} {v : Value} {xs : List Value} (h : W.ownsRow b e s v k xs) (hb : Below W.heap.size W W') : W'.ownsRow b e s v k xs :=
  h.kept (row := none) ⟨hb.os, hb.tape, hb.output, hb.size, fun k hk _ => hb.block k hk⟩ (by cases hq : v.ownBlock; exact .inl rfl; exact .inr (by simp))
/-- A word more. -/
theorem app_word {ops : Array Oper} {rest : List Oper} {o : Oper} {a : Act} {W : World} {Q : Exit → Act → World → Prop} (i0 : TypeInfo) (hi : Tryd.prog.info? 9 = some i0) (hz0 : i0.zero = some (.string ⟨#[]⟩)) (hz1 : i0.size = 1) (hz2 : i0.bytes = 16) (hgd : o.guard = none) (s x : Operand)
    (ho : o.op = .call { callee := .builtin .append, args := #[s, x], argTypes := #[33, 33] }) (B0 g n cap : Nat) (xs : List Value) (str : ByteArray) (hs : a.eval s = .slice (some ⟨g, 0, none⟩) n cap)
    (hown : W.ownsRow B0 9 1 (.slice (some ⟨g, 0, none⟩) n cap) n xs) (ad : Addr) (hx : a.eval x = .slice (some ad) 1 1) (hnew : ∀ j u, [Value.string str][j]? = some u → W.cell? (ad.add j) = some u) (hn : n ≤ 1048600) (hbase : B0 ≤ W.heap.size) (H : Nat) (hH : W.heap.size = H)
    (h : ∀ g' cap' w', w'.ownsRow B0 9 1 (.slice (some ⟨g', 0, none⟩) (n + 1) cap') (n + 1) (xs ++ [.string str]) → W.grownBy w' (Value.ownBlock (.slice (some ⟨g, 0, none⟩) n cap)) → (g = g' ∨ g' = H) → g' < w'.heap.size → wpList Tryd.prog ops Q rest (a.put o.dst (.slice (some ⟨g', 0, none⟩) (n + 1) cap')) w') : wpList Tryd.prog ops Q (o :: rest) a W :=
  wpList_append_lies W hgd s x 33 ho B0 9 i0 (.string ⟨#[]⟩) 1 16 Tryd.underlying33 hi hz0 hz1 hz2 rfl (by decide) _ n xs hs hown ad 1 1 [.string str] hx rfl hnew (by intro u hu; simp at hu; subst hu; rfl) (by decide) (by unfold maxLen; omega) (by omega) hbase H hH
    (fun g' cap' w' h1 h2 h3 h4 => h g' cap' w' h1 h2 (h3.imp (fun e => by simpa [Value.ownBlock] using e) id) h4)
/-- .. at a step of a region that draws its order. -/
theorem step_word {ops : Array Oper} {o : Oper} {a : Act} {W : World} {K : Act → World → Prop} {Q : Exit → Act → World → Prop} {E : Prop} (i0 : TypeInfo) (hi : Tryd.prog.info? 9 = some i0) (hz0 : i0.zero = some (.string ⟨#[]⟩)) (hz1 : i0.size = 1) (hz2 : i0.bytes = 16) (hgd : o.guard = none) (s x : Operand)
    (ho : o.op = .call { callee := .builtin .append, args := #[s, x], argTypes := #[33, 33] }) (B0 g n cap : Nat) (xs : List Value) (str : ByteArray) (hs : a.eval s = .slice (some ⟨g, 0, none⟩) n cap)
    (hown : W.ownsRow B0 9 1 (.slice (some ⟨g, 0, none⟩) n cap) n xs) (ad : Addr) (hx : a.eval x = .slice (some ad) 1 1) (hnew : ∀ j u, [Value.string str][j]? = some u → W.cell? (ad.add j) = some u) (hn : n ≤ 1048600) (hbase : B0 ≤ W.heap.size) (H : Nat) (hH : W.heap.size = H)
    (h : ∀ g' cap' w', w'.ownsRow B0 9 1 (.slice (some ⟨g', 0, none⟩) (n + 1) cap') (n + 1) (xs ++ [.string str]) → W.grownBy w' (Value.ownBlock (.slice (some ⟨g, 0, none⟩) n cap)) → (g = g' ∨ g' = H) → g' < w'.heap.size → K (a.put o.dst (.slice (some ⟨g', 0, none⟩) (n + 1) cap')) w') : if Region.wanted o (yielded ops a.tmps) = true then Oper.wp Tryd.prog o a W K Q else E :=
  step_append_lies W hgd s x 33 ho B0 9 i0 (.string ⟨#[]⟩) 1 16 Tryd.underlying33 hi hz0 hz1 hz2 rfl (by decide) _ n xs hs hown ad 1 1 [.string str] hx rfl hnew (by intro u hu; simp at hu; subst hu; rfl) (by decide) (by unfold maxLen; omega) (by omega) hbase H hH
    (fun g' cap' w' h1 h2 h3 h4 => h g' cap' w' h1 h2 (h3.imp (fun e => by simpa [Value.ownBlock] using e) id) h4)
set_option maxHeartbeats 2000000 in
set_option maxRecDepth 100000 in
/-- hex, also of no bytes. -/
theorem hex_all (w : World) (A : Option Addr) (l c : Nat) (zs : List UInt8) (hz : l = zs.length) (hl : l ≤ 1048576) (hd : SpA.Data w A zs) :
    Calls Tryd.prog 11 #[.slice A l c] w fun e w' => e = .returned (.string ⟨(hexs zs).toArray⟩) ∧ Below w.heap.size w w' := by
  rcases Nat.eq_zero_or_pos l with h0 | h0
  · obtain rfl : zs = [] := List.length_eq_zero_iff.1 (by omega)
    subst h0
    clear hz hl hd
    go_enter Tryd.func11, Tryd.ntmps11
    go_wp2
    go_loopw [8] (fun v wr => v = .int .i64 0 ∧ wr = w.alloc (.cells #[.pointer none, .slice none 0 0] 47)) (fun _ _ => 0)
    case atStart => exact ⟨rfl, rfl⟩
    case round =>
      obtain ⟨rfl, rfl⟩ := hrel
      have hB0 : Lib.IsBuilder 47 5 w.heap.size w.heap.size (Lib.byteCells (hexs [])) (w.alloc (.cells #[.pointer none, .slice none 0 0] 47)) := .inl ⟨Nat.le_refl _, .slice none 0 0, blk_new _ _, World.ownsRow_nil _ _ _ _, by simp [Value.ownBlock]⟩
      have hst := Tryd.Builder_String_any w.heap.size w.heap.size (hexs []) _ hB0 (by simp)
      go_wp2_with (first
        | (go_at_call 21; refine hst.mono ?_; rintro z w6 ⟨rfl, hB6⟩; have E6 := Base.Aside.mk ((below_alloc (Below.refl _ _) _).trans hB6); clear hB6)
        | go_in)
      go_ret
      exact ⟨by first | rfl | (simp; done), E6.out⟩
  · exact hex_any w A l c zs hz hl hd h0
theorem join_prog (W : World) (g cap n : Nat) (x : List UInt8) (l : List (List UInt8)) {b : Nat} (hrow : W.ownsRow b 9 1 (.slice (some ⟨g, 0, none⟩) n cap) n (strs (x :: l))) (hlen : (x ++ tail l).length ≤ 140737488355328) (hN : n ≤ 140737488355328) :
    Calls Tryd.prog 12 #[.slice (some ⟨g, 0, none⟩) n cap, .string ⟨#[32]⟩] W fun e w' => e = .returned (.string ⟨(x ++ tail l).toArray⟩) ∧ Below W.heap.size W w' := by
  have hlen2 := hrow.1
  have hcell := fun j hj => World.ownsRow.cellAt hrow j hj
  obtain ⟨_, ⟨h0, _⟩ | ⟨g', cap', cur, hv, h1, h2, h3, h4, h5, h6⟩⟩ := hrow
  · cases h0
  · cases hv
    have hn : n = ((x :: l).map fun y => (⟨y.toArray⟩ : ByteArray)).length := by
      simp [strs] at hlen2
      simp
      omega
    have e2 : ((x :: l).map fun y => (⟨y.toArray⟩ : ByteArray)).map (·.data.toList) = x :: l := by simp [Function.comp_def]
    have h := Tryd.strings_Join g 0 cap ((x :: l).map fun y => (⟨y.toArray⟩ : ByteArray)) ⟨#[32]⟩ W (fun j y hj => by
      have hjn : j < n := by
        rw [hn]
        exact (List.getElem?_eq_some_iff.1 hj).1
      have := hcell j (by omega)
      rw [Nat.zero_add, this]
      unfold strs
      rw [List.getElem?_map] at hj ⊢
      obtain ⟨z, hz1, hz2⟩ := Option.map_eq_some_iff.1 hj
      rw [hz1, ← hz2]
      rfl) (blk_lt h2) (by omega) (by omega) (by rw [e2, show (⟨#[32]⟩ : ByteArray).data.toList = [32] from rfl, join_eq]; exact hlen)
    rw [e2, show (⟨#[32]⟩ : ByteArray).data.toList = [32] from rfl, join_eq, ← hn] at h
    exact h
def three (p : Pk) : Nat → Int
  | 0 => p.at_
  | 1 => p.mfn
  | _ => p.off
theorem allSmall_three (p : Pk) : allSmall (three p) 3 = p.small := by
  simp [allSmall, List.range_succ, three, Pk.small, Bool.and_assoc]
theorem three_cells {W : World} {g : Nat} {t : TypeId} {p : Pk} (h : W.heap[g]? = some (.cells #[.int .i64 p.at_, .int .i64 p.mfn, .int .i64 p.off] t (0, 0))) : ∀ i, i < 3 → W.cell? ⟨g, i, none⟩ = some (.int .i64 (three p i)) := by
  intro i hi
  rw [blk_cell h i]
  match i, hi with
  | 0, _ => rfl
  | 1, _ => rfl
  | 2, _ => rfl
theorem itoa_small (n : Int) (h : smallB n = true) (W : World) (ht : Pow W) : Calls Tryd.prog 10 #[.int .i64 n] W fun e w' => e = .returned (.string ⟨(dec n).toArray⟩) ∧ Below W.heap.size W w' := by
  rw [smallB_iff] at h
  obtain ⟨u, rfl⟩ : ∃ u : Nat, n = u := ⟨n.toNat, by omega⟩
  have := itoa_calls (u : Int) (by omega) (by omega) W ht
  rw [Lib.itoa_nonneg] at this
  exact this
theorem toL_loop (b : ByteArray) : ∀ (i : Nat) (r : List UInt8), ByteArray.toList.loop b i r = r.reverse ++ b.data.toList.drop i := by
  intro i r
  unfold ByteArray.toList.loop
  split
  · rename_i h
    rw [toL_loop b (i+1)]
    have : b.data.toList.drop i = b.get! i :: b.data.toList.drop (i+1) := by
      rw [List.drop_eq_getElem_cons (by simpa using h)]
      congr 1
      simp [ByteArray.get!, getElem!_pos, h]
    rw [this]; simp
  · rename_i h
    rw [List.drop_eq_nil_of_le (by simpa using h)]; simp
termination_by i => b.size - i
theorem toL (b : ByteArray) : b.toList = b.data.toList := by
  unfold ByteArray.toList; rw [toL_loop]; simp
theorem arr_of (T : ByteArray) : (⟨T.data.toList.toArray⟩ : ByteArray) = T := by
  cases T
  simp
structure Hold (p : Prop) : Prop where
  out : p
theorem hold {p : Prop} (h : Hold p) : p := h.out
def oOf (k : Nat) : Nat := if k = 0 then 1 else 0
def nOf (k : Nat) : Nat := if k = 0 then 3 else 4
def fOf (k : Nat) (d a b c : Int) (i : Nat) : Int := four d a b c (oOf k + i)
set_option maxHeartbeats 16000000 in
set_option maxRecDepth 100000 in
theorem print_good (w : World) (k : Nat) (d a b c : Int) (T : ByteArray) (A : Option Addr) (l cc : Nat) (zs : List UInt8) (PA : Option Addr) (pl pc : Nat) (ps : List Pk) (hA : Arg w A l zs PA pl ps) (hk : k < 23)
    (hS : allSmall (four d a b c) 4 = true) (hP : plainB T.data.toList = true) (hd : (k == 0 && d != 0) = false) (hl : l ≤ 1048576) (hpl : pl ≤ 1048576) (hT : T.size ≤ 1048576) :
    Calls Tryd.prog 4 #[.agg #[.int .i64 k, .int .i64 d, .int .i64 a, .int .i64 b, .int .i64 c, .string T, .slice A l cc, .slice PA pl pc]] w fun e w' =>
      e = .returned (.tuple #[.string ⟨(outOf (nameOf k) (fOf k d a b c) (trimK (fOf k d a b c) (nOf k)) T.data.toList zs ps).1.toArray⟩, .int .i64 (outOf (nameOf k) (fOf k d a b c) (trimK (fOf k d a b c) (nOf k)) T.data.toList zs ps).2]) ∧ Below w.heap.size w w' := by
  obtain ⟨i0, hi, hz0, hz1, hz2⟩ := info_parts info9
  have d0 : decide ((k : Int) < 0) = false := decide_eq_false (by omega)
  have d1 : (k : Int) < 23 := by omega
  have k0 : (0 : Int) ≤ (k : Int) := Int.natCast_nonneg _
  have e0 := En.start w #[.int .i64 k, .int .i64 d, .int .i64 a, .int .i64 b, .int .i64 c, .string T, .slice A l cc, .slice PA pl pc]
  have hn := names_prog' _ (tab_below hA.asc e0.drew.out)
  have E0 := Base.Aside.mk e0.drew
  have HA := Base.Aside.mk hA
  clear hA e0
  generalize hcs : (#[.int .i64 k, .int .i64 d, .int .i64 a, .int .i64 b, .int .i64 c, .string T, .slice A l cc, .slice PA pl pc] : Array Value) = cs at E0
  have HC := Base.Aside.mk hcs
  clear hcs
  go_enter Tryd.func4, Tryd.ntmps4
  go_upto_region 1 with (fail)
  go_cut [20] from 11 to 20 (fun v wx => v = .bool false ∧ Aside (En w wx cs))
  case first =>
    have H := HC.out
    subst H
    go_region_with (go_at_call 7; refine hn.mono ?_; rintro z w2 ⟨rfl, hN, hB2⟩; have E2 := Base.Aside.mk (E0.out.step hB2); have C2 := fun i => blk_cell E2.out.blk i; have L2 := E2.out.lt; clear hN hB2)
    all_goals
      go_wp2_with fail
      go_meet
      case rel => exact ⟨by rw [decide_eq_false (by omega)], E2.out⟩
  case rest =>
    obtain ⟨rfl, hE⟩ := hcut
    have E1 := Base.Aside.mk hE
    clear hE hn E0
    have C1 := cellsE E1.out HC.out
    have L1 := E1.out.lt
    have hs := fun W g t h => small_prog W g 4 4 (four d a b c) (four_cells (t := t) h) (by omega)
    have hp := fun W => plain_prog W T
    have hg : ∀ x : Bool, x = (if (k : Int) = 0 then d != 0 else false) → x = false := by
      intro x hx
      rw [hx]
      split
      · have : k = 0 := by omega
        simpa [this] using hd
      · rfl
    go_upto_region 3 with (fail)
    go_cut [47] from 21 to 47 (fun v wx => v = .bool false ∧ Aside (En w wx cs))
    case first =>
      by_cases hk0 : k = 0
      · subst hk0
        have hd0 : (d == 0) = true := by simpa using hd
        clear hd hg
        go_wp2_with (first
          | (go_at_call 8; refine (hs _ wc.heap.size _ (blk_new wc _)).mono ?_; rintro z w3 ⟨rfl, hw3⟩; obtain rfl := hw3.symm)
          | (go_at_call 9; refine (hp _).mono ?_; rintro z w4 ⟨rfl, hB4⟩; have E4 := Base.Aside.mk ((E1.out.alloc _).step hB4); have C4 := cellsE E4.out HC.out; have L4 := E4.out.lt; clear hB4)
          | go_in)
        all_goals
          go_meet
          case rel => exact ⟨by rw [show (d != 0) = !(d == 0) from rfl, hd0]; rfl, E4.out⟩
      · have hk1 : ((k : Int) == 0) = false := by simp; omega
        clear hd hg
        go_wp2_with (first
          | (go_at_call 8; refine (hs _ wc.heap.size _ (blk_new wc _)).mono ?_; rintro z w3 ⟨rfl, hw3⟩; obtain rfl := hw3.symm)
          | (go_at_call 9; refine (hp _).mono ?_; rintro z w4 ⟨rfl, hB4⟩; have E4 := Base.Aside.mk ((E1.out.alloc _).step hB4); have C4 := cellsE E4.out HC.out; have L4 := E4.out.lt; clear hB4)
          | go_in)
        all_goals
          go_meet
          case rel => exact ⟨rfl, E4.out⟩
    case rest =>
      obtain ⟨rfl, hE⟩ := hcut
      clear E1 C1 L1 hs hp hg
      have E1 := Base.Aside.mk hE
      have hn := names_prog' _ (tab_below HA.out.asc E1.out.drew.out)
      have C1 := cellsE E1.out HC.out
      have L1 := E1.out.lt
      have HK := Base.Aside.mk hk
      clear hE hd
      go_upto_region 5 with (fail)
      go_cut [4] from 48 to 53 (fun v wx => ∃ b1 : Nat, v = .slice (some ⟨b1, 0, none⟩) 1 1 ∧ Aside (En w wx cs ∧ wx.heap[b1]? = some (.cells #[.string ⟨(nameOf k).toArray⟩] 9 (0, 0)) ∧ w.heap.size + 1 ≤ b1))
      case first =>
        go_region_with (go_at_call 7; refine hn.mono ?_; rintro z w2 ⟨rfl, hN, hB2⟩; have E2 := Base.Aside.mk (E1.out.drew.step hB2); have C2 := cellsE E2.out HC.out; have L2 := E2.out.lt; have hN2 := (show w2.cell? ⟨wc.heap.size, k, none⟩ = some (.string ⟨(nameOf k).toArray⟩) from hN.cell k HK.out); have hNl := (show wc.heap.size < w2.heap.size from hN.lt); have H2 := Base.Aside.mk E2.out.size; clear hN hB2)
        all_goals
          go_wp2_with fail
          go_meet
          case rel => exact ⟨_, rfl, E2.out.alloc _, blk_new _ _, H2.out⟩
      case rest =>
        obtain ⟨b1, rfl, hE⟩ := hcut
        clear E1 C1 L1 hn
        have hb1 := Base.Aside.mk hE.out.2.2
        have E1 := Base.Aside.mk hE
        have C1 := cellsE E1.out.1 HC.out
        have L1 := E1.out.1.lt
        clear hE
        go_upto_if 65 with (fail)
        go_cut [5] from 63 to 67 (fun v wx => ∃ lb o n : Nat, v = .slice (some ⟨lb, o, none⟩) n n ∧ Aside (o = oOf k ∧ n = nOf k ∧ En w wx cs ∧ wx.heap[b1]? = some (.cells #[.string ⟨(nameOf k).toArray⟩] 9 (0, 0)) ∧ wx.heap[lb]? = some (.cells #[.int .i64 d, .int .i64 a, .int .i64 b, .int .i64 c] 3 (0, 0)) ∧ b1 < lb))
        case first =>
          by_cases hk0 : k = 0
          · subst hk0
            go_wp2
            go_meet
            case rel => exact ⟨_, _, _, rfl, rfl, rfl, E1.out.1.alloc _, blk_alloc E1.out.2.1 _, blk_new _ _, blk_lt E1.out.2.1⟩
          · have hk1 : ((k : Int) == 0) = false := by simp; omega
            have HK0 := Base.Aside.mk hk0
            clear hk0
            go_wp2
            go_meet
            case rel => exact ⟨_, _, _, rfl, by simp [oOf, HK0.out], by simp [nOf, HK0.out], E1.out.1.alloc _, blk_alloc E1.out.2.1 _, blk_new _ _, blk_lt E1.out.2.1⟩
        case rest =>
          obtain ⟨lb, o, n, rfl, hE⟩ := hcut
          clear E1 C1 L1
          have E1 := Base.Aside.mk hE
          clear hE
          obtain ⟨f, hF⟩ : ∃ f, f = fOf k d a b c := ⟨_, rfl⟩
          have HF := Base.Aside.mk hF
          have hon : o + n = 4 := by rw [E1.out.1, E1.out.2.1]; unfold oOf nOf; split <;> rfl
          have hfs' : ∀ i, i < n → smallB (f i) = true := fun i hi => by rw [hF]; unfold fOf; exact allSmall_at hS (by rw [← E1.out.1]; omega)
          have hfs := Base.Aside.mk hfs'
          have hfc : ∀ W : World, W.heap[lb]? = some (.cells #[.int .i64 d, .int .i64 a, .int .i64 b, .int .i64 c] 3 (0, 0)) → ∀ i, i < n → W.cell? ⟨lb, o + i, none⟩ = some (.int .i64 (f i)) := fun W hW i hi => by
            rw [four_cells hW (o + i) (by omega), hF]
            unfold fOf
            rw [← E1.out.1]
          have HFC := Base.Aside.mk hfc
          clear hF hfs' hfc
          have CL := HFC.out _ E1.out.2.2.2.2.1
          have LL := blk_lt E1.out.2.2.2.2.1
          go_upto_block 0 with fail
          go_cut [5] from 68 to 84 (fun v wx => ∃ m : Nat, v = .slice (some ⟨lb, o, none⟩) m n ∧ wc = wx ∧ Aside (m = trimK f n))
          case first =>
            go_wp2_with fail
            go_loopw [5] (fun v wr => ∃ j : Nat, j ≤ n ∧ v = .slice (some ⟨lb, o, none⟩) j n ∧ wr = wc ∧ Aside (trimK f n = trimK f j)) (fun v _ => match v with | .slice _ n _ => n | _ => 0)
            case atStart => exact ⟨n, Nat.le_refl _, rfl, rfl, rfl⟩
            case round =>
              obtain ⟨j, hj, rfl, hwr, hT⟩ := hrel
              obtain rfl := hwr.symm
              rcases j with _ | j
              · go_wp2
                go_meet
                case rel => exact ⟨0, rfl, rfl, hT.out.symm⟩
              · by_cases hz : f j = 0
                · have d2 : (f j == 0) = true := by simp [hz]
                  have HZ := Base.Aside.mk hz
                  clear hz
                  have d3 : (0 : Int) < ((j + 1 : Nat) : Int) := by omega
                  go_wp2
                  exact ⟨⟨j, by omega, rfl, trivial, hT.out.trans (trimK_zero HZ.out)⟩, Nat.lt_succ_self _⟩
                · have d2 : (f j == 0) = false := by simp [hz]
                  have HZ := Base.Aside.mk hz
                  clear hz
                  have d3 : (0 : Int) < ((j + 1 : Nat) : Int) := by omega
                  go_wp2
                  go_meet
                  case rel => exact ⟨j + 1, rfl, rfl, (hT.out.trans (trimK_hit HZ.out)).symm⟩
          case rest =>
            obtain ⟨m, rfl, hwx, hE⟩ := hcut
            subst hwx
            have HM := Base.Aside.mk hE
            have HNk := Base.Aside.mk E1.out.2.1
            have hmn : m ≤ n := by rw [hE]; exact trimK_le _ _
            clear hE
            have hrow0 : wc.ownsRow (w.heap.size + 1) 9 1 (.slice (some ⟨b1, 0, none⟩) 1 1) 1 (strs [nameOf k]) := ⟨rfl, .inr ⟨b1, 1, #[.string ⟨(nameOf k).toArray⟩], rfl, hb1.out, E1.out.2.2.2.1, Nat.le_refl _, by decide, rfl, rfl⟩⟩
            have HR := Base.Aside.mk hrow0
            clear hrow0
            go_wp2_with fail
            go_loopw [4, 87] (fun v i wr => ∃ (j : Nat) (W2 : World) (g n4 cap : Nat), j ≤ m ∧ v = .slice (some ⟨g, 0, none⟩) n4 cap ∧ i = .int .i64 j ∧ wr = W2 ∧ Aside (n4 = j + 1 ∧ En w W2 cs ∧ W2.ownsRow (w.heap.size + 1) 9 1 (.slice (some ⟨g, 0, none⟩) n4 cap) n4 (strs (nameOf k :: numW f j)) ∧ W2.heap[lb]? = some (.cells #[.int .i64 d, .int .i64 a, .int .i64 b, .int .i64 c] 3 (0, 0)) ∧ lb ≠ g)) (fun _ i _ => m - (intOf i).toNat)
            case atStart => exact ⟨0, wc, b1, 1, 1, Nat.zero_le _, rfl, rfl, rfl, rfl, E1.out.2.2.1, HR.out, E1.out.2.2.2.2.1, by have := E1.out.2.2.2.2.2; omega⟩
            case round =>
              obtain ⟨j, W2, g, n4, cap, hj, rfl, rfl, hwr, hE⟩ := hrel
              obtain rfl := hwr.symm
              have E2 := Base.Aside.mk hE.out
              clear hE
              by_cases hlt : j < m
              · have hit := itoa_small (f j) (hfs.out j (by omega)) W2 (tab_below HA.out.pow E2.out.2.1.out)
                have C2 := HFC.out _ E2.out.2.2.2.1
                have L2 := blk_lt E2.out.2.2.2.1
                have hjn : j < n := by omega
                have hj0 : (j : Int) < (m : Int) := by omega
                have hn4 : n4 ≤ 1048600 := by have := E2.out.1; omega
                have hsz := E2.out.2.1.size
                clear CL LL
                go_wp2_with (first
                  | (go_at_call 10; refine hit.mono ?_; rintro z w3 ⟨rfl, hB3⟩; have HB3 := Base.Aside.mk hB3; have hs3 := hB3.size; clear hB3)
                  | (at_builtin; refine app_word i0 hi hz0 hz1 hz2 rfl _ _ rfl _ g n4 cap _ ⟨(dec (f j)).toArray⟩ rfl ((row_below E2.out.2.2.1 HB3.out).alloc _) ⟨w3.heap.size, 0, none⟩ rfl (cell_one_new _ _ _) hn4 ?_ (w3.heap.size + 1) ?_ ?_; rotate_left; (focus (simp; done)); rotate_left; (focus (simp; omega)); intro g' cap' w4 hown4 hg4 hat4 hlt4; have E4 := Base.Aside.mk (And.intro hown4 (And.intro (words_step E2.out.2.1 E2.out.2.2.1 HB3.out hg4) (And.intro hat4 hlt4))); clear hown4 hg4 hat4 hlt4)
                  | go_in)
                refine ⟨⟨j + 1, w4, g', n4 + 1, cap', by omega, rfl, by simp, rfl, ?_⟩, by simp [intOf]; omega⟩
                have hW := E4.out.2.1
                refine ⟨by rw [E2.out.1], hW.1, ?_, hW.2.2 _ _ E2.out.2.2.2.1 E2.out.2.2.2.2, ?_⟩
                · rw [numW_succ, ← List.cons_append, strs_snoc]
                  exact E4.out.1
                · rcases E4.out.2.2.1 with h | h
                  · rw [← h]; exact E2.out.2.2.2.2
                  · have := blk_lt E2.out.2.2.2.1
                    omega
              · obtain rfl : j = m := by omega
                have E3 := Base.Aside.mk (And.intro E2.out.1 (And.intro E2.out.2.1 E2.out.2.2.1))
                have C1 := cellsE E3.out.2.1 HC.out
                have L1 := E3.out.2.1.lt
                clear CL LL C1 L1 E1 HR E2
                have C2 := cellsE E3.out.2.1 HC.out
                have L2 := E3.out.2.1.lt
                go_upto_if 99 with (fail)
                go_cut [4] from 97 to 106 (fun v wx => ∃ g n4 cap : Nat, v = .slice (some ⟨g, 0, none⟩) n4 cap ∧ Aside (n4 = j + 1 + (textW T.data.toList).length ∧ En w wx cs ∧ wx.ownsRow (w.heap.size + 1) 9 1 (.slice (some ⟨g, 0, none⟩) n4 cap) n4 (strs (nameOf k :: (numW f j ++ textW T.data.toList)))))
                case first =>
                  rcases hT0 : T.toList.isEmpty with _ | _
                  · have hne : T.data.toList ≠ [] := by
                      intro h
                      rw [toL, h] at hT0
                      cases hT0
                    have HN := Base.Aside.mk hne
                    have hn4 : n4 ≤ 1048600 := by have := E3.out.1; omega
                    have hsz := E3.out.2.1.size
                    have tl1 : ¬ 9223372036854775807 < 1 + T.size := by omega
                    have tl2 : ¬ 9223372036854775807 < 1 + T.size + 1 := by omega
                    clear hne
                    go_wp2_with (first
                      | (at_builtin; refine app_word i0 hi hz0 hz1 hz2 rfl _ _ rfl _ g n4 cap _ (⟨#[34]⟩ ++ T ++ ⟨#[34]⟩) rfl (E3.out.2.2.alloc _) ⟨W2.heap.size, 0, none⟩ rfl (cell_one_new _ _ _) hn4 ?_ (W2.heap.size + 1) ?_ ?_; rotate_left; (focus (simp; done)); rotate_left; (focus (simp; omega)); intro g' cap' w4 hown4 hg4 hat4 hlt4; have E4 := Base.Aside.mk (And.intro hown4 (words_step E3.out.2.1 E3.out.2.2 (Below.refl _ _) hg4)); clear hown4 hg4 hat4 hlt4)
                      | go_in)
                    go_meet
                    case rel =>
                      refine ⟨_, _, _, rfl, ?_, E4.out.2.1, ?_⟩
                      · simp [textW, HN.out, E3.out.1]
                      · have := E4.out.1
                        have e1 : (⟨#[34]⟩ ++ T ++ ⟨#[34]⟩ : ByteArray) = ⟨([34] ++ T.data.toList ++ [34]).toArray⟩ := by
                          apply ByteArray.ext
                          simp [ByteArray.data_append]
                        rw [e1, ← strs_snoc] at this
                        simpa [textW, HN.out] using this
                  · have hne : T.data.toList = [] := by
                      rw [toL] at hT0
                      simpa using hT0
                    have HN := Base.Aside.mk hne
                    clear hne
                    go_wp2
                    go_meet
                    case rel => exact ⟨_, _, _, rfl, by simp [textW, HN.out, E3.out.1], E3.out.2.1, by simpa [textW, HN.out] using E3.out.2.2⟩
                case rest =>
                  obtain ⟨g, n4, cap, rfl, hE⟩ := hcut
                  clear E3 C2 L2
                  have E3 := Base.Aside.mk hE
                  have C2 := cellsE E3.out.2.1 HC.out
                  have L2 := E3.out.2.1.lt
                  clear hE
                  have htw : (textW T.data.toList).length ≤ 1 := by unfold textW; split <;> simp
                  have HTW := Base.Aside.mk htw
                  clear htw
                  go_upto_if 110 with (fail)
                  go_cut [4] from 107 to 117 (fun v wx => ∃ g n4 cap : Nat, v = .slice (some ⟨g, 0, none⟩) n4 cap ∧ Aside (n4 ≤ 7 ∧ En w wx cs ∧ wx.ownsRow (w.heap.size + 1) 9 1 (.slice (some ⟨g, 0, none⟩) n4 cap) n4 (strs (nameOf k :: (numW f j ++ textW T.data.toList ++ byteW zs)))))
                  case first =>
                    rcases Nat.eq_zero_or_pos l with h0 | h0
                    · have hzs : zs = [] := List.length_eq_zero_iff.1 (by have := HA.out.len; omega)
                      have HZ := Base.Aside.mk hzs
                      clear hzs
                      subst h0
                      go_wp2
                      go_meet
                      case rel => exact ⟨_, _, _, rfl, by have := HTW.out; have := E3.out.1; omega, E3.out.2.1, by simpa [byteW, HZ.out] using E3.out.2.2⟩
                    · have hzs : zs ≠ [] := by
                        rintro rfl
                        have := HA.out.len
                        simp at this
                        omega
                      have HZ := Base.Aside.mk hzs
                      have hd1 : (0 : Int) < (l : Int) := by omega
                      have hn4 : n4 ≤ 1048600 := by have := HTW.out; have := E3.out.1; omega
                      have hsz := E3.out.2.1.size
                      have hx := hex_any wc A l cc zs HA.out.len hl (HA.out.data.below E3.out.2.1.out) h0
                      have hlx : (hexs zs).length ≤ 2097152 := by rw [hexs_len]; have := HA.out.len; omega
                      have tl1 : ¬ 9223372036854775807 < 1 + (hexs zs).length := by omega
                      clear hzs h0
                      go_wp2_with (first
                        | (go_at_call 11; refine hx.mono ?_; rintro z w3 ⟨rfl, hB3⟩; have HB3 := Base.Aside.mk hB3; have hs3 := hB3.size; clear hB3)
                        | (at_builtin; refine app_word i0 hi hz0 hz1 hz2 rfl _ _ rfl _ g n4 cap _ (⟨#[61]⟩ ++ ⟨(hexs zs).toArray⟩) rfl ((row_below E3.out.2.2 HB3.out).alloc _) ⟨w3.heap.size, 0, none⟩ rfl (cell_one_new _ _ _) hn4 ?_ (w3.heap.size + 1) ?_ ?_; rotate_left; (focus (simp; done)); rotate_left; (focus (simp; omega)); intro g' cap' w4 hown4 hg4 hat4 hlt4; have E4 := Base.Aside.mk (And.intro hown4 (words_step E3.out.2.1 E3.out.2.2 HB3.out hg4)); clear hown4 hg4 hat4 hlt4)
                        | go_in)
                      go_meet
                      case rel =>
                        refine ⟨_, _, _, rfl, ?_, E4.out.2.1, ?_⟩
                        · have := HTW.out
                          have := E3.out.1
                          omega
                        · have := E4.out.1
                          have e1 : (⟨#[61]⟩ ++ ⟨(hexs zs).toArray⟩ : ByteArray) = ⟨([61] ++ hexs zs).toArray⟩ := by
                            apply ByteArray.ext
                            simp [ByteArray.data_append]
                          rw [e1, ← strs_snoc] at this
                          simpa [byteW, HZ.out] using this
                  case rest =>
                    obtain ⟨g, n4, cap, rfl, hE⟩ := hcut
                    clear E3 C2 L2 HTW
                    have E3 := Base.Aside.mk hE
                    have C2 := cellsE E3.out.2.1 HC.out
                    have L2 := E3.out.2.1.lt
                    clear hE
                    have hpk := HA.out.pks
                    have hplen := hpk.len
                    have HP := Base.Aside.mk hpk
                    clear hpk
                    go_wp2_with fail
                    go_loopw [4, 121] (fun v i wr => ∃ (q : Nat) (W2 : World) (g n4 cap : Nat), q ≤ pl ∧ v = .slice (some ⟨g, 0, none⟩) n4 cap ∧ i = .int .i64 q ∧ wr = W2 ∧ Aside (n4 ≤ q + 7 ∧ En w W2 cs ∧ W2.ownsRow (w.heap.size + 1) 9 1 (.slice (some ⟨g, 0, none⟩) n4 cap) n4 (strs (nameOf k :: restW f j T.data.toList zs (ps.take q))) ∧ ∀ p ∈ ps.take q, p.small = true)) (fun _ i _ => pl - (intOf i).toNat)
                    case atStart => exact ⟨0, wc, g, n4, cap, Nat.zero_le _, rfl, rfl, rfl, by have := E3.out.1; omega, E3.out.2.1, by simpa [restW] using E3.out.2.2, by simp⟩
                    case round =>
                      obtain ⟨q, W2, g, n4, cap, hq, rfl, rfl, hwr, hE⟩ := hrel
                      obtain rfl := hwr.symm
                      clear E3 C2 L2
                      have E3 := Base.Aside.mk hE.out
                      have C2 := cellsE E3.out.2.1 HC.out
                      have L2 := E3.out.2.1.lt
                      clear hE
                      by_cases hlt : q < pl
                      · obtain ⟨x, hx1, hx2, hx3⟩ : ∃ x, PA = some x ∧ x.block < w.heap.size ∧ PkCells w (x.add (q * 4)) (ps[q]'(by omega)) := by
                          rcases HP.out.cells with h | ⟨x, h1, h2, h3⟩
                          · rw [h] at hplen
                            simp at hplen
                            omega
                          · exact ⟨x, h1, h2, h3 q _ (List.getElem?_eq_getElem (by omega))⟩
                        subst hx1
                        have hpc := hx3.below E3.out.2.1.out
                        obtain ⟨p, hp⟩ : ∃ p, ps[q]'(by omega) = p := ⟨_, rfl⟩
                        rw [hp] at hpc
                        have k0 := hpc.c0
                        have k1 := hpc.c1
                        have k2 := hpc.c2
                        have k3 := hpc.c3
                        have hq0 : (q : Int) < (pl : Int) := by omega
                        have hsm := fun W g t h => small_prog W g 3 3 (three p) (three_cells (t := t) h) (by omega)
                        rw [allSmall_three] at hsm
                        have HPQ := Base.Aside.mk hp
                        have hL2 : W2.heap.size + 1 = (W2.alloc (.cells #[.int .i64 p.at_, .int .i64 p.mfn, .int .i64 p.off, .slice p.A p.l p.c] 41)).heap.size := by simp
                        have hbn := blk_newest hL2 (.cells #[.int .i64 p.at_, .int .i64 p.mfn, .int .i64 p.off] 3)
                        have HBN := Base.Aside.mk hbn
                        clear hbn hL2 hx3 hpc hp
                        rcases hps : p.small with _ | _
                        · go_wp2_with (first
                            | (go_at_call 8; refine (hsm _ (W2.heap.size + 1) _ HBN.out).mono ?_; rintro z w3 ⟨rfl, hw3⟩; obtain rfl := hw3.symm)
                            | go_in)
                          go_ret2
                          have ho : outOf (nameOf k) (fOf k d a b c) (trimK (fOf k d a b c) (nOf k)) T.data.toList zs ps = ([], 4) := by
                            unfold outOf
                            rw [if_neg]
                            intro hall
                            have hmem : p ∈ ps := by rw [← HPQ.out]; exact List.getElem_mem _
                            have := List.all_eq_true.1 hall p hmem
                            rw [hps] at this
                            cases this
                          rw [ho]
                          exact ⟨by first | rfl | (simp; done), ((E3.out.2.1.alloc _).alloc _).out⟩
                        · have hq1 : smallB p.at_ = true ∧ smallB p.mfn = true ∧ smallB p.off = true := by simpa [Pk.small] using hps
                          have HQ1 := Base.Aside.mk hq1
                          have hmem : p ∈ ps := by rw [← HPQ.out]; exact List.getElem_mem _
                          have HD := Base.Aside.mk (HP.out.data p hmem)
                          clear hq1 hmem
                          go_upto_region 25 with (first
                            | (go_at_call 8; refine (hsm _ (W2.heap.size + 1) _ HBN.out).mono ?_; rintro z w3 ⟨rfl, hw3⟩; obtain rfl := hw3.symm)
                            | go_in)
                          have hb9 : ((W2.alloc (.cells #[.int .i64 p.at_, .int .i64 p.mfn, .int .i64 p.off, .slice p.A p.l p.c] 41)).alloc (.cells #[.int .i64 p.at_, .int .i64 p.mfn, .int .i64 p.off] 3)).heap[W2.heap.size]? = some (.cells #[.int .i64 p.at_, .int .i64 p.mfn, .int .i64 p.off, .slice p.A p.l p.c] 41 (0, 0)) := blk_alloc (blk_new _ _) _
                          have hB23 : Below W2.heap.size W2 ((W2.alloc (.cells #[.int .i64 p.at_, .int .i64 p.mfn, .int .i64 p.off, .slice p.A p.l p.c] 41)).alloc (.cells #[.int .i64 p.at_, .int .i64 p.mfn, .int .i64 p.off] 3)) := below_alloc (below_alloc (Below.refl _ _) _) _
                          generalize ((W2.alloc (.cells #[.int .i64 p.at_, .int .i64 p.mfn, .int .i64 p.off, .slice p.A p.l p.c] 41)).alloc (.cells #[.int .i64 p.at_, .int .i64 p.mfn, .int .i64 p.off] 3)) = W3 at hb9 hB23 ⊢
                          obtain ⟨pb, hpb⟩ : ∃ pb, pb = W2.heap.size := ⟨_, rfl⟩
                          rw [← hpb] at hb9 ⊢
                          have HPB := Base.Aside.mk hpb
                          have hgl : g < W2.heap.size := (E3.out.2.2.1.lt g rfl).2
                          have E5 := Base.Aside.mk (And.intro (E3.out.2.1.step hB23) (And.intro (row_below E3.out.2.2.1 hB23) (And.intro hb9 (show pb ≠ g by omega))))
                          have hS : ∀ w' : World, w'.heap[pb]? = some (.cells #[.int .i64 p.at_, .int .i64 p.mfn, .int .i64 p.off, .slice p.A p.l p.c] 41 (0, 0)) → (w'.cell? ⟨pb, 0, none⟩ = some (.int .i64 p.at_) ∧ w'.cell? ⟨pb, 1, none⟩ = some (.int .i64 p.mfn) ∧ w'.cell? ⟨pb, 2, none⟩ = some (.int .i64 p.off) ∧ w'.cell? ⟨pb, 3, none⟩ = some (.slice p.A p.l p.c)) := fun w' h => ⟨blk_cell h 0, blk_cell h 1, blk_cell h 2, blk_cell h 3⟩
                          obtain ⟨s0, s1, s2, s3⟩ := hS W3 hb9
                          have c1 := itoa_small p.at_ HQ1.out.1 W3.drew (tab_below HA.out.pow E5.out.1.drew.out)
                          have hn4 : n4 ≤ 1048600 := by have := E3.out.1; omega
                          have hsz := E3.out.2.1.size
                          have la1 := dec_len HQ1.out.1
                          have la2 := dec_len HQ1.out.2.1
                          have la3 := dec_len HQ1.out.2.2
                          have la4 : (hexs p.zs).length ≤ 2097152 := by rw [hexs_len]; have := HD.out.1; have := HD.out.2.1; omega
                          have tl1 : ¬ 9223372036854775807 < 1 + (dec p.at_).length := by omega
                          have tl2 : ¬ 9223372036854775807 < 1 + (dec p.at_).length + 1 := by omega
                          have tl3 : ¬ 9223372036854775807 < 1 + (dec p.at_).length + 1 + (dec p.mfn).length := by omega
                          have tl4 : ¬ 9223372036854775807 < 1 + (dec p.at_).length + 1 + (dec p.mfn).length + 1 := by omega
                          have tl5 : ¬ 9223372036854775807 < 1 + (dec p.at_).length + 1 + (dec p.mfn).length + 1 + (dec p.off).length := by omega
                          have tl6 : ¬ 9223372036854775807 < 1 + (dec p.at_).length + 1 + (dec p.mfn).length + 1 + (dec p.off).length + 1 := by omega
                          have tl7 : ¬ 9223372036854775807 < 1 + (dec p.at_).length + 1 + (dec p.mfn).length + 1 + (dec p.off).length + 1 + (hexs p.zs).length := by omega
                          clear hb9 hB23 hpb HBN hsm k0 k1 k2 k3 hgl C2 L2 hx2
                          go_region_held3 (fun w' => w'.cell? ⟨pb, 0, none⟩ = some (.int .i64 p.at_) ∧ w'.cell? ⟨pb, 1, none⟩ = some (.int .i64 p.mfn) ∧ w'.cell? ⟨pb, 2, none⟩ = some (.int .i64 p.off) ∧ w'.cell? ⟨pb, 3, none⟩ = some (.slice p.A p.l p.c))
                            (first
                              | go_keep
                              | exact hS _ HB8.out.2.2
                              | exact hS _ HB7.out.2
                              | exact hS _ HB6.out.2
                              | exact hS _ HB5.out.2
                              | exact hS _ HB9.out)
                            ((first
                              | (go_at_call 10; (with_reducible refine c1.mono ?_); rintro z w5 ⟨rfl, hB50⟩; have hB5 := (Below.refl W3.heap.size W3).drew.trans hB50; have HB5 := Base.Aside.mk (And.intro (E5.out.1.step hB5) (blk_below E5.out.2.2.1 (blk_lt E5.out.2.2.1) hB5)); have HR5 := Base.Aside.mk (row_below E5.out.2.1 hB5); clear hB50; have c2 := itoa_small p.mfn HQ1.out.2.1 w5 (tab_below HA.out.pow HB5.out.1.out); clear hB5)
                              | (go_at_call 10; (with_reducible refine c2.mono ?_); rintro z w6 ⟨rfl, hB6⟩; have HB6 := Base.Aside.mk (And.intro (HB5.out.1.step hB6) (blk_below HB5.out.2 (blk_lt HB5.out.2) hB6)); have HR6 := Base.Aside.mk (row_below HR5.out hB6); have c3 := itoa_small p.off HQ1.out.2.2 w6 (tab_below HA.out.pow HB6.out.1.out); clear hB6)
                              | (go_at_call 10; (with_reducible refine c3.mono ?_); rintro z w7 ⟨rfl, hB7⟩; have HB7 := Base.Aside.mk (And.intro (HB6.out.1.step hB7) (blk_below HB6.out.2 (blk_lt HB6.out.2) hB7)); have HR7 := Base.Aside.mk (row_below HR6.out hB7); have c4 := hex_all w7 p.A p.l p.c p.zs HD.out.1 HD.out.2.1 (HD.out.2.2.below HB7.out.1.out); clear hB7)
                              | (go_at_call 11; (with_reducible refine c4.mono ?_); rintro z w8 ⟨rfl, hB8⟩; have HB8 := Base.Aside.mk (And.intro hB8 (And.intro (HB7.out.1.step hB8) (blk_below HB7.out.2 (blk_lt HB7.out.2) hB8))); have hs8 := HB8.out.2.1.size; clear hB8)
                              | (refine step_word i0 hi hz0 hz1 hz2 (by rfl) _ _ (by rfl) _ g n4 cap _ _ (by rfl) ((row_below HR7.out HB8.out.1).alloc _) ⟨w8.heap.size, 0, none⟩ (by rfl) (cell_one_new _ _ _) hn4 ?_ (w8.heap.size + 1) ?_ ?_; rotate_left; (focus (simp; done)); rotate_left; (focus (simp; omega)); intro g' cap' w4 hown4 hg4 hat4 hlt4; have hws := words_step HB7.out.1 HR7.out HB8.out.1 hg4; have HB9 := Base.Aside.mk (hws.2.2 _ _ HB7.out.2 E5.out.2.2.2); have E9 := Base.Aside.mk (And.intro hown4 hws.1); clear hown4 hg4 hat4 hlt4 hws)))
                          all_goals
                            go_wp2
                            have hget : ps[q]? = some p := by rw [← HPQ.out]; exact List.getElem?_eq_getElem _
                            refine ⟨⟨q + 1, w4, g', n4 + 1, cap', by omega, rfl, by simp, rfl, by have := E3.out.1; omega, E9.out.2, ?_, ?_⟩, by simp [intOf]; omega⟩
                            · have e1 : (⟨#[64]⟩ ++ ⟨(dec p.at_).toArray⟩ ++ ⟨#[58]⟩ ++ ⟨(dec p.mfn).toArray⟩ ++ ⟨#[58]⟩ ++ ⟨(dec p.off).toArray⟩ ++ ⟨#[58]⟩ ++ ⟨(hexs p.zs).toArray⟩ : ByteArray) = ⟨(pokeW p).toArray⟩ := by
                                apply ByteArray.ext
                                simp [ByteArray.data_append, pokeW]
                              have := E9.out.1
                              rw [e1, ← strs_snoc] at this
                              rw [restW_take hget, ← List.cons_append]
                              exact this
                            · intro p' hp'
                              rw [List.take_add_one, hget] at hp'
                              rcases List.mem_append.1 hp' with h | h
                              · exact E3.out.2.2.2 p' h
                              · obtain rfl : p' = p := by simpa using h
                                exact hps
                      · have hqe : q = ps.length := by omega
                        have hqt : ps.take q = ps := by rw [hqe, List.take_length]
                        have hall : ∀ p ∈ ps, p.small = true := by
                          have := E3.out.2.2.2
                          rwa [hqt] at this
                        have hrow := E3.out.2.2.1
                        rw [hqt] at hrow
                        have hfit : Fit f j T.data.toList zs ps := ⟨fun i hi => hfs.out i (by omega), by omega, by rw [Array.length_toList]; exact hT, by have := HA.out.len; omega, by omega, fun p hp => by have := HP.out.data p hp; omega⟩
                        have hlen := rest_len hfit hall
                        have hnl := nameOf_len hk
                        have hj := join_prog W2 g cap n4 (nameOf k) (restW f j T.data.toList zs ps) hrow (by rw [List.length_append]; omega) (by have := E3.out.1; omega)
                        have hout : outOf (nameOf k) (fOf k d a b c) (trimK (fOf k d a b c) (nOf k)) T.data.toList zs ps = lineOf (nameOf k) (restW f j T.data.toList zs ps) := by
                          have h1 := HM.out
                          rw [HNk.out, HF.out] at h1
                          unfold outOf
                          rw [if_pos (List.all_eq_true.2 hall), HF.out, h1]
                        obtain ⟨L, hL⟩ : ∃ L, L = nameOf k ++ tail (restW f j T.data.toList zs ps) := ⟨_, rfl⟩
                        rw [← hL] at hj
                        have HO := Base.Aside.mk (And.intro hL hout)
                        clear hL hout hrow hall hfit hlen hnl hqe hqt
                        by_cases hlong : 65536 < L.length
                        · have dl : (65536 : Int) < (L.length : Int) := by omega
                          go_wp2_with (first
                            | (go_at_call 12; refine hj.mono ?_; rintro z w9 ⟨rfl, hB9⟩; have E9 := Base.Aside.mk (E3.out.2.1.step hB9); clear hB9)
                            | go_in)
                          go_ret2
                          rw [HO.out.2]
                          unfold lineOf
                          rw [← HO.out.1, if_pos hlong]
                          exact ⟨by first | rfl | (simp; done), E9.out.out⟩
                        · have dl : ¬ (65536 : Int) < (L.length : Int) := by omega
                          go_wp2_with (first
                            | (go_at_call 12; refine hj.mono ?_; rintro z w9 ⟨rfl, hB9⟩; have E9 := Base.Aside.mk (E3.out.2.1.step hB9); clear hB9)
                            | go_in)
                          go_ret2
                          rw [HO.out.2]
                          unfold lineOf
                          rw [← HO.out.1, if_neg hlong]
                          exact ⟨by first | rfl | (simp; done), E9.out.out⟩
end Go.Proofs.YtafphlimklgijaaDoor.SpD
