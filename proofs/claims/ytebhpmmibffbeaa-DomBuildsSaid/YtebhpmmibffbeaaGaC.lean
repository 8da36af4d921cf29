/- Proved: what a machine's Read and Write do (contracts for the laws of the grants). -/
import Derived.Test.YtebhpmmibffbeaaGaB
import Derived.Laws.CopyOwn
import Derived.Laws.CopyRow
import Derived.Deep.WholeRow
namespace Go.Proofs.Ytebhpmmibffbeaa.GaC
open Go.RowKit Go.Proofs.Ytebhpmmibffbeaa.Base Go.Proofs.Ytebhpmmibffbeaa.GaA Go.Proofs.Ytebhpmmibffbeaa.GaB
set_option linter.unusedVariables false
set_option linter.unusedSimpArgs false

/-- Bytes as they lie in a slice. -/
structure Holds (w : World) (x : Addr) (zs : List UInt8) : Prop where
  lt : x.block < w.heap.size
  cell : ∀ j (hj : j < zs.length), w.cell? (x.add j) = some (.int .u8 ((zs[j]).toNat : Int))
def Bytes (w : World) (A : Option Addr) (zs : List UInt8) : Prop := zs = [] ∨ ∃ x, A = some x ∧ Holds w x zs
theorem add_block (x : Addr) (i : Nat) : (x.add i).block = x.block := by unfold Addr.add; split <;> rfl
theorem Holds.below {w w' : World} {x : Addr} {zs : List UInt8} (h : Holds w x zs) (hb : Below w.heap.size w w') : Holds w' x zs :=
  ⟨Nat.lt_of_lt_of_le h.lt hb.size, fun j hj => (hb.cell (p := x.add j) (by rw [add_block]; exact h.lt)).trans (h.cell j hj)⟩
theorem Holds.chg {F : Nat → Prop} {w w' : World} {x : Addr} {zs : List UInt8} (h : Holds w x zs) (hc : Chg F w w') (hf : ¬ F x.block) : Holds w' x zs :=
  ⟨Nat.lt_of_lt_of_le h.lt hc.size, fun j hj => (World.cell?_of_block (w := w) (w' := w') (a := x.add j) (by rw [add_block]; exact hc.block _ h.lt hf)).trans (h.cell j hj)⟩
theorem Bytes.below {w w' : World} {A : Option Addr} {zs : List UInt8} (h : Bytes w A zs) (hb : Below w.heap.size w w') : Bytes w' A zs := by
  rcases h with h | ⟨x, h1, h2⟩
  · exact .inl h
  · exact .inr ⟨x, h1, h2.below hb⟩
theorem Bytes.chg {F : Nat → Prop} {w w' : World} {A : Option Addr} {zs : List UInt8} (h : Bytes w A zs) (hc : Chg F w w') (hf : ∀ x, A = some x → ¬ F x.block) : Bytes w' A zs := by
  rcases h with h | ⟨x, h1, h2⟩
  · exact .inl h
  · exact .inr ⟨x, h1, h2.chg hc (hf x h1)⟩
def u8s (zs : List UInt8) : List Value := zs.map fun z => .int .u8 (z.toNat : Int)
theorem u8s_len (zs : List UInt8) : (u8s zs).length = zs.length := by simp [u8s]
theorem u8s_one {zs : List UInt8} : ∀ v ∈ u8s zs, v.oneCell' = true := by
  intro v hv
  obtain ⟨z, _, rfl⟩ := List.mem_map.1 hv
  rfl
theorem Holds.src {w : World} {x : Addr} {zs : List UInt8} (h : Holds w x zs) : ∀ (j : Nat) (v : Value), (u8s zs)[j]? = some v → w.cell? (x.add j) = some v := by
  intro j v hv
  unfold u8s at hv
  rw [List.getElem?_map] at hv
  obtain ⟨z, hz, rfl⟩ := Option.map_eq_some_iff.1 hv
  obtain ⟨hj, rfl⟩ := List.getElem?_eq_some_iff.1 hz
  exact h.cell j hj
theorem Holds.of_block {w : World} {g : Nat} {zs : List UInt8} {t : TypeId} (h : w.heap[g]? = some (.cells (u8s zs).toArray t (0, 0))) : Holds w ⟨g, 0, none⟩ zs := by
  refine ⟨blk_lt h, fun j hj => ?_⟩
  rw [show (⟨g, 0, none⟩ : Addr).add j = ⟨g, j, none⟩ by unfold Addr.add; split <;> simp_all, blk_cell h j]
  simp [u8s, hj]
theorem info5 : (Try.prog.info? 5).map (fun i => (i.zero, i.size, i.bytes)) = some (some (.int .u8 0), 1, 1) := by kernel_rfl
theorem size5 : (Try.prog.info? 5).map (·.size) = some 1 := by kernel_rfl
theorem make_bytes (w : World) (n : Nat) (hn : n ≤ 1000000) : (Instr.makeSlice 123 (.int .i64 (n : Int)) (.int .i64 (n : Int))).run Try.prog w = .ok (.slice (some ⟨w.heap.size, 0, none⟩) n n) (w.alloc (.cells (madeCells #[.int .u8 0] n) 5)) := by
  obtain ⟨i0, hi, hz0, hz1, hz2⟩ := info_parts info5
  have h := run_make (P := Try.prog) w 123 5 i0 (.int .u8 0) Try.underlying123 hi hz0 .i64 .i64 (n : Int) (n : Int) (by omega) (Int.le_refl _) (by rw [hz2]; omega) (by omega)
  have e : ((n : Int)).toNat = n := by omega
  rw [e] at h
  simpa [hz1, Value.cells] using h
def MS.rd (s : MS) (k off n : Nat) : List UInt8 := (List.range n).map fun j => s.byt k (off + j)
theorem rd_len (s : MS) (k off n : Nat) : (MS.rd s k off n).length = n := by simp [MS.rd]
def MS.wr (s : MS) (k off : Nat) (zs : List UInt8) : MS := { s with byt := fun i j => if i = k ∧ off ≤ j ∧ j < off + zs.length then zs.getD (j - off) 0 else s.byt i j }
section
variable {w w' : World} {mb fb : Nat} {s : MS}
set_option maxHeartbeats 2000000 in
set_option maxRecDepth 100000 in
theorem part_calls (h : Mach w mb fb s) (k : Nat) (hk : k < s.n) (off n : Nat) (ho : off + n ≤ 256) : Calls Try.prog 62 #[.pointer (some ⟨mb, 0, none⟩), .int .i64 k, .int .i64 off, .int .i64 n] w fun e w' => e = .returned (.tuple #[.pointer (some ⟨fb, k * 260, none⟩), .int .i64 0]) ∧ w' = w := by
  have ha := at_calls h k hk
  have d0 : decide ((off : Int) < 0) = false := decide_eq_false (by omega)
  have d1 : decide ((n : Int) < 0) = false := decide_eq_false (by omega)
  have d2 : decide ((256 : Int) < (off : Int)) = false := decide_eq_false (by omega)
  have d3 : decide ((256 : Int) - (off : Int) < (n : Int)) = false := decide_eq_false (by omega)
  clear h
  go_enter Try.func62, Try.ntmps62
  go_wp2_with (first
    | (go_at_call 43; refine ha.mono ?_; rintro z w1 ⟨rfl, hw1⟩; obtain rfl := hw1.symm)
    | go_in)
  go_ret2
  exact ⟨by first | rfl | (simp; done), rfl⟩
theorem addB (b o j : Nat) : (⟨b, o, none⟩ : Addr).add j = ⟨b, o + j, none⟩ := by
  unfold Addr.add
  split
  · simp_all
  · rfl
set_option maxRecDepth 100000 in
theorem copy_out (h : Mach w mb fb s) (k : Nat) (hk : k < s.n) (off n : Nat) (ho : off + n ≤ 256) (ty : TypeId) : (Builtin.copy_ #[123, 123] ty #[.slice (some ⟨w.heap.size, 0, none⟩) n n, .slice (some ⟨fb, k * 260 + 4 + off, none⟩) (256 - off) (256 - off)]).run Try.prog (w.alloc (.cells (madeCells #[.int .u8 0] n) 5)) =
    .ok (goInt n) (w.alloc (.cells (u8s (MS.rd s k off n)).toArray 5)) := by
  have hl : (u8s (MS.rd s k off n)).length = n := by rw [u8s_len, rd_len]
  have h2 := run_copy_row (P := Try.prog) (w.alloc (.cells (madeCells #[.int .u8 0] n) 5)) 123 123 ty 5 w.heap.size 0 n n ⟨fb, k * 260 + 4 + off, none⟩ (256 - off) (256 - off) (madeCells #[.int .u8 0] n) 5 (u8s (MS.rd s k off n)) Try.underlying123 size5 (blk_new _ _) (by rw [hl]; simp [Nat.min_def]; omega)
    (fun j v hv => by
      unfold u8s MS.rd at hv
      rw [List.getElem?_map, List.getElem?_map] at hv
      obtain ⟨z, hz, rfl⟩ := Option.map_eq_some_iff.1 hv
      obtain ⟨j', hj', rfl⟩ := Option.map_eq_some_iff.1 hz
      obtain ⟨hlt, hval⟩ := List.getElem?_eq_some_iff.1 hj'
      rw [List.getElem_range] at hval
      subst hval
      have hlt2 : j < n := by simpa using hlt
      have hb := (h.below (below_alloc (Below.refl _ _) (.cells (madeCells #[.int .u8 0] n) 5))).byte k (off + j) hk (by omega)
      rw [addB, show k * 260 + 4 + off + j = k * 260 + (4 + (off + j)) by omega]
      exact hb) (by rw [hl, size_madeCells]; omega) u8s_one
  rw [h2, hl, World.setRow_alloc_new]
  congr 3
  simp only [List.take_zero, List.nil_append]
  rw [List.drop_of_length_le (by simp [size_madeCells]), List.append_nil]
theorem cellM_byte (s : MS) (i j : Nat) (h : 4 ≤ j) : cellM s i j = .int .u8 ((s.byt i (j - 4)).toNat : Int) := by
  unfold cellM
  rw [if_neg (by omega), if_neg (by omega), if_neg (by omega), if_neg (by omega)]
theorem wr_hit {s : MS} {k off j : Nat} {zs : List UInt8} (h1 : off ≤ j) (h2 : j < off + zs.length) : (MS.wr s k off zs).byt k j = zs.getD (j - off) 0 := if_pos ⟨rfl, h1, h2⟩
theorem wr_miss {s : MS} {i k off j : Nat} {zs : List UInt8} (h : ¬ (i = k ∧ off ≤ j ∧ j < off + zs.length)) : (MS.wr s k off zs).byt i j = s.byt i j := if_neg h
theorem cellM_wr {s : MS} {i k off j : Nat} {zs : List UInt8} (h : ¬ (i = k ∧ 4 + off ≤ j ∧ j < 4 + off + zs.length)) : cellM (MS.wr s k off zs) i j = cellM s i j := by
  by_cases hj : 4 ≤ j
  · rw [cellM_byte _ _ _ hj, cellM_byte _ _ _ hj, wr_miss (by omega)]
  · unfold cellM
    have : j = 0 ∨ j = 1 ∨ j = 2 ∨ j = 3 := by omega
    rcases this with rfl | rfl | rfl | rfl <;> rfl
theorem wr_cells {cs : Array Value} {s : MS} {k off : Nat} {zs : List UInt8} (h : CellsAre cs s.n (cellM s)) (hk : k < s.n) (ho : off + zs.length ≤ 256) :
    CellsAre (cs.toList.take (k * 260 + 4 + off) ++ u8s zs ++ cs.toList.drop (k * 260 + 4 + off + (u8s zs).length)).toArray s.n (cellM (MS.wr s k off zs)) := by
  have hsz : cs.toList.length = s.n * 260 := by rw [Array.length_toList]; exact h.1
  have hfit : k * 260 + 4 + off + zs.length ≤ s.n * 260 := by
    have : (k + 1) * 260 ≤ s.n * 260 := Nat.mul_le_mul_right _ hk
    omega
  refine ⟨?_, fun i j hi hj => ?_⟩
  · simp only [List.size_toArray, List.length_append, List.length_take, List.length_drop, u8s_len, hsz]
    omega
  · rw [List.getElem?_toArray]
    have hold := h.2 i j hi hj
    rw [← Array.getElem?_toList] at hold
    have hlt : i * 260 + j < s.n * 260 := by omega
    by_cases h1 : i * 260 + j < k * 260 + 4 + off
    · rw [List.append_assoc, List.getElem?_append_left (by rw [List.length_take]; omega), List.getElem?_take, if_pos h1, hold, cellM_wr (by omega)]
    · by_cases h2 : i * 260 + j < k * 260 + 4 + off + zs.length
      · have hik : i = k := by omega
        subst hik
        rw [List.append_assoc, List.getElem?_append_right (by rw [List.length_take]; omega), List.length_take, List.getElem?_append_left (by rw [u8s_len]; omega), show min (i * 260 + 4 + off) cs.toList.length = i * 260 + 4 + off by omega, cellM_byte _ _ _ (by omega), wr_hit (by omega) (by omega)]
        unfold u8s
        rw [List.getElem?_map, List.getElem?_eq_getElem (by omega), List.getD_eq_getElem?_getD, List.getElem?_eq_getElem (by omega)]
        simp only [Option.map_some, Option.getD_some, show i * 260 + j - (i * 260 + 4 + off) = j - 4 - off by omega]
      · rw [List.getElem?_append_right (by rw [List.length_append, List.length_take, u8s_len]; omega), List.length_append, List.length_take, u8s_len, List.getElem?_drop, show k * 260 + 4 + off + zs.length + (i * 260 + j - (min (k * 260 + 4 + off) cs.toList.length + zs.length)) = i * 260 + j by omega, hold, cellM_wr (by omega)]
theorem wr_none (s : MS) (k off : Nat) : MS.wr s k off [] = s := by
  unfold MS.wr
  congr 1
  funext i j
  exact if_neg (by rintro ⟨_, h1, h2⟩; simp at h2; omega)
set_option maxRecDepth 100000 in
theorem copy_in (h : Mach w mb fb s) (k : Nat) (hk : k < s.n) (off : Nat) (A : Option Addr) (c : Nat) (zs : List UInt8) (hz : Bytes w A zs) (ho : off + zs.length ≤ 256) (ty : TypeId) : ∃ W', (Builtin.copy_ #[123, 123] ty #[.slice (some ⟨fb, k * 260 + 4 + off, none⟩) (256 - off) (256 - off), .slice A zs.length c]).run Try.prog w = .ok (goInt zs.length) W' ∧ Mach W' mb fb (MS.wr s k off zs) ∧ Chg (fun x => x = fb) w W' := by
  rcases hz with rfl | ⟨x, rfl, hz⟩
  · exact ⟨w, run_copy_none w _ _ _ 5 _ _ _ _ _ _ Try.underlying123 size5 (by simp), by rw [wr_none]; exact h, Chg.refl _ _⟩
  · obtain ⟨cs, h1, h2⟩ := h.lst
    have hfit : k * 260 + 4 + off + zs.length ≤ s.n * 260 := by
      have : (k + 1) * 260 ≤ s.n * 260 := Nat.mul_le_mul_right _ hk
      omega
    have h3 := run_copy_row (P := Try.prog) w 123 123 ty 5 fb (k * 260 + 4 + off) (256 - off) (256 - off) x zs.length c cs 76 (u8s zs) Try.underlying123 size5 h1 (by rw [u8s_len]; simp [Nat.min_def]; omega) hz.src (by rw [u8s_len, h2.1]; omega) u8s_one
    rw [u8s_len] at h3
    refine ⟨_, h3, ⟨(setRow_other w fb mb _ h.ne).trans h.blk, ⟨_, setRow_heap w fb cs _ _ _ h1, ?_⟩, h.few⟩, ⟨rfl, rfl, rfl, by simp, fun j hj hf => setRow_other w fb j _ hf⟩⟩
    have := wr_cells h2 hk ho
    rwa [u8s_len] at this
theorem copy_zero (W : World) (a b : Option Addr) (n m c d : Nat) (h : n = 0 ∨ m = 0) (ty : TypeId) : (Builtin.copy_ #[123, 123] ty #[.slice a n c, .slice b m d]).run Try.prog W = .ok (.int .i64 0) W :=
  run_copy_none W _ _ _ 5 _ _ _ _ _ _ Try.underlying123 size5 (by rcases h with h | h <;> simp [h])
set_option maxHeartbeats 2000000 in
set_option maxRecDepth 100000 in
theorem read_calls (h : Mach w mb fb s) (k : Nat) (hk : k < s.n) (off n : Nat) (ho : off + n ≤ 256) : Calls Try.prog 64 #[.pointer (some ⟨mb, 0, none⟩), .int .i64 k, .int .i64 off, .int .i64 n] w fun e w' =>
    e = .returned (.tuple #[.slice (some ⟨w.heap.size, 0, none⟩) n n, .int .i64 0]) ∧ w'.heap[w.heap.size]? = some (.cells (u8s (MS.rd s k off n)).toArray 5 (0, 0)) ∧ Below w.heap.size w w' := by
  have hp := part_calls h k hk off n ho
  have hm := fun W => make_bytes W n (by omega)
  have L1 := h.lt.2
  by_cases h256 : 256 = off
  · obtain rfl : n = 0 := by omega
    subst h256
    have hc := fun W ty => copy_zero W (some ⟨w.heap.size, 0, none⟩) (some ⟨fb, k * 260 + 4, none⟩) 0 0 0 0 (.inl rfl) ty
    have hmc : madeCells #[.int .u8 0] 0 = #[] := by simp [madeCells]
    rw [hmc] at hm
    have hm0 : ∀ W : World, (Instr.makeSlice 123 (.int .i64 0) (.int .i64 0)).run Try.prog W = .ok (.slice (some ⟨W.heap.size, 0, none⟩) 0 0) (W.alloc (.cells #[] 5)) := fun W => hm W
    clear h ho hm
    go_enter Try.func64, Try.ntmps64
    go_wp2_with (first
      | (go_at_call 62; refine hp.mono ?_; rintro z w1 ⟨rfl, hw1⟩; obtain rfl := hw1.symm)
      | go_in)
    go_ret2
    exact ⟨by first | rfl | (simp; done), blk_new _ _, below_alloc (Below.refl _ _) _⟩
  · have hc := fun ty => copy_out h k hk off n ho ty
    have o0 : (0 : Int) ≤ (off : Int) := Int.natCast_nonneg _
    have o1 : (off : Int) ≤ 256 := by omega
    have n0 : (0 : Int) ≤ (n : Int) := Int.natCast_nonneg _
    clear h
    go_enter Try.func64, Try.ntmps64
    go_wp2_with (first
      | (go_at_call 62; refine hp.mono ?_; rintro z w1 ⟨rfl, hw1⟩; obtain rfl := hw1.symm)
      | go_in)
    go_ret2
    exact ⟨by first | rfl | (simp; done), blk_new _ _, below_alloc (Below.refl _ _) _⟩
set_option maxHeartbeats 2000000 in
set_option maxRecDepth 100000 in
theorem write_calls (h : Mach w mb fb s) (k : Nat) (hk : k < s.n) (off : Nat) (A : Option Addr) (l c : Nat) (zs : List UInt8) (hl : l = zs.length) (hz : Bytes w A zs) (ho : off + zs.length ≤ 256) (hown : (s.fr k).own ≠ -1) : Calls Try.prog 47 #[.pointer (some ⟨mb, 0, none⟩), .int .i64 k, .int .i64 off, .slice A l c] w fun e w' =>
    e = .returned (.int .i64 0) ∧ Mach w' mb fb (MS.wr s k off zs) ∧ Chg (fun x => x = fb) w w' := by
  have hp := part_calls h k hk off l (by omega)
  have c0 := h.own k hk
  have d0 : ((s.fr k).own == -1) = false := by simp [hown]
  have L1 := h.lt.2
  by_cases h256 : 256 = off
  · have hz0 : zs = [] := List.length_eq_zero_iff.1 (by omega)
    have hl0 : l = 0 := by rw [hl, hz0]; rfl
    subst hl0
    subst h256
    have hc := fun W ty => copy_zero W (some ⟨fb, k * 260 + 4, none⟩) A 0 0 0 c (.inl rfl) ty
    have HH := Base.Aside.mk (And.intro h hz0)
    clear h ho hown hz hl hz0
    go_enter Try.func47, Try.ntmps47
    go_wp2_with (first
      | (go_at_call 62; refine hp.mono ?_; rintro z w1 ⟨rfl, hw1⟩; obtain rfl := hw1.symm)
      | go_in)
    go_ret
    exact ⟨by first | rfl | (simp; done), by rw [HH.out.2, wr_none]; exact HH.out.1, Chg.refl _ _⟩
  · subst hl
    obtain ⟨W', hW1, hW2, hW3⟩ := copy_in h k hk off A c zs hz ho 3
    have HW := Base.Aside.mk (And.intro hW2 hW3)
    have o0 : (0 : Int) ≤ (off : Int) := Int.natCast_nonneg _
    have o1 : (off : Int) ≤ 256 := by omega
    clear h hW2 hW3 hown hz
    go_enter Try.func47, Try.ntmps47
    go_wp2_with (first
      | (go_at_call 62; refine hp.mono ?_; rintro z w1 ⟨rfl, hw1⟩; obtain rfl := hw1.symm)
      | go_in)
    go_ret
    exact ⟨by first | rfl | (simp; done), HW.out.1, HW.out.2⟩
end
end Go.Proofs.Ytebhpmmibffbeaa.GaC
