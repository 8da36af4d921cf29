/- Proved: phys.Machine.Copy makes a machine of its own, which Read and Frame tell of as of the first (contracts for the laws of the grants). -/
import Derived.Test.YtjeobbhaoahdcaaGaD
import Derived.Test.YtjeobbhaoahdcaaPhys
import Derived.Test.YtjeobbhaoahdcaaRmA
namespace Go.Proofs.Ytjeobbhaoahdcaa.GsB
open Go.RowKit Go.Maps Go.Proofs.Ytjeobbhaoahdcaa.Base Go.Proofs.Ytjeobbhaoahdcaa.GaA Go.Proofs.Ytjeobbhaoahdcaa.GaB Go.Proofs.Ytjeobbhaoahdcaa.GaC
set_option linter.unusedVariables false
set_option linter.unusedSimpArgs false

/-- A machine whose row of frames may have room. -/
structure MachC (w : World) (mb fb : Nat) (s : MS) (cap : Nat) : Prop where
  blk : w.heap[mb]? = some (.cells #[.bool true, .slice (some ⟨fb, 0, none⟩) s.n cap] 90 (0, 0))
  lst : ∃ cs, w.heap[fb]? = some (.cells cs 117 (0, 0)) ∧ ∀ i j, i < s.n → j < 260 → cs[i * 260 + j]? = some (cellM s i j)
  few : s.n ≤ 1000
  cap : s.n ≤ cap
section
variable {w w' : World} {mb fb cap : Nat} {s : MS}
theorem MachC.lt (h : MachC w mb fb s cap) : mb < w.heap.size ∧ fb < w.heap.size := by
  obtain ⟨cs, h1, h2⟩ := h.lst
  exact ⟨blk_lt h.blk, blk_lt h1⟩
theorem MachC.ne (h : MachC w mb fb s cap) : mb ≠ fb := by
  rintro rfl
  obtain ⟨cs, h1, h2⟩ := h.lst
  rw [h.blk] at h1
  injection h1 with h1
  injection h1 with h1 h3
  exact absurd h3 (by decide)
theorem MachC.chg {F : Nat → Prop} (h : MachC w mb fb s cap) (hc : Chg F w w') (hm : ¬ F mb) (hf : ¬ F fb) : MachC w' mb fb s cap := by
  obtain ⟨cs, h1, h2⟩ := h.lst
  exact ⟨hc.blk h.blk hm, ⟨cs, hc.blk h1 hf, h2⟩, h.few, h.cap⟩
theorem MachC.below (h : MachC w mb fb s cap) (hb : Below w.heap.size w w') : MachC w' mb fb s cap := h.chg (Chg.below (fun _ => False) hb) (fun h => h) (fun h => h)
theorem MachC.cell (h : MachC w mb fb s cap) (i j : Nat) (hi : i < s.n) (hj : j < 260) : w.cell? ⟨fb, i * 260 + j, none⟩ = some (cellM s i j) := by
  obtain ⟨cs, h1, h2⟩ := h.lst
  exact (blk_cell h1 _).trans (h2 i j hi hj)
theorem MachC.own (h : MachC w mb fb s cap) (i : Nat) (hi : i < s.n) : w.cell? ⟨fb, i * 260, none⟩ = some (.int .i64 (s.fr i).own) := by
  have := h.cell i 0 hi (by decide)
  simpa [cellM] using this
theorem MachC.typ (h : MachC w mb fb s cap) (i : Nat) (hi : i < s.n) : w.cell? ⟨fb, i * 260 + 1, none⟩ = some (.int .i64 (s.fr i).typ) := by
  have := h.cell i 1 hi (by decide)
  simpa [cellM] using this
theorem MachC.cnt (h : MachC w mb fb s cap) (i : Nat) (hi : i < s.n) : w.cell? ⟨fb, i * 260 + 2, none⟩ = some (.int .i64 (s.fr i).cnt) := by
  have := h.cell i 2 hi (by decide)
  simpa [cellM] using this
theorem MachC.tot (h : MachC w mb fb s cap) (i : Nat) (hi : i < s.n) : w.cell? ⟨fb, i * 260 + 3, none⟩ = some (.int .i64 (s.fr i).tot) := by
  have := h.cell i 3 hi (by decide)
  simpa [cellM] using this
theorem MachC.byte (h : MachC w mb fb s cap) (i j : Nat) (hi : i < s.n) (hj : j < 256) : w.cell? ⟨fb, i * 260 + (4 + j), none⟩ = some (.int .u8 ((s.byt i j).toNat : Int)) := by
  have := h.cell i (4 + j) hi (by omega)
  rw [this]
  unfold cellM
  rw [if_neg (by omega), if_neg (by omega), if_neg (by omega), if_neg (by omega), show 4 + j - 4 = j by omega]
theorem MachC.frozen (h : MachC w mb fb s cap) (i : Nat) : w.frozen? ⟨fb, i, none⟩ = false := by
  obtain ⟨cs, h1, h2⟩ := h.lst
  exact blk_frozen h1 i
set_option maxHeartbeats 2000000 in
set_option maxRecDepth 100000 in
theorem none_calls (h : MachC w mb fb s cap) : Calls Try.prog 44 #[.pointer (some ⟨mb, 0, none⟩)] w fun e w' => e = .returned (.bool false) ∧ w' = w := by
  have C0 := fun i => blk_cell h.blk i
  have L0 := blk_lt h.blk
  clear h
  go_enter Try.func44, Try.ntmps44
  go_wp2
  go_ret
  exact ⟨by first | rfl | (simp; done), rfl⟩
set_option maxHeartbeats 2000000 in
set_option maxRecDepth 100000 in
theorem at_calls (h : MachC w mb fb s cap) (k : Nat) (hk : k < s.n) : Calls Try.prog 48 #[.pointer (some ⟨mb, 0, none⟩), .int .i64 k] w fun e w' => e = .returned (.tuple #[.pointer (some ⟨fb, k * 260, none⟩), .int .i64 0]) ∧ w' = w := by
  have C0 := fun i => blk_cell h.blk i
  have L0 := blk_lt h.blk
  have hn := none_calls h
  have k0 : decide ((k : Int) < 0) = false := decide_eq_false (by omega)
  have k1 : decide ((s.n : Int) ≤ (k : Int)) = false := decide_eq_false (by omega)
  have k2 : (0 : Int) ≤ (k : Int) := Int.natCast_nonneg _
  have k3 : (k : Int) < (s.n : Int) := by omega
  have L1 := h.lt.2
  clear h
  go_enter Try.func48, Try.ntmps48
  go_wp2_with (first
    | (go_at_call 44; refine hn.mono ?_; rintro z w1 ⟨rfl, hw1⟩; obtain rfl := hw1.symm)
    | go_in)
  go_ret2
  exact ⟨by first | rfl | (simp; done), rfl⟩
set_option maxHeartbeats 2000000 in
set_option maxRecDepth 100000 in
theorem frame_calls (h : MachC w mb fb s cap) (k : Nat) (hk : k < s.n) : Calls Try.prog 13 #[.pointer (some ⟨mb, 0, none⟩), .int .i64 k] w fun e w' =>
    e = .returned (.tuple #[.agg #[.int .i64 (s.fr k).own, .int .i64 (s.fr k).typ, .int .i64 (s.fr k).cnt, .int .i64 (s.fr k).tot], .int .i64 0]) ∧ Below w.heap.size w w' := by
  have hb0 := below_alloc (Below.refl w.heap.size w) (.cells #[.int .i64 0, .int .i64 0, .int .i64 0, .int .i64 0] 46)
  have h1 := h.below hb0
  have ha := at_calls h1 k hk
  have c0 := h1.own k hk
  have c1 := h1.typ k hk
  have c2 := h1.cnt k hk
  have c3 := h1.tot k hk
  have L1 := h1.lt.2
  clear hb0 h1 h
  go_enter Try.func13, Try.ntmps13
  go_wp2_with (first
    | (go_at_call 48; refine ha.mono ?_; rintro z w1 ⟨rfl, hw1⟩; obtain rfl := hw1.symm)
    | go_in)
  refine bodyPost_ret (v := .tuple #[.agg #[.int .i64 (s.fr k).own, .int .i64 (s.fr k).typ, .int .i64 (s.fr k).cnt, .int .i64 (s.fr k).tot], .int .i64 0]) ?_ rfl ⟨rfl, ?_⟩
  · simp only [results, Try.results13]; go_simp
  · exact below_alloc (Below.refl w.heap.size w) _
set_option maxHeartbeats 2000000 in
set_option maxRecDepth 100000 in
theorem part_calls (h : MachC w mb fb s cap) (k : Nat) (hk : k < s.n) (off n : Nat) (ho : off + n ≤ 256) : Calls Try.prog 47 #[.pointer (some ⟨mb, 0, none⟩), .int .i64 k, .int .i64 off, .int .i64 n] w fun e w' => e = .returned (.tuple #[.pointer (some ⟨fb, k * 260, none⟩), .int .i64 0]) ∧ w' = w := by
  have ha := at_calls h k hk
  have d0 : decide ((off : Int) < 0) = false := decide_eq_false (by omega)
  have d1 : decide ((n : Int) < 0) = false := decide_eq_false (by omega)
  have d2 : decide ((256 : Int) < (off : Int)) = false := decide_eq_false (by omega)
  have d3 : decide ((256 : Int) - (off : Int) < (n : Int)) = false := decide_eq_false (by omega)
  clear h
  go_enter Try.func47, Try.ntmps47
  go_wp2_with (first
    | (go_at_call 48; refine ha.mono ?_; rintro z w1 ⟨rfl, hw1⟩; obtain rfl := hw1.symm)
    | go_in)
  go_ret2
  exact ⟨by first | rfl | (simp; done), rfl⟩
set_option maxRecDepth 100000 in
theorem copy_out (h : MachC w mb fb s cap) (k : Nat) (hk : k < s.n) (off n : Nat) (ho : off + n ≤ 256) (ty : TypeId) : (Builtin.copy_ #[42, 42] ty #[.slice (some ⟨w.heap.size, 0, none⟩) n n, .slice (some ⟨fb, k * 260 + 4 + off, none⟩) (256 - off) (256 - off)]).run Try.prog (w.alloc (.cells (madeCells #[.int .u8 0] n) 5)) =
    .ok (goInt n) (w.alloc (.cells (u8s (MS.rd s k off n)).toArray 5)) := by
  have hl : (u8s (MS.rd s k off n)).length = n := by rw [u8s_len, rd_len]
  have h2 := run_copy_row (P := Try.prog) (w.alloc (.cells (madeCells #[.int .u8 0] n) 5)) 42 42 ty 5 w.heap.size 0 n n ⟨fb, k * 260 + 4 + off, none⟩ (256 - off) (256 - off) (madeCells #[.int .u8 0] n) 5 (u8s (MS.rd s k off n)) Try.underlying42 size5 (blk_new _ _) (by rw [hl]; simp [Nat.min_def]; omega)
    (fun j v hv => by
      unfold u8s MS.rd at hv
      rw [List.getElem?_map, List.getElem?_map] at hv
      obtain ⟨z, hz, rfl⟩ := Option.map_eq_some_iff.1 hv
      obtain ⟨j', hj', rfl⟩ := Option.map_eq_some_iff.1 hz
      obtain ⟨hlt, hval⟩ := List.getElem?_eq_some_iff.1 hj'
      rw [List.getElem_range] at hval
      subst hval
      have hlt2 : j < n := by simpa using hlt
      have hb := (h.below (below_alloc (Below.refl _ _) (.cells (madeCells #[.int .u8 0] n) 5))).byte k (off + j) hk (by omega)
      rw [addB, show k * 260 + 4 + off + j = k * 260 + (4 + (off + j)) by omega]
      exact hb) (by rw [hl, size_madeCells]; omega) u8s_one
  rw [h2, hl, World.setRow_alloc_new]
  congr 3
  simp only [List.take_zero, List.nil_append]
  rw [List.drop_of_length_le (by simp [size_madeCells]), List.append_nil]
set_option maxHeartbeats 2000000 in
set_option maxRecDepth 100000 in
theorem read_calls (h : MachC w mb fb s cap) (k : Nat) (hk : k < s.n) (off n : Nat) (ho : off + n ≤ 256) : Calls Try.prog 12 #[.pointer (some ⟨mb, 0, none⟩), .int .i64 k, .int .i64 off, .int .i64 n] w fun e w' =>
    e = .returned (.tuple #[.slice (some ⟨w.heap.size, 0, none⟩) n n, .int .i64 0]) ∧ w'.heap[w.heap.size]? = some (.cells (u8s (MS.rd s k off n)).toArray 5 (0, 0)) ∧ Below w.heap.size w w' := by
  have hp := part_calls h k hk off n ho
  have hm := fun W => make_bytes W n (by omega)
  have L1 := h.lt.2
  by_cases h256 : 256 = off
  · obtain rfl : n = 0 := by omega
    subst h256
    have hc := fun W ty => copy_zero W (some ⟨w.heap.size, 0, none⟩) (some ⟨fb, k * 260 + 4, none⟩) 0 0 0 0 (.inl rfl) ty
    have hmc : madeCells #[.int .u8 0] 0 = #[] := by simp [madeCells]
    rw [hmc] at hm
    have hm0 : ∀ W : World, (Instr.makeSlice 42 (.int .i64 0) (.int .i64 0)).run Try.prog W = .ok (.slice (some ⟨W.heap.size, 0, none⟩) 0 0) (W.alloc (.cells #[] 5)) := fun W => hm W
    clear h ho hm
    go_enter Try.func12, Try.ntmps12
    go_wp2_with (first
      | (go_at_call 47; refine hp.mono ?_; rintro z w1 ⟨rfl, hw1⟩; obtain rfl := hw1.symm)
      | go_in)
    go_ret2
    exact ⟨by first | rfl | (simp; done), blk_new _ _, below_alloc (Below.refl _ _) _⟩
  · have hc := fun ty => copy_out h k hk off n ho ty
    have o0 : (0 : Int) ≤ (off : Int) := Int.natCast_nonneg _
    have o1 : (off : Int) ≤ 256 := by omega
    have n0 : (0 : Int) ≤ (n : Int) := Int.natCast_nonneg _
    clear h
    go_enter Try.func12, Try.ntmps12
    go_wp2_with (first
      | (go_at_call 47; refine hp.mono ?_; rintro z w1 ⟨rfl, hw1⟩; obtain rfl := hw1.symm)
      | go_in)
    go_ret2
    exact ⟨by first | rfl | (simp; done), blk_new _ _, below_alloc (Below.refl _ _) _⟩
end
section
variable {w w' : World} {mb fb : Nat} {s : MS}
theorem cells_one {cs : Array Value} (h : CellsAre cs s.n (cellM s)) : ∀ u ∈ cs.toList, u.oneCell' = true := by
  intro u hu
  obtain ⟨p, hp, rfl⟩ := List.getElem_of_mem hu
  have hp2 : p < cs.size := by simpa using hp
  have hs := h.1
  have h2 := h.2 (p / 260) (p % 260) (by omega) (by omega)
  rw [show p / 260 * 260 + p % 260 = p by omega] at h2
  rw [Array.getElem?_eq_getElem hp2] at h2
  rw [Array.getElem_toList, Option.some.inj h2]
  unfold cellM
  split
  · rfl
  · split
    · rfl
    · split
      · rfl
      · split <;> rfl
def CopOut (w : World) (s : MS) (e : Ending) (w' : World) : Prop := ∃ mo fo cap, e = .returned (.pointer (some ⟨mo, 0, none⟩)) ∧ MachC w' mo fo s cap ∧ w.heap.size ≤ mo ∧ w.heap.size ≤ fo ∧ Below w.heap.size w w'
set_option maxHeartbeats 4000000 in
set_option maxRecDepth 100000 in
theorem mcopy_calls (h : Mach w mb fb s) (h1 : 1 ≤ s.n) : Calls Try.prog 9 #[.pointer (some ⟨mb, 0, none⟩)] w (CopOut w s) := by
  obtain ⟨cs, hl1, hl2⟩ := h.lst
  obtain ⟨i0, z0, hi, hz, hs, hb, hzs, _⟩ := Phys.infoF
  have C0 := fun i => blk_cell h.blk i
  have L0 := blk_lt h.blk
  have hn := GaA.none_calls h
  have hlen : cs.toList.length = s.n * 260 := by rw [Array.length_toList]; exact hl2.1
  have hnw : ∀ j u, cs.toList[j]? = some u → w.cell? ((⟨fb, 0, none⟩ : Addr).add j) = some u := by
    intro j u hj
    rw [addB, Nat.zero_add, blk_cell hl1 j, ← Array.getElem?_toList]
    exact hj
  have HL := Base.Aside.mk (And.intro hlen (And.intro hnw (And.intro (cells_one hl2) (And.intro h.few (And.intro h1 hl2)))))
  clear hlen hnw hl1 hl2 h h1
  go_enter Try.func9, Try.ntmps9
  go_wp2_with (first
    | (go_at_call 44; refine hn.mono ?_; rintro z w1 ⟨rfl, hw1⟩; obtain rfl := hw1.symm)
    | (at_builtin; refine wpList_append_own_at _ rfl _ _ 88 rfl w.heap.size 117 i0 z0 260 288 Try.underlying88 hi hz hs hb hzs (by decide) (.slice none 0 0) 0 [] rfl (World.ownsRow_nil _ _ _ _) ⟨fb, 0, none⟩ s.n s.n cs.toList rfl HL.out.1 HL.out.2.1 HL.out.2.2.1 (by have := HL.out.2.2.2.1; unfold maxLen; omega) (by have := HL.out.2.2.2.1; omega) (Nat.le_refl _) ?_)
    | go_in)
  intro v' w1 hown hg hnil hloc
  obtain ⟨q1, q2⟩ := hown
  obtain ⟨g, cap, cur, rfl, hg0, hgb, hc1, hc2, hc3, hc4⟩ : ∃ g cap cur, v' = .slice (some ⟨g, 0, none⟩) s.n cap ∧ w.heap.size ≤ g ∧ w1.heap[g]? = some (.cells cur 117 (0, 0)) ∧ s.n ≤ cap ∧ cap ≤ maxLen ∧ cur.size = cap * 260 ∧ cur.toList.take (s.n * 260) = cs.toList := by
    rcases q2 with ⟨_, hz⟩ | h
    · exact absurd hz (by have := HL.out.2.2.2.2.1; omega)
    · exact h
  have hB1 : Below w.heap.size w w1 := ⟨hg.os, hg.tape, hg.output, hg.size, fun k hk => hg.block k hk (by simp [Value.ownBlock])⟩
  have H1 := Base.Aside.mk (And.intro hB1 (And.intro hg0 (And.intro hgb (And.intro hc1 hc4))))
  clear hg0 hgb hc1 hc2 hc3 hc4 hB1 hg hnil hloc q1 q2 C0
  go_wp2
  go_ret
  obtain ⟨hB1, hg0, hgb, hc1, hc4⟩ := H1.out
  refine ⟨w1.heap.size, g, cap, by first | rfl | (simp; done), ⟨blk_new _ _, ⟨cur, blk_alloc hgb _, fun i j hi hj => ?_⟩, HL.out.2.2.2.1, hc1⟩, hB1.size, hg0, below_alloc hB1 _⟩
  have h9 := HL.out.2.2.2.2.2.2 i j hi hj
  rw [← Array.getElem?_toList, ← hc4, List.getElem?_take, if_pos (by omega), Array.getElem?_toList] at h9
  exact h9
end
end Go.Proofs.Ytjeobbhaoahdcaa.GsB
