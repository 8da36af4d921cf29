/- Proved: the names, and what may stand in a line, on both sides (contracts for the law ScriptPrints). -/
import Derived.Test.YtafphlimklgijaaDoorSpP
import Derived.Deep.RegionWith
import Derived.Laws.RangeString
import Derived.Laws.RangeAny
namespace Go.Proofs.YtafphlimklgijaaDoor.SpB
open Go.RowKit Go.Shelf Go.Proofs.YtafphlimklgijaaDoor.Base Go.Proofs.YtafphlimklgijaaDoor.TdA Go.Proofs.YtafphlimklgijaaDoor.TdB Go.Proofs.YtafphlimklgijaaDoor.TdC Go.Proofs.YtafphlimklgijaaDoor.SpA Go.Proofs.YtafphlimklgijaaDoor.SpP
set_option linter.unusedVariables false
set_option linter.unusedSimpArgs false

def Asc (w : World) : Prop := Lib.TabIs Tryd.prog w "strings.asciiSpace" .u8 Lib.asciiSpaceTab
def wordsB : ByteArray := ⟨#[98, 117, 105, 108, 100, 32, 112, 97, 117, 115, 101, 32, 103, 111, 32, 100, 101, 115, 116, 114, 111, 121, 32, 112, 111, 107, 101, 32, 112, 101, 101, 107, 32, 115, 101, 116, 32, 114, 117, 110, 32, 99, 97, 108, 108, 32, 119, 114, 105, 116, 101, 32, 114, 101, 97, 100, 32, 114, 101, 109, 111, 118, 101, 32, 119, 97, 116, 99, 104, 32, 101, 118, 101, 110, 116, 32, 100, 105, 115, 107, 32, 116, 117, 114, 110, 32, 118, 105, 102, 32, 115, 101, 110, 100, 32, 100, 101, 108, 105, 118, 101, 114, 32, 116, 105, 99, 107, 32, 99, 111, 110, 115, 32, 100, 114, 97, 105, 110, 32, 102, 101, 101, 100]⟩
def namesL : List (List UInt8) := Lib.fields wordsB.data.toList
def nameOf (k : Nat) : List UInt8 := namesL.getD k []
theorem asc_of (s : ByteArray) (h : (s.data.toList.all fun b => decide (b.toNat < 128)) = true) : ∀ (j : Nat) b, s.data.toList[j]? = some b → b.toNat < 128 := fun j b hj => by
  have := List.all_eq_true.1 h b (List.mem_of_getElem? hj)
  simpa using this
set_option maxRecDepth 100000 in
theorem names_len : namesL.length = 23 := by decide +kernel
set_option maxRecDepth 100000 in
theorem names_short : (namesL.all fun x => decide (x.length ≤ 7) && decide (x ≠ [])) = true := by decide +kernel
theorem nameOf_len {k : Nat} (h : k < 23) : (nameOf k).length ≤ 7 := by
  have hk : k < namesL.length := by rw [names_len]; exact h
  have h1 := List.all_eq_true.1 names_short (namesL[k]) (List.getElem_mem hk)
  simp only [Bool.and_eq_true, decide_eq_true_eq] at h1
  unfold nameOf
  rw [List.getD_eq_getElem?_getD, List.getElem?_eq_getElem hk]
  exact h1.1
/-- The cells of the names. -/
def nameCells : Array Value := (namesL.map fun l => Value.string ⟨l.toArray⟩).toArray
theorem nameCells_at {k : Nat} (h : k < 23) : nameCells[k]? = some (.string ⟨(nameOf k).toArray⟩) := by
  have hk : k < namesL.length := by rw [names_len]; exact h
  unfold nameCells nameOf
  rw [List.getElem?_toArray, List.getElem?_map, List.getD_eq_getElem?_getD, List.getElem?_eq_getElem hk]
  rfl
theorem fields_calls (w : World) (ht : Asc w) : Calls Tryd.prog 18 #[.string wordsB] w fun e w' => e = .returned (.slice (some ⟨w.heap.size, 0, none⟩) 23 23) ∧ w' = w.alloc (.cells nameCells 9) := by
  have := Tryd.strings_Fields wordsB w (by decide +kernel) (asc_of _ (by decide +kernel)) ht
  rw [show (Lib.fields wordsB.data.toList).length = 23 from names_len] at this
  refine this.mono ?_
  rintro e w' ⟨h1, h2⟩
  exact ⟨h1, h2⟩
set_option maxHeartbeats 4000000 in
set_option maxRecDepth 100000 in
theorem names_prog (w : World) (ht : Asc w) : Calls Tryd.prog 7 #[] w fun e w' => e = .returned (.slice (some ⟨w.heap.size, 0, none⟩) 23 23) ∧ w' = w.alloc (.cells nameCells 9) := by
  have hf := fields_calls w ht
  unfold wordsB at hf
  go_enter Tryd.func7, Tryd.ntmps7
  go_wp2_with (first
    | (go_at_call 18; refine hf.mono ?_; rintro z w1 ⟨rfl, hw1⟩; have E1 := Base.Aside.mk hw1; clear hw1)
    | go_in)
  go_ret
  exact ⟨by first | rfl | (simp; done), E1.out⟩
set_option maxRecDepth 100000 in
theorem nameCells_eq : nameCells = #[.string ⟨#[98, 117, 105, 108, 100]⟩, .string ⟨#[112, 97, 117, 115, 101]⟩, .string ⟨#[103, 111]⟩, .string ⟨#[100, 101, 115, 116, 114, 111, 121]⟩, .string ⟨#[112, 111, 107, 101]⟩, .string ⟨#[112, 101, 101, 107]⟩, .string ⟨#[115, 101, 116]⟩, .string ⟨#[114, 117, 110]⟩, .string ⟨#[99, 97, 108, 108]⟩, .string ⟨#[119, 114, 105, 116, 101]⟩, .string ⟨#[114, 101, 97, 100]⟩, .string ⟨#[114, 101, 109, 111, 118, 101]⟩, .string ⟨#[119, 97, 116, 99, 104]⟩, .string ⟨#[101, 118, 101, 110, 116]⟩, .string ⟨#[100, 105, 115, 107]⟩, .string ⟨#[116, 117, 114, 110]⟩, .string ⟨#[118, 105, 102]⟩, .string ⟨#[115, 101, 110, 100]⟩, .string ⟨#[100, 101, 108, 105, 118, 101, 114]⟩, .string ⟨#[116, 105, 99, 107]⟩, .string ⟨#[99, 111, 110, 115]⟩, .string ⟨#[100, 114, 97, 105, 110]⟩, .string ⟨#[102, 101, 101, 100]⟩] := by kernel_rfl
set_option maxHeartbeats 4000000 in
set_option maxRecDepth 100000 in
theorem names_ref (w : World) : Calls Tryd.prog 13 #[] w fun e w' => e = .returned (.slice (some ⟨w.heap.size, 0, none⟩) 23 23) ∧ w' = w.alloc (.cells nameCells 9) := by
  rw [nameCells_eq]
  go_enter Tryd.func13, Tryd.ntmps13
  go_wp2
  go_ret
  exact ⟨by first | rfl | (simp; done), by first | rfl | (simp; done)⟩
/-- What is read of the names: a cell, where the index is one. -/
structure NamesAt (w : World) (b : Nat) : Prop where
  lt : b < w.heap.size
  cell : ∀ k, k < 23 → w.cell? ⟨b, k, none⟩ = some (.string ⟨(nameOf k).toArray⟩)
theorem names_prog' (w : World) (ht : Asc w) : Calls Tryd.prog 7 #[] w fun e w' => e = .returned (.slice (some ⟨w.heap.size, 0, none⟩) 23 23) ∧ NamesAt w' w.heap.size ∧ Below w.heap.size w w' := by
  refine (names_prog w ht).mono ?_
  rintro e w' ⟨rfl, rfl⟩
  exact ⟨rfl, ⟨by simp, fun k hk => (blk_cell (blk_new w _) k).trans (nameCells_at hk)⟩, below_alloc (Below.refl _ _) _⟩
theorem names_ref' (w : World) : Calls Tryd.prog 13 #[] w fun e w' => e = .returned (.slice (some ⟨w.heap.size, 0, none⟩) 23 23) ∧ NamesAt w' w.heap.size ∧ Below w.heap.size w w' := by
  refine (names_ref w).mono ?_
  rintro e w' ⟨rfl, rfl⟩
  exact ⟨rfl, ⟨by simp, fun k hk => (blk_cell (blk_new w _) k).trans (nameCells_at hk)⟩, below_alloc (Below.refl _ _) _⟩
/-- small, over a row of numbers. -/
def allSmall (f : Nat → Int) (n : Nat) : Bool := (List.range n).all fun i => smallB (f i)
theorem allSmall_at {f : Nat → Int} {n k : Nat} (h : allSmall f n = true) (hk : k < n) : smallB (f k) = true := List.all_eq_true.1 h k (by simpa using hk)
theorem allSmall_not {f : Nat → Int} {n k : Nat} (hk : k < n) (h : smallB (f k) = false) : allSmall f n = false := by
  rw [← Bool.not_eq_true]
  intro h2
  rw [allSmall_at h2 hk] at h
  cases h
theorem allSmall_all {f : Nat → Int} {n : Nat} (h : ∀ k, k < n → smallB (f k) = true) : allSmall f n = true := List.all_eq_true.2 fun k hk => h k (by simpa using hk)
set_option maxHeartbeats 4000000 in
set_option maxRecDepth 100000 in
theorem small_prog (w : World) (g n cap : Nat) (f : Nat → Int) (hc : ∀ i, i < n → w.cell? ⟨g, i, none⟩ = some (.int .i64 (f i))) (hn : n ≤ 1000) :
    Calls Tryd.prog 8 #[.slice (some ⟨g, 0, none⟩) n cap] w fun e w' => e = .returned (.bool (allSmall f n)) ∧ w' = w := by
  go_enter Tryd.func8, Tryd.ntmps8
  go_wp2
  go_loopw [7] (fun i wr => ∃ k : Nat, k ≤ n ∧ i = .int .i64 k ∧ wr = w ∧ Aside (∀ j, j < k → smallB (f j) = true)) (fun v _ => n - (intOf v).toNat)
  case atStart => exact ⟨0, Nat.zero_le _, rfl, rfl, fun j hj => absurd hj (by omega)⟩
  case round =>
    obtain ⟨k, hk, rfl, hwr, hE⟩ := hrel
    obtain rfl := hwr.symm
    by_cases hlt : k < n
    · have hB := Base.Aside.mk hE.out
      clear hE
      by_cases h0' : f k < 0
      · have d0 : decide (f k < 0) = true := decide_eq_true h0'
        have h0 := Base.Aside.mk h0'
        clear h0'
        go_wp2
        go_ret
        rw [allSmall_not hlt (by have := h0.out; simp [smallB]; omega)]
        exact ⟨by first | rfl | (simp; done), rfl⟩
      · have d0 : decide (f k < 0) = false := decide_eq_false h0'
        have h0 := Base.Aside.mk h0'
        clear h0'
        by_cases h1' : 999999999 < f k
        · have d1 : decide (999999999 < f k) = true := decide_eq_true h1'
          have h1 := Base.Aside.mk h1'
          clear h1'
          go_wp2
          go_ret
          rw [allSmall_not hlt (by have := h1.out; simp [smallB]; omega)]
          exact ⟨by first | rfl | (simp; done), rfl⟩
        · have d1 : decide (999999999 < f k) = false := decide_eq_false h1'
          have h1 := Base.Aside.mk h1'
          clear h1'
          go_wp2
          refine ⟨⟨k + 1, by omega, by simp, trivial, fun j hj => ?_⟩, by simp [intOf]; omega⟩
          rcases Nat.lt_or_ge j k with h | h
          · exact hB.out j h
          · obtain rfl : j = k := by omega
            have := h0.out
            have := h1.out
            simp [smallB]
            omega
    · obtain rfl : k = n := by omega
      go_wp2
      go_ret
      rw [allSmall_all hE.out]
      exact ⟨by first | rfl | (simp; done), rfl⟩
set_option maxHeartbeats 4000000 in
set_option maxRecDepth 100000 in
theorem small_ref (w : World) (x : Int) :
    Calls Tryd.prog 14 #[.int .i64 x] w fun e w' => e = .returned (.bool (smallB x)) ∧ w' = w := by
  by_cases h0 : 0 ≤ x
  · have d0 : decide (0 ≤ x) = true := decide_eq_true h0
    go_enter Tryd.func14, Tryd.ntmps14
    go_wp2
    all_goals
      go_ret
      unfold smallB
      rw [d0]
      exact ⟨by first | rfl | (simp; done) | (simp; omega), rfl⟩
  · have d0 : decide (0 ≤ x) = false := decide_eq_false h0
    go_enter Tryd.func14, Tryd.ntmps14
    go_wp2
    all_goals
      go_ret
      unfold smallB
      rw [d0]
      exact ⟨by first | rfl | (simp; done), rfl⟩
def okC (c : UInt8) : Bool := decide (32 ≤ c.toNat) && (decide (c.toNat ≤ 126) && (decide (c.toNat ≠ 34) && decide (c.toNat ≠ 92)))
theorem plainB_not {s : ByteArray} {k : Nat} (hk : k < s.size) (h : okC s[k] = false) : plainB s.data.toList = false := by
  rw [← Bool.not_eq_true]
  intro h2
  have h3 := List.all_eq_true.1 h2 s[k] (by rw [ByteArray.getElem_eq_getElem_data]; exact Array.getElem_mem_toList _)
  have h4 : okC s[k] = true := h3
  rw [h4] at h
  cases h
theorem plainB_all {s : ByteArray} (h : ∀ k (hk : k < s.size), okC s[k] = true) : plainB s.data.toList = true := by
  refine List.all_eq_true.2 fun c hc => ?_
  obtain ⟨k, hk, rfl⟩ := List.getElem_of_mem hc
  exact h k (by simpa using hk)
set_option maxHeartbeats 4000000 in
set_option maxRecDepth 100000 in
theorem plain_prog (w : World) (s : ByteArray) : Calls Tryd.prog 9 #[.string s] w fun e w' => e = .returned (.bool (plainB s.data.toList)) ∧ Below w.heap.size w w' := by
  go_enter Tryd.func9, Tryd.ntmps9
  go_wp2
  go_loopw [8] (fun v wr => ∃ pos : Nat, pos ≤ s.size ∧ wr = w.iter s pos ∧ Aside (∀ k (hk : k < s.size), k < pos → okC s[k] = true)) (fun _ wr => s.size - wr.iterPos w.heap.size)
  case atStart => exact ⟨0, Nat.zero_le _, rfl, fun k hk h => absurd h (by omega)⟩
  case round =>
    obtain ⟨pos, hp, hwr, hE⟩ := hrel
    subst hwr
    have hB := Base.Aside.mk hE.out
    clear hE
    by_cases hlt : pos < s.size
    · generalize hx : s[pos] = x
      have HX := Base.Aside.mk hx
      by_cases hA : x.toNat < 128
      · have hnext := fun ty => run_next_ascii (P := Tryd.prog) w s pos ty hlt (by rw [hx]; exact hA)
        rw [hx] at hnext
        clear hx
        have fin : ∀ c : Bool, okC x = c → okC s[pos] = c := fun c h => by rw [HX.out]; exact h
        have HF := Base.Aside.mk fin
        clear fin
        by_cases h0 : x.toNat < 32
        · have d0 : decide ((x.toNat : Int) < 32) = true := decide_eq_true (by omega)
          go_wp2
          go_ret
          rw [plainB_not hlt (HF.out false (by simp [okC]; omega))]
          exact ⟨by first | rfl | (simp; done), below_alloc (Below.refl _ _) _⟩
        · have d0 : decide ((x.toNat : Int) < 32) = false := decide_eq_false (by omega)
          by_cases h1 : 126 < x.toNat
          · have d1 : decide ((126 : Int) < (x.toNat : Int)) = true := decide_eq_true (by omega)
            go_wp2
            go_ret
            rw [plainB_not hlt (HF.out false (by simp [okC]; omega))]
            exact ⟨by first | rfl | (simp; done), below_alloc (Below.refl _ _) _⟩
          · have d1 : decide ((126 : Int) < (x.toNat : Int)) = false := decide_eq_false (by omega)
            by_cases h2 : x.toNat = 34
            · have d2 : ((x.toNat : Int) == 34) = true := by simp; omega
              have H2 := Base.Aside.mk h2
              clear h2
              go_wp2
              go_ret
              rw [plainB_not hlt (HF.out false (by have := H2.out; simp [okC]; omega))]
              exact ⟨by first | rfl | (simp; done), below_alloc (Below.refl _ _) _⟩
            · have d2 : ((x.toNat : Int) == 34) = false := by simp; omega
              by_cases h3 : x.toNat = 92
              · have d3 : ((x.toNat : Int) == 92) = true := by simp; omega
                have H3 := Base.Aside.mk h3
                clear h3
                go_wp2
                go_ret
                rw [plainB_not hlt (HF.out false (by have := H3.out; simp [okC]; omega))]
                exact ⟨by first | rfl | (simp; done), below_alloc (Below.refl _ _) _⟩
              · have d3 : ((x.toNat : Int) == 92) = false := by simp; omega
                have H := Base.Aside.mk (And.intro h2 h3)
                clear h2 h3
                go_wp2
                refine ⟨⟨pos + 1, by omega, by first | rfl | trivial, fun k hk hkp => ?_⟩, by simp; omega⟩
                rcases Nat.lt_or_ge k pos with h | h
                · exact hB.out k hk h
                · obtain rfl : k = pos := by omega
                  refine HF.out true ?_
                  have := H.out
                  simp [okC]
                  omega
      · obtain ⟨r, n, hd, hr⟩ : ∃ r n, Utf8.decode s pos = (r, n) ∧ 128 ≤ r := ⟨_, _, rfl, (decode_high s pos hlt (by rw [hx]; omega)).1⟩
        have hnext := fun ty => run_next_any (P := Tryd.prog) w s pos ty hlt
        rw [hd] at hnext
        simp only at hnext
        have d0 : decide ((r : Int) < 32) = false := decide_eq_false (by omega)
        have d1 : decide ((126 : Int) < (r : Int)) = true := decide_eq_true (by omega)
        clear hx hd
        go_wp2
        go_ret
        rw [plainB_not hlt (by rw [HX.out]; simp [okC]; omega)]
        exact ⟨by first | rfl | (simp; done), below_alloc (Below.refl _ _) _⟩
    · obtain rfl : pos = s.size := by omega
      have hend := fun ty => run_next_end (P := Tryd.prog) w s s.size ty (by omega)
      go_wp2
      go_ret
      rw [plainB_all fun k hk => hB.out k hk hk]
      exact ⟨by first | rfl | (simp; done), below_alloc (Below.refl _ _) _⟩
set_option maxHeartbeats 4000000 in
set_option maxRecDepth 100000 in
theorem plain_ref (w : World) (s : ByteArray) (hs : s.size ≤ 1048576) : Calls Tryd.prog 15 #[.string s] w fun e w' => e = .returned (.bool (plainB s.data.toList)) ∧ w' = w := by
  go_enter Tryd.func15, Tryd.ntmps15
  go_wp2
  go_loopw [3] (fun v wr => ∃ pos : Nat, pos ≤ s.size ∧ v = .int .i64 pos ∧ wr = w ∧ Aside (∀ k (hk : k < s.size), k < pos → okC s[k] = true)) (fun v _ => s.size - (intOf v).toNat)
  case atStart => exact ⟨0, Nat.zero_le _, rfl, rfl, fun k hk h => absurd h (by omega)⟩
  case round =>
    obtain ⟨pos, hp, rfl, hwr, hE⟩ := hrel
    obtain rfl := hwr.symm
    have hB := Base.Aside.mk hE.out
    clear hE
    by_cases hlt : pos < s.size
    · generalize hx : s[pos] = x
      have hi : ∀ W : World, (Instr.index 9 (.string s) (.int .i64 (pos : Int))).run Tryd.prog W = .ok (.int .u8 (x.toNat : Int)) W := fun W => by
        rw [run_index_string W 9 s .i64 (pos : Int) Tryd.underlying9, dif_pos (by omega)]
        simp only [Int.toNat_natCast]
        rw [hx]
      have HF := Base.Aside.mk (show ∀ c : Bool, okC x = c → okC s[pos] = c from fun c h => by rw [hx]; exact h)
      clear hx
      by_cases h0 : x.toNat < 32
      · have d0 : decide ((x.toNat : Int) < 32) = true := decide_eq_true (by omega)
        go_wp2
        go_ret
        rw [plainB_not hlt (HF.out false (by simp [okC]; omega))]
        exact ⟨by first | rfl | (simp; done), rfl⟩
      · have d0 : decide ((x.toNat : Int) < 32) = false := decide_eq_false (by omega)
        by_cases h1 : 126 < x.toNat
        · have d1 : decide ((126 : Int) < (x.toNat : Int)) = true := decide_eq_true (by omega)
          go_wp2
          go_ret
          rw [plainB_not hlt (HF.out false (by simp [okC]; omega))]
          exact ⟨by first | rfl | (simp; done), rfl⟩
        · have d1 : decide ((126 : Int) < (x.toNat : Int)) = false := decide_eq_false (by omega)
          by_cases h2 : x.toNat = 34
          · have d2 : ((x.toNat : Int) == 34) = true := by simp; omega
            have H2 := Base.Aside.mk h2
            clear h2
            go_wp2
            go_ret
            rw [plainB_not hlt (HF.out false (by have := H2.out; simp [okC]; omega))]
            exact ⟨by first | rfl | (simp; done), rfl⟩
          · have d2 : ((x.toNat : Int) == 34) = false := by simp; omega
            by_cases h3 : x.toNat = 92
            · have d3 : ((x.toNat : Int) == 92) = true := by simp; omega
              have H3 := Base.Aside.mk h3
              clear h3
              go_wp2
              go_ret
              rw [plainB_not hlt (HF.out false (by have := H3.out; simp [okC]; omega))]
              exact ⟨by first | rfl | (simp; done), rfl⟩
            · have d3 : ((x.toNat : Int) == 92) = false := by simp; omega
              have H := Base.Aside.mk (And.intro h2 h3)
              clear h2 h3
              go_wp2
              refine ⟨⟨pos + 1, by omega, by simp, trivial, fun k hk hkp => ?_⟩, by simp [intOf]; omega⟩
              rcases Nat.lt_or_ge k pos with h | h
              · exact hB.out k hk h
              · obtain rfl : k = pos := by omega
                refine HF.out true ?_
                have := H.out
                simp [okC]
                omega
    · obtain rfl : pos = s.size := by omega
      go_wp2
      go_ret
      rw [plainB_all fun k hk => hB.out k hk hk]
      exact ⟨by first | rfl | (simp; done), rfl⟩
end Go.Proofs.YtafphlimklgijaaDoor.SpB
