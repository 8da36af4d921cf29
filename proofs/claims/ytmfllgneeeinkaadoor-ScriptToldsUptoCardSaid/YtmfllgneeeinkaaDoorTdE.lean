/- Proved: the names; Print's helpers (contracts for the law ScriptTolds). -/
import Derived.Test.YtmfllgneeeinkaaDoorTdD
import Derived.Deep.RegionWith
import Derived.Laws.RangeString
namespace Go.Proofs.YtmfllgneeeinkaaDoor.TdE
open Go.RowKit Go.Shelf Go.Proofs.YtmfllgneeeinkaaDoor.Base Go.Proofs.YtmfllgneeeinkaaDoor.TdA Go.Proofs.YtmfllgneeeinkaaDoor.TdB Go.Proofs.YtmfllgneeeinkaaDoor.TdC Go.Proofs.YtmfllgneeeinkaaDoor.TdD
set_option linter.unusedVariables false
set_option linter.unusedSimpArgs false

def Asc (w : World) : Prop := Lib.TabIs Tryd.prog w "strings.asciiSpace" .u8 Lib.asciiSpaceTab
def namesB : ByteArray := ⟨#[98, 117, 105, 108, 100]⟩
def wordsB : ByteArray := ⟨#[98, 117, 105, 108, 100, 32, 112, 97, 117, 115, 101, 32, 103, 111, 32, 100, 101, 115, 116, 114, 111, 121, 32, 112, 111, 107, 101, 32, 112, 101, 101, 107, 32, 115, 101, 116, 32, 114, 117, 110, 32, 99, 97, 108, 108, 32, 119, 114, 105, 116, 101, 32, 114, 101, 97, 100, 32, 114, 101, 109, 111, 118, 101, 32, 119, 97, 116, 99, 104, 32, 101, 118, 101, 110, 116, 32, 100, 105, 115, 107, 32, 116, 117, 114, 110, 32, 118, 105, 102, 32, 115, 101, 110, 100, 32, 100, 101, 108, 105, 118, 101, 114, 32, 116, 105, 99, 107, 32, 99, 111, 110, 115, 32, 100, 114, 97, 105, 110, 32, 102, 101, 101, 100]⟩
theorem asc_of (s : ByteArray) (h : (s.data.toList.all fun b => decide (b.toNat < 128)) = true) : ∀ (j : Nat) b, s.data.toList[j]? = some b → b.toNat < 128 := fun j b hj => by
  have := List.all_eq_true.1 h b (List.mem_of_getElem? hj)
  simpa using this
set_option maxRecDepth 100000 in
theorem words_len : (Lib.fields wordsB.data.toList).length = 23 := by decide +kernel
set_option maxRecDepth 100000 in
theorem words_0 : (Lib.fields wordsB.data.toList)[0]? = some [98, 117, 105, 108, 100] := by decide +kernel
set_option maxRecDepth 100000 in
theorem fields_calls (w : World) (ht : Asc w) : Calls Tryd.prog 22 #[.string wordsB] w fun e w' => e = .returned (.slice (some ⟨w.heap.size, 0, none⟩) 23 23) ∧ ∃ cs : Array Value, w' = w.alloc (.cells cs 9) ∧ cs[0]? = some (.string namesB) := by
  have := Tryd.strings_Fields wordsB w (by decide +kernel) (asc_of _ (by decide +kernel)) ht
  rw [words_len] at this
  refine this.mono ?_
  rintro e w' ⟨h1, h2⟩
  refine ⟨h1, _, h2, ?_⟩
  rw [List.getElem?_toArray, List.getElem?_map, words_0]
  rfl
set_option maxHeartbeats 4000000 in
set_option maxRecDepth 100000 in
theorem names_calls (w : World) (ht : Asc w) : Calls Tryd.prog 16 #[] w fun e w' => e = .returned (.slice (some ⟨w.heap.size, 0, none⟩) 23 23) ∧ ∃ cs : Array Value, w' = w.alloc (.cells cs 9) ∧ cs[0]? = some (.string namesB) := by
  have hf := fields_calls w ht
  unfold wordsB at hf
  go_enter Tryd.func16, Tryd.ntmps16
  go_wp2_with (first
    | (go_at_call 22; refine hf.mono ?_; rintro z w1 ⟨rfl, cs, hw1, hc⟩; have E1 := Base.Aside.mk (And.intro hw1 hc); clear hw1 hc)
    | go_in)
  go_ret
  exact ⟨by first | rfl | (simp; done), cs, E1.out⟩
set_option maxHeartbeats 4000000 in
set_option maxRecDepth 100000 in
theorem small_calls (w : World) (g : Nat) (t : TypeId) (a b c d : Int) (hb : w.heap[g]? = some (.cells #[.int .i64 a, .int .i64 b, .int .i64 c, .int .i64 d] t (0, 0))) (cap : Nat) (ha : a = 0) (hb2 : b = 3) (hc : c = 0) (hd : d = 0) :
    Calls Tryd.prog 17 #[.slice (some ⟨g, 0, none⟩) 4 cap] w fun e w' => e = .returned (.bool true) ∧ w' = w := by
  subst ha hb2 hc hd
  have C0 := fun i => blk_cell hb i
  have L0 := blk_lt hb
  go_enter Tryd.func17, Tryd.ntmps17
  go_wp2
  go_loopw [7] (fun i wr => ∃ k : Nat, k ≤ 4 ∧ i = .int .i64 k ∧ wr = w) (fun v _ => 4 - (intOf v).toNat)
  case atStart => exact ⟨0, Nat.zero_le _, rfl, rfl⟩
  case round =>
    obtain ⟨k, hk, rfl, hwr⟩ := hrel
    obtain rfl := hwr.symm
    match k, hk with
    | 0, _ => go_wp2; exact ⟨⟨1, by omega, by simp, trivial⟩, by simp [intOf]⟩
    | 1, _ => go_wp2; exact ⟨⟨2, by omega, by simp, trivial⟩, by simp [intOf]⟩
    | 2, _ => go_wp2; exact ⟨⟨3, by omega, by simp, trivial⟩, by simp [intOf]⟩
    | 3, _ => go_wp2; exact ⟨⟨4, by omega, by simp, trivial⟩, by simp [intOf]⟩
    | 4, _ =>
      go_wp2
      go_ret
      exact ⟨by first | rfl | (simp; done), rfl⟩
set_option maxHeartbeats 4000000 in
set_option maxRecDepth 100000 in
theorem plain_calls (w : World) : Calls Tryd.prog 18 #[.string ⟨#[]⟩] w fun e w' => e = .returned (.bool true) ∧ Below w.heap.size w w' := by
  go_enter Tryd.func18, Tryd.ntmps18
  have hend := run_next_end (P := Tryd.prog) w ⟨#[]⟩ 0 0 (by decide)
  go_wp2
  go_loopw [8] (fun v wr => wr = w.iter ⟨#[]⟩ 0) (fun _ _ => 0)
  case atStart => rfl
  case round =>
    obtain rfl := hrel
    go_wp2
    go_ret
    exact ⟨by first | rfl | (simp; done), below_alloc (Below.refl _ _) _⟩
end Go.Proofs.YtmfllgneeeinkaaDoor.TdE
