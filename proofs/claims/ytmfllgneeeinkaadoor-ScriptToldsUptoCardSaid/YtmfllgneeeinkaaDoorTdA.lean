/- Proved: numbers and bytes as text, on both sides (contracts for the law ScriptTolds). -/
import Derived.Test.YtmfllgneeeinkaaDoorBase
import Derived.Test.YtmfllgneeeinkaaDoorShelf
import Derived.OwnWalk
import Derived.Maps.AppendAt
import Derived.Lib.ItoaNum
import Derived.Lib.ItoaLen
import Derived.Laws.IdiomStrings
namespace Go.Proofs.YtmfllgneeeinkaaDoor.TdA
open Go.RowKit Go.Shelf Go.Proofs.YtmfllgneeeinkaaDoor.Base
set_option linter.unusedVariables false

theorem cat_eq (a b : List UInt8) : (⟨a.toArray⟩ : ByteArray) ++ ⟨b.toArray⟩ = ⟨(a ++ b).toArray⟩ := by
  apply ByteArray.ext
  simp [ByteArray.data_append]
theorem u8_nat (k : Nat) (h : k < 10) : (UInt8.ofNat (48 + k)).toNat = 48 + k := by
  rw [UInt8.toNat_ofNat']
  omega
/-- One byte in a new block, as a text. -/
theorem conv_one (w : World) (k : Nat) (hk : k < 10) : (convert 23 9 (.slice (some ⟨w.heap.size, 0, none⟩) 1 1)).run Tryd.prog (w.alloc (.cells #[.int .u8 (48 + (k : Int))] 5)) = .ok (.string ⟨#[UInt8.ofNat (48 + k)]⟩) (w.alloc (.cells #[.int .u8 (48 + (k : Int))] 5)) := by
  have := run_convert_bytes_back (P := Tryd.prog) (w.alloc (.cells #[.int .u8 (48 + (k : Int))] 5)) 23 9 5 ⟨w.heap.size, 0, none⟩ 1 [UInt8.ofNat (48 + k)] Tryd.underlying23 Tryd.underlying5 Tryd.underlying9 (fun j hj => by
    obtain rfl : j = 0 := by simpa using hj
    have := blk_cell (blk_new w (.cells #[.int .u8 (48 + (k : Int))] 5)) 0
    show World.cell? _ ⟨w.heap.size, 0, none⟩ = _
    rw [this]
    simp only [List.getElem_cons_zero, u8_nat k hk]
    rfl)
  exact this
set_option maxHeartbeats 2000000 in
set_option maxRecDepth 100000 in
theorem told_calls : ∀ (n : Nat) (hn : n ≤ 9223372036854775808) (w : World), n < 9223372036854775808 → Calls Tryd.prog 15 #[.int .i64 n] w fun e w' => e = .returned (.string ⟨(Lib.decDigits n).toArray⟩) ∧ Below w.heap.size w w' := by
  intro n
  induction n using Nat.strongRecOn with
  | _ n ih =>
    intro hn w hn2
    have hc := fun (W : World) => conv_one W (n % 10) (Nat.mod_lt _ (by omega))
    have hb := below_alloc (Below.refl w.heap.size w) (.cells #[.int .u8 (48 + ((n % 10 : Nat) : Int))] 5)
    have e1 : ((n % 10 : Nat) : Int) = (n : Int) % 10 := by omega
    rw [e1] at hb
    simp only [e1] at hc
    by_cases h : 10 ≤ n
    · have hd : decide ((10 : Int) ≤ (n : Int)) = true := decide_eq_true (by omega)
      have e2 : ((n / 10 : Nat) : Int) = (n : Int) / 10 := by omega
      have hih := fun W => ih (n / 10) (by omega) (by omega) W (by omega)
      simp only [e2] at hih
      have hl : ¬ 9223372036854775807 < (Lib.decDigits (n / 10)).length + 1 := by
        rw [Lib.decDigits_length]
        have := Lib.nDigits_le20 (n / 10) (by omega)
        omega
      go_enter Tryd.func15, Tryd.ntmps15
      go_wp2_with (first
        | (go_at_call 15; refine (hih _).mono ?_; rintro z w1 ⟨rfl, hB1⟩; have E1 := Aside.mk (below_step hb hB1); clear hB1)
        | go_in)
      go_ret
      refine ⟨?_, E1.out⟩
      have e3 : Lib.decDigits n = Lib.decDigits (n / 10) ++ [UInt8.ofNat (48 + n % 10)] := by rw [Lib.decDigits, dif_neg (by omega)]
      rw [e3, ← cat_eq]
      first | rfl | (simp; done)
    · have hd : decide ((10 : Int) ≤ (n : Int)) = false := decide_eq_false (by omega)
      go_enter Tryd.func15, Tryd.ntmps15
      go_wp2
      go_ret
      refine ⟨?_, hb⟩
      rw [Lib.decDigits, dif_pos (by omega), Nat.mod_eq_of_lt (show n < 10 by omega)]
      first | rfl | (simp; done)
theorem itoa_min : Lib.itoa (-9223372036854775808) = [45, 57, 50, 50, 51, 51, 55, 50, 48, 51, 54, 56, 53, 52, 55, 55, 53, 56, 48, 56] := by
  simp [Lib.itoa, Lib.decDigits]
set_option maxHeartbeats 2000000 in
set_option maxRecDepth 100000 in
theorem signed_calls (n : Int) (h0 : -9223372036854775808 ≤ n) (h1 : n ≤ 9223372036854775807) (w : World) :
    Calls Tryd.prog 9 #[.int .i64 n] w fun e w' => e = .returned (.string ⟨(Lib.itoa n).toArray⟩) ∧ Below w.heap.size w w' := by
  by_cases hp : 0 ≤ n
  · obtain ⟨k, rfl⟩ : ∃ k : Nat, n = k := ⟨n.toNat, by omega⟩
    have e1 : Lib.itoa (k : Int) = Lib.decDigits k := by
      unfold Lib.itoa
      rw [if_neg (by omega)]
      rfl
    rw [e1]
    have ht := told_calls k (by omega) w (by omega)
    go_enter Tryd.func9, Tryd.ntmps9
    go_wp2_with (first
      | (go_at_call 15; refine ht.mono ?_; rintro z w1 ⟨rfl, hB1⟩; have E1 := Aside.mk hB1; clear hB1)
      | go_in)
    go_ret
    exact ⟨by first | rfl | (simp; done), E1.out⟩
  · by_cases hm : n = -9223372036854775808
    · subst hm
      rw [itoa_min]
      go_enter Tryd.func9, Tryd.ntmps9
      go_wp2
      go_ret
      exact ⟨by first | rfl | (simp; done), Below.refl _ _⟩
    · obtain ⟨k, rfl⟩ : ∃ k : Nat, n = -(k : Int) := ⟨(-n).toNat, by omega⟩
      have e1 : Lib.itoa (-(k : Int)) = 45 :: Lib.decDigits k := by
        unfold Lib.itoa
        rw [if_pos (by omega), Int.natAbs_neg, Int.natAbs_natCast]
      rw [e1]
      have d1 : decide ((0 : Int) ≤ -(k : Int)) = false := decide_eq_false (by omega)
      have d2 : (-(k : Int) == -9223372036854775808) = false := beq_eq_false_iff_ne.2 (by omega)
      have ht := told_calls k (by omega) w (by omega)
      have hl : ¬ 9223372036854775807 < 1 + (Lib.decDigits k).length := by
        rw [Lib.decDigits_length]
        have := Lib.nDigits_le20 k (by omega)
        omega
      go_enter Tryd.func9, Tryd.ntmps9
      go_wp2_with (first
        | (go_at_call 15; refine ht.mono ?_; rintro z w1 ⟨rfl, hB1⟩; have E1 := Aside.mk hB1; clear hB1)
        | go_in)
      go_ret
      refine ⟨?_, E1.out⟩
      rw [show (45 : UInt8) :: Lib.decDigits k = [45] ++ Lib.decDigits k from rfl, ← cat_eq]
      first | rfl | (simp; done)
end Go.Proofs.YtmfllgneeeinkaaDoor.TdA
