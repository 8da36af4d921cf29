/- Proved: numbers and bytes as text, on both sides (contracts for the law ScriptTolds). -/
import Derived.Test.YtafphlimklgijaaDoorBase
import Derived.Test.YtafphlimklgijaaDoorShelf
import Derived.OwnWalk
import Derived.Maps.AppendAt
import Derived.Lib.ItoaNum
import Derived.Lib.ItoaLen
import Derived.Laws.IdiomStrings
namespace Go.Proofs.YtafphlimklgijaaDoor.TdA
open Go.RowKit Go.Shelf Go.Proofs.YtafphlimklgijaaDoor.Base
set_option linter.unusedVariables false

theorem cat_eq (a b : List UInt8) : (⟨a.toArray⟩ : ByteArray) ++ ⟨b.toArray⟩ = ⟨(a ++ b).toArray⟩ := by
  apply ByteArray.ext
  simp [ByteArray.data_append]
theorem u8_nat (k : Nat) (h : k < 10) : (UInt8.ofNat (48 + k)).toNat = 48 + k := by
  rw [UInt8.toNat_ofNat']
  omega
/-- One byte in a new block, as a text. -/
theorem conv_one (w : World) (k : Nat) (hk : k < 10) : (convert 22 9 (.slice (some ⟨w.heap.size, 0, none⟩) 1 1)).run Tryd.prog (w.alloc (.cells #[.int .u8 (48 + (k : Int))] 5)) = .ok (.string ⟨#[UInt8.ofNat (48 + k)]⟩) (w.alloc (.cells #[.int .u8 (48 + (k : Int))] 5)) := by
  have := run_convert_bytes_back (P := Tryd.prog) (w.alloc (.cells #[.int .u8 (48 + (k : Int))] 5)) 22 9 5 ⟨w.heap.size, 0, none⟩ 1 [UInt8.ofNat (48 + k)] Tryd.underlying22 Tryd.underlying5 Tryd.underlying9 (fun j hj => by
    obtain rfl : j = 0 := by simpa using hj
    have := blk_cell (blk_new w (.cells #[.int .u8 (48 + (k : Int))] 5)) 0
    show World.cell? _ ⟨w.heap.size, 0, none⟩ = _
    rw [this]
    simp only [List.getElem_cons_zero, u8_nat k hk]
    rfl)
  exact this
set_option maxHeartbeats 2000000 in
set_option maxRecDepth 100000 in
theorem told_calls : ∀ (n : Nat) (hn : n ≤ 9223372036854775808) (w : World), n < 9223372036854775808 → Calls Tryd.prog 16 #[.int .i64 n] w fun e w' => e = .returned (.string ⟨(Lib.decDigits n).toArray⟩) ∧ Below w.heap.size w w' := by
  intro n
  induction n using Nat.strongRecOn with
  | _ n ih =>
    intro hn w hn2
    have hc := fun (W : World) => conv_one W (n % 10) (Nat.mod_lt _ (by omega))
    have hb := below_alloc (Below.refl w.heap.size w) (.cells #[.int .u8 (48 + ((n % 10 : Nat) : Int))] 5)
    have e1 : ((n % 10 : Nat) : Int) = (n : Int) % 10 := by omega
    rw [e1] at hb
    simp only [e1] at hc
    by_cases h : 10 ≤ n
    · have hd : decide ((10 : Int) ≤ (n : Int)) = true := decide_eq_true (by omega)
      have e2 : ((n / 10 : Nat) : Int) = (n : Int) / 10 := by omega
      have hih := fun W => ih (n / 10) (by omega) (by omega) W (by omega)
      simp only [e2] at hih
      have hl : ¬ 9223372036854775807 < (Lib.decDigits (n / 10)).length + 1 := by
        rw [Lib.decDigits_length]
        have := Lib.nDigits_le20 (n / 10) (by omega)
        omega
      go_enter Tryd.func16, Tryd.ntmps16
      go_wp2_with (first
        | (go_at_call 16; refine (hih _).mono ?_; rintro z w1 ⟨rfl, hB1⟩; have E1 := Aside.mk (below_step hb hB1); clear hB1)
        | go_in)
      go_ret
      refine ⟨?_, E1.out⟩
      have e3 : Lib.decDigits n = Lib.decDigits (n / 10) ++ [UInt8.ofNat (48 + n % 10)] := by rw [Lib.decDigits, dif_neg (by omega)]
      rw [e3, ← cat_eq]
      first | rfl | (simp; done)
    · have hd : decide ((10 : Int) ≤ (n : Int)) = false := decide_eq_false (by omega)
      go_enter Tryd.func16, Tryd.ntmps16
      go_wp2
      go_ret
      refine ⟨?_, hb⟩
      rw [Lib.decDigits, dif_pos (by omega), Nat.mod_eq_of_lt (show n < 10 by omega)]
      first | rfl | (simp; done)
end Go.Proofs.YtafphlimklgijaaDoor.TdA
