/- Proved: bytes as digits, on both sides (contracts for the law ScriptTolds). -/
import Derived.Test.YtafphlimklgijaaDoorTdA
namespace Go.Proofs.YtafphlimklgijaaDoor.TdB
open Go.RowKit Go.Shelf Go.Proofs.YtafphlimklgijaaDoor.Base Go.Proofs.YtafphlimklgijaaDoor.TdA
set_option linter.unusedVariables false

/-- The digit of a half byte; the digits of bytes. -/
def hexd (k : Nat) : UInt8 := if k < 10 then UInt8.ofNat (48 + k) else UInt8.ofNat (87 + k)
def hexs (l : List UInt8) : List UInt8 := l.flatMap fun x => [hexd (x.toNat / 16), hexd (x.toNat % 16)]
theorem hexs_snoc (l : List UInt8) (x : UInt8) : hexs (l ++ [x]) = hexs l ++ [hexd (x.toNat / 16), hexd (x.toNat % 16)] := by
  unfold hexs
  rw [List.flatMap_append]
  rfl
theorem hexs_len (l : List UInt8) : (hexs l).length = 2 * l.length := by
  induction l with
  | nil => rfl
  | cons x l ih =>
    have : hexs (x :: l) = [hexd (x.toNat / 16), hexd (x.toNat % 16)] ++ hexs l := rfl
    rw [this, List.length_append, ih, List.length_cons]
    simp
    omega
def hextab : ByteArray := ⟨#[48, 49, 50, 51, 52, 53, 54, 55, 56, 57, 97, 98, 99, 100, 101, 102]⟩
theorem fold_hextab : (⟨#[48, 49, 50, 51, 52, 53, 54, 55, 56, 57, 97, 98, 99, 100, 101, 102]⟩ : ByteArray) = hextab := rfl
theorem hextab_size : hextab.size = 16 := rfl
theorem hextab_at : ∀ k : Fin 16, hextab[k.val]'(by rw [hextab_size]; exact k.isLt) = hexd k.val := by decide
theorem run_index_hextab {P : Program} (w : World) (t : TypeId) (k : IntKind) (i : Int) (h : P.underlying t = some .string) (h0 : 0 ≤ i) (h1 : i ≤ 15) :
    (Instr.index t (.string hextab) (.int k i)).run P w = .ok (.int .u8 ((hexd i.toNat).toNat : Int)) w := by
  have hi : 0 ≤ i ∧ i < (hextab.size : Int) := by rw [hextab_size]; omega
  rw [run_index_string w t hextab k i h, dif_pos hi]
  have := hextab_at ⟨i.toNat, by omega⟩
  simp only at this
  rw [this]
attribute [local go_sem high] fold_hextab run_index_hextab
/-- A slice that holds bytes. -/
structure Holds (w : World) (x : Addr) (zs : List UInt8) : Prop where
  lt : x.block < w.heap.size
  cell : ∀ j (hj : j < zs.length), w.cell? (x.add j) = some (.int .u8 ((zs[j]).toNat : Int))
theorem Holds.below {w w' : World} {x : Addr} {zs : List UInt8} {B : Nat} (h : Holds w x zs) (hx : x.block < B) (hb : Below B w w') : Holds w' x zs :=
  ⟨Nat.lt_of_lt_of_le h.lt hb.size, fun j hj => (hb.cell (p := x.add j) (by rw [show (x.add j).block = x.block by unfold Addr.add; split <;> rfl]; exact hx)).trans (h.cell j hj)⟩
set_option maxHeartbeats 2000000 in
set_option maxRecDepth 100000 in
theorem hex_calls (w : World) (x : Addr) (c : Nat) (zs : List UInt8) (hl : zs.length ≤ 1048576) (hz : Holds w x zs) :
    Calls Tryd.prog 11 #[.slice (some x) zs.length c] w fun e w' => e = .returned (.string ⟨(hexs zs).toArray⟩) ∧ Below w.heap.size w w' := by
  go_enter Tryd.func11, Tryd.ntmps11
  go_wp2
  go_loopw [8] (fun v wr => ∃ (k : Nat) (W2 : World), k ≤ zs.length ∧ v = .int .i64 k ∧ wr = W2 ∧ Aside (Lib.IsBuilder 47 5 w.heap.size w.heap.size (Lib.byteCells (hexs (zs.take k))) W2 ∧ Below w.heap.size w W2)) (fun v _ => zs.length - (intOf v).toNat)
  case atStart =>
    refine ⟨0, _, Nat.zero_le _, rfl, rfl, .inl ⟨Nat.le_refl _, .slice none 0 0, blk_new _ _, World.ownsRow_nil _ _ _ _, by simp [Value.ownBlock]⟩, below_alloc (Below.refl _ _) _⟩
  case round =>
    obtain ⟨k, W2, hk, rfl, hwr, hE⟩ := hrel
    obtain rfl := hwr.symm
    by_cases hlt : k < zs.length
    · have hcell := (hz.below hz.lt hE.out.2).cell k hlt
      obtain ⟨y, hy⟩ : ∃ y : UInt8, zs[k] = y := ⟨_, rfl⟩
      rw [hy] at hcell
      have b0 := y.toNat_lt
      have b1 : (0 : Int) ≤ (y.toNat : Int) / 16 := by omega
      have b2 : (y.toNat : Int) / 16 ≤ 15 := by omega
      have b3 : (0 : Int) ≤ (y.toNat : Int) % 16 := by omega
      have b4 : (y.toNat : Int) % 16 ≤ 15 := by omega
      have hlen : (Lib.byteCells (hexs (zs.take k))).length + 1 ≤ 140737488355328 := by
        simp [Lib.byteCells, hexs_len]
        omega
      have hB0 := hE.out.1
      have hS0 := hE.out.2
      have hw1 := fun c => Tryd.Builder_WriteByte w.heap.size w.heap.size _ c W2 hB0 hlen hS0.size
      have hz5 : ∀ w5 : World, Below w.heap.size W2 w5 → w5.cell? (x.add k) = some (.int .u8 (y.toNat : Int)) := fun w5 h5 => by
        have := (hz.below hz.lt (hS0.trans h5)).cell k hlt
        rwa [hy] at this
      have hb6 : ∀ (w5 : World) (c : Int), Lib.BuilderAt 47 5 w.heap.size w.heap.size (.pointer (some ⟨w.heap.size, 0, none⟩)) (Lib.byteCells (hexs (zs.take k)) ++ [.int .u8 c]) w5 → Below w.heap.size W2 w5 → ∀ d, Calls Tryd.prog 20 #[.pointer (some ⟨w.heap.size, 0, none⟩), .int .u8 d] w5 fun e w' => e = .returned .nilIface ∧ (Lib.BuilderAt 47 5 w.heap.size w.heap.size (.pointer (some ⟨w.heap.size, 0, none⟩)) ((Lib.byteCells (hexs (zs.take k)) ++ [.int .u8 c]) ++ [.int .u8 d]) w' ∧ Below w.heap.size w w') := fun w5 c h5 h6 d =>
        (Tryd.Builder_WriteByte w.heap.size w.heap.size _ d w5 (.inr h5) (by rw [List.length_append]; simp only [List.length_singleton]; simp [Lib.byteCells, hexs_len]; omega) (hS0.trans h6).size).mono fun e w' h => ⟨h.1, h.2.1, (hS0.trans h6).trans h.2.2⟩
      clear hE hB0
      go_wp2_with (first
        | (go_at_call 20; refine (hw1 _).mono ?_; rintro z w5 ⟨rfl, hb5, hB5⟩; have hw6 := hb6 w5 _ hb5 hB5; clear hcell; have hcell := hz5 w5 hB5; clear hb5 hB5)
        | (go_at_call 20; refine (hw6 _).mono ?_; rintro z w6 ⟨rfl, hb6, hB6⟩; have E6 := Base.Aside.mk (And.intro hb6 hB6); clear hb6 hB6)
        | go_in)
      refine ⟨⟨k + 1, w6, by omega, by simp, rfl, .inr ?_, E6.out.2⟩, by simp [intOf]; omega⟩
      have e1 : zs.take (k + 1) = zs.take k ++ [y] := by rw [List.take_add_one, List.getElem?_eq_getElem hlt, hy]; rfl
      have := E6.out.1
      rw [e1, hexs_snoc]
      simpa [Lib.byteCells] using this
    · obtain rfl : k = zs.length := by omega
      rw [List.take_length] at hE
      have hB0 := hE.out.1
      have hS0 := hE.out.2
      have hst := Tryd.Builder_String_any w.heap.size w.heap.size (hexs zs) W2 hB0 hS0.size
      go_wp2_with (first
        | (go_at_call 21; refine hst.mono ?_; rintro z w6 ⟨rfl, hB6⟩; have E6 := Base.Aside.mk (hS0.trans hB6); clear hB6)
        | go_in)
      go_ret
      exact ⟨by first | rfl | (simp; done), E6.out⟩
end Go.Proofs.YtafphlimklgijaaDoor.TdB
