/- Proved: bytes as digits, by the document's own function (a contract for the law ScriptTolds). -/
import Derived.Test.YtafphlimklgijaaDoorTdB
import Derived.Deep.RegionHeld3
import Derived.Deep.AppendLies
import Derived.Lib.BufferRead
namespace Go.Proofs.YtafphlimklgijaaDoor.TdC
open Go.RowKit Go.Shelf Go.Proofs.YtafphlimklgijaaDoor.Base Go.Proofs.YtafphlimklgijaaDoor.TdA Go.Proofs.YtafphlimklgijaaDoor.TdB
set_option linter.unusedVariables false

theorem wrap8 (z : Int) : IntKind.u8.wrap z = z % 256 := by simp [IntKind.wrap, IntKind.signed, IntKind.bits]
theorem info5 : (Tryd.prog.info? 5).map (fun i => (i.zero, i.size, i.bytes)) = some (some (.int .u8 0), 1, 1) := by kernel_rfl
theorem row_below {W W' : World} {b e s k : Nat} {v : Value} {xs : List Value} (h : W.ownsRow b e s v k xs) (hb : Below W.heap.size W W') : W'.ownsRow b e s v k xs :=
  h.kept (row := none) ⟨hb.os, hb.tape, hb.output, hb.size, fun k hk _ => hb.block k hk⟩ (by cases hq : v.ownBlock; exact .inl rfl; exact .inr (by simp))
set_option maxHeartbeats 4000000 in
set_option maxRecDepth 100000 in
theorem digits_calls (w : World) (x : Addr) (c : Nat) (zs : List UInt8) (hl : zs.length ≤ 1048576) (hz : Holds w x zs) :
    Calls Tryd.prog 17 #[.slice (some x) zs.length c] w fun e w' => e = .returned (.string ⟨(hexs zs).toArray⟩) ∧ Below w.heap.size w w' := by
  obtain ⟨i0, hi0, hz0, hz1, hz2⟩ := info_parts info5
  go_enter Tryd.func17, Tryd.ntmps17
  go_wp2
  go_loopw [4, 5] (fun v i wr => ∃ (k : Nat) (W2 : World) (ov : Value), k ≤ zs.length ∧ i = .int .i64 k ∧ wr = W2 ∧ v = ov ∧ Aside (W2.ownsRow w.heap.size 5 1 ov (2 * k) (Lib.byteCells (hexs (zs.take k))) ∧ Below w.heap.size w W2)) (fun _ v _ => zs.length - (intOf v).toNat)
  case atStart =>
    exact ⟨0, w, _, Nat.zero_le _, rfl, rfl, rfl, World.ownsRow_nil _ _ _ _, Below.refl _ _⟩
  case round =>
    obtain ⟨k, W2, ov, hk, rfl, hwr, hov, hE⟩ := hrel
    obtain rfl := hwr.symm
    obtain rfl := hov.symm
    have hS0 := hE.out.2
    have hown := hE.out.1
    have HE := Base.Aside.mk hE.out
    clear hE
    by_cases hlt : k < zs.length
    · have hcell := (hz.below hz.lt hS0).cell k hlt
      obtain ⟨y, hy⟩ : ∃ y : UInt8, zs[k] = y := ⟨_, rfl⟩
      rw [hy] at hcell
      have b0 := y.toNat_lt
      have b1 : (0 : Int) ≤ (y.toNat : Int) / 16 := by omega
      have b2 : (y.toNat : Int) / 16 ≤ 15 := by omega
      have b3 : (0 : Int) ≤ (y.toNat : Int) % 16 := by omega
      have b4 : (y.toNat : Int) % 16 ≤ 15 := by omega
      have k0 : (0 : Int) ≤ (k : Int) := Int.natCast_nonneg _
      have k1 : (k : Int) < (zs.length : Int) := by omega
      have hxb : (x.add k).block = x.block := by unfold Addr.add; split <;> rfl
      have hxl : (x.add k).block < W2.heap.size := by rw [hxb]; exact Nat.lt_of_lt_of_le hz.lt hS0.size
      have ax : ov.ownBlock ≠ some (x.add k).block := fun e => by
        have h1 := (hown.lt _ e).1
        have h2 := hz.lt
        rw [hxb] at h1
        omega
      have hbz := hS0.size
      have hw7 : IntKind.u8.wrap ((y.toNat : Int) / 16) = (y.toNat : Int) / 16 := by
        rw [wrap8]
        omega
      have ht14 : (y.toNat : Int).tmod 16 = (y.toNat : Int) % 16 := Int.tmod_eq_emod_of_nonneg (by omega)
      have hx7 : ∀ W, (Instr.index 9 (.string ⟨#[48, 49, 50, 51, 52, 53, 54, 55, 56, 57, 97, 98, 99, 100, 101, 102]⟩) (.int .u8 ((y.toNat : Int) / 16))).run Tryd.prog W = .ok (.int .u8 ((hexd (y.toNat / 16)).toNat : Int)) W := fun W => run_index_hextab W _ _ _ Tryd.underlying9 b1 b2
      have hx14 : ∀ W, (Instr.index 9 (.string ⟨#[48, 49, 50, 51, 52, 53, 54, 55, 56, 57, 97, 98, 99, 100, 101, 102]⟩) (.int .u8 ((y.toNat : Int) % 16))).run Tryd.prog W = .ok (.int .u8 ((hexd (y.toNat % 16)).toNat : Int)) W := fun W => run_index_hextab W _ _ _ Tryd.underlying9 b3 b4
      go_wp2
      go_region_held3 (fun w' => w'.cell? (x.add k) = some (.int .u8 (y.toNat : Int)))
        (first
          | go_keep
          | (rw [hgrow.cell_far _ (by simp; omega) (Ne.symm ax)]; assumption))
        ((refine step_append_lies _ (by rfl) _ _ _ (by rfl) w.heap.size 5 i0 _ 1 1 Tryd.underlying22 hi0 hz0 hz1 hz2 rfl (by omega) ov (2 * k) (Lib.byteCells (hexs (zs.take k))) (by rfl) ((hown.alloc _).drew)
              ⟨W2.heap.size, 0, none⟩ 2 2 [.int .u8 ((hexd (y.toNat / 16)).toNat : Int), .int .u8 ((hexd (y.toNat % 16)).toNat : Int)] (by rfl) (by rfl) (World.news_of_block (cs := #[.int .u8 ((hexd (y.toNat / 16)).toNat : Int), .int .u8 ((hexd (y.toNat % 16)).toNat : Int)]) (t := 5) (fr := (0, 0)) (heap_alloc_new W2 _)) (by simp [Value.oneCell'])
              (by omega) (by unfold maxLen; omega) (by omega) (by simp; omega) (W2.heap.size + 1) (by simp) ?_; intro gg cap w1 hown1 hgrow hat hlt1))
      all_goals
        have hB1 : Below w.heap.size w w1 := ((hS0.alloc hS0.size _).drew).grown hgrow (by simp; omega) (fun j hj => (hown.lt j hj).1)
        have E1 := Base.Aside.mk (And.intro hown1 hB1)
        clear hown1 hB1 hgrow hat hlt1
        go_wp2
        refine ⟨⟨k + 1, w1, _, by omega, by simp, rfl, rfl, ?_, E1.out.2⟩, by simp [intOf]; omega⟩
        have e1 : zs.take (k + 1) = zs.take k ++ [y] := by rw [List.take_add_one, List.getElem?_eq_getElem hlt, hy]; rfl
        have := E1.out.1
        rw [e1, hexs_snoc, show 2 * (k + 1) = 2 * k + 2 from rfl]
        simpa [Lib.byteCells] using this
    · obtain rfl : k = zs.length := by omega
      rw [List.take_length] at hown HE
      have hrow := hown
      obtain ⟨_, ⟨rfl, h0⟩ | ⟨g, cap, cur, rfl, h1, h2, h3, h4, h5, h6⟩⟩ := hown
      · obtain rfl : zs = [] := List.length_eq_zero_iff.1 (by omega)
        have hcv := Lib.run_convert_nil_bytes (P := Tryd.prog) W2 22 9 5 0 Tryd.underlying22 Tryd.underlying5 Tryd.underlying9
        go_wp2
        go_ret
        exact ⟨by first | rfl | (simp; done), HE.out.2⟩
      · have hcv := run_convert_bytes_back (P := Tryd.prog) W2 22 9 5 ⟨g, 0, none⟩ cap (hexs zs) Tryd.underlying22 Tryd.underlying5 Tryd.underlying9 (fun j hj => by
          have := World.ownsRow.cellAt hrow j (by rw [hexs_len] at hj; omega)
          rw [show (⟨g, 0, none⟩ : Addr).add j = ⟨g, j, none⟩ by simp [Addr.add]; omega, this]
          simp [Lib.byteCells, List.getElem?_eq_getElem hj])
        rw [hexs_len] at hcv
        clear hrow h2 h6
        go_wp2
        go_ret
        exact ⟨by first | rfl | (simp; done), HE.out.2⟩
end Go.Proofs.YtafphlimklgijaaDoor.TdC
