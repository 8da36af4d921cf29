/- Proved: GrantHandles answers true at every argument (the walk of the law). -/
import Derived.Test.YtjeobbhaoahdcaaGqC
import Derived.Outline
namespace Go.Proofs.Ytjeobbhaoahdcaa.GqD
open Go.RowKit Go.Maps Go.Proofs.Ytjeobbhaoahdcaa.Base Go.Proofs.Ytjeobbhaoahdcaa.GaA Go.Proofs.Ytjeobbhaoahdcaa.GaB Go.Proofs.Ytjeobbhaoahdcaa.GaC Go.Proofs.Ytjeobbhaoahdcaa.GmA Go.Proofs.Ytjeobbhaoahdcaa.GmB Go.Proofs.Ytjeobbhaoahdcaa.GmC Go.Proofs.Ytjeobbhaoahdcaa.GpA Go.Proofs.Ytjeobbhaoahdcaa.GgA Go.Proofs.Ytjeobbhaoahdcaa.GvA Go.Proofs.Ytjeobbhaoahdcaa.GeA Go.Proofs.Ytjeobbhaoahdcaa.GeB Go.Proofs.Ytjeobbhaoahdcaa.GfA Go.Proofs.Ytjeobbhaoahdcaa.GfB Go.Proofs.Ytjeobbhaoahdcaa.GfC Go.Proofs.Ytjeobbhaoahdcaa.GfD Go.Proofs.Ytjeobbhaoahdcaa.GfH Go.Proofs.Ytjeobbhaoahdcaa.GbA Go.Proofs.Ytjeobbhaoahdcaa.GbB Go.Proofs.Ytjeobbhaoahdcaa.GbC Go.Proofs.Ytjeobbhaoahdcaa.GkA Go.Proofs.Ytjeobbhaoahdcaa.GkB Go.Proofs.Ytjeobbhaoahdcaa.GlA Go.Proofs.Ytjeobbhaoahdcaa.GoB Go.Proofs.Ytjeobbhaoahdcaa.GjA Go.Proofs.Ytjeobbhaoahdcaa.GjB Go.Proofs.Ytjeobbhaoahdcaa.GjC Go.Proofs.Ytjeobbhaoahdcaa.GjD Go.Proofs.Ytjeobbhaoahdcaa.GjE Go.Proofs.Ytjeobbhaoahdcaa.GjF Go.Proofs.Ytjeobbhaoahdcaa.GjG Go.Proofs.Ytjeobbhaoahdcaa.GqA Go.Proofs.Ytjeobbhaoahdcaa.GqB Go.Proofs.Ytjeobbhaoahdcaa.GqC
set_option linter.unusedVariables false
set_option linter.unusedSimpArgs false

theorem hk_x {w W : World} {a : BA} {P Q : Value} {vb db k : Nat} (h : Hk w W a P Q vb db k) : W.heap[w.heap.size]? = some (.cells #[.pointer (some ⟨a.mb, 0, none⟩), .pointer (some ⟨a.gb, 0, none⟩), P, .pointer (some ⟨a.rb, 0, none⟩), .pointer (some ⟨a.hb, 0, none⟩), Q] 35 (0, 0)) ∧ Below w.heap.size w W := by
  obtain ⟨b, S, r, h1, h2, h3⟩ := h
  exact ⟨h3.x, h3.bel⟩
theorem hg_x {w W : World} {a : BA} {P Q : Value} {vb db k : Nat} (h : Hg w W a P Q vb db k) : W.heap[w.heap.size]? = some (.cells #[.pointer (some ⟨a.mb, 0, none⟩), .pointer (some ⟨a.gb, 0, none⟩), P, .pointer (some ⟨a.rb, 0, none⟩), .pointer (some ⟨a.hb, 0, none⟩), Q] 35 (0, 0)) := by
  obtain ⟨b, S, r, h1, h2, h3⟩ := h
  exact h3.x
theorem hk_start {w W W' : World} {a : BA} {P Q : Value} {vb db : Nat} (h : Bd w W a (layS (msB 3 0) eH) (layS (msB 3 0) eH) N3 P Q) (hx : a.xb = w.heap.size) (hb : Below W.heap.size W W') (hV : V2 W' vb db a.mb 0) (h1 : W.heap.size ≤ vb) (h2 : W.heap.size ≤ db) : Hk w W' a P Q vb db 0 := by
  have hw := hw_of h hx rfl hb hV h1 h2
  rw [← hf0 1 0 1 1, ← cb0 all1] at hw
  exact ⟨b0, _, 0, fun i _ => by rw [decide_eq_false (Nat.not_lt_zero i)]; rfl, he_eH, hw⟩
set_option maxHeartbeats 16000000 in
set_option maxRecDepth 100000 in
theorem law_calls (w : World) (A : Option Addr) (l c : Nat) (zs : List UInt8) (hl : l = zs.length) (hz : Bytes w A zs) (hmax : zs.length ≤ 9223372036854775807) :
    Calls Try.prog 5 #[.slice A l c] w fun e w' => e = .returned (.bool true) ∧ Below w.heap.size w w' := by
  subst hl
  have hbeg := begin_nil w
  have HZ := Base.Aside.mk hz
  clear hz
  go_enter Try.func5, Try.ntmps5
  go_wp2_with (first
    | (go_at_call 8; refine hbeg.mono ?_; rintro z w1 ⟨a, P, Q, rfl, hxb, hbd⟩; have hly := lay_lit hbd hxb; have E1 := Base.Aside.mk hxb; clear hxb hbd)
    | (go_at_call 21; (with_reducible refine hly.mono ?_); rintro z w2 ⟨rfl, hbd2⟩; have hx2 := xblk hbd2 E1.out; have C2 := (fun i => blk_cell hx2 i); have L2 := blk_lt hx2; have hvn := GvA.new_calls hbd2.bo.m (by show 0 < 13; omega); have E2 := Base.Aside.mk hbd2; clear hbd2 hx2)
    | (go_at_call 10; refine hvn.mono ?_; rintro z w3 ⟨vb, db, rfl, hv1, hv2, hV, hB3⟩; have E3 := Base.Aside.mk (hk_start E2.out E1.out hB3 hV hv1 hv2); clear hv1 hv2 hV hB3)
    | go_in)
  clear C2 L2 hvn hly hbeg
  go_loopw [7] (fun i wr => ∃ (k : Nat) (W2 : World), k ≤ 16 ∧ i = .int .i64 k ∧ wr = W2 ∧ Base.Aside (Hk w W2 a P Q vb db k)) (fun i _ => 16 - (intOf i).toNat)
  case atStart => exact ⟨0, _, by omega, rfl, rfl, E3⟩
  case round =>
    obtain ⟨k, W2, hk, rfl, hwr, hA⟩ := hrel
    obtain rfl := hwr.symm
    have C3 := fun i => blk_cell (hk_x hA.out).1 i
    have L3 := blk_lt (hk_x hA.out).1
    by_cases hlt : k < 16
    · have hmp := fun wr => hk_map hA.out hlt wr
      go_wp2_with (first
        | (go_at_call 22; refine (hmp _).mono ?_; rintro z w4 ⟨rfl, h4⟩; have E4 := Base.Aside.mk h4; clear h4)
        | go_in)
      exact ⟨⟨k + 1, w4, by omega, by simp, rfl, E4⟩, by simp [intOf]; omega⟩
    · obtain rfl : k = 16 := by omega
      have hmp := fun wr => hk_full hA.out wr
      go_wp2_with (first
        | (go_at_call 22; refine (hmp _).mono ?_; rintro z w4 ⟨rfl, h4⟩; have E4 := Base.Aside.mk h4; clear h4)
        | go_in)
      clear C3 L3 hmp
      go_loopw [12] (fun i wr => ∃ (k : Nat) (W2 : World), k ≤ zs.length ∧ i = .int .i64 k ∧ wr = W2 ∧ Base.Aside (Hk w W2 a P Q vb db 16)) (fun i _ => zs.length - (intOf i).toNat)
      case atStart => exact ⟨0, _, by omega, rfl, rfl, E4⟩
      case round =>
        obtain ⟨k, W3, hk, rfl, hwr, hB⟩ := hrel
        obtain rfl := hwr.symm
        have C5 := fun i => blk_cell (hk_x hB.out).1 i
        have L5 := blk_lt (hk_x hB.out).1
        by_cases hlt : k < zs.length
        · rcases HZ.out.below (hk_x hB.out).2 with hz0 | ⟨x, rfl, hx5⟩
          · exact absurd hlt (by rw [hz0]; simp)
          have c5 := hx5.cell k hlt
          obtain ⟨y, hy⟩ : ∃ y : Nat, y = (zs[k]).toNat := ⟨_, rfl⟩
          rw [← hy] at c5
          have hy2 : y < 256 := by rw [hy]; exact UInt8.toNat_lt _
          have hlx := hx5.lt
          obtain ⟨m, hm⟩ : ∃ m : Nat, m = y % 16 := ⟨_, rfl⟩
          have hm2 : m < 16 := by omega
          have hmi : (y : Int) % 16 = m := by omega
          have hmt : Int.tmod (y : Int) 16 = m := by rw [Int.tmod_eq_emod_of_nonneg (by omega)]; exact hmi
          have hun := hk_unmap hB.out hm2
          clear hx5 hy hm
          go_wp2_with (first
            | (go_at_call 23; refine hun.mono ?_; rintro z w6 ⟨rfl, h6⟩; have C6 := (fun i => blk_cell (hg_x h6) i); have L6 := blk_lt (hg_x h6); have hmp := (fun wr => hg_map h6 hm2 wr); clear h6)
            | (go_at_call 22; refine (hmp _).mono ?_; rintro z w7 ⟨rfl, h7⟩; have E7 := Base.Aside.mk h7; clear h7)
            | go_in)
          exact ⟨⟨k + 1, w7, by omega, by simp, rfl, E7⟩, by simp [intOf]; omega⟩
        · obtain rfl : k = zs.length := by omega
          have hmp := hk_maps hB.out
          go_wp2_with (first
            | (go_at_call 24; refine hmp.mono ?_; rintro z w6 ⟨⟨A2, c2, rfl⟩, h6⟩; have C6 := (fun i => blk_cell (hk_x h6).1 i); have L6 := blk_lt (hk_x h6).1; have hfo := hk_foreign h6; clear h6)
            | (go_at_call 25; refine hfo.mono ?_; rintro z w7 ⟨rfl, hB7⟩)
            | go_in)
          go_ret
          exact ⟨by first | rfl | (simp; done), hB7⟩
end Go.Proofs.Ytjeobbhaoahdcaa.GqD
