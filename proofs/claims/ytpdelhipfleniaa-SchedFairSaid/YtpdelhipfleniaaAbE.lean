/- Proved: what each call of the document's scheduler makes of the state that it holds (contracts for the laws of the scheduler). -/
import Derived.Test.YtpdelhipfleniaaAbD
import Derived.Laws.MakeOwn
namespace Go.Proofs.Ytpdelhipfleniaa.AbE
open Go.RowKit Go.Maps Go.Proofs.Ytpdelhipfleniaa.Base Go.Proofs.Ytpdelhipfleniaa.SchA Go.Proofs.Ytpdelhipfleniaa.PlB Go.Proofs.Ytpdelhipfleniaa.PlC Go.Proofs.Ytpdelhipfleniaa.PlD Go.Proofs.Ytpdelhipfleniaa.PlE Go.Proofs.Ytpdelhipfleniaa.PlF Go.Proofs.Ytpdelhipfleniaa.PlG Go.Proofs.Ytpdelhipfleniaa.PlH Go.Proofs.Ytpdelhipfleniaa.PlI Go.Proofs.Ytpdelhipfleniaa.PlJ Go.Proofs.Ytpdelhipfleniaa.PlK Go.Proofs.Ytpdelhipfleniaa.PlL Go.Proofs.Ytpdelhipfleniaa.RfA Go.Proofs.Ytpdelhipfleniaa.RfB Go.Proofs.Ytpdelhipfleniaa.RfC Go.Proofs.Ytpdelhipfleniaa.RfD Go.Proofs.Ytpdelhipfleniaa.RfE Go.Proofs.Ytpdelhipfleniaa.RfF Go.Proofs.Ytpdelhipfleniaa.RfG Go.Proofs.Ytpdelhipfleniaa.RfH Go.Proofs.Ytpdelhipfleniaa.AbA Go.Proofs.Ytpdelhipfleniaa.AbB Go.Proofs.Ytpdelhipfleniaa.AbC Go.Proofs.Ytpdelhipfleniaa.AbD
set_option linter.unusedVariables false

section
variable {X F : Nat → Prop} {w : World} {R L : Nat} {cs : Array Value} {p : Nat → Bool} {e : Nat → V} {qv : Value} {q : List Int} {t : Int} {σ : St} {S : Nat} {τ : St}
theorem rst_of (h : Ref X w R L cs p e qv q t) : ∃ F', Rst X F' w R ⟨p, e, q, t⟩ := ⟨_, L, cs, qv, h, fun k => Iff.rfl⟩
theorem rAdd (h : Rst X F w R σ) (hb : Old X w) (hi : Inv σ) (a b l : Int) :
    Calls Try.prog 31 #[.pointer (some ⟨R, 0, none⟩), .int .i64 a, .int .i64 b, .int .i64 l] w fun z w' => z = .returned (.tuple #[.int .i64 (addR σ a b l).1, .int .i64 (addR σ a b l).2.1]) ∧ ∃ F', Rst X F' w' R (addR σ a b l).2.2 ∧ Kept X w w' := by
  obtain ⟨L, cs, qv, hR, hF⟩ := id h
  unfold addR
  cases ho : okArgs a b l with
  | false =>
    refine (radd_bad hR a b l ho).mono ?_
    rintro z w1 ⟨rfl, rfl⟩
    exact ⟨rfl, F, h, Kept.refl _ _⟩
  | true =>
    cases hf : freeP σ.p with
    | none =>
      refine (radd_full hR a b l ho (freeP_none hf)).mono ?_
      rintro z w1 ⟨rfl, rfl⟩
      exact ⟨rfl, F, h, Kept.refl _ _⟩
    | some n =>
      obtain ⟨h16, hpn, hlow⟩ := freeP_some hf
      refine (radd_calls hR hb a b l ho n h16 hlow hpn).mono ?_
      rintro z w1 ⟨rfl, cs', h1, hK⟩
      obtain ⟨F', h2⟩ := rst_of h1
      exact ⟨rfl, F', h2, hK⟩
theorem rWake (h : Rst X F w R σ) (hb : Old X w) (hi : Inv σ) (n : Int) :
    Calls Try.prog 32 #[.pointer (some ⟨R, 0, none⟩), .int .i64 n] w fun z w' => z = .returned (.int .i64 (onS σ n wakeS).1) ∧ ∃ F', Rst X F' w' R (onS σ n wakeS).2 ∧ Kept X w w' := by
  obtain ⟨L, cs, qv, hR, hF⟩ := id h
  unfold onS
  cases ho : isn σ.p n with
  | false =>
    refine (rwake_none hR n ho).mono ?_
    rintro z w1 ⟨rfl, rfl⟩
    exact ⟨rfl, F, h, Kept.refl _ _⟩
  | true =>
    obtain ⟨k, rfl, h16, hpk⟩ := isn_some ho
    rw [Int.toNat_natCast]
    have hl := hi.len
    unfold wakeS
    cases hr : (σ.e k).ready with
    | true =>
      refine (rwake_ready hR k h16 hpk hr).mono ?_
      rintro z w1 ⟨rfl, rfl⟩
      exact ⟨rfl, F, h, Kept.refl _ _⟩
    | false =>
      refine (rwake_calls hR hb k h16 hpk hr (by omega)).mono ?_
      rintro z w1 ⟨rfl, cs', qv', h1, hK⟩
      obtain ⟨F', h2⟩ := rst_of h1
      exact ⟨rfl, F', h2, hK⟩
theorem rSleep (h : Rst X F w R σ) (hb : Old X w) (hi : Inv σ) (n : Int) :
    Calls Try.prog 33 #[.pointer (some ⟨R, 0, none⟩), .int .i64 n] w fun z w' => z = .returned (.int .i64 (onS σ n sleepS).1) ∧ ∃ F', Rst X F' w' R (onS σ n sleepS).2 ∧ Kept X w w' := by
  obtain ⟨L, cs, qv, hR, hF⟩ := id h
  unfold onS
  cases ho : isn σ.p n with
  | false =>
    refine (rsleep_none hR n ho).mono ?_
    rintro z w1 ⟨rfl, rfl⟩
    exact ⟨rfl, F, h, Kept.refl _ _⟩
  | true =>
    obtain ⟨k, rfl, h16, hpk⟩ := isn_some ho
    rw [Int.toNat_natCast]
    have hl := hi.len
    refine (rsleep_calls hR hb k h16 hpk (by omega)).mono ?_
    rintro z w1 ⟨rfl, cs', qv', h1, hK⟩
    obtain ⟨F', h2⟩ := rst_of h1
    exact ⟨rfl, F', h2, hK⟩
theorem rRemove (h : Rst X F w R σ) (hb : Old X w) (hi : Inv σ) (n : Int) :
    Calls Try.prog 34 #[.pointer (some ⟨R, 0, none⟩), .int .i64 n] w fun z w' => z = .returned (.int .i64 (onS σ n removeS).1) ∧ ∃ F', Rst X F' w' R (onS σ n removeS).2 ∧ Kept X w w' := by
  obtain ⟨L, cs, qv, hR, hF⟩ := id h
  unfold onS
  cases ho : isn σ.p n with
  | false =>
    refine (rremove_none hR n ho).mono ?_
    rintro z w1 ⟨rfl, rfl⟩
    exact ⟨rfl, F, h, Kept.refl _ _⟩
  | true =>
    obtain ⟨k, rfl, h16, hpk⟩ := isn_some ho
    rw [Int.toNat_natCast]
    have hl := hi.len
    refine (rremove_calls hR hb k h16 hpk (by omega)).mono ?_
    rintro z w1 ⟨rfl, cs', qv', h1, hK⟩
    obtain ⟨F', h2⟩ := rst_of h1
    exact ⟨rfl, F', h2, hK⟩
theorem rDrop (h : Rst X F w R σ) (hb : Old X w) (hi : Inv σ) (dom : Int) :
    Calls Try.prog 35 #[.pointer (some ⟨R, 0, none⟩), .int .i64 dom] w fun z w' => z = .returned (.int .i64 (dropC σ.p σ.e dom 16)) ∧ ∃ F', Rst X F' w' R (dropS σ dom) ∧ Kept X w w' := by
  obtain ⟨L, cs, qv, hR, hF⟩ := id h
  refine (rdrop_calls hR hb hi.qin hi.len dom).mono ?_
  rintro z w1 ⟨rfl, cs', qv', h1, hK⟩
  obtain ⟨F', h2⟩ := rst_of h1
  exact ⟨rfl, F', h2, hK⟩
theorem rTick (h : Rst X F w R σ) (hb : Old X w) (hi : Inv σ) (ht : σ.t < 9223372036854775807) :
    Calls Try.prog 22 #[.pointer (some ⟨R, 0, none⟩)] w fun z w' => z = .returned (.int .i64 (tickR σ.e σ.q)) ∧ ∃ F', Rst X F' w' R (tickS σ) ∧ Kept X w w' := by
  obtain ⟨L, cs, qv, hR, hF⟩ := id h
  unfold tickS
  cases hn : nextOf σ.q σ.e with
  | none =>
    refine (rtick_none hR hb hi.qin hi.val hi.len hi.some hi.t0 ht hn).mono ?_
    rintro z w1 ⟨rfl, cs', h1, hK⟩
    obtain ⟨F', h2⟩ := rst_of h1
    exact ⟨by rw [tickR_none hn], F', h2, hK⟩
  | some x =>
    obtain ⟨k, rfl, h16, hpk⟩ := hi.qin x (nextOf_mem hn)
    refine (rtick_some hR hb hi.qin hi.val hi.len hi.t0 ht k h16 hpk hn).mono ?_
    rintro z w1 ⟨rfl, cs', qv', h1, hK⟩
    obtain ⟨F', h2⟩ := rst_of h1
    exact ⟨by rw [tickR_some hn], F', h2, hK⟩
theorem rVcpu (h : Rst X F w R σ) (n : Int) :
    Calls Try.prog 36 #[.pointer (some ⟨R, 0, none⟩), .int .i64 n] w fun z w' => z = .returned (.tuple #[.agg (vcells (if isn σ.p n then σ.e n.toNat else zeroV)), .int .i64 (if isn σ.p n then 0 else 6)]) ∧ Below w.heap.size w w' := by
  obtain ⟨L, cs, qv, hR, hF⟩ := id h
  cases ho : isn σ.p n with
  | false => exact rvcpu_none hR n ho
  | true =>
    obtain ⟨k, rfl, h16, hpk⟩ := isn_some ho
    rw [Int.toNat_natCast]
    exact rvcpu_calls hR k h16 hpk
theorem infoS : (Try.prog.info? 71).map (fun i => (i.zero, i.size, i.bytes)) = some (some (.agg #[.bool false, .int .i64 0, .int .i64 0, .int .i64 0, .int .i64 0, .bool false, .int .i64 0]), 7, 56) := by kernel_rfl
def slots0 : Array Value := madeCells #[.bool false, .int .i64 0, .int .i64 0, .int .i64 0, .int .i64 0, .bool false, .int .i64 0] 112
theorem slots0_at (k : Nat) (hk : k < 16) (j : Nat) (hj : j < 7) : slots0[k * 7 + j]? = (scells false ⟨0, 0, 0, 0, false, 0⟩)[j]? := by
  have h1 : (k * 7 + j) % 7 = j := by omega
  unfold slots0 madeCells
  rw [Array.getElem?_map, Array.getElem?_range, if_pos (by omega)]
  show some (#[Value.bool false, Value.int .i64 0, Value.int .i64 0, Value.int .i64 0, Value.int .i64 0, Value.bool false, Value.int .i64 0][(k * 7 + j) % 7]!) = _
  rw [h1]
  match j, hj with
  | 0, _ => rfl
  | 1, _ => rfl
  | 2, _ => rfl
  | 3, _ => rfl
  | 4, _ => rfl
  | 5, _ => rfl
  | 6, _ => rfl
theorem make_slots (w : World) : (Instr.makeSlice 62 (.int .i64 16) (.int .i64 16)).run Try.prog w = .ok (.slice (some ⟨w.heap.size, 0, none⟩) 16 16) (w.alloc (.cells slots0 71)) := by
  obtain ⟨i0, hi, hz0, hz1, hz2⟩ := info_parts infoS
  have := run_make (P := Try.prog) w 62 71 i0 _ Try.underlying62 hi hz0 .i64 .i64 16 16 (by omega) (by omega) (by rw [hz2]; decide) (by omega)
  rw [hz1] at this
  exact this
set_option maxHeartbeats 2000000 in
set_option maxRecDepth 100000 in
theorem rnew_calls (w : World) : Calls Try.prog 19 #[] w fun z w' => ∃ R L cs, z = .returned (.pointer (some ⟨R, 0, none⟩)) ∧ Ref (fun k => k < w.heap.size) w' R L cs (fun _ => false) (fun _ => ⟨0, 0, 0, 0, false, 0⟩) (.slice none 0 0) [] 0 ∧ Below w.heap.size w w' := by
  have hmk := make_slots
  go_enter Try.func19, Try.ntmps19
  go_wp2
  go_ret
  have hL := blk_new w (.cells slots0 71)
  refine ⟨_, _, slots0, rfl, ⟨blk_newest (by simp) _, blk_alloc hL _, by simp [slots0, size_madeCells], slots0_at, World.ownsRow_nil _ _ _ _, fun h => absurd h (by simp), fun h => absurd h (by simp), fun g h => by cases h⟩, below_alloc (below_alloc (Below.refl _ _) _) _⟩

/-! ### Both side by side -/
theorem pair_new {S R L M : Nat} {cs : Array Value} {w w1 w2 : World} (hS : Sch (fun k => k < w.heap.size) w1 S M (fun _ => none) (fun _ => ⟨0, 0, 0, 0, false, 0⟩) 0 (.slice none 0 0) [] 0) (hb : Below w.heap.size w w1)
    (hR : Ref (fun k => k < w1.heap.size) w2 R L cs (fun _ => false) (fun _ => ⟨0, 0, 0, 0, false, 0⟩) (.slice none 0 0) [] 0) (hb2 : Below w1.heap.size w1 w2) :
    Pair (fun k => k < w.heap.size) w2 S R ⟨fun _ => false, fun _ => ⟨0, 0, 0, 0, false, 0⟩, [], 0⟩ ⟨fun _ => false, fun _ => ⟨0, 0, 0, 0, false, 0⟩, [], 0⟩ := by
  obtain ⟨F1, h1⟩ := sst_of (p := fun _ => false) hS (fun _ => rfl) (by decide)
  obtain ⟨F2, h2⟩ := rst_of hR
  refine ⟨fun k hk => Nat.lt_of_lt_of_le hk (Nat.le_trans hb.size hb2.size), F1, F2, h1.move (fun k hk => hb2.block k (h1.lt k hk)) (fun k hk hx => ?_), h2.move (fun _ _ => rfl) (fun k hk hx => ?_)⟩
  · rcases hx with hx | hx
    · exact h1.apart k hk hx
    · exact h2.apart k hx (h1.lt k hk)
  · rcases hx with hx | hx
    · exact h2.apart k hk (Nat.lt_of_lt_of_le hx hb.size)
    · exact h2.apart k hk (h1.lt k hx)
end
end Go.Proofs.Ytpdelhipfleniaa.AbE
