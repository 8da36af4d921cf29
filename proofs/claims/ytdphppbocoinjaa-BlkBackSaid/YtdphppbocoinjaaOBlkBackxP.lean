/- Proved: small functions of the block backend, walked (a printed text, its end by hand). -/
import Derived.Test.YtdphppbocoinjaaOBlkBackx0
import Derived.Test.YtdphppbocoinjaaOBlkBackx1
import Derived.Test.YtdphppbocoinjaaOBlkBackx2
import Derived.Test.YtdphppbocoinjaaOBlkBackx3
import Derived.Test.YtdphppbocoinjaaBase
import Derived.RegionTactic
import Derived.ChangeAlike
import Derived.Laws.CopyOwn
namespace Go.Proofs.Ytdphppbocoinjaa.PBlkBack
open Go.RowKit Go.Proofs.YtdphppbocoinjaaW.PrintWords Go.Proofs.YtdphppbocoinjaaW.PrintLast Go.Proofs.YtdphppbocoinjaaW.PrintMore
attribute [local go_sem] max2_int min2_int max_two min_two max_three min_three max_four min_four   -- for this text's walks alone
set_option linter.unusedVariables false
set_option linter.unusedSimpArgs false

attribute [local go_sem high] eqA81
/-! ### what blk.Pack comes to behind its loop -/
def hd8 (a n i s : Int) : List Int := [a % 256, n % 256, i % 256, i / 256 % 256, s % 256, s / 256 % 256, s / 65536 % 256, s / 16777216 % 256]
def blk_Pack.rest (op id sec : Int) (l : List S81) (pg : Int) (x7 : List Int) (x8 : Bool) : Option (List Int × List Int × Int) :=
  if 0 ≤ pg then
    (if x8 = true then some ([], [], 4) else (if op = 2 then some ([], [], 4) else
      ((blk_count.f op (l.length : Int) 16).bind fun t => (if t = true then some ((3 : Int) :: ((hd8 op l.length id sec).drop 1 ++ [pg % 256, op % 256, 0, 0, 0, 0, 0, 0]), x7, 0) else some ([], [], 4)))))
  else
    (if x8 = true then some ([], [], 4) else
      ((blk_count.f op (l.length : Int) 4).bind fun t => (if t = true then some (splice (hd8 op l.length id sec ++ [0, 0, 0, 0, 0, 0, 0, 0]) 8 (x7.take 8), [], 0) else some ([], [], 4))))
theorem run_make16 (w : World) : (Instr.makeSlice 22 (.int .i64 16) (.int .i64 16)).run Try.prog w = .ok (.slice (some ⟨w.heap.size, 0, none⟩) 16 16) (w.alloc (.cells #[.int .u8 0, .int .u8 0, .int .u8 0, .int .u8 0, .int .u8 0, .int .u8 0, .int .u8 0, .int .u8 0, .int .u8 0, .int .u8 0, .int .u8 0, .int .u8 0, .int .u8 0, .int .u8 0, .int .u8 0, .int .u8 0] 5)) := by
  obtain ⟨i0, hi, hzz⟩ := Option.map_eq_some_iff.1 info5
  simp only [Prod.mk.injEq] at hzz
  obtain ⟨hz0, hz1, hz2⟩ := hzz
  have h := run_makeSlice (P := Try.prog) (w := w) 22 5 i0 (.int .u8 0) Try.underlying22 hi hz0 .i64 .i64 16 16 (by decide) (by decide) (by rw [hz1]; decide) (by rw [hz2]; decide) (by decide)
  have hm : madeCells (Value.int .u8 0).cells (Int.toNat 16 * 1) = #[.int .u8 0, .int .u8 0, .int .u8 0, .int .u8 0, .int .u8 0, .int .u8 0, .int .u8 0, .int .u8 0, .int .u8 0, .int .u8 0, .int .u8 0, .int .u8 0, .int .u8 0, .int .u8 0, .int .u8 0, .int .u8 0] := by kernel_rfl
  rw [h, hz1, hm]
  rfl
def rowK (op n i s : Int) : Nat → Array Value
  | 0 => #[.int .u8 (op % 256), .int .u8 (n % 256), .int .u8 (i % 256), .int .u8 (i / 256 % 256), .int .u8 0, .int .u8 0, .int .u8 0, .int .u8 0, .int .u8 0, .int .u8 0, .int .u8 0, .int .u8 0, .int .u8 0, .int .u8 0, .int .u8 0, .int .u8 0]
  | 1 => #[.int .u8 (op % 256), .int .u8 (n % 256), .int .u8 (i % 256), .int .u8 (i / 256 % 256), .int .u8 (s % 256), .int .u8 0, .int .u8 0, .int .u8 0, .int .u8 0, .int .u8 0, .int .u8 0, .int .u8 0, .int .u8 0, .int .u8 0, .int .u8 0, .int .u8 0]
  | 2 => #[.int .u8 (op % 256), .int .u8 (n % 256), .int .u8 (i % 256), .int .u8 (i / 256 % 256), .int .u8 (s % 256), .int .u8 (s / 256 % 256), .int .u8 0, .int .u8 0, .int .u8 0, .int .u8 0, .int .u8 0, .int .u8 0, .int .u8 0, .int .u8 0, .int .u8 0, .int .u8 0]
  | 3 => #[.int .u8 (op % 256), .int .u8 (n % 256), .int .u8 (i % 256), .int .u8 (i / 256 % 256), .int .u8 (s % 256), .int .u8 (s / 256 % 256), .int .u8 (s / 65536 % 256), .int .u8 0, .int .u8 0, .int .u8 0, .int .u8 0, .int .u8 0, .int .u8 0, .int .u8 0, .int .u8 0, .int .u8 0]
  | _ => #[.int .u8 (op % 256), .int .u8 (n % 256), .int .u8 (i % 256), .int .u8 (i / 256 % 256), .int .u8 (s % 256), .int .u8 (s / 256 % 256), .int .u8 (s / 65536 % 256), .int .u8 (s / 16777216 % 256), .int .u8 0, .int .u8 0, .int .u8 0, .int .u8 0, .int .u8 0, .int .u8 0, .int .u8 0, .int .u8 0]
theorem reps_ints (W : World) (base : Nat) (ok : Nat → Prop) : ∀ xs : List Int, Reps ((Kd.int .u8).M W base ok) 1 xs (xs.map (Value.int .u8))
  | [] => Reps.none _ _
  | x :: xs => Reps.one (show Kd.M (Kd.int .u8) _ _ _ x [.int .u8 x] from rfl) (reps_ints W base ok xs)
theorem R_block {W : World} {base g n : Nat} {xs : List Int} {cs : Array Value} {ok : Nat → Prop} (hg : W.heap[g]? = some (.cells cs 5 (0, 0))) (hc : cs = (xs.map (Value.int .u8)).toArray) (hb : base ≤ g) (hl : xs.length = n) (hn : n ≤ 9223372036854775807) (hok : ok g) : (Kd.int .u8).R 5 W base ok (.slice (some ⟨g, 0, none⟩) n n) xs := by
  subst hl
  refine ⟨fun k hk => ?_, xs.map (Value.int .u8), ⟨?_, .inr ⟨g, xs.length, cs, rfl, hb, hg, Nat.le_refl _, hn, ?_, ?_⟩⟩, reps_ints _ _ _ _⟩
  · have : g = k := by simpa [Value.ownBlock] using hk
    subst this
    exact hok
  · rw [show (Kd.int .u8).sz = 1 from rfl, List.length_map, Nat.mul_one]
  · subst hc
    rw [show (Kd.int .u8).sz = 1 from rfl, List.size_toArray, List.length_map, Nat.mul_one]
  · subst hc
    rw [show (Kd.int .u8).sz = 1 from rfl, Nat.mul_one]
    exact List.take_of_length_le (by rw [List.length_map]; exact Nat.le_refl _)
def PkOut (w : World) (r1 r2 : List Int) (r3 : Int) (e : Ending) (w' : World) : Prop := ∃ v0_ v1_ : Value, e = .returned (.tuple #[v0_, v1_, .int .i64 r3]) ∧ Kd.R (Kd.int .u8) 5 w' w.heap.size (fun k_ => some k_ ≠ (v1_ : Value).ownBlock) v0_ r1 ∧ Kd.R (Kd.int .u8) 5 w' w.heap.size (fun k_ => some k_ ≠ (v0_ : Value).ownBlock) v1_ r2 ∧ Below w.heap.size w w'
theorem size5 : (Try.prog.info? 5).map (·.size) = some 1 := by kernel_rfl
theorem C_int {w : World} {A : Option Addr} {l : List Int} (h : (Kd.int .u8).C w A l.length l) (h0 : 0 < l.length) : ∃ ad, A = some ad ∧ ∀ j x, l[j]? = some x → w.cell? (ad.add j) = some (.int .u8 x) := by
  obtain ⟨_, _, h2⟩ := h
  obtain ⟨ad, e, hc⟩ := h2 h0
  refine ⟨ad, e, fun j x hj => ?_⟩
  obtain ⟨cs, hl, hk, hu⟩ := hc j x hj
  have hk' : cs = [.int .u8 x] := hk
  subst hk'
  have h3 := hu 0 (.int .u8 x) rfl
  rw [show j * (Kd.int .u8).sz + 0 = j from Nat.mul_one j] at h3
  exact h3
theorem take_cells {w : World} {A : Option Addr} {l : List Int} (h : (Kd.int .u8).C w A l.length l) (hp : 0 < ((l.take 8).map (Value.int .u8)).length) : ∃ ad, A = some ad ∧ ∀ j v, ((l.take 8).map (Value.int .u8))[j]? = some v → w.cell? (ad.add j) = some v := by
  have h0 : 0 < l.length := by
    rw [List.length_map, List.length_take] at hp
    omega
  obtain ⟨ad, hA, h1⟩ := C_int h h0
  exact ⟨ad, hA, fun j v hj => by
    rw [List.getElem?_map, List.getElem?_take] at hj
    split at hj
    · obtain ⟨x, hx, rfl⟩ := Option.map_eq_some_iff.1 hj
      exact h1 j x hx
    · simp at hj⟩
theorem splice_map (L cs : List Int) (o : Nat) : splice (L.map (Value.int .u8)) o (cs.map (Value.int .u8)) = (splice L o cs).map (Value.int .u8) := by
  simp [splice, List.map_take, List.map_drop]
theorem R_ng {W : World} {base g n m : Nat} {v : Value} {xs : List Int} (h : (Kd.int .u8).R 5 W base (fun k => k ≠ g) v xs) : (Kd.int .u8).R 5 W base (fun k_ => some k_ ≠ (Value.slice (some ⟨g, 0, none⟩) n m).ownBlock) v xs := Kd.R_mono h (fun k hk e => hk (Option.some.inj e))
theorem copy_run {W : World} {g : Nat} {A : Option Addr} {l : List Int} {c : Nat} {cur : List Value} (hg : W.heap[g]? = some (.cells cur.toArray 5 (0, 0))) (hl : cur.length = 16) (hC : (Kd.int .u8).C W A l.length l) :
    (Builtin.copy_ #[22, 22] 3 #[.slice (some ⟨g, 8, none⟩) 8 8, .slice A l.length c]).run Try.prog W = .ok (goInt ((l.take 8).map (Value.int .u8)).length) (W.setRow g (splice cur 8 ((l.take 8).map (Value.int .u8))).toArray) := by
  by_cases h0 : l.length = 0
  · obtain rfl : l = [] := List.eq_nil_of_length_eq_zero h0
    have h := run_copy_none (P := Try.prog) W 22 22 3 5 (some ⟨g, 8, none⟩) A 8 8 0 c Try.underlying22 size5 rfl
    refine h.trans ?_
    have hs : splice cur 8 (((([] : List Int).take 8).map (Value.int .u8))) = cur := by simp [splice]
    rw [hs, setRow_self W g _ 5 _ hg]
    rfl
  · have hlen : ((l.take 8).map (Value.int .u8)).length = min 8 l.length := by rw [List.length_map, List.length_take]
    obtain ⟨ad, rfl, hsrc⟩ := take_cells hC (by rw [hlen]; omega)
    have h := run_copy_row (P := Try.prog) W 22 22 3 5 g 8 8 8 ad l.length c cur.toArray 5 ((l.take 8).map (Value.int .u8)) Try.underlying22 size5 hg (by rw [hlen]; exact Nat.min_comm _ _) hsrc (by rw [hlen, List.size_toArray, hl]; omega) (fun v hv => by obtain ⟨x, hx, rfl⟩ := List.mem_map.1 hv; rfl)
    rw [h]
    simp [splice]
/-! ### blk_Pack: function 44 -/
mutual
def blk_Pack.j0 : Nat → (List Int → Bool → Option (List Int × List Int × Int)) → Bool → Int → Int → Int → List (S81) → Option (List Int × List Int × Int)
  | 0, _, _, _, _, _, _ => none
  | k + 1, T, x35, x151000, x151001, x151002, x151003 => if x35 = true then (some (([] : List Int), ([] : List Int), 1)) else (blk_Pack.l0 k T ([] : List Int) false x151003 (x151003.length : Int) 0)
def blk_Pack.l0 : Nat → (List Int → Bool → Option (List Int × List Int × Int)) → List Int → Bool → List (S81) → Int → Int → Option (List Int × List Int × Int)
  | 0, _, _, _, _, _, _ => none
  | k + 1, T, x7, x8, x37, x38, x39 => if x39 < x38 then (if 0 ≤ x39 then (if x39 < (x37.length : Int) then ((blk_in.f ((rd_T81 x37 x39).f0) 255).bind fun t157 => (if t157 = true then ((blk_in.f ((rd_T81 x37 x39).f1) 3).bind fun t158 => (if t158 = true then ((blk_in.f ((rd_T81 x37 x39).f2) 3).bind fun t159 => (if t159 = true then (if x8 = true then ((some (([((rd_T81 x37 x39).f0) % 256, (Go.bits .or .i64 ((rd_T81 x37 x39).f1) (wrap64 (((rd_T81 x37 x39).f2) * 4))) % 256] : List Int) : List Int)).bind fun y160 => (if x7.length + y160.length < 140737488355328 then (blk_Pack.l0 k T (x7 ++ y160) true x37 x38 (wrap64 (x39 + 1))) else (none))) else ((some (([((rd_T81 x37 x39).f0) % 256, (Go.bits .or .i64 ((rd_T81 x37 x39).f1) (wrap64 (((rd_T81 x37 x39).f2) * 4))) % 256] : List Int) : List Int)).bind fun y166 => (if x7.length + y166.length < 140737488355328 then (blk_Pack.l0 k T (x7 ++ y166) (decide (((rd_T81 x37 x39).f1) > ((rd_T81 x37 x39).f2))) x37 x38 (wrap64 (x39 + 1))) else (none)))) else (some (([] : List Int), ([] : List Int), 1)))) else (some (([] : List Int), ([] : List Int), 1)))) else (some (([] : List Int), ([] : List Int), 1)))) else (none)) else (none)) else (T x7 x8)
end
def blk_Pack.f (T : (List Int → Bool → Option (List Int × List Int × Int))) (k : Nat) (a0_0 : Int) (a0_1 : Int) (a0_2 : Int) (l0_3 : List (S81)) (a1 : Int) : Option (List Int × List Int × Int) := (blk_in.f a0_0 2).bind fun t151 => (if t151 = true then ((blk_in.f a0_1 65535).bind fun t152 => (if t152 = true then ((blk_in.f a0_2 4294967295).bind fun t153 => (if t153 = true then ((blk_in.f (wrap64 (a1 + 1)) 256).bind fun t154 => (blk_Pack.j0 k T (!t154) a0_0 a0_1 a0_2 l0_3)) else (blk_Pack.j0 k T true a0_0 a0_1 a0_2 l0_3))) else (blk_Pack.j0 k T true a0_0 a0_1 a0_2 l0_3))) else (blk_Pack.j0 k T true a0_0 a0_1 a0_2 l0_3))
theorem blk_Pack.mono_l (T : (List Int → Bool → Option (List Int × List Int × Int))) : ∀ k, (∀ y0 y1 y2 y3 y4, LeO (blk_Pack.j0 k T y0 y1 y2 y3 y4) (blk_Pack.j0 (k + 1) T y0 y1 y2 y3 y4)) ∧ (∀ y0 y1 y2 y3 y4, LeO (blk_Pack.l0 k T y0 y1 y2 y3 y4) (blk_Pack.l0 (k + 1) T y0 y1 y2 y3 y4))
  | 0 => ⟨fun _ _ _ _ _ r h => by simp [blk_Pack.j0] at h, fun _ _ _ _ _ r h => by simp [blk_Pack.l0] at h⟩
  | k + 1 => by
    obtain ⟨ih0, ih1⟩ := blk_Pack.mono_l T k
    refine ⟨?_, ?_⟩
    · intro y0 y1 y2 y3 y4
      unfold blk_Pack.j0
      repeat' first
      | (with_reducible exact ih0 _ _ _ _ _)
      | (with_reducible exact ih1 _ _ _ _ _)
      | (with_reducible exact LeO.refl _)
      | (with_reducible exact LeO.none _)
      | (with_reducible refine LeO.ite ?_ ?_)
      | (with_reducible refine LeO.bind ?_ (fun _ => ?_))
      | exact ih0 _ _ _ _ _
      | exact ih1 _ _ _ _ _
      | exact LeO.none _
      | refine LeO.ite ?_ ?_
      | refine LeO.bind ?_ (fun _ => ?_)
    · intro y0 y1 y2 y3 y4
      unfold blk_Pack.l0
      repeat' first
      | (with_reducible exact ih0 _ _ _ _ _)
      | (with_reducible exact ih1 _ _ _ _ _)
      | (with_reducible exact LeO.refl _)
      | (with_reducible exact LeO.none _)
      | (with_reducible refine LeO.ite ?_ ?_)
      | (with_reducible refine LeO.bind ?_ (fun _ => ?_))
      | exact ih0 _ _ _ _ _
      | exact ih1 _ _ _ _ _
      | exact LeO.none _
      | refine LeO.ite ?_ ?_
      | refine LeO.bind ?_ (fun _ => ?_)
theorem blk_Pack.mono (T : (List Int → Bool → Option (List Int × List Int × Int))) : ∀ a0 a1 a2 a3 a4 k, LeO (blk_Pack.f T k a0 a1 a2 a3 a4) (blk_Pack.f T (k + 1) a0 a1 a2 a3 a4) := by
  intro a0 a1 a2 a3 a4 k
  obtain ⟨ih0, ih1⟩ := blk_Pack.mono_l T k
  unfold blk_Pack.f
  repeat' first
      | (with_reducible exact ih0 _ _ _ _ _)
      | (with_reducible exact ih1 _ _ _ _ _)
      | (with_reducible exact LeO.refl _)
      | (with_reducible exact LeO.none _)
      | (with_reducible refine LeO.ite ?_ ?_)
      | (with_reducible refine LeO.bind ?_ (fun _ => ?_))
      | exact ih0 _ _ _ _ _
      | exact ih1 _ _ _ _ _
      | exact LeO.none _
      | refine LeO.ite ?_ ?_
      | refine LeO.bind ?_ (fun _ => ?_)
set_option maxHeartbeats 8000000 in
set_option maxRecDepth 100000 in
theorem blk_Pack.calls (T : (List Int → Bool → Option (List Int × List Int × Int))) (k : Nat) (a0_0 : Int) (a0_1 : Int) (a0_2 : Int) (A0_3 : Option Addr) (c0_3 : Nat) (l0_3 : List (S81)) (a1 : Int) (r1 : List Int) (r2 : List Int) (r3 : Int) (w : World) (hT : T = blk_Pack.rest a0_0 a0_1 a0_2 l0_3 a1) (hr0_3 : Kd.C k81 w A0_3 l0_3.length l0_3) (hc0_3 : l0_3.length ≤ c0_3) (h : blk_Pack.f T k a0_0 a0_1 a0_2 l0_3 a1 = some (r1, r2, r3)) :
    Calls Try.prog 44 #[.agg #[.int .i64 a0_0, .int .i64 a0_1, .int .i64 a0_2, .slice A0_3 l0_3.length c0_3], .int .i64 a1] w fun e w' => ∃ v0_ v1_ : Value, e = .returned (.tuple #[v0_, v1_, .int .i64 r3]) ∧ Kd.R (Kd.int .u8) 5 w' w.heap.size (fun k_ => some k_ ≠ (v1_ : Value).ownBlock) v0_ r1 ∧ Kd.R (Kd.int .u8) 5 w' w.heap.size (fun k_ => some k_ ≠ (v0_ : Value).ownBlock) v1_ r2 ∧ Below w.heap.size w w' := by
  have hu66 := Try.underlying66
  have hu81 := Try.underlying81
  have HR0_3 := Aside0.mk hr0_3
  have HC0_3 := Aside0.mk hc0_3
  clear hr0_3 hc0_3
  have HB := Aside0.mk (Below.refl w.heap.size w)
  have H : ((blk_in.f a0_0 2).bind fun t151 => (if t151 = true then ((blk_in.f a0_1 65535).bind fun t152 => (if t152 = true then ((blk_in.f a0_2 4294967295).bind fun t153 => (if t153 = true then ((blk_in.f (wrap64 (a1 + 1)) 256).bind fun t154 => (blk_Pack.j0 k T (!t154) a0_0 a0_1 a0_2 l0_3)) else (blk_Pack.j0 k T true a0_0 a0_1 a0_2 l0_3))) else (blk_Pack.j0 k T true a0_0 a0_1 a0_2 l0_3))) else (blk_Pack.j0 k T true a0_0 a0_1 a0_2 l0_3))) = some (r1, r2, r3) := h
  clear h
  have HC3 := Aside0.mk H
  clear H
  go_enter Try.func44, Try.ntmps44
  go_upto_region 1 with (first | ((with_reducible refine gate_dst (N := 2) rfl ?_); (try (refine gate_guard (by rfl) ?_; dsimp only)); refine box_event ?hg (N := 2) ?hd (cs := #[.int .i64 a0_0, .int .i64 a0_1, .int .i64 a0_2, .slice A0_3 l0_3.length c0_3]) (t := 66) ?hr ?_; (case hd => rfl); (case hg => rfl); (case hr => first | (go_simp; done) | (go_simp; rfl)); intro gb150 hg w4 hbox hb; have n0_ := Aside0.mk (below_step (by repeat (first | (with_reducible first | exact HB.out | apply below_alloc | apply pw_below_drewN | apply below_drew1) | exact HB.out)) hb); have n1_ := Aside0.mk (hbox); have n2_ := Aside0.mk ((by rw [hg]; exact (below_size (by repeat (first | (with_reducible first | exact HB.out | apply below_alloc | apply pw_below_drewN | apply below_drew1) | exact HB.out))) : w.heap.size ≤ gb150)); have n3_ := Aside0.mk ((by rw [hg]; exact (below_size (by repeat (first | (with_reducible first | exact HB.out | apply below_alloc | apply pw_below_drewN | apply below_drew1) | exact HB.out))) : w.heap.size ≤ gb150)); clear HB; have HB := n0_; have BK150 := n1_; have GW150 := n2_; have GE150 := n3_; clear n0_ n1_ n2_ n3_; clear hb hbox hg))
  (try simp only [Act.put, List.setIfInBounds_toArray, List.set_cons_zero, List.set_cons_succ])
  go_cut [35] (fun v35 wc => ∃ (kq : Nat) (x35_2 : Bool), v35 = .bool x35_2 ∧ Aside0 (blk_Pack.j0 kq T x35_2 a0_0 a0_1 a0_2 l0_3 = some (r1, r2, r3)) ∧ Aside0 (kq ≤ k) ∧ Aside0 (wc.heap[gb150]? = some (.cells #[.int .i64 a0_0, .int .i64 a0_1, .int .i64 a0_2, (.slice A0_3 l0_3.length c0_3)] 66 (0, 0))) ∧ Aside0 (Below w.heap.size w wc))
  case first => as_aux_lemma =>
    have H := HC3.out
    clear HC3
    replace H := Option.bind_eq_some_iff.mp H
    obtain ⟨t151, A50, H⟩ := H
    replace H : (if t151 = true then ((blk_in.f a0_1 65535).bind fun t152 => (if t152 = true then ((blk_in.f a0_2 4294967295).bind fun t153 => (if t153 = true then ((blk_in.f (wrap64 (a1 + 1)) 256).bind fun t154 => (blk_Pack.j0 k T (!t154) a0_0 a0_1 a0_2 l0_3)) else (blk_Pack.j0 k T true a0_0 a0_1 a0_2 l0_3))) else (blk_Pack.j0 k T true a0_0 a0_1 a0_2 l0_3))) else (blk_Pack.j0 k T true a0_0 a0_1 a0_2 l0_3)) = some (r1, r2, r3) := H
    have A5 := Aside0.mk A50
    clear A50
    by_cases c6 : t151 = true
    · subst c6
      have H1 : ((blk_in.f a0_1 65535).bind fun t152 => (if t152 = true then ((blk_in.f a0_2 4294967295).bind fun t153 => (if t153 = true then ((blk_in.f (wrap64 (a1 + 1)) 256).bind fun t154 => (blk_Pack.j0 k T (!t154) a0_0 a0_1 a0_2 l0_3)) else (blk_Pack.j0 k T true a0_0 a0_1 a0_2 l0_3))) else (blk_Pack.j0 k T true a0_0 a0_1 a0_2 l0_3))) = some (r1, r2, r3) := by rw [if_pos rfl] at H; exact H
      clear H
      have H := H1
      clear H1
      replace H := Option.bind_eq_some_iff.mp H
      obtain ⟨t152, A70, H⟩ := H
      replace H : (if t152 = true then ((blk_in.f a0_2 4294967295).bind fun t153 => (if t153 = true then ((blk_in.f (wrap64 (a1 + 1)) 256).bind fun t154 => (blk_Pack.j0 k T (!t154) a0_0 a0_1 a0_2 l0_3)) else (blk_Pack.j0 k T true a0_0 a0_1 a0_2 l0_3))) else (blk_Pack.j0 k T true a0_0 a0_1 a0_2 l0_3)) = some (r1, r2, r3) := H
      have A7 := Aside0.mk A70
      clear A70
      by_cases c8 : t152 = true
      · subst c8
        have H1 : ((blk_in.f a0_2 4294967295).bind fun t153 => (if t153 = true then ((blk_in.f (wrap64 (a1 + 1)) 256).bind fun t154 => (blk_Pack.j0 k T (!t154) a0_0 a0_1 a0_2 l0_3)) else (blk_Pack.j0 k T true a0_0 a0_1 a0_2 l0_3))) = some (r1, r2, r3) := by rw [if_pos rfl] at H; exact H
        clear H
        have H := H1
        clear H1
        replace H := Option.bind_eq_some_iff.mp H
        obtain ⟨t153, A90, H⟩ := H
        replace H : (if t153 = true then ((blk_in.f (wrap64 (a1 + 1)) 256).bind fun t154 => (blk_Pack.j0 k T (!t154) a0_0 a0_1 a0_2 l0_3)) else (blk_Pack.j0 k T true a0_0 a0_1 a0_2 l0_3)) = some (r1, r2, r3) := H
        have A9 := Aside0.mk A90
        clear A90
        by_cases c10 : t153 = true
        · subst c10
          have H1 : ((blk_in.f (wrap64 (a1 + 1)) 256).bind fun t154 => (blk_Pack.j0 k T (!t154) a0_0 a0_1 a0_2 l0_3)) = some (r1, r2, r3) := by rw [if_pos rfl] at H; exact H
          clear H
          have H := H1
          clear H1
          replace H := Option.bind_eq_some_iff.mp H
          obtain ⟨t154, A110, H⟩ := H
          replace H : (blk_Pack.j0 k T (!t154) a0_0 a0_1 a0_2 l0_3) = some (r1, r2, r3) := H
          have A11 := Aside0.mk A110
          clear A110
          have H' := Aside0.mk H
          clear H
          have hcz12_0 : w4.cell? ⟨gb150, 0, none⟩ = some (.int .i64 a0_0) := (blk_cell BK150.out 0).trans rfl
          have hcz12_1 : w4.cell? ⟨gb150, 1, none⟩ = some (.int .i64 a0_1) := (blk_cell BK150.out 1).trans rfl
          have hcz12_2 : w4.cell? ⟨gb150, 2, none⟩ = some (.int .i64 a0_2) := (blk_cell BK150.out 2).trans rfl
          have hcz12_3 : w4.cell? ⟨gb150, 3, none⟩ = some (.slice A0_3 l0_3.length c0_3) := (blk_cell BK150.out 3).trans rfl
          have hfz12_0 := blk_frozen BK150.out 0
          have hfz12_1 := blk_frozen BK150.out 1
          have hfz12_2 := blk_frozen BK150.out 2
          have hfz12_3 := blk_frozen BK150.out 3
          go_wp2_with (first | ((with_reducible refine gate_callee (f := 48) rfl ?_); refine goesL_ (some 16) rfl rfl Try.func48 (by kernel_rfl) rfl #[.int .i64 a0_0, .int .i64 2] rfl (by (try simp only [List.map_toArray, List.map_cons, List.map_nil]); first | done | rfl | (simp only [List.length_drop, List.length_take]; rfl)) ?_; (with_reducible refine (blk_in.calls a0_0 2 true _ A5.out).mono ?_); rintro e w' ⟨rfl, ⟨nd, rfl⟩⟩; refine ⟨_, rfl, ?_⟩) | (go_at_call 48; (with_reducible refine (blk_in.calls a0_1 65535 true _ A7.out).mono ?_); rintro e w' ⟨rfl, ⟨nd, rfl⟩⟩) | (go_at_call 48; (with_reducible refine (blk_in.calls a0_2 4294967295 true _ A9.out).mono ?_); rintro e w' ⟨rfl, ⟨nd, rfl⟩⟩) | (go_at_call 48; (with_reducible refine (blk_in.calls (wrap64 (a1 + 1)) 256 t154 _ A11.out).mono ?_); rintro e w' ⟨rfl, ⟨nd, rfl⟩⟩))
          go_meet
          case rel => exact ⟨_, (!t154), (by first | rfl | (simp; done) | (simp [*]; done)), H', ⟨by first | omega | exact Nat.le_refl _⟩, ⟨by (with_reducible repeat (first | refine blk_drewN ?_ _ | refine blk_drew ?_ | refine blk_alloc ?_ _)); exact BK150.out⟩, ⟨by repeat (first | (with_reducible first | exact HB.out | apply below_alloc | apply pw_below_drewN | apply below_drew1 | refine below_set ?_ GE150.out) | exact HB.out)⟩⟩
        · replace c10 := Bool.eq_false_iff.mpr c10
          subst c10
          have H1 : (blk_Pack.j0 k T true a0_0 a0_1 a0_2 l0_3) = some (r1, r2, r3) := by rw [if_neg (show ¬ (false = true) by decide)] at H; exact H
          clear H
          have H := H1
          clear H1
          have H' := Aside0.mk H
          clear H
          have hcz13_0 : w4.cell? ⟨gb150, 0, none⟩ = some (.int .i64 a0_0) := (blk_cell BK150.out 0).trans rfl
          have hcz13_1 : w4.cell? ⟨gb150, 1, none⟩ = some (.int .i64 a0_1) := (blk_cell BK150.out 1).trans rfl
          have hcz13_2 : w4.cell? ⟨gb150, 2, none⟩ = some (.int .i64 a0_2) := (blk_cell BK150.out 2).trans rfl
          have hcz13_3 : w4.cell? ⟨gb150, 3, none⟩ = some (.slice A0_3 l0_3.length c0_3) := (blk_cell BK150.out 3).trans rfl
          have hfz13_0 := blk_frozen BK150.out 0
          have hfz13_1 := blk_frozen BK150.out 1
          have hfz13_2 := blk_frozen BK150.out 2
          have hfz13_3 := blk_frozen BK150.out 3
          go_wp2_with (first | ((with_reducible refine gate_callee (f := 48) rfl ?_); refine goesL_ (some 16) rfl rfl Try.func48 (by kernel_rfl) rfl #[.int .i64 a0_0, .int .i64 2] rfl (by (try simp only [List.map_toArray, List.map_cons, List.map_nil]); first | done | rfl | (simp only [List.length_drop, List.length_take]; rfl)) ?_; (with_reducible refine (blk_in.calls a0_0 2 true _ A5.out).mono ?_); rintro e w' ⟨rfl, ⟨nd, rfl⟩⟩; refine ⟨_, rfl, ?_⟩) | (go_at_call 48; (with_reducible refine (blk_in.calls a0_1 65535 true _ A7.out).mono ?_); rintro e w' ⟨rfl, ⟨nd, rfl⟩⟩) | (go_at_call 48; (with_reducible refine (blk_in.calls a0_2 4294967295 false _ A9.out).mono ?_); rintro e w' ⟨rfl, ⟨nd, rfl⟩⟩))
          go_meet
          case rel => exact ⟨_, (true), (by first | rfl | (simp; done) | (simp [*]; done)), H', ⟨by first | omega | exact Nat.le_refl _⟩, ⟨by (with_reducible repeat (first | refine blk_drewN ?_ _ | refine blk_drew ?_ | refine blk_alloc ?_ _)); exact BK150.out⟩, ⟨by repeat (first | (with_reducible first | exact HB.out | apply below_alloc | apply pw_below_drewN | apply below_drew1 | refine below_set ?_ GE150.out) | exact HB.out)⟩⟩
      · replace c8 := Bool.eq_false_iff.mpr c8
        subst c8
        have H1 : (blk_Pack.j0 k T true a0_0 a0_1 a0_2 l0_3) = some (r1, r2, r3) := by rw [if_neg (show ¬ (false = true) by decide)] at H; exact H
        clear H
        have H := H1
        clear H1
        have H' := Aside0.mk H
        clear H
        have hcz14_0 : w4.cell? ⟨gb150, 0, none⟩ = some (.int .i64 a0_0) := (blk_cell BK150.out 0).trans rfl
        have hcz14_1 : w4.cell? ⟨gb150, 1, none⟩ = some (.int .i64 a0_1) := (blk_cell BK150.out 1).trans rfl
        have hcz14_2 : w4.cell? ⟨gb150, 2, none⟩ = some (.int .i64 a0_2) := (blk_cell BK150.out 2).trans rfl
        have hcz14_3 : w4.cell? ⟨gb150, 3, none⟩ = some (.slice A0_3 l0_3.length c0_3) := (blk_cell BK150.out 3).trans rfl
        have hfz14_0 := blk_frozen BK150.out 0
        have hfz14_1 := blk_frozen BK150.out 1
        have hfz14_2 := blk_frozen BK150.out 2
        have hfz14_3 := blk_frozen BK150.out 3
        go_wp2_with (first | ((with_reducible refine gate_callee (f := 48) rfl ?_); refine goesL_ (some 16) rfl rfl Try.func48 (by kernel_rfl) rfl #[.int .i64 a0_0, .int .i64 2] rfl (by (try simp only [List.map_toArray, List.map_cons, List.map_nil]); first | done | rfl | (simp only [List.length_drop, List.length_take]; rfl)) ?_; (with_reducible refine (blk_in.calls a0_0 2 true _ A5.out).mono ?_); rintro e w' ⟨rfl, ⟨nd, rfl⟩⟩; refine ⟨_, rfl, ?_⟩) | (go_at_call 48; (with_reducible refine (blk_in.calls a0_1 65535 false _ A7.out).mono ?_); rintro e w' ⟨rfl, ⟨nd, rfl⟩⟩))
        go_meet
        case rel => exact ⟨_, (true), (by first | rfl | (simp; done) | (simp [*]; done)), H', ⟨by first | omega | exact Nat.le_refl _⟩, ⟨by (with_reducible repeat (first | refine blk_drewN ?_ _ | refine blk_drew ?_ | refine blk_alloc ?_ _)); exact BK150.out⟩, ⟨by repeat (first | (with_reducible first | exact HB.out | apply below_alloc | apply pw_below_drewN | apply below_drew1 | refine below_set ?_ GE150.out) | exact HB.out)⟩⟩
    · replace c6 := Bool.eq_false_iff.mpr c6
      subst c6
      have H1 : (blk_Pack.j0 k T true a0_0 a0_1 a0_2 l0_3) = some (r1, r2, r3) := by rw [if_neg (show ¬ (false = true) by decide)] at H; exact H
      clear H
      have H := H1
      clear H1
      have H' := Aside0.mk H
      clear H
      have hcz15_0 : w4.cell? ⟨gb150, 0, none⟩ = some (.int .i64 a0_0) := (blk_cell BK150.out 0).trans rfl
      have hcz15_1 : w4.cell? ⟨gb150, 1, none⟩ = some (.int .i64 a0_1) := (blk_cell BK150.out 1).trans rfl
      have hcz15_2 : w4.cell? ⟨gb150, 2, none⟩ = some (.int .i64 a0_2) := (blk_cell BK150.out 2).trans rfl
      have hcz15_3 : w4.cell? ⟨gb150, 3, none⟩ = some (.slice A0_3 l0_3.length c0_3) := (blk_cell BK150.out 3).trans rfl
      have hfz15_0 := blk_frozen BK150.out 0
      have hfz15_1 := blk_frozen BK150.out 1
      have hfz15_2 := blk_frozen BK150.out 2
      have hfz15_3 := blk_frozen BK150.out 3
      go_wp2_with (first | ((with_reducible refine gate_callee (f := 48) rfl ?_); refine goesL_ (some 16) rfl rfl Try.func48 (by kernel_rfl) rfl #[.int .i64 a0_0, .int .i64 2] rfl (by (try simp only [List.map_toArray, List.map_cons, List.map_nil]); first | done | rfl | (simp only [List.length_drop, List.length_take]; rfl)) ?_; (with_reducible refine (blk_in.calls a0_0 2 false _ A5.out).mono ?_); rintro e w' ⟨rfl, ⟨nd, rfl⟩⟩; refine ⟨_, rfl, ?_⟩))
      go_meet
      case rel => exact ⟨_, (true), (by first | rfl | (simp; done) | (simp [*]; done)), H', ⟨by first | omega | exact Nat.le_refl _⟩, ⟨by (with_reducible repeat (first | refine blk_drewN ?_ _ | refine blk_drew ?_ | refine blk_alloc ?_ _)); exact BK150.out⟩, ⟨by repeat (first | (with_reducible first | exact HB.out | apply below_alloc | apply pw_below_drewN | apply below_drew1 | refine below_set ?_ GE150.out) | exact HB.out)⟩⟩
  case rest => as_aux_lemma =>
    clear HC3
    try clear c1
    try clear p2
    try clear c4
    try clear c6
    try clear p6
    try clear c8
    try clear c10
    try clear hcz12_0
    try clear hcz12_1
    try clear hcz12_2
    try clear hcz12_3
    try clear hcz13_0
    try clear hcz13_1
    try clear hcz13_2
    try clear hcz13_3
    try clear hcz14_0
    try clear hcz14_1
    try clear hcz14_2
    try clear hcz14_3
    try clear hcz15_0
    try clear hcz15_1
    try clear hcz15_2
    try clear hcz15_3
    try clear hfz12_0
    try clear hfz12_1
    try clear hfz12_2
    try clear hfz12_3
    try clear hfz13_0
    try clear hfz13_1
    try clear hfz13_2
    try clear hfz13_3
    try clear hfz14_0
    try clear hfz14_1
    try clear hfz14_2
    try clear hfz14_3
    try clear hfz15_0
    try clear hfz15_1
    try clear hfz15_2
    try clear hfz15_3
    obtain ⟨kq, x35_2, rfl, HA, HJ2, BK150, HB⟩ := hcut
    cases kq with
    | zero => exact absurd HA.out (by simp [blk_Pack.j0])
    | succ kj2 =>
      have H := HA.out
      clear HA
      simp only [blk_Pack.j0] at H
      by_cases c16 : x35_2 = true
      · subst c16
        have H1 : (some (([] : List Int), ([] : List Int), 1)) = some (r1, r2, r3) := by rw [if_pos rfl] at H; exact H
        clear H
        have H := H1
        clear H1
        simp only [Option.some.injEq, Prod.mk.injEq] at H
        obtain ⟨rfl, rfl, rfl⟩ := H
        go_wp2
        go_ret3
        exact ⟨_, _, by first | rfl | (simp [errW_none, errW_some] <;> rfl) | (simp [*, errW_none, errW_some] <;> rfl), by first | exact Kd.R_nil _ _ _ _ _ | exact Kd.N_nil _ _ _ _ _ | exact Kd.V_nil _ _ _ _ _ | exact Kd.Q_nil _ _ _ _ _ | exact Kd.S_nil _ _ _ _ _, by first | exact Kd.R_nil _ _ _ _ _ | exact Kd.N_nil _ _ _ _ _ | exact Kd.V_nil _ _ _ _ _ | exact Kd.Q_nil _ _ _ _ _ | exact Kd.S_nil _ _ _ _ _, by repeat (first | (with_reducible first | exact HB.out | apply below_alloc | apply pw_below_drewN | apply below_drew1 | refine below_set ?_ GE150.out) | exact HB.out)⟩
      · replace c16 := Bool.eq_false_iff.mpr c16
        subst c16
        have H1 : (blk_Pack.l0 kj2 T ([] : List Int) false l0_3 (l0_3.length : Int) 0) = some (r1, r2, r3) := by rw [if_neg (show ¬ (false = true) by decide)] at H; exact H
        clear H
        have H := H1
        clear H1
        have H' := Aside0.mk H
        clear H
        have hcz17_0 : wc.cell? ⟨gb150, 0, none⟩ = some (.int .i64 a0_0) := (blk_cell BK150.out 0).trans rfl
        have hcz17_1 : wc.cell? ⟨gb150, 1, none⟩ = some (.int .i64 a0_1) := (blk_cell BK150.out 1).trans rfl
        have hcz17_2 : wc.cell? ⟨gb150, 2, none⟩ = some (.int .i64 a0_2) := (blk_cell BK150.out 2).trans rfl
        have hcz17_3 : wc.cell? ⟨gb150, 3, none⟩ = some (.slice A0_3 l0_3.length c0_3) := (blk_cell BK150.out 3).trans rfl
        have hfz17_0 := blk_frozen BK150.out 0
        have hfz17_1 := blk_frozen BK150.out 1
        have hfz17_2 := blk_frozen BK150.out 2
        have hfz17_3 := blk_frozen BK150.out 3
        go_wp2
        go_loopg [7, 8, 39] kj2 (fun kq v7 v8 v39 w' => ∃ (x7_2 : List Int) (x8_2 : Bool) (x39_2 : Int), v8 = .bool x8_2 ∧ v39 = .int .i64 x39_2 ∧ Aside0 (blk_Pack.l0 kq T x7_2 x8_2 l0_3 (l0_3.length : Int) x39_2 = some (r1, r2, r3)) ∧ Aside0 (kq ≤ kj2) ∧ Aside0 (Kd.R (Kd.int .u8) 5 w' w.heap.size (fun _ => True) v7 x7_2) ∧ Aside0 (w'.heap[gb150]? = some (.cells #[.int .i64 a0_0, .int .i64 a0_1, .int .i64 a0_2, (.slice A0_3 l0_3.length c0_3)] 66 (0, 0))) ∧ Aside0 (Below w.heap.size w w'))
        case atStart => exact ⟨(([] : List Int)), (false), (0), (by first | rfl | (simp; done) | (simp [*]; done)), (by first | rfl | (simp; done) | (simp [*]; done)), H', ⟨Nat.le_refl _⟩, ⟨by first | exact Kd.R_nil _ _ _ _ _ | exact Kd.N_nil _ _ _ _ _ | exact Kd.V_nil _ _ _ _ _ | exact Kd.Q_nil _ _ _ _ _ | exact Kd.S_nil _ _ _ _ _⟩, ⟨by (with_reducible repeat (first | refine blk_drewN ?_ _ | refine blk_drew ?_ | refine blk_alloc ?_ _)); exact BK150.out⟩, ⟨by repeat (first | (with_reducible first | exact HB.out | apply below_alloc | apply pw_below_drewN | apply below_drew1 | refine below_set ?_ GE150.out) | exact HB.out)⟩⟩
        case round => as_aux_lemma =>
          clear H'
          try clear c1
          try clear p2
          try clear c4
          try clear c6
          try clear p6
          try clear c8
          try clear c10
          try clear c16
          try clear hcz12_0
          try clear hcz12_1
          try clear hcz12_2
          try clear hcz12_3
          try clear hcz13_0
          try clear hcz13_1
          try clear hcz13_2
          try clear hcz13_3
          try clear hcz14_0
          try clear hcz14_1
          try clear hcz14_2
          try clear hcz14_3
          try clear hcz15_0
          try clear hcz15_1
          try clear hcz15_2
          try clear hcz15_3
          try clear hcz17_0
          try clear hcz17_1
          try clear hcz17_2
          try clear hcz17_3
          try clear hfz12_0
          try clear hfz12_1
          try clear hfz12_2
          try clear hfz12_3
          try clear hfz13_0
          try clear hfz13_1
          try clear hfz13_2
          try clear hfz13_3
          try clear hfz14_0
          try clear hfz14_1
          try clear hfz14_2
          try clear hfz14_3
          try clear hfz15_0
          try clear hfz15_1
          try clear hfz15_2
          try clear hfz15_3
          try clear hfz17_0
          try clear hfz17_1
          try clear hfz17_2
          try clear hfz17_3
          try clear p2
          try clear p6
          obtain ⟨x7_2, x8_2, x39_2, rfl, rfl, HA, HK2, HO_7, BK150, HB⟩ := hrel
          cases gk with
          | zero => exact absurd HA.out (by simp [blk_Pack.l0])
          | succ k2 =>
            have H := HA.out
            clear HA
            simp only [blk_Pack.l0] at H
            by_cases c18 : x39_2 < (l0_3.length : Int)
            · rw [if_pos c18] at H
              have c18b0 : decide (x39_2 < (l0_3.length : Int)) = true := decide_eq_true c18
              clear c18
              by_cases c19 : 0 ≤ x39_2
              · rw [if_pos c19] at H
                have c19b0 : decide (0 ≤ x39_2) = true := decide_eq_true c19
                clear c19
                by_cases c20 : x39_2 < (l0_3.length : Int)
                · rw [if_pos c20] at H
                  have c20b0 : decide (x39_2 < (l0_3.length : Int)) = true := decide_eq_true c20
                  clear c20
                  replace H := Option.bind_eq_some_iff.mp H
                  obtain ⟨t157, A210, H⟩ := H
                  replace H : (if t157 = true then ((blk_in.f ((rd_T81 l0_3 x39_2).f1) 3).bind fun t158 => (if t158 = true then ((blk_in.f ((rd_T81 l0_3 x39_2).f2) 3).bind fun t159 => (if t159 = true then (if x8_2 = true then ((some (([((rd_T81 l0_3 x39_2).f0) % 256, (Go.bits .or .i64 ((rd_T81 l0_3 x39_2).f1) (wrap64 (((rd_T81 l0_3 x39_2).f2) * 4))) % 256] : List Int) : List Int)).bind fun y160 => (if x7_2.length + y160.length < 140737488355328 then (blk_Pack.l0 k2 T (x7_2 ++ y160) true l0_3 (l0_3.length : Int) (wrap64 (x39_2 + 1))) else (none))) else ((some (([((rd_T81 l0_3 x39_2).f0) % 256, (Go.bits .or .i64 ((rd_T81 l0_3 x39_2).f1) (wrap64 (((rd_T81 l0_3 x39_2).f2) * 4))) % 256] : List Int) : List Int)).bind fun y166 => (if x7_2.length + y166.length < 140737488355328 then (blk_Pack.l0 k2 T (x7_2 ++ y166) (decide (((rd_T81 l0_3 x39_2).f1) > ((rd_T81 l0_3 x39_2).f2))) l0_3 (l0_3.length : Int) (wrap64 (x39_2 + 1))) else (none)))) else (some (([] : List Int), ([] : List Int), 1)))) else (some (([] : List Int), ([] : List Int), 1)))) else (some (([] : List Int), ([] : List Int), 1))) = some (r1, r2, r3) := H
                  have A21 := Aside0.mk A210
                  clear A210
                  by_cases c22 : t157 = true
                  · subst c22
                    have H1 : ((blk_in.f ((rd_T81 l0_3 x39_2).f1) 3).bind fun t158 => (if t158 = true then ((blk_in.f ((rd_T81 l0_3 x39_2).f2) 3).bind fun t159 => (if t159 = true then (if x8_2 = true then ((some (([((rd_T81 l0_3 x39_2).f0) % 256, (Go.bits .or .i64 ((rd_T81 l0_3 x39_2).f1) (wrap64 (((rd_T81 l0_3 x39_2).f2) * 4))) % 256] : List Int) : List Int)).bind fun y160 => (if x7_2.length + y160.length < 140737488355328 then (blk_Pack.l0 k2 T (x7_2 ++ y160) true l0_3 (l0_3.length : Int) (wrap64 (x39_2 + 1))) else (none))) else ((some (([((rd_T81 l0_3 x39_2).f0) % 256, (Go.bits .or .i64 ((rd_T81 l0_3 x39_2).f1) (wrap64 (((rd_T81 l0_3 x39_2).f2) * 4))) % 256] : List Int) : List Int)).bind fun y166 => (if x7_2.length + y166.length < 140737488355328 then (blk_Pack.l0 k2 T (x7_2 ++ y166) (decide (((rd_T81 l0_3 x39_2).f1) > ((rd_T81 l0_3 x39_2).f2))) l0_3 (l0_3.length : Int) (wrap64 (x39_2 + 1))) else (none)))) else (some (([] : List Int), ([] : List Int), 1)))) else (some (([] : List Int), ([] : List Int), 1)))) = some (r1, r2, r3) := by rw [if_pos rfl] at H; exact H
                    clear H
                    have H := H1
                    clear H1
                    replace H := Option.bind_eq_some_iff.mp H
                    obtain ⟨t158, A230, H⟩ := H
                    replace H : (if t158 = true then ((blk_in.f ((rd_T81 l0_3 x39_2).f2) 3).bind fun t159 => (if t159 = true then (if x8_2 = true then ((some (([((rd_T81 l0_3 x39_2).f0) % 256, (Go.bits .or .i64 ((rd_T81 l0_3 x39_2).f1) (wrap64 (((rd_T81 l0_3 x39_2).f2) * 4))) % 256] : List Int) : List Int)).bind fun y160 => (if x7_2.length + y160.length < 140737488355328 then (blk_Pack.l0 k2 T (x7_2 ++ y160) true l0_3 (l0_3.length : Int) (wrap64 (x39_2 + 1))) else (none))) else ((some (([((rd_T81 l0_3 x39_2).f0) % 256, (Go.bits .or .i64 ((rd_T81 l0_3 x39_2).f1) (wrap64 (((rd_T81 l0_3 x39_2).f2) * 4))) % 256] : List Int) : List Int)).bind fun y166 => (if x7_2.length + y166.length < 140737488355328 then (blk_Pack.l0 k2 T (x7_2 ++ y166) (decide (((rd_T81 l0_3 x39_2).f1) > ((rd_T81 l0_3 x39_2).f2))) l0_3 (l0_3.length : Int) (wrap64 (x39_2 + 1))) else (none)))) else (some (([] : List Int), ([] : List Int), 1)))) else (some (([] : List Int), ([] : List Int), 1))) = some (r1, r2, r3) := H
                    have A23 := Aside0.mk A230
                    clear A230
                    by_cases c24 : t158 = true
                    · subst c24
                      have H1 : ((blk_in.f ((rd_T81 l0_3 x39_2).f2) 3).bind fun t159 => (if t159 = true then (if x8_2 = true then ((some (([((rd_T81 l0_3 x39_2).f0) % 256, (Go.bits .or .i64 ((rd_T81 l0_3 x39_2).f1) (wrap64 (((rd_T81 l0_3 x39_2).f2) * 4))) % 256] : List Int) : List Int)).bind fun y160 => (if x7_2.length + y160.length < 140737488355328 then (blk_Pack.l0 k2 T (x7_2 ++ y160) true l0_3 (l0_3.length : Int) (wrap64 (x39_2 + 1))) else (none))) else ((some (([((rd_T81 l0_3 x39_2).f0) % 256, (Go.bits .or .i64 ((rd_T81 l0_3 x39_2).f1) (wrap64 (((rd_T81 l0_3 x39_2).f2) * 4))) % 256] : List Int) : List Int)).bind fun y166 => (if x7_2.length + y166.length < 140737488355328 then (blk_Pack.l0 k2 T (x7_2 ++ y166) (decide (((rd_T81 l0_3 x39_2).f1) > ((rd_T81 l0_3 x39_2).f2))) l0_3 (l0_3.length : Int) (wrap64 (x39_2 + 1))) else (none)))) else (some (([] : List Int), ([] : List Int), 1)))) = some (r1, r2, r3) := by rw [if_pos rfl] at H; exact H
                      clear H
                      have H := H1
                      clear H1
                      replace H := Option.bind_eq_some_iff.mp H
                      obtain ⟨t159, A250, H⟩ := H
                      replace H : (if t159 = true then (if x8_2 = true then ((some (([((rd_T81 l0_3 x39_2).f0) % 256, (Go.bits .or .i64 ((rd_T81 l0_3 x39_2).f1) (wrap64 (((rd_T81 l0_3 x39_2).f2) * 4))) % 256] : List Int) : List Int)).bind fun y160 => (if x7_2.length + y160.length < 140737488355328 then (blk_Pack.l0 k2 T (x7_2 ++ y160) true l0_3 (l0_3.length : Int) (wrap64 (x39_2 + 1))) else (none))) else ((some (([((rd_T81 l0_3 x39_2).f0) % 256, (Go.bits .or .i64 ((rd_T81 l0_3 x39_2).f1) (wrap64 (((rd_T81 l0_3 x39_2).f2) * 4))) % 256] : List Int) : List Int)).bind fun y166 => (if x7_2.length + y166.length < 140737488355328 then (blk_Pack.l0 k2 T (x7_2 ++ y166) (decide (((rd_T81 l0_3 x39_2).f1) > ((rd_T81 l0_3 x39_2).f2))) l0_3 (l0_3.length : Int) (wrap64 (x39_2 + 1))) else (none)))) else (some (([] : List Int), ([] : List Int), 1))) = some (r1, r2, r3) := H
                      have A25 := Aside0.mk A250
                      clear A250
                      by_cases c26 : t159 = true
                      · subst c26
                        have H1 : (if x8_2 = true then ((some (([((rd_T81 l0_3 x39_2).f0) % 256, (Go.bits .or .i64 ((rd_T81 l0_3 x39_2).f1) (wrap64 (((rd_T81 l0_3 x39_2).f2) * 4))) % 256] : List Int) : List Int)).bind fun y160 => (if x7_2.length + y160.length < 140737488355328 then (blk_Pack.l0 k2 T (x7_2 ++ y160) true l0_3 (l0_3.length : Int) (wrap64 (x39_2 + 1))) else (none))) else ((some (([((rd_T81 l0_3 x39_2).f0) % 256, (Go.bits .or .i64 ((rd_T81 l0_3 x39_2).f1) (wrap64 (((rd_T81 l0_3 x39_2).f2) * 4))) % 256] : List Int) : List Int)).bind fun y166 => (if x7_2.length + y166.length < 140737488355328 then (blk_Pack.l0 k2 T (x7_2 ++ y166) (decide (((rd_T81 l0_3 x39_2).f1) > ((rd_T81 l0_3 x39_2).f2))) l0_3 (l0_3.length : Int) (wrap64 (x39_2 + 1))) else (none)))) = some (r1, r2, r3) := by rw [if_pos rfl] at H; exact H
                        clear H
                        have H := H1
                        clear H1
                        by_cases c27 : x8_2 = true
                        · subst c27
                          have H1 : ((some (([((rd_T81 l0_3 x39_2).f0) % 256, (Go.bits .or .i64 ((rd_T81 l0_3 x39_2).f1) (wrap64 (((rd_T81 l0_3 x39_2).f2) * 4))) % 256] : List Int) : List Int)).bind fun y160 => (if x7_2.length + y160.length < 140737488355328 then (blk_Pack.l0 k2 T (x7_2 ++ y160) true l0_3 (l0_3.length : Int) (wrap64 (x39_2 + 1))) else (none))) = some (r1, r2, r3) := by rw [if_pos rfl] at H; exact H
                          clear H
                          have H := H1
                          clear H1
                          obtain ⟨y160, hy160⟩ : ∃ y_ : List Int, y_ = (([((rd_T81 l0_3 x39_2).f0) % 256, (Go.bits .or .i64 ((rd_T81 l0_3 x39_2).f1) (wrap64 (((rd_T81 l0_3 x39_2).f2) * 4))) % 256] : List Int)) := ⟨_, rfl⟩
                          replace H : (if x7_2.length + y160.length < 140737488355328 then (blk_Pack.l0 k2 T (x7_2 ++ y160) true l0_3 (l0_3.length : Int) (wrap64 (x39_2 + 1))) else (none)) = some (r1, r2, r3) := by first | (rw [hy160]; with_reducible exact H) | (have H2_ := (Option.bind_some _ _).symm.trans H; rw [hy160]; with_reducible exact H2_) | (have H2_ := (Option.bind_some _ _).symm.trans H; with_reducible exact H2_) | with_reducible exact H | (rw [hy160]; exact H) | exact H
                          have Ny160 := Aside0.mk hy160
                          clear hy160
                          by_cases c28 : x7_2.length + y160.length < 140737488355328
                          · rw [if_pos c28] at H
                            have LMc28 := Aside0.mk c28
                            clear c28
                            obtain ⟨y163, hy163⟩ : ∃ y_ : List Int, y_ = (x7_2 ++ y160) := ⟨_, rfl⟩
                            replace H : (blk_Pack.l0 k2 T y163 true l0_3 (l0_3.length : Int) (wrap64 (x39_2 + 1))) = some (r1, r2, r3) := by first | (rw [hy163]; with_reducible exact H) | (have H2_ := (Option.bind_some _ _).symm.trans H; rw [hy163]; with_reducible exact H2_) | (have H2_ := (Option.bind_some _ _).symm.trans H; with_reducible exact H2_) | with_reducible exact H | (rw [hy163]; exact H) | exact H
                            have Ny163 := Aside0.mk hy163
                            clear hy163
                            have H' := Aside0.mk H
                            clear H
                            have p155 : 0 ≤ (x39_2 : Int) := of_decide_eq_true (by first | (with_reducible assumption) | assumption)
                            have q155 : x39_2 < (l0_3.length : Int) := of_decide_eq_true (by first | (with_reducible assumption) | assumption)
                            obtain ⟨ad155, e155, hx155_0, hx155_1, hx155_2⟩ := at_T81 HR0_3.out x39_2 p155 q155
                            cases e155
                            replace hx155_0 := (HB.out.cell (World.block_lt_of_cell? w _ hx155_0)).trans hx155_0
                            replace hx155_1 := (HB.out.cell (World.block_lt_of_cell? w _ hx155_1)).trans hx155_1
                            replace hx155_2 := (HB.out.cell (World.block_lt_of_cell? w _ hx155_2)).trans hx155_2
                            replace p155 := eq_true p155
                            replace q155 := eq_true q155
                            go_wp2_with (first | ((with_reducible refine gate_dst (N := 10) rfl ?_); (try (refine gate_guard (by rfl) ?_; dsimp only)); refine box_event ?hg (N := 10) ?hd (cs := #[.int .i64 0, .int .i64 0, .int .i64 0]) (t := 81) ?hr ?_; (case hd => rfl); (case hg => rfl); (case hr => first | (go_simp; done) | (go_simp; rfl)); intro gb156 hg w29 hbox hb; have n0_ := Aside0.mk (Kd.R_below (by (with_reducible repeat (first | apply Kd.R_alloc | apply Kd.R_drewN | apply Kd.R_drew)); exact HO_7.out) hb); have n1_ := Aside0.mk (blk_below (g := gb150) (o := .cells #[.int .i64 a0_0, .int .i64 a0_1, .int .i64 a0_2, .slice (some ad155) l0_3.length c0_3] 66 (0, 0)) (by (with_reducible repeat (first | refine blk_drewN ?_ _ | refine blk_drew ?_ | refine blk_alloc ?_ _)); exact BK150.out) hb); have n2_ := Aside0.mk (below_step (by repeat (first | (with_reducible first | exact HB.out | apply below_alloc | apply pw_below_drewN | apply below_drew1 | refine below_set ?_ GE150.out) | exact HB.out)) hb); have n3_ := Aside0.mk (hbox); have n4_ := Aside0.mk ((by rw [hg]; exact (below_size (by repeat (first | (with_reducible first | exact HB.out | apply below_alloc | apply pw_below_drewN | apply below_drew1 | refine below_set ?_ GE150.out) | exact HB.out))) : w.heap.size ≤ gb156)); have n5_ := Aside0.mk ((by rw [hg]; exact (below_size (by repeat (first | (with_reducible first | exact HB.out | apply below_alloc | apply pw_below_drewN | apply below_drew1 | refine below_set ?_ GE150.out) | exact HB.out))) : w.heap.size ≤ gb156)); have n6_ := Aside0.mk ((by rw [hg]; exact Nat.ne_of_lt (blk_lt (g := gb150) (o := .cells #[.int .i64 a0_0, .int .i64 a0_1, .int .i64 a0_2, .slice (some ad155) l0_3.length c0_3] 66 (0, 0)) (by (with_reducible repeat (first | refine blk_drewN ?_ _ | refine blk_drew ?_ | refine blk_alloc ?_ _)); exact BK150.out)) : gb150 ≠ gb156)); have n7_ := Aside0.mk ((by rw [hg]; exact Nat.ne_of_gt (blk_lt (g := gb150) (o := .cells #[.int .i64 a0_0, .int .i64 a0_1, .int .i64 a0_2, .slice (some ad155) l0_3.length c0_3] 66 (0, 0)) (by (with_reducible repeat (first | refine blk_drewN ?_ _ | refine blk_drew ?_ | refine blk_alloc ?_ _)); exact BK150.out)) : gb156 ≠ gb150)); clear HO_7; clear BK150; clear HB; have HO_7 := n0_; have BK150 := n1_; have HB := n2_; have BK156 := n3_; have GW156 := n4_; have GE156 := n5_; have NB150_156 := n6_; have NB156_150 := n7_; clear n0_ n1_ n2_ n3_ n4_ n5_ n6_ n7_; clear hb hbox hg; have hnb30 := NB156_150.out; have hnc30 := NB150_156.out; have hcz31_0 : w29.cell? ⟨gb156, 0, none⟩ = some (.int .i64 0) := (blk_cell BK156.out 0).trans rfl; have hcz31_1 : w29.cell? ⟨gb156, 1, none⟩ = some (.int .i64 0) := (blk_cell BK156.out 1).trans rfl; have hcz31_2 : w29.cell? ⟨gb156, 2, none⟩ = some (.int .i64 0) := (blk_cell BK156.out 2).trans rfl; have hfz31_0 := blk_frozen BK156.out 0; have hfz31_1 := blk_frozen BK156.out 1; have hfz31_2 := blk_frozen BK156.out 2) | ((with_reducible refine gate_callee (f := 48) rfl ?_); refine goesL_ (some 45) rfl rfl Try.func48 (by kernel_rfl) rfl #[.int .i64 ((rd_T81 l0_3 x39_2).f0), .int .i64 255] rfl (by (try simp only [List.map_toArray, List.map_cons, List.map_nil]); first | done | rfl | (simp only [List.length_drop, List.length_take]; rfl)) ?_; (with_reducible refine (blk_in.calls ((rd_T81 l0_3 x39_2).f0) 255 true _ A21.out).mono ?_); rintro e w' ⟨rfl, ⟨nd, rfl⟩⟩; refine ⟨_, rfl, ?_⟩) | (go_at_call 48; (with_reducible refine (blk_in.calls ((rd_T81 l0_3 x39_2).f1) 3 true _ A23.out).mono ?_); rintro e w' ⟨rfl, ⟨nd, rfl⟩⟩) | (go_at_call 48; (with_reducible refine (blk_in.calls ((rd_T81 l0_3 x39_2).f2) 3 true _ A25.out).mono ?_); rintro e w' ⟨rfl, ⟨nd, rfl⟩⟩) | ((with_reducible refine gate_dst (N := 78) rfl ?_); (try (refine gate_guard (by rfl) ?_; dsimp only)); refine Kd.R_lit (Kd.int .u8) _ 5 ?hg (N := 78) ?hd (xs := ([((rd_T81 l0_3 x39_2).f0) % 256, (Go.bits .or .i64 ((rd_T81 l0_3 x39_2).f1) (wrap64 (((rd_T81 l0_3 x39_2).f2) * 4))) % 256] : List Int)) (inner := [.int .u8 (((rd_T81 l0_3 x39_2).f0) % 256), .int .u8 ((Go.bits .or .i64 ((rd_T81 l0_3 x39_2).f1) (wrap64 (((rd_T81 l0_3 x39_2).f2) * 4))) % 256)]) (ok := fun _ => True) (okp := fun _ => True) ?hr ?hp (fun _ hk => hk) trivial (Below.refl _ _) (Nat.le_refl _) (by simp) ?_; (case hd => rfl); (case hg => rfl); (case hr => first | (go_simp; done) | (go_simp; rfl)); (case hp => exact (Reps.one (show Kd.M (Kd.int .u8) _ _ _ (((rd_T81 l0_3 x39_2).f0) % 256) [.int .u8 (((rd_T81 l0_3 x39_2).f0) % 256)] from rfl) (Reps.one (show Kd.M (Kd.int .u8) _ _ _ ((Go.bits .or .i64 ((rd_T81 l0_3 x39_2).f1) (wrap64 (((rd_T81 l0_3 x39_2).f2) * 4))) % 256) [.int .u8 ((Go.bits .or .i64 ((rd_T81 l0_3 x39_2).f1) (wrap64 (((rd_T81 l0_3 x39_2).f2) * 4))) % 256)] from rfl) (Reps.none _ _)))); intro v161 w32 ho33 hb hg_ hnew_; clear hg_ hnew_; (first | rw [← Ny160.out] at ho33 | (simp only [Int.reduceToNat] at ho33; rw [← Ny160.out] at ho33)); have n0_ := Aside0.mk (Kd.R_elder' (by (with_reducible repeat (first | apply Kd.R_alloc | apply Kd.R_drewN | apply Kd.R_drew)); exact (Kd.R_mono (Kd.R_far (p := ⟨gb156, 2, none⟩) (Kd.R_far (p := ⟨gb156, 1, none⟩) (Kd.R_far (p := ⟨gb156, 0, none⟩) (Kd.R_types HO_7.out BK156.out (by decide)) (fun _ hk => hk.2) (.int .i64 ((rd_T81 l0_3 x39_2).f0))) (fun _ hk => hk.2) (.int .i64 ((rd_T81 l0_3 x39_2).f1))) (fun _ hk => hk.2) (.int .i64 ((rd_T81 l0_3 x39_2).f2))) (fun _ h_ => h_.1))) (Kd.R_base ho33) hb); have n1_ := Aside0.mk (Kd.R_lower (Kd.R_new' ho33 (Kd.R_lt (by (with_reducible repeat (first | apply Kd.R_alloc | apply Kd.R_drewN | apply Kd.R_drew)); exact (Kd.R_mono (Kd.R_far (p := ⟨gb156, 2, none⟩) (Kd.R_far (p := ⟨gb156, 1, none⟩) (Kd.R_far (p := ⟨gb156, 0, none⟩) (Kd.R_types HO_7.out BK156.out (by decide)) (fun _ hk => hk.2) (.int .i64 ((rd_T81 l0_3 x39_2).f0))) (fun _ hk => hk.2) (.int .i64 ((rd_T81 l0_3 x39_2).f1))) (fun _ hk => hk.2) (.int .i64 ((rd_T81 l0_3 x39_2).f2))) (fun _ h_ => h_.1))))) (below_size (by repeat (first | (with_reducible first | exact HB.out | apply below_alloc | apply pw_below_drewN | apply below_drew1 | refine below_set ?_ GE150.out | refine below_set ?_ GE156.out) | exact HB.out)))); have n2_ := Aside0.mk (blk_below (g := gb150) (o := .cells #[.int .i64 a0_0, .int .i64 a0_1, .int .i64 a0_2, .slice (some ad155) l0_3.length c0_3] 66 (0, 0)) (by (with_reducible repeat (first | refine blk_drewN ?_ _ | refine blk_drew ?_ | refine blk_alloc ?_ _)); refine blk_far ?_ NB150_156.out _; (with_reducible repeat (first | refine blk_drewN ?_ _ | refine blk_drew ?_ | refine blk_alloc ?_ _)); refine blk_far ?_ NB150_156.out _; (with_reducible repeat (first | refine blk_drewN ?_ _ | refine blk_drew ?_ | refine blk_alloc ?_ _)); refine blk_far ?_ NB150_156.out _; (with_reducible repeat (first | refine blk_drewN ?_ _ | refine blk_drew ?_ | refine blk_alloc ?_ _)); exact BK150.out) hb); have n3_ := Aside0.mk (blk_below (g := gb156) (o := .cells #[.int .i64 ((rd_T81 l0_3 x39_2).f0), .int .i64 ((rd_T81 l0_3 x39_2).f1), .int .i64 ((rd_T81 l0_3 x39_2).f2)] 81 (0, 0)) (by (with_reducible repeat (first | refine blk_drewN ?_ _ | refine blk_drew ?_ | refine blk_alloc ?_ _)); refine blk_put (cs := #[.int .i64 ((rd_T81 l0_3 x39_2).f0), .int .i64 ((rd_T81 l0_3 x39_2).f1), .int .i64 0]) ?_ 2 _ rfl; (with_reducible repeat (first | refine blk_drewN ?_ _ | refine blk_drew ?_ | refine blk_alloc ?_ _)); refine blk_put (cs := #[.int .i64 ((rd_T81 l0_3 x39_2).f0), .int .i64 0, .int .i64 0]) ?_ 1 _ rfl; (with_reducible repeat (first | refine blk_drewN ?_ _ | refine blk_drew ?_ | refine blk_alloc ?_ _)); refine blk_put (cs := #[.int .i64 0, .int .i64 0, .int .i64 0]) ?_ 0 _ rfl; (with_reducible repeat (first | refine blk_drewN ?_ _ | refine blk_drew ?_ | refine blk_alloc ?_ _)); exact BK156.out) hb); have n4_ := Aside0.mk (below_step (by repeat (first | (with_reducible first | exact HB.out | apply below_alloc | apply pw_below_drewN | apply below_drew1 | refine below_set ?_ GE150.out | refine below_set ?_ GE156.out) | exact HB.out)) hb); clear HO_7; clear BK150; clear BK156; clear HB; have HO_7 := n0_; have HO162 := n1_; have BK150 := n2_; have BK156 := n3_; have HB := n4_; clear n0_ n1_ n2_ n3_ n4_; clear hb ho33; obtain ⟨Ao35, co35, eo35⟩ := Kd.R_slice HO162.out; subst eo35) | ((with_reducible refine gate_builtin (b := .append) (xs := #[.tmp 67, .tmp 78]) rfl ?_); (try (refine gate_guard (by rfl) ?_; dsimp only)); at_builtin; refine Kd.R_append_rows (Kd.int .u8) (w0 := w) w.heap.size rfl (.tmp 67) (.tmp 78) 22 5 (.int .u8 0) 1 rfl Try.underlying22 info5 rfl (by decide) (by omega) u7 x7_2 y160 _ _ _ (fun k_ => some k_ ≠ (.slice Ao35 y160.length co35 : Value).ownBlock) (fun _ => False) rfl rfl ?aO ?aR (fun _ _ h => h) (fun _ h => h.elim) ?aF ?aB ?aS ?aL ?_; (case aR => repeat (first | exact (Kd.R_reads' HO162.out).2.2 | (with_reducible refine Kd.C_alloc ?_ _) | (with_reducible refine Kd.C_drewN ?_ _) | (with_reducible refine Kd.C_drew ?_))); (case aB => exact (by repeat (first | (with_reducible first | exact HB.out | apply below_alloc | apply pw_below_drewN | apply below_drew1 | refine below_set ?_ GE150.out | refine below_set ?_ GE156.out) | exact HB.out))); (case aF => exact (fun k_ hk => Kd.fresh' (Kd.R_lt (by (with_reducible repeat (first | apply Kd.R_alloc | apply Kd.R_drewN | apply Kd.R_drew)); exact HO162.out)) k_ hk)); (case aO => exact (by (with_reducible repeat (first | apply Kd.R_alloc | apply Kd.R_drewN | apply Kd.R_drew)); exact Kd.R_mono HO_7.out (fun _ hk => hk.2))); (case aS => exact (below_size (by repeat (first | (with_reducible first | exact HB.out | apply below_alloc | apply pw_below_drewN | apply below_drew1 | refine below_set ?_ GE150.out | refine below_set ?_ GE156.out) | exact HB.out)))); (case aL => have := LMc28.out; omega); intro v164 w34 ho hb hg hat; rw [← Ny163.out] at ho; have n0_ := Aside0.mk (blk_grown (g := gb150) (o := .cells #[.int .i64 a0_0, .int .i64 a0_1, .int .i64 a0_2, .slice (some ad155) l0_3.length c0_3] 66 (0, 0)) (by (with_reducible repeat (first | refine blk_drewN ?_ _ | refine blk_drew ?_ | refine blk_alloc ?_ _)); exact BK150.out) hg (Kd.R_ne HO_7.out BK150.out (by decide))); have n1_ := Aside0.mk (blk_grown (g := gb156) (o := .cells #[.int .i64 ((rd_T81 l0_3 x39_2).f0), .int .i64 ((rd_T81 l0_3 x39_2).f1), .int .i64 ((rd_T81 l0_3 x39_2).f2)] 81 (0, 0)) (by (with_reducible repeat (first | refine blk_drewN ?_ _ | refine blk_drew ?_ | refine blk_alloc ?_ _)); exact BK156.out) hg (Kd.R_ne HO_7.out BK156.out (by decide))); have n2_ := Aside0.mk (Kd.R_after (ok := (fun _ => True)) (by (with_reducible repeat (first | apply Kd.R_alloc | apply Kd.R_drewN | apply Kd.R_drew)); exact HO162.out) hg hat); have n3_ := Aside0.mk (hb); have n4_ := Aside0.mk (ho); clear BK150; clear BK156; clear HO162; clear HB; clear HO_7; have BK150 := n0_; have BK156 := n1_; have HO162 := n2_; have HB := n3_; have HO165 := n4_; clear n0_ n1_ n2_ n3_ n4_; clear ho hb hg hat))
                            go_roundg k2
                            case measure => have := HJ2.out; have := HK2.out; omega
                            case rel => exact ⟨(y163), (true), (wrap64 (x39_2 + 1)), (by first | rfl | (simp; done) | (simp [*]; done)), (by first | rfl | (simp; done) | (simp [*]; done)), H', ⟨by have := HJ2.out; have := HK2.out; omega⟩, ⟨by (with_reducible repeat (first | apply Kd.R_alloc | apply Kd.R_drewN | apply Kd.R_drew)); exact Kd.R_mono HO165.out (fun _ hk => trivial)⟩, ⟨by (with_reducible repeat (first | refine blk_drewN ?_ _ | refine blk_drew ?_ | refine blk_alloc ?_ _)); exact BK150.out⟩, ⟨by repeat (first | (with_reducible first | exact HB.out | apply below_alloc | apply pw_below_drewN | apply below_drew1 | refine below_set ?_ GE150.out | refine below_set ?_ GE156.out) | exact HB.out)⟩⟩
                          · rw [if_neg c28] at H
                            exact absurd H (by simp)
                        · replace c27 := Bool.eq_false_iff.mpr c27
                          subst c27
                          have H1 : ((some (([((rd_T81 l0_3 x39_2).f0) % 256, (Go.bits .or .i64 ((rd_T81 l0_3 x39_2).f1) (wrap64 (((rd_T81 l0_3 x39_2).f2) * 4))) % 256] : List Int) : List Int)).bind fun y166 => (if x7_2.length + y166.length < 140737488355328 then (blk_Pack.l0 k2 T (x7_2 ++ y166) (decide (((rd_T81 l0_3 x39_2).f1) > ((rd_T81 l0_3 x39_2).f2))) l0_3 (l0_3.length : Int) (wrap64 (x39_2 + 1))) else (none))) = some (r1, r2, r3) := by rw [if_neg (show ¬ (false = true) by decide)] at H; exact H
                          clear H
                          have H := H1
                          clear H1
                          obtain ⟨y166, hy166⟩ : ∃ y_ : List Int, y_ = (([((rd_T81 l0_3 x39_2).f0) % 256, (Go.bits .or .i64 ((rd_T81 l0_3 x39_2).f1) (wrap64 (((rd_T81 l0_3 x39_2).f2) * 4))) % 256] : List Int)) := ⟨_, rfl⟩
                          replace H : (if x7_2.length + y166.length < 140737488355328 then (blk_Pack.l0 k2 T (x7_2 ++ y166) (decide (((rd_T81 l0_3 x39_2).f1) > ((rd_T81 l0_3 x39_2).f2))) l0_3 (l0_3.length : Int) (wrap64 (x39_2 + 1))) else (none)) = some (r1, r2, r3) := by first | (rw [hy166]; with_reducible exact H) | (have H2_ := (Option.bind_some _ _).symm.trans H; rw [hy166]; with_reducible exact H2_) | (have H2_ := (Option.bind_some _ _).symm.trans H; with_reducible exact H2_) | with_reducible exact H | (rw [hy166]; exact H) | exact H
                          have Ny166 := Aside0.mk hy166
                          clear hy166
                          by_cases c36 : x7_2.length + y166.length < 140737488355328
                          · rw [if_pos c36] at H
                            have LMc36 := Aside0.mk c36
                            clear c36
                            obtain ⟨y169, hy169⟩ : ∃ y_ : List Int, y_ = (x7_2 ++ y166) := ⟨_, rfl⟩
                            replace H : (blk_Pack.l0 k2 T y169 (decide (((rd_T81 l0_3 x39_2).f1) > ((rd_T81 l0_3 x39_2).f2))) l0_3 (l0_3.length : Int) (wrap64 (x39_2 + 1))) = some (r1, r2, r3) := by first | (rw [hy169]; with_reducible exact H) | (have H2_ := (Option.bind_some _ _).symm.trans H; rw [hy169]; with_reducible exact H2_) | (have H2_ := (Option.bind_some _ _).symm.trans H; with_reducible exact H2_) | with_reducible exact H | (rw [hy169]; exact H) | exact H
                            have Ny169 := Aside0.mk hy169
                            clear hy169
                            have H' := Aside0.mk H
                            clear H
                            have p155 : 0 ≤ (x39_2 : Int) := of_decide_eq_true (by first | (with_reducible assumption) | assumption)
                            have q155 : x39_2 < (l0_3.length : Int) := of_decide_eq_true (by first | (with_reducible assumption) | assumption)
                            obtain ⟨ad155, e155, hx155_0, hx155_1, hx155_2⟩ := at_T81 HR0_3.out x39_2 p155 q155
                            cases e155
                            replace hx155_0 := (HB.out.cell (World.block_lt_of_cell? w _ hx155_0)).trans hx155_0
                            replace hx155_1 := (HB.out.cell (World.block_lt_of_cell? w _ hx155_1)).trans hx155_1
                            replace hx155_2 := (HB.out.cell (World.block_lt_of_cell? w _ hx155_2)).trans hx155_2
                            replace p155 := eq_true p155
                            replace q155 := eq_true q155
                            go_wp2_with (first | ((with_reducible refine gate_dst (N := 10) rfl ?_); (try (refine gate_guard (by rfl) ?_; dsimp only)); refine box_event ?hg (N := 10) ?hd (cs := #[.int .i64 0, .int .i64 0, .int .i64 0]) (t := 81) ?hr ?_; (case hd => rfl); (case hg => rfl); (case hr => first | (go_simp; done) | (go_simp; rfl)); intro gb156 hg w37 hbox hb; have n0_ := Aside0.mk (Kd.R_below (by (with_reducible repeat (first | apply Kd.R_alloc | apply Kd.R_drewN | apply Kd.R_drew)); exact HO_7.out) hb); have n1_ := Aside0.mk (blk_below (g := gb150) (o := .cells #[.int .i64 a0_0, .int .i64 a0_1, .int .i64 a0_2, .slice (some ad155) l0_3.length c0_3] 66 (0, 0)) (by (with_reducible repeat (first | refine blk_drewN ?_ _ | refine blk_drew ?_ | refine blk_alloc ?_ _)); exact BK150.out) hb); have n2_ := Aside0.mk (below_step (by repeat (first | (with_reducible first | exact HB.out | apply below_alloc | apply pw_below_drewN | apply below_drew1 | refine below_set ?_ GE150.out) | exact HB.out)) hb); have n3_ := Aside0.mk (hbox); have n4_ := Aside0.mk ((by rw [hg]; exact (below_size (by repeat (first | (with_reducible first | exact HB.out | apply below_alloc | apply pw_below_drewN | apply below_drew1 | refine below_set ?_ GE150.out) | exact HB.out))) : w.heap.size ≤ gb156)); have n5_ := Aside0.mk ((by rw [hg]; exact (below_size (by repeat (first | (with_reducible first | exact HB.out | apply below_alloc | apply pw_below_drewN | apply below_drew1 | refine below_set ?_ GE150.out) | exact HB.out))) : w.heap.size ≤ gb156)); have n6_ := Aside0.mk ((by rw [hg]; exact Nat.ne_of_lt (blk_lt (g := gb150) (o := .cells #[.int .i64 a0_0, .int .i64 a0_1, .int .i64 a0_2, .slice (some ad155) l0_3.length c0_3] 66 (0, 0)) (by (with_reducible repeat (first | refine blk_drewN ?_ _ | refine blk_drew ?_ | refine blk_alloc ?_ _)); exact BK150.out)) : gb150 ≠ gb156)); have n7_ := Aside0.mk ((by rw [hg]; exact Nat.ne_of_gt (blk_lt (g := gb150) (o := .cells #[.int .i64 a0_0, .int .i64 a0_1, .int .i64 a0_2, .slice (some ad155) l0_3.length c0_3] 66 (0, 0)) (by (with_reducible repeat (first | refine blk_drewN ?_ _ | refine blk_drew ?_ | refine blk_alloc ?_ _)); exact BK150.out)) : gb156 ≠ gb150)); clear HO_7; clear BK150; clear HB; have HO_7 := n0_; have BK150 := n1_; have HB := n2_; have BK156 := n3_; have GW156 := n4_; have GE156 := n5_; have NB150_156 := n6_; have NB156_150 := n7_; clear n0_ n1_ n2_ n3_ n4_ n5_ n6_ n7_; clear hb hbox hg; have hnb38 := NB156_150.out; have hnc38 := NB150_156.out; have hcz39_0 : w37.cell? ⟨gb156, 0, none⟩ = some (.int .i64 0) := (blk_cell BK156.out 0).trans rfl; have hcz39_1 : w37.cell? ⟨gb156, 1, none⟩ = some (.int .i64 0) := (blk_cell BK156.out 1).trans rfl; have hcz39_2 : w37.cell? ⟨gb156, 2, none⟩ = some (.int .i64 0) := (blk_cell BK156.out 2).trans rfl; have hfz39_0 := blk_frozen BK156.out 0; have hfz39_1 := blk_frozen BK156.out 1; have hfz39_2 := blk_frozen BK156.out 2) | ((with_reducible refine gate_callee (f := 48) rfl ?_); refine goesL_ (some 45) rfl rfl Try.func48 (by kernel_rfl) rfl #[.int .i64 ((rd_T81 l0_3 x39_2).f0), .int .i64 255] rfl (by (try simp only [List.map_toArray, List.map_cons, List.map_nil]); first | done | rfl | (simp only [List.length_drop, List.length_take]; rfl)) ?_; (with_reducible refine (blk_in.calls ((rd_T81 l0_3 x39_2).f0) 255 true _ A21.out).mono ?_); rintro e w' ⟨rfl, ⟨nd, rfl⟩⟩; refine ⟨_, rfl, ?_⟩) | (go_at_call 48; (with_reducible refine (blk_in.calls ((rd_T81 l0_3 x39_2).f1) 3 true _ A23.out).mono ?_); rintro e w' ⟨rfl, ⟨nd, rfl⟩⟩) | (go_at_call 48; (with_reducible refine (blk_in.calls ((rd_T81 l0_3 x39_2).f2) 3 true _ A25.out).mono ?_); rintro e w' ⟨rfl, ⟨nd, rfl⟩⟩) | ((with_reducible refine gate_dst (N := 78) rfl ?_); (try (refine gate_guard (by rfl) ?_; dsimp only)); refine Kd.R_lit (Kd.int .u8) _ 5 ?hg (N := 78) ?hd (xs := ([((rd_T81 l0_3 x39_2).f0) % 256, (Go.bits .or .i64 ((rd_T81 l0_3 x39_2).f1) (wrap64 (((rd_T81 l0_3 x39_2).f2) * 4))) % 256] : List Int)) (inner := [.int .u8 (((rd_T81 l0_3 x39_2).f0) % 256), .int .u8 ((Go.bits .or .i64 ((rd_T81 l0_3 x39_2).f1) (wrap64 (((rd_T81 l0_3 x39_2).f2) * 4))) % 256)]) (ok := fun _ => True) (okp := fun _ => True) ?hr ?hp (fun _ hk => hk) trivial (Below.refl _ _) (Nat.le_refl _) (by simp) ?_; (case hd => rfl); (case hg => rfl); (case hr => first | (go_simp; done) | (go_simp; rfl)); (case hp => exact (Reps.one (show Kd.M (Kd.int .u8) _ _ _ (((rd_T81 l0_3 x39_2).f0) % 256) [.int .u8 (((rd_T81 l0_3 x39_2).f0) % 256)] from rfl) (Reps.one (show Kd.M (Kd.int .u8) _ _ _ ((Go.bits .or .i64 ((rd_T81 l0_3 x39_2).f1) (wrap64 (((rd_T81 l0_3 x39_2).f2) * 4))) % 256) [.int .u8 ((Go.bits .or .i64 ((rd_T81 l0_3 x39_2).f1) (wrap64 (((rd_T81 l0_3 x39_2).f2) * 4))) % 256)] from rfl) (Reps.none _ _)))); intro v167 w40 ho41 hb hg_ hnew_; clear hg_ hnew_; (first | rw [← Ny166.out] at ho41 | (simp only [Int.reduceToNat] at ho41; rw [← Ny166.out] at ho41)); have n0_ := Aside0.mk (Kd.R_elder' (by (with_reducible repeat (first | apply Kd.R_alloc | apply Kd.R_drewN | apply Kd.R_drew)); exact (Kd.R_mono (Kd.R_far (p := ⟨gb156, 2, none⟩) (Kd.R_far (p := ⟨gb156, 1, none⟩) (Kd.R_far (p := ⟨gb156, 0, none⟩) (Kd.R_types HO_7.out BK156.out (by decide)) (fun _ hk => hk.2) (.int .i64 ((rd_T81 l0_3 x39_2).f0))) (fun _ hk => hk.2) (.int .i64 ((rd_T81 l0_3 x39_2).f1))) (fun _ hk => hk.2) (.int .i64 ((rd_T81 l0_3 x39_2).f2))) (fun _ h_ => h_.1))) (Kd.R_base ho41) hb); have n1_ := Aside0.mk (Kd.R_lower (Kd.R_new' ho41 (Kd.R_lt (by (with_reducible repeat (first | apply Kd.R_alloc | apply Kd.R_drewN | apply Kd.R_drew)); exact (Kd.R_mono (Kd.R_far (p := ⟨gb156, 2, none⟩) (Kd.R_far (p := ⟨gb156, 1, none⟩) (Kd.R_far (p := ⟨gb156, 0, none⟩) (Kd.R_types HO_7.out BK156.out (by decide)) (fun _ hk => hk.2) (.int .i64 ((rd_T81 l0_3 x39_2).f0))) (fun _ hk => hk.2) (.int .i64 ((rd_T81 l0_3 x39_2).f1))) (fun _ hk => hk.2) (.int .i64 ((rd_T81 l0_3 x39_2).f2))) (fun _ h_ => h_.1))))) (below_size (by repeat (first | (with_reducible first | exact HB.out | apply below_alloc | apply pw_below_drewN | apply below_drew1 | refine below_set ?_ GE150.out | refine below_set ?_ GE156.out) | exact HB.out)))); have n2_ := Aside0.mk (blk_below (g := gb150) (o := .cells #[.int .i64 a0_0, .int .i64 a0_1, .int .i64 a0_2, .slice (some ad155) l0_3.length c0_3] 66 (0, 0)) (by (with_reducible repeat (first | refine blk_drewN ?_ _ | refine blk_drew ?_ | refine blk_alloc ?_ _)); refine blk_far ?_ NB150_156.out _; (with_reducible repeat (first | refine blk_drewN ?_ _ | refine blk_drew ?_ | refine blk_alloc ?_ _)); refine blk_far ?_ NB150_156.out _; (with_reducible repeat (first | refine blk_drewN ?_ _ | refine blk_drew ?_ | refine blk_alloc ?_ _)); refine blk_far ?_ NB150_156.out _; (with_reducible repeat (first | refine blk_drewN ?_ _ | refine blk_drew ?_ | refine blk_alloc ?_ _)); exact BK150.out) hb); have n3_ := Aside0.mk (blk_below (g := gb156) (o := .cells #[.int .i64 ((rd_T81 l0_3 x39_2).f0), .int .i64 ((rd_T81 l0_3 x39_2).f1), .int .i64 ((rd_T81 l0_3 x39_2).f2)] 81 (0, 0)) (by (with_reducible repeat (first | refine blk_drewN ?_ _ | refine blk_drew ?_ | refine blk_alloc ?_ _)); refine blk_put (cs := #[.int .i64 ((rd_T81 l0_3 x39_2).f0), .int .i64 ((rd_T81 l0_3 x39_2).f1), .int .i64 0]) ?_ 2 _ rfl; (with_reducible repeat (first | refine blk_drewN ?_ _ | refine blk_drew ?_ | refine blk_alloc ?_ _)); refine blk_put (cs := #[.int .i64 ((rd_T81 l0_3 x39_2).f0), .int .i64 0, .int .i64 0]) ?_ 1 _ rfl; (with_reducible repeat (first | refine blk_drewN ?_ _ | refine blk_drew ?_ | refine blk_alloc ?_ _)); refine blk_put (cs := #[.int .i64 0, .int .i64 0, .int .i64 0]) ?_ 0 _ rfl; (with_reducible repeat (first | refine blk_drewN ?_ _ | refine blk_drew ?_ | refine blk_alloc ?_ _)); exact BK156.out) hb); have n4_ := Aside0.mk (below_step (by repeat (first | (with_reducible first | exact HB.out | apply below_alloc | apply pw_below_drewN | apply below_drew1 | refine below_set ?_ GE150.out | refine below_set ?_ GE156.out) | exact HB.out)) hb); clear HO_7; clear BK150; clear BK156; clear HB; have HO_7 := n0_; have HO168 := n1_; have BK150 := n2_; have BK156 := n3_; have HB := n4_; clear n0_ n1_ n2_ n3_ n4_; clear hb ho41; obtain ⟨Ao43, co43, eo43⟩ := Kd.R_slice HO168.out; subst eo43) | ((with_reducible refine gate_builtin (b := .append) (xs := #[.tmp 67, .tmp 78]) rfl ?_); (try (refine gate_guard (by rfl) ?_; dsimp only)); at_builtin; refine Kd.R_append_rows (Kd.int .u8) (w0 := w) w.heap.size rfl (.tmp 67) (.tmp 78) 22 5 (.int .u8 0) 1 rfl Try.underlying22 info5 rfl (by decide) (by omega) u7 x7_2 y166 _ _ _ (fun k_ => some k_ ≠ (.slice Ao43 y166.length co43 : Value).ownBlock) (fun _ => False) rfl rfl ?aO ?aR (fun _ _ h => h) (fun _ h => h.elim) ?aF ?aB ?aS ?aL ?_; (case aR => repeat (first | exact (Kd.R_reads' HO168.out).2.2 | (with_reducible refine Kd.C_alloc ?_ _) | (with_reducible refine Kd.C_drewN ?_ _) | (with_reducible refine Kd.C_drew ?_))); (case aB => exact (by repeat (first | (with_reducible first | exact HB.out | apply below_alloc | apply pw_below_drewN | apply below_drew1 | refine below_set ?_ GE150.out | refine below_set ?_ GE156.out) | exact HB.out))); (case aF => exact (fun k_ hk => Kd.fresh' (Kd.R_lt (by (with_reducible repeat (first | apply Kd.R_alloc | apply Kd.R_drewN | apply Kd.R_drew)); exact HO168.out)) k_ hk)); (case aO => exact (by (with_reducible repeat (first | apply Kd.R_alloc | apply Kd.R_drewN | apply Kd.R_drew)); exact Kd.R_mono HO_7.out (fun _ hk => hk.2))); (case aS => exact (below_size (by repeat (first | (with_reducible first | exact HB.out | apply below_alloc | apply pw_below_drewN | apply below_drew1 | refine below_set ?_ GE150.out | refine below_set ?_ GE156.out) | exact HB.out)))); (case aL => have := LMc36.out; omega); intro v170 w42 ho hb hg hat; rw [← Ny169.out] at ho; have n0_ := Aside0.mk (blk_grown (g := gb150) (o := .cells #[.int .i64 a0_0, .int .i64 a0_1, .int .i64 a0_2, .slice (some ad155) l0_3.length c0_3] 66 (0, 0)) (by (with_reducible repeat (first | refine blk_drewN ?_ _ | refine blk_drew ?_ | refine blk_alloc ?_ _)); exact BK150.out) hg (Kd.R_ne HO_7.out BK150.out (by decide))); have n1_ := Aside0.mk (blk_grown (g := gb156) (o := .cells #[.int .i64 ((rd_T81 l0_3 x39_2).f0), .int .i64 ((rd_T81 l0_3 x39_2).f1), .int .i64 ((rd_T81 l0_3 x39_2).f2)] 81 (0, 0)) (by (with_reducible repeat (first | refine blk_drewN ?_ _ | refine blk_drew ?_ | refine blk_alloc ?_ _)); exact BK156.out) hg (Kd.R_ne HO_7.out BK156.out (by decide))); have n2_ := Aside0.mk (Kd.R_after (ok := (fun _ => True)) (by (with_reducible repeat (first | apply Kd.R_alloc | apply Kd.R_drewN | apply Kd.R_drew)); exact HO168.out) hg hat); have n3_ := Aside0.mk (hb); have n4_ := Aside0.mk (ho); clear BK150; clear BK156; clear HO168; clear HB; clear HO_7; have BK150 := n0_; have BK156 := n1_; have HO168 := n2_; have HB := n3_; have HO171 := n4_; clear n0_ n1_ n2_ n3_ n4_; clear ho hb hg hat))
                            go_roundg k2
                            case measure => have := HJ2.out; have := HK2.out; omega
                            case rel => exact ⟨(y169), (decide (((rd_T81 l0_3 x39_2).f1) > ((rd_T81 l0_3 x39_2).f2))), (wrap64 (x39_2 + 1)), (by first | rfl | (simp; done) | (simp [*]; done)), (by first | rfl | (simp; done) | (simp [*]; done)), H', ⟨by have := HJ2.out; have := HK2.out; omega⟩, ⟨by (with_reducible repeat (first | apply Kd.R_alloc | apply Kd.R_drewN | apply Kd.R_drew)); exact Kd.R_mono HO171.out (fun _ hk => trivial)⟩, ⟨by (with_reducible repeat (first | refine blk_drewN ?_ _ | refine blk_drew ?_ | refine blk_alloc ?_ _)); exact BK150.out⟩, ⟨by repeat (first | (with_reducible first | exact HB.out | apply below_alloc | apply pw_below_drewN | apply below_drew1 | refine below_set ?_ GE150.out | refine below_set ?_ GE156.out) | exact HB.out)⟩⟩
                          · rw [if_neg c36] at H
                            exact absurd H (by simp)
                      · replace c26 := Bool.eq_false_iff.mpr c26
                        subst c26
                        have H1 : (some (([] : List Int), ([] : List Int), 1)) = some (r1, r2, r3) := by rw [if_neg (show ¬ (false = true) by decide)] at H; exact H
                        clear H
                        have H := H1
                        clear H1
                        simp only [Option.some.injEq, Prod.mk.injEq] at H
                        obtain ⟨rfl, rfl, rfl⟩ := H
                        have p155 : 0 ≤ (x39_2 : Int) := of_decide_eq_true (by first | (with_reducible assumption) | assumption)
                        have q155 : x39_2 < (l0_3.length : Int) := of_decide_eq_true (by first | (with_reducible assumption) | assumption)
                        obtain ⟨ad155, e155, hx155_0, hx155_1, hx155_2⟩ := at_T81 HR0_3.out x39_2 p155 q155
                        cases e155
                        replace hx155_0 := (HB.out.cell (World.block_lt_of_cell? w _ hx155_0)).trans hx155_0
                        replace hx155_1 := (HB.out.cell (World.block_lt_of_cell? w _ hx155_1)).trans hx155_1
                        replace hx155_2 := (HB.out.cell (World.block_lt_of_cell? w _ hx155_2)).trans hx155_2
                        replace p155 := eq_true p155
                        replace q155 := eq_true q155
                        go_wp2_with (first | ((with_reducible refine gate_dst (N := 10) rfl ?_); (try (refine gate_guard (by rfl) ?_; dsimp only)); refine box_event ?hg (N := 10) ?hd (cs := #[.int .i64 0, .int .i64 0, .int .i64 0]) (t := 81) ?hr ?_; (case hd => rfl); (case hg => rfl); (case hr => first | (go_simp; done) | (go_simp; rfl)); intro gb156 hg w44 hbox hb; have n0_ := Aside0.mk (Kd.R_below (by (with_reducible repeat (first | apply Kd.R_alloc | apply Kd.R_drewN | apply Kd.R_drew)); exact HO_7.out) hb); have n1_ := Aside0.mk (blk_below (g := gb150) (o := .cells #[.int .i64 a0_0, .int .i64 a0_1, .int .i64 a0_2, .slice (some ad155) l0_3.length c0_3] 66 (0, 0)) (by (with_reducible repeat (first | refine blk_drewN ?_ _ | refine blk_drew ?_ | refine blk_alloc ?_ _)); exact BK150.out) hb); have n2_ := Aside0.mk (below_step (by repeat (first | (with_reducible first | exact HB.out | apply below_alloc | apply pw_below_drewN | apply below_drew1 | refine below_set ?_ GE150.out) | exact HB.out)) hb); have n3_ := Aside0.mk (hbox); have n4_ := Aside0.mk ((by rw [hg]; exact (below_size (by repeat (first | (with_reducible first | exact HB.out | apply below_alloc | apply pw_below_drewN | apply below_drew1 | refine below_set ?_ GE150.out) | exact HB.out))) : w.heap.size ≤ gb156)); have n5_ := Aside0.mk ((by rw [hg]; exact (below_size (by repeat (first | (with_reducible first | exact HB.out | apply below_alloc | apply pw_below_drewN | apply below_drew1 | refine below_set ?_ GE150.out) | exact HB.out))) : w.heap.size ≤ gb156)); have n6_ := Aside0.mk ((by rw [hg]; exact Nat.ne_of_lt (blk_lt (g := gb150) (o := .cells #[.int .i64 a0_0, .int .i64 a0_1, .int .i64 a0_2, .slice (some ad155) l0_3.length c0_3] 66 (0, 0)) (by (with_reducible repeat (first | refine blk_drewN ?_ _ | refine blk_drew ?_ | refine blk_alloc ?_ _)); exact BK150.out)) : gb150 ≠ gb156)); have n7_ := Aside0.mk ((by rw [hg]; exact Nat.ne_of_gt (blk_lt (g := gb150) (o := .cells #[.int .i64 a0_0, .int .i64 a0_1, .int .i64 a0_2, .slice (some ad155) l0_3.length c0_3] 66 (0, 0)) (by (with_reducible repeat (first | refine blk_drewN ?_ _ | refine blk_drew ?_ | refine blk_alloc ?_ _)); exact BK150.out)) : gb156 ≠ gb150)); clear HO_7; clear BK150; clear HB; have HO_7 := n0_; have BK150 := n1_; have HB := n2_; have BK156 := n3_; have GW156 := n4_; have GE156 := n5_; have NB150_156 := n6_; have NB156_150 := n7_; clear n0_ n1_ n2_ n3_ n4_ n5_ n6_ n7_; clear hb hbox hg; have hnb45 := NB156_150.out; have hnc45 := NB150_156.out; have hcz46_0 : w44.cell? ⟨gb156, 0, none⟩ = some (.int .i64 0) := (blk_cell BK156.out 0).trans rfl; have hcz46_1 : w44.cell? ⟨gb156, 1, none⟩ = some (.int .i64 0) := (blk_cell BK156.out 1).trans rfl; have hcz46_2 : w44.cell? ⟨gb156, 2, none⟩ = some (.int .i64 0) := (blk_cell BK156.out 2).trans rfl; have hfz46_0 := blk_frozen BK156.out 0; have hfz46_1 := blk_frozen BK156.out 1; have hfz46_2 := blk_frozen BK156.out 2) | ((with_reducible refine gate_callee (f := 48) rfl ?_); refine goesL_ (some 45) rfl rfl Try.func48 (by kernel_rfl) rfl #[.int .i64 ((rd_T81 l0_3 x39_2).f0), .int .i64 255] rfl (by (try simp only [List.map_toArray, List.map_cons, List.map_nil]); first | done | rfl | (simp only [List.length_drop, List.length_take]; rfl)) ?_; (with_reducible refine (blk_in.calls ((rd_T81 l0_3 x39_2).f0) 255 true _ A21.out).mono ?_); rintro e w' ⟨rfl, ⟨nd, rfl⟩⟩; refine ⟨_, rfl, ?_⟩) | (go_at_call 48; (with_reducible refine (blk_in.calls ((rd_T81 l0_3 x39_2).f1) 3 true _ A23.out).mono ?_); rintro e w' ⟨rfl, ⟨nd, rfl⟩⟩) | (go_at_call 48; (with_reducible refine (blk_in.calls ((rd_T81 l0_3 x39_2).f2) 3 false _ A25.out).mono ?_); rintro e w' ⟨rfl, ⟨nd, rfl⟩⟩))
                        go_ret3
                        exact ⟨_, _, by first | rfl | (simp [errW_none, errW_some] <;> rfl) | (simp [*, errW_none, errW_some] <;> rfl), by first | exact Kd.R_nil _ _ _ _ _ | exact Kd.N_nil _ _ _ _ _ | exact Kd.V_nil _ _ _ _ _ | exact Kd.Q_nil _ _ _ _ _ | exact Kd.S_nil _ _ _ _ _, by first | exact Kd.R_nil _ _ _ _ _ | exact Kd.N_nil _ _ _ _ _ | exact Kd.V_nil _ _ _ _ _ | exact Kd.Q_nil _ _ _ _ _ | exact Kd.S_nil _ _ _ _ _, by repeat (first | (with_reducible first | exact HB.out | apply below_alloc | apply pw_below_drewN | apply below_drew1 | refine below_set ?_ GE150.out | refine below_set ?_ GE156.out) | exact HB.out)⟩
                    · replace c24 := Bool.eq_false_iff.mpr c24
                      subst c24
                      have H1 : (some (([] : List Int), ([] : List Int), 1)) = some (r1, r2, r3) := by rw [if_neg (show ¬ (false = true) by decide)] at H; exact H
                      clear H
                      have H := H1
                      clear H1
                      simp only [Option.some.injEq, Prod.mk.injEq] at H
                      obtain ⟨rfl, rfl, rfl⟩ := H
                      have p155 : 0 ≤ (x39_2 : Int) := of_decide_eq_true (by first | (with_reducible assumption) | assumption)
                      have q155 : x39_2 < (l0_3.length : Int) := of_decide_eq_true (by first | (with_reducible assumption) | assumption)
                      obtain ⟨ad155, e155, hx155_0, hx155_1, hx155_2⟩ := at_T81 HR0_3.out x39_2 p155 q155
                      cases e155
                      replace hx155_0 := (HB.out.cell (World.block_lt_of_cell? w _ hx155_0)).trans hx155_0
                      replace hx155_1 := (HB.out.cell (World.block_lt_of_cell? w _ hx155_1)).trans hx155_1
                      replace hx155_2 := (HB.out.cell (World.block_lt_of_cell? w _ hx155_2)).trans hx155_2
                      replace p155 := eq_true p155
                      replace q155 := eq_true q155
                      go_wp2_with (first | ((with_reducible refine gate_dst (N := 10) rfl ?_); (try (refine gate_guard (by rfl) ?_; dsimp only)); refine box_event ?hg (N := 10) ?hd (cs := #[.int .i64 0, .int .i64 0, .int .i64 0]) (t := 81) ?hr ?_; (case hd => rfl); (case hg => rfl); (case hr => first | (go_simp; done) | (go_simp; rfl)); intro gb156 hg w47 hbox hb; have n0_ := Aside0.mk (Kd.R_below (by (with_reducible repeat (first | apply Kd.R_alloc | apply Kd.R_drewN | apply Kd.R_drew)); exact HO_7.out) hb); have n1_ := Aside0.mk (blk_below (g := gb150) (o := .cells #[.int .i64 a0_0, .int .i64 a0_1, .int .i64 a0_2, .slice (some ad155) l0_3.length c0_3] 66 (0, 0)) (by (with_reducible repeat (first | refine blk_drewN ?_ _ | refine blk_drew ?_ | refine blk_alloc ?_ _)); exact BK150.out) hb); have n2_ := Aside0.mk (below_step (by repeat (first | (with_reducible first | exact HB.out | apply below_alloc | apply pw_below_drewN | apply below_drew1 | refine below_set ?_ GE150.out) | exact HB.out)) hb); have n3_ := Aside0.mk (hbox); have n4_ := Aside0.mk ((by rw [hg]; exact (below_size (by repeat (first | (with_reducible first | exact HB.out | apply below_alloc | apply pw_below_drewN | apply below_drew1 | refine below_set ?_ GE150.out) | exact HB.out))) : w.heap.size ≤ gb156)); have n5_ := Aside0.mk ((by rw [hg]; exact (below_size (by repeat (first | (with_reducible first | exact HB.out | apply below_alloc | apply pw_below_drewN | apply below_drew1 | refine below_set ?_ GE150.out) | exact HB.out))) : w.heap.size ≤ gb156)); have n6_ := Aside0.mk ((by rw [hg]; exact Nat.ne_of_lt (blk_lt (g := gb150) (o := .cells #[.int .i64 a0_0, .int .i64 a0_1, .int .i64 a0_2, .slice (some ad155) l0_3.length c0_3] 66 (0, 0)) (by (with_reducible repeat (first | refine blk_drewN ?_ _ | refine blk_drew ?_ | refine blk_alloc ?_ _)); exact BK150.out)) : gb150 ≠ gb156)); have n7_ := Aside0.mk ((by rw [hg]; exact Nat.ne_of_gt (blk_lt (g := gb150) (o := .cells #[.int .i64 a0_0, .int .i64 a0_1, .int .i64 a0_2, .slice (some ad155) l0_3.length c0_3] 66 (0, 0)) (by (with_reducible repeat (first | refine blk_drewN ?_ _ | refine blk_drew ?_ | refine blk_alloc ?_ _)); exact BK150.out)) : gb156 ≠ gb150)); clear HO_7; clear BK150; clear HB; have HO_7 := n0_; have BK150 := n1_; have HB := n2_; have BK156 := n3_; have GW156 := n4_; have GE156 := n5_; have NB150_156 := n6_; have NB156_150 := n7_; clear n0_ n1_ n2_ n3_ n4_ n5_ n6_ n7_; clear hb hbox hg; have hnb48 := NB156_150.out; have hnc48 := NB150_156.out; have hcz49_0 : w47.cell? ⟨gb156, 0, none⟩ = some (.int .i64 0) := (blk_cell BK156.out 0).trans rfl; have hcz49_1 : w47.cell? ⟨gb156, 1, none⟩ = some (.int .i64 0) := (blk_cell BK156.out 1).trans rfl; have hcz49_2 : w47.cell? ⟨gb156, 2, none⟩ = some (.int .i64 0) := (blk_cell BK156.out 2).trans rfl; have hfz49_0 := blk_frozen BK156.out 0; have hfz49_1 := blk_frozen BK156.out 1; have hfz49_2 := blk_frozen BK156.out 2) | ((with_reducible refine gate_callee (f := 48) rfl ?_); refine goesL_ (some 45) rfl rfl Try.func48 (by kernel_rfl) rfl #[.int .i64 ((rd_T81 l0_3 x39_2).f0), .int .i64 255] rfl (by (try simp only [List.map_toArray, List.map_cons, List.map_nil]); first | done | rfl | (simp only [List.length_drop, List.length_take]; rfl)) ?_; (with_reducible refine (blk_in.calls ((rd_T81 l0_3 x39_2).f0) 255 true _ A21.out).mono ?_); rintro e w' ⟨rfl, ⟨nd, rfl⟩⟩; refine ⟨_, rfl, ?_⟩) | (go_at_call 48; (with_reducible refine (blk_in.calls ((rd_T81 l0_3 x39_2).f1) 3 false _ A23.out).mono ?_); rintro e w' ⟨rfl, ⟨nd, rfl⟩⟩))
                      go_ret3
                      exact ⟨_, _, by first | rfl | (simp [errW_none, errW_some] <;> rfl) | (simp [*, errW_none, errW_some] <;> rfl), by first | exact Kd.R_nil _ _ _ _ _ | exact Kd.N_nil _ _ _ _ _ | exact Kd.V_nil _ _ _ _ _ | exact Kd.Q_nil _ _ _ _ _ | exact Kd.S_nil _ _ _ _ _, by first | exact Kd.R_nil _ _ _ _ _ | exact Kd.N_nil _ _ _ _ _ | exact Kd.V_nil _ _ _ _ _ | exact Kd.Q_nil _ _ _ _ _ | exact Kd.S_nil _ _ _ _ _, by repeat (first | (with_reducible first | exact HB.out | apply below_alloc | apply pw_below_drewN | apply below_drew1 | refine below_set ?_ GE150.out | refine below_set ?_ GE156.out) | exact HB.out)⟩
                  · replace c22 := Bool.eq_false_iff.mpr c22
                    subst c22
                    have H1 : (some (([] : List Int), ([] : List Int), 1)) = some (r1, r2, r3) := by rw [if_neg (show ¬ (false = true) by decide)] at H; exact H
                    clear H
                    have H := H1
                    clear H1
                    simp only [Option.some.injEq, Prod.mk.injEq] at H
                    obtain ⟨rfl, rfl, rfl⟩ := H
                    have p155 : 0 ≤ (x39_2 : Int) := of_decide_eq_true (by first | (with_reducible assumption) | assumption)
                    have q155 : x39_2 < (l0_3.length : Int) := of_decide_eq_true (by first | (with_reducible assumption) | assumption)
                    obtain ⟨ad155, e155, hx155_0, hx155_1, hx155_2⟩ := at_T81 HR0_3.out x39_2 p155 q155
                    cases e155
                    replace hx155_0 := (HB.out.cell (World.block_lt_of_cell? w _ hx155_0)).trans hx155_0
                    replace hx155_1 := (HB.out.cell (World.block_lt_of_cell? w _ hx155_1)).trans hx155_1
                    replace hx155_2 := (HB.out.cell (World.block_lt_of_cell? w _ hx155_2)).trans hx155_2
                    replace p155 := eq_true p155
                    replace q155 := eq_true q155
                    go_wp2_with (first | ((with_reducible refine gate_dst (N := 10) rfl ?_); (try (refine gate_guard (by rfl) ?_; dsimp only)); refine box_event ?hg (N := 10) ?hd (cs := #[.int .i64 0, .int .i64 0, .int .i64 0]) (t := 81) ?hr ?_; (case hd => rfl); (case hg => rfl); (case hr => first | (go_simp; done) | (go_simp; rfl)); intro gb156 hg w50 hbox hb; have n0_ := Aside0.mk (Kd.R_below (by (with_reducible repeat (first | apply Kd.R_alloc | apply Kd.R_drewN | apply Kd.R_drew)); exact HO_7.out) hb); have n1_ := Aside0.mk (blk_below (g := gb150) (o := .cells #[.int .i64 a0_0, .int .i64 a0_1, .int .i64 a0_2, .slice (some ad155) l0_3.length c0_3] 66 (0, 0)) (by (with_reducible repeat (first | refine blk_drewN ?_ _ | refine blk_drew ?_ | refine blk_alloc ?_ _)); exact BK150.out) hb); have n2_ := Aside0.mk (below_step (by repeat (first | (with_reducible first | exact HB.out | apply below_alloc | apply pw_below_drewN | apply below_drew1 | refine below_set ?_ GE150.out) | exact HB.out)) hb); have n3_ := Aside0.mk (hbox); have n4_ := Aside0.mk ((by rw [hg]; exact (below_size (by repeat (first | (with_reducible first | exact HB.out | apply below_alloc | apply pw_below_drewN | apply below_drew1 | refine below_set ?_ GE150.out) | exact HB.out))) : w.heap.size ≤ gb156)); have n5_ := Aside0.mk ((by rw [hg]; exact (below_size (by repeat (first | (with_reducible first | exact HB.out | apply below_alloc | apply pw_below_drewN | apply below_drew1 | refine below_set ?_ GE150.out) | exact HB.out))) : w.heap.size ≤ gb156)); have n6_ := Aside0.mk ((by rw [hg]; exact Nat.ne_of_lt (blk_lt (g := gb150) (o := .cells #[.int .i64 a0_0, .int .i64 a0_1, .int .i64 a0_2, .slice (some ad155) l0_3.length c0_3] 66 (0, 0)) (by (with_reducible repeat (first | refine blk_drewN ?_ _ | refine blk_drew ?_ | refine blk_alloc ?_ _)); exact BK150.out)) : gb150 ≠ gb156)); have n7_ := Aside0.mk ((by rw [hg]; exact Nat.ne_of_gt (blk_lt (g := gb150) (o := .cells #[.int .i64 a0_0, .int .i64 a0_1, .int .i64 a0_2, .slice (some ad155) l0_3.length c0_3] 66 (0, 0)) (by (with_reducible repeat (first | refine blk_drewN ?_ _ | refine blk_drew ?_ | refine blk_alloc ?_ _)); exact BK150.out)) : gb156 ≠ gb150)); clear HO_7; clear BK150; clear HB; have HO_7 := n0_; have BK150 := n1_; have HB := n2_; have BK156 := n3_; have GW156 := n4_; have GE156 := n5_; have NB150_156 := n6_; have NB156_150 := n7_; clear n0_ n1_ n2_ n3_ n4_ n5_ n6_ n7_; clear hb hbox hg; have hnb51 := NB156_150.out; have hnc51 := NB150_156.out; have hcz52_0 : w50.cell? ⟨gb156, 0, none⟩ = some (.int .i64 0) := (blk_cell BK156.out 0).trans rfl; have hcz52_1 : w50.cell? ⟨gb156, 1, none⟩ = some (.int .i64 0) := (blk_cell BK156.out 1).trans rfl; have hcz52_2 : w50.cell? ⟨gb156, 2, none⟩ = some (.int .i64 0) := (blk_cell BK156.out 2).trans rfl; have hfz52_0 := blk_frozen BK156.out 0; have hfz52_1 := blk_frozen BK156.out 1; have hfz52_2 := blk_frozen BK156.out 2) | ((with_reducible refine gate_callee (f := 48) rfl ?_); refine goesL_ (some 45) rfl rfl Try.func48 (by kernel_rfl) rfl #[.int .i64 ((rd_T81 l0_3 x39_2).f0), .int .i64 255] rfl (by (try simp only [List.map_toArray, List.map_cons, List.map_nil]); first | done | rfl | (simp only [List.length_drop, List.length_take]; rfl)) ?_; (with_reducible refine (blk_in.calls ((rd_T81 l0_3 x39_2).f0) 255 false _ A21.out).mono ?_); rintro e w' ⟨rfl, ⟨nd, rfl⟩⟩; refine ⟨_, rfl, ?_⟩))
                    go_ret3
                    exact ⟨_, _, by first | rfl | (simp [errW_none, errW_some] <;> rfl) | (simp [*, errW_none, errW_some] <;> rfl), by first | exact Kd.R_nil _ _ _ _ _ | exact Kd.N_nil _ _ _ _ _ | exact Kd.V_nil _ _ _ _ _ | exact Kd.Q_nil _ _ _ _ _ | exact Kd.S_nil _ _ _ _ _, by first | exact Kd.R_nil _ _ _ _ _ | exact Kd.N_nil _ _ _ _ _ | exact Kd.V_nil _ _ _ _ _ | exact Kd.Q_nil _ _ _ _ _ | exact Kd.S_nil _ _ _ _ _, by repeat (first | (with_reducible first | exact HB.out | apply below_alloc | apply pw_below_drewN | apply below_drew1 | refine below_set ?_ GE150.out | refine below_set ?_ GE156.out) | exact HB.out)⟩
                · rw [if_neg c20] at H
                  exact absurd H (by simp)
              · rw [if_neg c19] at H
                exact absurd H (by simp)
            · rw [if_neg c18] at H
              have c18b0 : decide (x39_2 < (l0_3.length : Int)) = false := decide_eq_false c18
              clear c18
              rw [hT] at H
              have H' := Aside0.mk H
              clear H
              have hmk := fun w => run_make16 w
              go_wp2
              have hgw : w.heap.size ≤ wr.heap.size := HB.out.size
              have hgg : gb150 < wr.heap.size := blk_lt BK150.out
              refine Base.wp_world (fun W => Below w.heap.size w W ∧ W.heap[gb150]? = some (.cells #[.int .i64 a0_0, .int .i64 a0_1, .int .i64 a0_2, .slice A0_3 l0_3.length c0_3] 66 (0, 0)) ∧ W.heap[wr.heap.size]? = some (.cells #[.int .u8 0, .int .u8 0, .int .u8 0, .int .u8 0, .int .u8 0, .int .u8 0, .int .u8 0, .int .u8 0, .int .u8 0, .int .u8 0, .int .u8 0, .int .u8 0, .int .u8 0, .int .u8 0, .int .u8 0, .int .u8 0] 5 (0, 0)) ∧ (Kd.int .u8).R 5 W w.heap.size (fun k => k ≠ wr.heap.size) u7 x7_2) ⟨below_alloc HB.out _, blk_alloc BK150.out _, Base.blk_new _ _, Kd.R_alloc (Kd.R_mono (Kd.R_bound HO_7.out) (fun k hk => by omega)) _⟩ ?_
              intro W1 ⟨hb1, hg1, hc1, hr1⟩
              have HB1 := Aside0.mk hb1
              have HG1 := Aside0.mk hg1
              have HC1 := Aside0.mk hc1
              have HR1 := Aside0.mk hr1
              clear hb1 hg1 hc1 hr1 HB BK150 HO_7 hmk
              generalize wr.heap.size = g at *
              have G0 := fun i => blk_cell HG1.out i
              have C1 := fun i => blk_cell HC1.out i
              have F1 := fun i => blk_frozen HC1.out i
              have ne1 : ¬ (gb150 = g) := by omega
              have ne2 : ¬ (g = gb150) := by omega
              go_region
              go_wp2
              clear G0 C1 F1
              refine Base.wp_world (fun W => Below w.heap.size w W ∧ W.heap[gb150]? = some (.cells #[.int .i64 a0_0, .int .i64 a0_1, .int .i64 a0_2, .slice A0_3 l0_3.length c0_3] 66 (0, 0)) ∧ W.heap[g]? = some (.cells #[.int .u8 (a0_0 % 256), .int .u8 ((l0_3.length : Int) % 256), .int .u8 0, .int .u8 0, .int .u8 0, .int .u8 0, .int .u8 0, .int .u8 0, .int .u8 0, .int .u8 0, .int .u8 0, .int .u8 0, .int .u8 0, .int .u8 0, .int .u8 0, .int .u8 0] 5 (0, 0)) ∧ (Kd.int .u8).R 5 W w.heap.size (fun k => k ≠ g) u7 x7_2) ⟨below_drew1 (below_set (below_set HB1.out hgw) hgw), Base.blk_drew (Base.blk_far (Base.blk_far HG1.out ne1 _) ne1 _), Base.blk_drew (blk_put (blk_put HC1.out _ _ rfl) _ _ rfl), Kd.R_drew (Kd.R_far (Kd.R_far HR1.out (fun _ hk => hk) _) (fun _ hk => hk) _)⟩ ?_
              clear HB1 HG1 HC1 HR1 W1
              intro W1 ⟨hb1, hg1, hc1, hr1⟩
              have HB1 := Aside0.mk hb1
              have HG1 := Aside0.mk hg1
              have HC1 := Aside0.mk hc1
              have HR1 := Aside0.mk hr1
              clear hb1 hg1 hc1 hr1
              have G0 := fun i => blk_cell HG1.out i
              have C1 := fun i => blk_cell HC1.out i
              have F1 := fun i => blk_frozen HC1.out i
              go_region
              go_wp2
              clear G0 C1 F1
              refine Base.wp_world (fun W => Below w.heap.size w W ∧ W.heap[gb150]? = some (.cells #[.int .i64 a0_0, .int .i64 a0_1, .int .i64 a0_2, .slice A0_3 l0_3.length c0_3] 66 (0, 0)) ∧ W.heap[g]? = some (.cells (rowK a0_0 (l0_3.length : Int) a0_1 a0_2 0) 5 (0, 0)) ∧ (Kd.int .u8).R 5 W w.heap.size (fun k => k ≠ g) u7 x7_2) ⟨below_drew1 (below_set (below_set HB1.out hgw) hgw), Base.blk_drew (Base.blk_far (Base.blk_far HG1.out ne1 _) ne1 _), Base.blk_drew (blk_put (blk_put HC1.out _ _ rfl) _ _ rfl), Kd.R_drew (Kd.R_far (Kd.R_far HR1.out (fun _ hk => hk) _) (fun _ hk => hk) _)⟩ ?_
              clear HB1 HG1 HC1 HR1 W1
              intro W1 ⟨hb1, hg1, hc1, hr1⟩
              have HS := Aside0.mk (And.intro hb1 (And.intro hg1 (And.intro hc1 hr1)))
              clear hb1 hg1 hc1 hr1
              go_loopw [12, 104] (fun v12 v104 W => ∃ kk : Nat, kk ≤ 4 ∧ v104 = .int .i64 kk ∧ Aside0 (Below w.heap.size w W ∧ W.heap[gb150]? = some (.cells #[.int .i64 a0_0, .int .i64 a0_1, .int .i64 a0_2, .slice A0_3 l0_3.length c0_3] 66 (0, 0)) ∧ W.heap[g]? = some (.cells (rowK a0_0 (l0_3.length : Int) a0_1 a0_2 kk) 5 (0, 0)) ∧ (Kd.int .u8).R 5 W w.heap.size (fun k => k ≠ g) u7 x7_2)) (fun _ v _ => 4 - (intOf v).toNat)
              case atStart => exact ⟨0, Nat.zero_le _, rfl, HS⟩
              case round => as_aux_lemma =>
                clear HS
                obtain ⟨kk, hk4, rfl, HS⟩ := hrel
                have hcases : kk = 0 ∨ kk = 1 ∨ kk = 2 ∨ kk = 3 ∨ kk = 4 := by omega
                have HB1 := Aside0.mk HS.out.1
                have HG1 := Aside0.mk HS.out.2.1
                have HC1 := Aside0.mk HS.out.2.2.1
                have HR1 := Aside0.mk HS.out.2.2.2
                clear HS hk4
                have G0 := fun i => blk_cell HG1.out i
                have C1 := fun i => blk_cell HC1.out i
                have F1 := fun i => blk_frozen HC1.out i
                rcases hcases with rfl | rfl | rfl | rfl | rfl
                rotate_left 4
                · as_aux_lemma =>
                    have H := H'.out
                    clear H'
                    unfold blk_Pack.rest at H
                    by_cases hp : 0 ≤ a1
                    · rw [if_pos hp] at H
                      cases x8_2
                      · rw [if_neg (by decide)] at H
                        by_cases ho : a0_0 = 2
                        · have hob : (a0_0 == 2) = true := by simpa using ho
                          rw [if_pos ho] at H
                          clear ho
                          simp only [Option.some.injEq, Prod.mk.injEq] at H
                          obtain ⟨rfl, rfl, rfl⟩ := H
                          go_wp2
                          refine Base.wp_world (fun W => Below w.heap.size w W ∧ W.heap[gb150]? = some (.cells #[.int .i64 a0_0, .int .i64 a0_1, .int .i64 a0_2, .slice A0_3 l0_3.length c0_3] 66 (0, 0)) ∧ W.heap[g]? = some (.cells (rowK a0_0 (l0_3.length : Int) a0_1 a0_2 4) 5 (0, 0)) ∧ (Kd.int .u8).R 5 W w.heap.size (fun k => k ≠ g) u7 x7_2) ⟨HB1.out, HG1.out, HC1.out, HR1.out⟩ ?_
                          clear HB1 HG1 HC1 HR1 G0 C1 F1 wr
                          intro W1 ⟨hb1, hg1, hc1, hr1⟩
                          simp only [rowK] at hc1
                          have HB1 := Aside0.mk hb1
                          have HG1 := Aside0.mk hg1
                          have HC1 := Aside0.mk hc1
                          have HR1 := Aside0.mk hr1
                          clear hb1 hg1 hc1 hr1
                          have G0 := fun i => blk_cell HG1.out i
                          have C1 := fun i => blk_cell HC1.out i
                          have F1 := fun i => blk_frozen HC1.out i
                          go_region
                          go_upto_region 26 with (fail)
                          clear G0 C1 F1
                          refine Base.wp_world (fun W => Below w.heap.size w W ∧ W.heap[gb150]? = some (.cells #[.int .i64 a0_0, .int .i64 a0_1, .int .i64 a0_2, .slice A0_3 l0_3.length c0_3] 66 (0, 0)) ∧ W.heap[g]? = some (.cells #[.int .u8 3, .int .u8 ((l0_3.length : Int) % 256), .int .u8 (a0_1 % 256), .int .u8 (a0_1 / 256 % 256), .int .u8 (a0_2 % 256), .int .u8 (a0_2 / 256 % 256), .int .u8 (a0_2 / 65536 % 256), .int .u8 (a0_2 / 16777216 % 256), .int .u8 (a1 % 256), .int .u8 (a0_0 % 256), .int .u8 0, .int .u8 0, .int .u8 0, .int .u8 0, .int .u8 0, .int .u8 0] 5 (0, 0)) ∧ (Kd.int .u8).R 5 W w.heap.size (fun k => k ≠ g) u7 x7_2) ⟨below_drew1 (below_set (below_set (below_set HB1.out hgw) hgw) hgw), Base.blk_drew (Base.blk_far (Base.blk_far (Base.blk_far HG1.out ne1 _) ne1 _) ne1 _), Base.blk_drew (blk_put (blk_put (blk_put HC1.out _ _ rfl) _ _ rfl) _ _ rfl), Kd.R_drew (Kd.R_far (Kd.R_far (Kd.R_far HR1.out (fun _ hk => hk) _) (fun _ hk => hk) _) (fun _ hk => hk) _)⟩ ?_
                          clear HB1 HG1 HC1 HR1 W1
                          intro W1 ⟨hb1, hg1, hc1, hr1⟩
                          have HB1 := Aside0.mk hb1
                          have HG1 := Aside0.mk hg1
                          have HC1 := Aside0.mk hc1
                          have HR1 := Aside0.mk hr1
                          clear hb1 hg1 hc1 hr1
                          have G0 := fun i => blk_cell HG1.out i
                          have C1 := fun i => blk_cell HC1.out i
                          have F1 := fun i => blk_frozen HC1.out i
                          go_wp2
                          go_ret3
                          exact ⟨_, _, by first | rfl | (simp; done), Kd.R_nil _ _ _ _ _, Kd.R_nil _ _ _ _ _, (by repeat (with_reducible first | exact HB1.out | apply below_alloc | apply pw_below_drewN | apply below_drew1))⟩
                        · have hob : (a0_0 == 2) = false := by simpa using ho
                          rw [if_neg ho] at H
                          obtain ⟨t, ht, H⟩ := Option.bind_eq_some_iff.mp H
                          cases t
                          · rw [if_neg (by decide)] at H
                            simp only [Option.some.injEq, Prod.mk.injEq] at H
                            obtain ⟨rfl, rfl, rfl⟩ := H
                            go_wp2
                            refine Base.wp_world (fun W => Below w.heap.size w W ∧ W.heap[gb150]? = some (.cells #[.int .i64 a0_0, .int .i64 a0_1, .int .i64 a0_2, .slice A0_3 l0_3.length c0_3] 66 (0, 0)) ∧ W.heap[g]? = some (.cells (rowK a0_0 (l0_3.length : Int) a0_1 a0_2 4) 5 (0, 0)) ∧ (Kd.int .u8).R 5 W w.heap.size (fun k => k ≠ g) u7 x7_2) ⟨HB1.out, HG1.out, HC1.out, HR1.out⟩ ?_
                            clear HB1 HG1 HC1 HR1 G0 C1 F1 wr
                            intro W1 ⟨hb1, hg1, hc1, hr1⟩
                            simp only [rowK] at hc1
                            have HB1 := Aside0.mk hb1
                            have HG1 := Aside0.mk hg1
                            have HC1 := Aside0.mk hc1
                            have HR1 := Aside0.mk hr1
                            clear hb1 hg1 hc1 hr1
                            have G0 := fun i => blk_cell HG1.out i
                            have C1 := fun i => blk_cell HC1.out i
                            have F1 := fun i => blk_frozen HC1.out i
                            go_region
                            go_upto_region 26 with (fail)
                            clear G0 C1 F1
                            refine Base.wp_world (fun W => Below w.heap.size w W ∧ W.heap[gb150]? = some (.cells #[.int .i64 a0_0, .int .i64 a0_1, .int .i64 a0_2, .slice A0_3 l0_3.length c0_3] 66 (0, 0)) ∧ W.heap[g]? = some (.cells #[.int .u8 3, .int .u8 ((l0_3.length : Int) % 256), .int .u8 (a0_1 % 256), .int .u8 (a0_1 / 256 % 256), .int .u8 (a0_2 % 256), .int .u8 (a0_2 / 256 % 256), .int .u8 (a0_2 / 65536 % 256), .int .u8 (a0_2 / 16777216 % 256), .int .u8 (a1 % 256), .int .u8 (a0_0 % 256), .int .u8 0, .int .u8 0, .int .u8 0, .int .u8 0, .int .u8 0, .int .u8 0] 5 (0, 0)) ∧ (Kd.int .u8).R 5 W w.heap.size (fun k => k ≠ g) u7 x7_2) ⟨below_drew1 (below_set (below_set (below_set HB1.out hgw) hgw) hgw), Base.blk_drew (Base.blk_far (Base.blk_far (Base.blk_far HG1.out ne1 _) ne1 _) ne1 _), Base.blk_drew (blk_put (blk_put (blk_put HC1.out _ _ rfl) _ _ rfl) _ _ rfl), Kd.R_drew (Kd.R_far (Kd.R_far (Kd.R_far HR1.out (fun _ hk => hk) _) (fun _ hk => hk) _) (fun _ hk => hk) _)⟩ ?_
                            clear HB1 HG1 HC1 HR1 W1
                            intro W1 ⟨hb1, hg1, hc1, hr1⟩
                            have HB1 := Aside0.mk hb1
                            have HG1 := Aside0.mk hg1
                            have HC1 := Aside0.mk hc1
                            have HR1 := Aside0.mk hr1
                            clear hb1 hg1 hc1 hr1
                            have G0 := fun i => blk_cell HG1.out i
                            have C1 := fun i => blk_cell HC1.out i
                            have F1 := fun i => blk_frozen HC1.out i
                            go_wp2_with (first | (go_at_call 55; (with_reducible refine (blk_count.calls a0_0 (l0_3.length : Int) 16 _ _ ht).mono ?_); rintro e w9 ⟨rfl, ⟨nd, rfl⟩⟩) | fail)
                            go_ret3
                            exact ⟨_, _, by first | rfl | (simp; done), Kd.R_nil _ _ _ _ _, Kd.R_nil _ _ _ _ _, (by repeat (with_reducible first | exact HB1.out | apply below_alloc | apply pw_below_drewN | apply below_drew1))⟩
                          · rw [if_pos rfl] at H
                            simp only [Option.some.injEq, Prod.mk.injEq] at H
                            obtain ⟨rfl, rfl, rfl⟩ := H
                            go_wp2
                            refine Base.wp_world (fun W => Below w.heap.size w W ∧ W.heap[gb150]? = some (.cells #[.int .i64 a0_0, .int .i64 a0_1, .int .i64 a0_2, .slice A0_3 l0_3.length c0_3] 66 (0, 0)) ∧ W.heap[g]? = some (.cells (rowK a0_0 (l0_3.length : Int) a0_1 a0_2 4) 5 (0, 0)) ∧ (Kd.int .u8).R 5 W w.heap.size (fun k => k ≠ g) u7 x7_2) ⟨HB1.out, HG1.out, HC1.out, HR1.out⟩ ?_
                            clear HB1 HG1 HC1 HR1 G0 C1 F1 wr
                            intro W1 ⟨hb1, hg1, hc1, hr1⟩
                            simp only [rowK] at hc1
                            have HB1 := Aside0.mk hb1
                            have HG1 := Aside0.mk hg1
                            have HC1 := Aside0.mk hc1
                            have HR1 := Aside0.mk hr1
                            clear hb1 hg1 hc1 hr1
                            have G0 := fun i => blk_cell HG1.out i
                            have C1 := fun i => blk_cell HC1.out i
                            have F1 := fun i => blk_frozen HC1.out i
                            go_region
                            go_upto_region 26 with (fail)
                            clear G0 C1 F1
                            refine Base.wp_world (fun W => Below w.heap.size w W ∧ W.heap[gb150]? = some (.cells #[.int .i64 a0_0, .int .i64 a0_1, .int .i64 a0_2, .slice A0_3 l0_3.length c0_3] 66 (0, 0)) ∧ W.heap[g]? = some (.cells #[.int .u8 3, .int .u8 ((l0_3.length : Int) % 256), .int .u8 (a0_1 % 256), .int .u8 (a0_1 / 256 % 256), .int .u8 (a0_2 % 256), .int .u8 (a0_2 / 256 % 256), .int .u8 (a0_2 / 65536 % 256), .int .u8 (a0_2 / 16777216 % 256), .int .u8 (a1 % 256), .int .u8 (a0_0 % 256), .int .u8 0, .int .u8 0, .int .u8 0, .int .u8 0, .int .u8 0, .int .u8 0] 5 (0, 0)) ∧ (Kd.int .u8).R 5 W w.heap.size (fun k => k ≠ g) u7 x7_2) ⟨below_drew1 (below_set (below_set (below_set HB1.out hgw) hgw) hgw), Base.blk_drew (Base.blk_far (Base.blk_far (Base.blk_far HG1.out ne1 _) ne1 _) ne1 _), Base.blk_drew (blk_put (blk_put (blk_put HC1.out _ _ rfl) _ _ rfl) _ _ rfl), Kd.R_drew (Kd.R_far (Kd.R_far (Kd.R_far HR1.out (fun _ hk => hk) _) (fun _ hk => hk) _) (fun _ hk => hk) _)⟩ ?_
                            clear HB1 HG1 HC1 HR1 W1
                            intro W1 ⟨hb1, hg1, hc1, hr1⟩
                            have HB1 := Aside0.mk hb1
                            have HG1 := Aside0.mk hg1
                            have HC1 := Aside0.mk hc1
                            have HR1 := Aside0.mk hr1
                            clear hb1 hg1 hc1 hr1
                            have G0 := fun i => blk_cell HG1.out i
                            have C1 := fun i => blk_cell HC1.out i
                            have F1 := fun i => blk_frozen HC1.out i
                            go_wp2_with (first | (go_at_call 55; (with_reducible refine (blk_count.calls a0_0 (l0_3.length : Int) 16 _ _ ht).mono ?_); rintro e w9 ⟨rfl, ⟨nd, rfl⟩⟩) | fail)
                            go_ret3
                            refine ⟨.slice (some ⟨g, 0, none⟩) 16 16, u7, by first | rfl | (simp; done), R_block (n := 16) (by with_reducible repeat (first | exact HC1.out | refine Base.blk_drewN ?_ _ | refine Base.blk_drew ?_)) (by simp [hd8]) hgw (by simp [hd8]) (by decide) (fun e => ?_), (by with_reducible repeat (first | exact R_ng HR1.out | apply Kd.R_drewN | apply Kd.R_drew)), (by repeat (with_reducible first | exact HB1.out | apply below_alloc | apply pw_below_drewN | apply below_drew1))⟩
                            exact HR1.out.1 g e.symm rfl
                      · rw [if_pos rfl] at H
                        simp only [Option.some.injEq, Prod.mk.injEq] at H
                        obtain ⟨rfl, rfl, rfl⟩ := H
                        go_wp2
                        refine Base.wp_world (fun W => Below w.heap.size w W ∧ W.heap[gb150]? = some (.cells #[.int .i64 a0_0, .int .i64 a0_1, .int .i64 a0_2, .slice A0_3 l0_3.length c0_3] 66 (0, 0)) ∧ W.heap[g]? = some (.cells (rowK a0_0 (l0_3.length : Int) a0_1 a0_2 4) 5 (0, 0)) ∧ (Kd.int .u8).R 5 W w.heap.size (fun k => k ≠ g) u7 x7_2) ⟨HB1.out, HG1.out, HC1.out, HR1.out⟩ ?_
                        clear HB1 HG1 HC1 HR1 G0 C1 F1 wr
                        intro W1 ⟨hb1, hg1, hc1, hr1⟩
                        simp only [rowK] at hc1
                        have HB1 := Aside0.mk hb1
                        have HG1 := Aside0.mk hg1
                        have HC1 := Aside0.mk hc1
                        have HR1 := Aside0.mk hr1
                        clear hb1 hg1 hc1 hr1
                        have G0 := fun i => blk_cell HG1.out i
                        have C1 := fun i => blk_cell HC1.out i
                        have F1 := fun i => blk_frozen HC1.out i
                        go_region
                        go_upto_region 26 with (fail)
                        clear G0 C1 F1
                        refine Base.wp_world (fun W => Below w.heap.size w W ∧ W.heap[gb150]? = some (.cells #[.int .i64 a0_0, .int .i64 a0_1, .int .i64 a0_2, .slice A0_3 l0_3.length c0_3] 66 (0, 0)) ∧ W.heap[g]? = some (.cells #[.int .u8 3, .int .u8 ((l0_3.length : Int) % 256), .int .u8 (a0_1 % 256), .int .u8 (a0_1 / 256 % 256), .int .u8 (a0_2 % 256), .int .u8 (a0_2 / 256 % 256), .int .u8 (a0_2 / 65536 % 256), .int .u8 (a0_2 / 16777216 % 256), .int .u8 (a1 % 256), .int .u8 (a0_0 % 256), .int .u8 0, .int .u8 0, .int .u8 0, .int .u8 0, .int .u8 0, .int .u8 0] 5 (0, 0)) ∧ (Kd.int .u8).R 5 W w.heap.size (fun k => k ≠ g) u7 x7_2) ⟨below_drew1 (below_set (below_set (below_set HB1.out hgw) hgw) hgw), Base.blk_drew (Base.blk_far (Base.blk_far (Base.blk_far HG1.out ne1 _) ne1 _) ne1 _), Base.blk_drew (blk_put (blk_put (blk_put HC1.out _ _ rfl) _ _ rfl) _ _ rfl), Kd.R_drew (Kd.R_far (Kd.R_far (Kd.R_far HR1.out (fun _ hk => hk) _) (fun _ hk => hk) _) (fun _ hk => hk) _)⟩ ?_
                        clear HB1 HG1 HC1 HR1 W1
                        intro W1 ⟨hb1, hg1, hc1, hr1⟩
                        have HB1 := Aside0.mk hb1
                        have HG1 := Aside0.mk hg1
                        have HC1 := Aside0.mk hc1
                        have HR1 := Aside0.mk hr1
                        clear hb1 hg1 hc1 hr1
                        have G0 := fun i => blk_cell HG1.out i
                        have C1 := fun i => blk_cell HC1.out i
                        have F1 := fun i => blk_frozen HC1.out i
                        go_wp2
                        go_ret3
                        exact ⟨_, _, by first | rfl | (simp; done), Kd.R_nil _ _ _ _ _, Kd.R_nil _ _ _ _ _, (by repeat (with_reducible first | exact HB1.out | apply below_alloc | apply pw_below_drewN | apply below_drew1))⟩
                    · rw [if_neg hp] at H
                      cases x8_2
                      · rw [if_neg (by decide)] at H
                        obtain ⟨t, ht, H⟩ := Option.bind_eq_some_iff.mp H
                        cases t
                        · rw [if_neg (by decide)] at H
                          simp only [Option.some.injEq, Prod.mk.injEq] at H
                          obtain ⟨rfl, rfl, rfl⟩ := H
                          go_upto_region 26 with (fail)
                          refine Base.wp_world (fun W => Below w.heap.size w W ∧ W.heap[gb150]? = some (.cells #[.int .i64 a0_0, .int .i64 a0_1, .int .i64 a0_2, .slice A0_3 l0_3.length c0_3] 66 (0, 0)) ∧ W.heap[g]? = some (.cells (rowK a0_0 (l0_3.length : Int) a0_1 a0_2 4) 5 (0, 0)) ∧ (Kd.int .u8).R 5 W w.heap.size (fun k => k ≠ g) u7 x7_2) ⟨HB1.out, HG1.out, HC1.out, HR1.out⟩ ?_
                          clear HB1 HG1 HC1 HR1 G0 C1 F1 wr
                          intro W1 ⟨hb1, hg1, hc1, hr1⟩
                          simp only [rowK] at hc1
                          have HB1 := Aside0.mk hb1
                          have HG1 := Aside0.mk hg1
                          have HC1 := Aside0.mk hc1
                          have HR1 := Aside0.mk hr1
                          clear hb1 hg1 hc1 hr1
                          have G0 := fun i => blk_cell HG1.out i
                          have C1 := fun i => blk_cell HC1.out i
                          have F1 := fun i => blk_frozen HC1.out i
                          go_wp2_with (first | (go_at_call 55; (with_reducible refine (blk_count.calls a0_0 (l0_3.length : Int) 4 _ _ ht).mono ?_); rintro e w9 ⟨rfl, ⟨nd, rfl⟩⟩) | fail)
                          go_ret3
                          exact ⟨_, _, by first | rfl | (simp; done), Kd.R_nil _ _ _ _ _, Kd.R_nil _ _ _ _ _, (by repeat (with_reducible first | exact HB1.out | apply below_alloc | apply pw_below_drewN | apply below_drew1))⟩
                        · rw [if_pos rfl] at H
                          simp only [Option.some.injEq, Prod.mk.injEq] at H
                          obtain ⟨rfl, rfl, rfl⟩ := H
                          go_upto_region 26 with (fail)
                          refine Base.wp_world (fun W => Below w.heap.size w W ∧ W.heap[gb150]? = some (.cells #[.int .i64 a0_0, .int .i64 a0_1, .int .i64 a0_2, .slice A0_3 l0_3.length c0_3] 66 (0, 0)) ∧ W.heap[g]? = some (.cells (rowK a0_0 (l0_3.length : Int) a0_1 a0_2 4) 5 (0, 0)) ∧ (Kd.int .u8).R 5 W w.heap.size (fun k => k ≠ g) u7 x7_2) ⟨HB1.out, HG1.out, HC1.out, HR1.out⟩ ?_
                          clear HB1 HG1 HC1 HR1 G0 C1 F1 wr
                          intro W1 ⟨hb1, hg1, hc1, hr1⟩
                          simp only [rowK] at hc1
                          have HB1 := Aside0.mk hb1
                          have HG1 := Aside0.mk hg1
                          have HC1 := Aside0.mk hc1
                          have HR1 := Aside0.mk hr1
                          clear hb1 hg1 hc1 hr1
                          have G0 := fun i => blk_cell HG1.out i
                          have C1 := fun i => blk_cell HC1.out i
                          have F1 := fun i => blk_frozen HC1.out i
                          obtain ⟨A7, c7, e7⟩ := Kd.R_slice HR1.out
                          subst e7
                          have HS7 := Aside0.mk (Kd.R_reads' HR1.out).2.2
                          have hcp := fun n => copy_run (W := W1.drewN n) (c := c7) (cur := [.int .u8 (a0_0 % 256), .int .u8 ((l0_3.length : Int) % 256), .int .u8 (a0_1 % 256), .int .u8 (a0_1 / 256 % 256), .int .u8 (a0_2 % 256), .int .u8 (a0_2 / 256 % 256), .int .u8 (a0_2 / 65536 % 256), .int .u8 (a0_2 / 16777216 % 256), .int .u8 0, .int .u8 0, .int .u8 0, .int .u8 0, .int .u8 0, .int .u8 0, .int .u8 0, .int .u8 0]) (Base.blk_drewN HC1.out n) rfl (Kd.C_drewN HS7.out n)
                          go_wp2_with (first | (go_at_call 55; (with_reducible refine (blk_count.calls a0_0 (l0_3.length : Int) 4 _ _ ht).mono ?_); rintro e w9 ⟨rfl, ⟨nd, rfl⟩⟩) | fail)
                          go_ret3
                          refine ⟨.slice (some ⟨g, 0, none⟩) 16 16, .slice none 0 0, by first | rfl | (simp; done), R_block (n := 16) (setRow_heap _ _ _ _ _ _ (Base.blk_drewN HC1.out nd)) (by rw [← splice_map, List.map_take]; rfl) hgw ?_ (by decide) (fun e => by simp [Value.ownBlock] at e), Kd.R_nil _ _ _ _ _, below_setRow (pw_below_drewN HB1.out nd) hgw _⟩
                          rw [length_splice _ _ _ (by rw [List.length_take]; simp [hd8]; omega)]
                          simp [hd8]
                      · rw [if_pos rfl] at H
                        simp only [Option.some.injEq, Prod.mk.injEq] at H
                        obtain ⟨rfl, rfl, rfl⟩ := H
                        go_upto_region 26 with (fail)
                        refine Base.wp_world (fun W => Below w.heap.size w W ∧ W.heap[gb150]? = some (.cells #[.int .i64 a0_0, .int .i64 a0_1, .int .i64 a0_2, .slice A0_3 l0_3.length c0_3] 66 (0, 0)) ∧ W.heap[g]? = some (.cells (rowK a0_0 (l0_3.length : Int) a0_1 a0_2 4) 5 (0, 0)) ∧ (Kd.int .u8).R 5 W w.heap.size (fun k => k ≠ g) u7 x7_2) ⟨HB1.out, HG1.out, HC1.out, HR1.out⟩ ?_
                        clear HB1 HG1 HC1 HR1 G0 C1 F1 wr
                        intro W1 ⟨hb1, hg1, hc1, hr1⟩
                        simp only [rowK] at hc1
                        have HB1 := Aside0.mk hb1
                        have HG1 := Aside0.mk hg1
                        have HC1 := Aside0.mk hc1
                        have HR1 := Aside0.mk hr1
                        clear hb1 hg1 hc1 hr1
                        have G0 := fun i => blk_cell HG1.out i
                        have C1 := fun i => blk_cell HC1.out i
                        have F1 := fun i => blk_frozen HC1.out i
                        go_wp2
                        go_ret3
                        exact ⟨_, _, by first | rfl | (simp; done), Kd.R_nil _ _ _ _ _, Kd.R_nil _ _ _ _ _, (by repeat (with_reducible first | exact HB1.out | apply below_alloc | apply pw_below_drewN | apply below_drew1))⟩
                all_goals simp only [rowK] at C1
                all_goals go_wp2
                · exact ⟨⟨1, by omega, rfl, ⟨below_set HB1.out hgw, Base.blk_far HG1.out ne1 _, blk_put HC1.out _ _ rfl, Kd.R_far HR1.out (fun _ hk => hk) _⟩⟩, by simp [intOf]⟩
                · exact ⟨⟨2, by omega, rfl, ⟨below_set HB1.out hgw, Base.blk_far HG1.out ne1 _, blk_put HC1.out _ _ rfl, Kd.R_far HR1.out (fun _ hk => hk) _⟩⟩, by simp [intOf]⟩
                · exact ⟨⟨3, by omega, rfl, ⟨below_set HB1.out hgw, Base.blk_far HG1.out ne1 _, blk_put HC1.out _ _ rfl, Kd.R_far HR1.out (fun _ hk => hk) _⟩⟩, by simp [intOf]⟩
                · exact ⟨⟨4, by omega, rfl, ⟨below_set HB1.out hgw, Base.blk_far HG1.out ne1 _, blk_put HC1.out _ _ rfl, Kd.R_far HR1.out (fun _ hk => hk) _⟩⟩, by simp [intOf]⟩

end Go.Proofs.Ytdphppbocoinjaa.PBlkBack
