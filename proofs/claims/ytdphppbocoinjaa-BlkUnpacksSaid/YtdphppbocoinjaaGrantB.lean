/- Proved: what grant.Unpack of the program comes to where the entry is of a whole page, and where the bytes are not eight. -/
import Derived.Test.YtdphppbocoinjaaGrantA
namespace Go.Proofs.Ytdphppbocoinjaa.GU
open Go.RowKit Go.Proofs.YtdphppbocoinjaaW.PrintWords Go.Proofs.YtdphppbocoinjaaW.PrintLast Go.Proofs.YtdphppbocoinjaaW.PrintMore
open Go.Proofs.Ytdphppbocoinjaa.PureReplies
set_option linter.unusedVariables false

set_option maxHeartbeats 4000000 in
set_option maxRecDepth 100000 in
theorem unpack_whole (ad : Addr) (c : Nat) (l : List Int) (w : World) (hb : Bytes w ad 8 l) (hs : (bits .and .i64 (rd l 0 + 256 * rd l 1) 8 != 0) = false) :
    Calls Try.prog 28 #[.slice (some ad) 8 c] w (UnpOut w l) := by
  have H := Aside0.mk hb
  clear hb
  have hsb : sb l = false := hs
  have hof : of l = 0 := by unfold of; rw [if_neg (by rw [hsb]; decide)]
  have hle : le l = 256 := by unfold le; rw [if_neg (by rw [hsb]; decide)]
  have hbad : bad l ↔ (16 ≤ rd l 0 + 256 * rd l 1 ∨ bits .and .i64 (rd l 0 + 256 * rd l 1) 3 = 3) := by unfold bad; rw [hof, hle]; simp [fl, kd]
  have hagg : agg l = .agg #[.int .i64 (bits .and .i64 (rd l 0 + 256 * rd l 1) 3), .bool (bits .and .i64 (rd l 0 + 256 * rd l 1) 4 != 0), .bool false, .int .i64 (rd l 2 + 256 * rd l 3), .int .i64 (rd l 4 + 256 * rd l 5), .int .i64 0, .int .i64 256] := by
    unfold agg; rw [hof, hle, hsb]; rfl
  have Hbad := Aside0.mk hbad
  have Hagg := Aside0.mk hagg
  clear hbad hagg hof hle hsb
  have hk' : ((bits .and .i64 (rd l 0 + 256 * rd l 1) 3 == 3) = true ∨ (bits .and .i64 (rd l 0 + 256 * rd l 1) 3 == 3) = false) := by cases (bits .and .i64 (rd l 0 + 256 * rd l 1) 3 == 3) <;> simp
  have hF' : (16 ≤ rd l 0 + 256 * rd l 1 ∨ rd l 0 + 256 * rd l 1 < 16) := by omega
  rcases hF' with hF | hF
  all_goals rcases hk' with hk | hk
  all_goals
    go_enter Try.func28, Try.ntmps28
    go_wp2_with (go_at_call 49; ((with_reducible refine (word_calls _ _ ad 8 c l _ (by omega) (by omega) (by omega) ?_ (H.out.below ?_)).mono ?_); (go_simp); (repeat (first | exact Below.refl _ _ | apply below_alloc | apply pw_below_drewN | apply below_drew1)); rintro e w' ⟨rfl, nn, rfl⟩))
    first
    | (have hbd : bad l := Hbad.out.mpr (by first | exact .inl hF | exact .inr (eq_of_beq hk))
       refine bodyPost_ret (v := .tuple #[zero, .int .i64 60]) ?_ rfl (UnpOut.bad_ hbd ?_)
       · simp only [results, Try.results28]; first | (go_simp; done) | (go_simp; rfl)
       · repeat (with_reducible first | exact Below.refl _ _ | apply below_alloc | apply pw_below_drewN | apply below_drew1 | refine below_set ?_ (by omega)))
    | (have hbd : ¬ bad l := fun hh => (Hbad.out.mp hh).elim (fun h => by omega) (fun h => by rw [h] at hk; exact Bool.noConfusion hk)
       refine bodyPost_ret (v := .tuple #[.agg #[.int .i64 (bits .and .i64 (rd l 0 + 256 * rd l 1) 3), .bool (bits .and .i64 (rd l 0 + 256 * rd l 1) 4 != 0), .bool false, .int .i64 (rd l 2 + 256 * rd l 3), .int .i64 (rd l 4 + 256 * rd l 5), .int .i64 0, .int .i64 256], .int .i64 0]) ?_ rfl (UnpOut.good hbd Hagg.out ?_)
       · simp only [results, Try.results28]; go_simp
       · repeat (with_reducible first | exact Below.refl _ _ | apply below_alloc | apply pw_below_drewN | apply below_drew1 | refine below_set ?_ (by omega)))

set_option maxHeartbeats 4000000 in
set_option maxRecDepth 100000 in
theorem unpack_len (A : Option Addr) (n c : Nat) (w : World) (hn : ((n : Int) != 8) = true) :
    Calls Try.prog 28 #[.slice A n c] w fun e w' => e = .returned (.tuple #[zero, .int .i64 1]) ∧ Below w.heap.size w w' := by
  go_enter Try.func28, Try.ntmps28
  go_wp2
  refine bodyPost_ret (v := .tuple #[zero, .int .i64 1]) ?_ rfl ⟨rfl, ?_⟩
  · simp only [results, Try.results28]; first | (go_simp; done) | (go_simp; rfl)
  · repeat (with_reducible first | exact Below.refl _ _ | apply below_alloc | apply pw_below_drewN | apply below_drew1 | refine below_set ?_ (by omega))
end Go.Proofs.Ytdphppbocoinjaa.GU
