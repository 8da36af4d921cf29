/- Proved: an entry of a table as bytes, by the program's Pack. -/
import Derived.Test.YtdphppbocoinjaaGrantD
import Derived.RegionTactic
import Derived.ChangeAlike
namespace Go.Proofs.Ytdphppbocoinjaa.GP
open Go.RowKit Go.Proofs.YtdphppbocoinjaaW.PrintWords Go.Proofs.YtdphppbocoinjaaW.PrintLast Go.Proofs.YtdphppbocoinjaaW.PrintMore
set_option linter.unusedVariables false

def Ok (k d gp off len : Int) : Prop := 0 ≤ k ∧ k ≤ 2 ∧ 0 ≤ d ∧ d < 65536 ∧ 0 ≤ gp ∧ gp < 65536 ∧ 0 ≤ off ∧ off < 256 ∧ 1 ≤ len ∧ len + off ≤ 256
instance (k d gp off len : Int) : Decidable (Ok k d gp off len) := by unfold Ok; infer_instance
def b0 (k : Int) (ro sub : Bool) : Int := k + (if ro then 4 else 0) + (if sub then 8 else 0)
def pl (k : Int) (ro sub : Bool) (d gp off len : Int) : List Int := [b0 k ro sub, 0, d % 256, d / 256, gp % 256, gp / 256, if sub then off else 0, if sub then len - 1 else 255]
def PackOut (w : World) (k : Int) (ro sub : Bool) (d gp off len : Int) (e : Ending) (w' : World) : Prop :=
  (¬ Ok k d gp off len ∧ e = .returned (.tuple #[.slice none 0 0, .int .i64 1]) ∧ Below w.heap.size w w') ∨
  (Ok k d gp off len ∧ ∃ g, e = .returned (.tuple #[.slice (some ⟨g, 0, none⟩) 8 8, .int .i64 0]) ∧ w'.heap[g]? = some (.cells ((pl k ro sub d gp off len).map (Value.int .u8)).toArray 5 (0, 0)) ∧ w.heap.size ≤ g ∧ Below w.heap.size w w')
theorem or_b0 {k : Int} (h0 : 0 ≤ k) (h2 : k ≤ 2) : bits .or .u8 (k % 256) 4 = k + 4 ∧ bits .or .u8 (k % 256) 8 = k + 8 ∧ bits .or .u8 (k + 4) 8 = k + 4 + 8 ∧ bits .or .u8 (bits .or .u8 (k % 256) 4) 8 = k + 4 + 8 := by
  have : k = 0 ∨ k = 1 ∨ k = 2 := by omega
  rcases this with rfl | rfl | rfl <;> decide +kernel
theorem or_b {k : Int} (h0 : 0 ≤ k) (h2 : k ≤ 2) : bits .or .u8 k 4 = k + 4 ∧ bits .or .u8 k 8 = k + 8 ∧ bits .or .u8 (k + 4) 8 = k + 4 + 8 := by
  have : k = 0 ∨ k = 1 ∨ k = 2 := by omega
  rcases this with rfl | rfl | rfl <;> decide +kernel
theorem PackOut.bad {w w' : World} {k d gp off len : Int} {ro sub : Bool} (h : ¬ Ok k d gp off len) (hb : Below w.heap.size w w') : PackOut w k ro sub d gp off len (.returned (.tuple #[.slice none 0 0, .int .i64 1])) w' := .inl ⟨h, rfl, hb⟩
theorem PackOut.good {w w' : World} {k d gp off len : Int} {ro sub : Bool} {g : Nat} {cs : Array Value} (h : Ok k d gp off len) (hg : w'.heap[g]? = some (.cells cs 5 (0, 0))) (hl : w.heap.size ≤ g) (hb : Below w.heap.size w w') (hc : cs = ((pl k ro sub d gp off len).map (Value.int .u8)).toArray) : PackOut w k ro sub d gp off len (.returned (.tuple #[.slice (some ⟨g, 0, none⟩) 8 8, .int .i64 0])) w' := .inr ⟨h, g, rfl, by rw [← hc]; exact hg, hl, hb⟩

set_option maxHeartbeats 8000000 in
set_option maxRecDepth 100000 in
theorem pack_ff (k : Int) (d gp off len : Int) (w : World) :
    Calls Try.prog 35 #[.agg #[.int .i64 k, .bool false, .bool false, .int .i64 d, .int .i64 gp, .int .i64 off, .int .i64 len]] w (PackOut w k false false d gp off len) := by
  go_enter Try.func35, Try.ntmps35
  go_wp2
  all_goals first
    | (refine bodyPost_ret (v := .tuple #[.slice none 0 0, .int .i64 1]) ?_ rfl (PackOut.bad ?_ (below_alloc (Below.refl _ _) _))
       · simp only [results, Try.results35]; first | (go_simp; done) | (go_simp; rfl)
       · unfold Ok; omega)
    | (refine bodyPost_ret (v := .tuple #[.slice (some ⟨w.heap.size + 1, 0, none⟩) 8 8, .int .i64 0]) ?_ rfl (PackOut.good ?_ (GU.blk_newest (by simp) _) (by omega) (below_alloc (below_alloc (Below.refl _ _) _) _) ?_)
       · simp only [results, Try.results35]; first | (go_simp; done) | (go_simp; rfl)
       · unfold Ok; omega
       · simp [pl, b0])
set_option maxHeartbeats 8000000 in
set_option maxRecDepth 100000 in
theorem pack_ft (k : Int) (d gp off len : Int) (w : World) :
    Calls Try.prog 35 #[.agg #[.int .i64 k, .bool false, .bool true, .int .i64 d, .int .i64 gp, .int .i64 off, .int .i64 len]] w (PackOut w k false true d gp off len) := by
  go_enter Try.func35, Try.ntmps35
  go_wp2
  all_goals first
    | (refine bodyPost_ret (v := .tuple #[.slice none 0 0, .int .i64 1]) ?_ rfl (PackOut.bad ?_ (below_alloc (Below.refl _ _) _))
       · simp only [results, Try.results35]; first | (go_simp; done) | (go_simp; rfl)
       · unfold Ok; omega)
    | (refine GU.wp_world (fun W => Below w.heap.size w W ∧ W.heap[w.heap.size]? = some (.cells #[.int .i64 k, .bool false, .bool true, .int .i64 d, .int .i64 gp, .int .i64 off, .int .i64 len] 44 (0, 0)) ∧ W.heap[w.heap.size + 1]? = some (.cells #[.int .u8 (bits .or .u8 k 8), .int .u8 0, .int .u8 (d % 256), .int .u8 (d / 256), .int .u8 (gp % 256), .int .u8 (gp / 256), .int .u8 0, .int .u8 255] 5 (0, 0))) ?_ ?_
       · exact ⟨below_alloc (below_alloc (Below.refl _ _) _) _, blk_alloc (blk_new _ _) _, GU.blk_newest (by simp) _⟩
       · intro W ⟨hb, h0, h1⟩
         have C0 := fun i => blk_cell h0 i
         have C1 := fun i => blk_cell h1 i
         have F1 := fun i => blk_frozen h1 i
         have HB := Aside0.mk hb
         have H1 := Aside0.mk h1
         clear hb h0 h1
         go_region
         go_wp2
         refine bodyPost_ret (v := .tuple #[.slice (some ⟨w.heap.size + 1, 0, none⟩) 8 8, .int .i64 0]) ?_ rfl (PackOut.good (cs := #[.int .u8 (bits .or .u8 k 8), .int .u8 0, .int .u8 (d % 256), .int .u8 (d / 256), .int .u8 (gp % 256), .int .u8 (gp / 256), .int .u8 off, .int .u8 (len - 1)]) ?_ ?_ (by omega) ?_ ?_)
         · simp only [results, Try.results35]; first | (go_simp; done) | (go_simp; rfl)
         · unfold Ok; omega
         · first | exact GU.blk_drewM (blk_put (blk_put H1.out _ _ rfl) _ _ rfl) _ | exact blk_put (blk_put H1.out _ _ rfl) _ _ rfl
         · first | exact below_drew1 (below_set (below_set HB.out (Nat.le_add_right _ _)) (Nat.le_add_right _ _)) | exact below_set (below_set HB.out (Nat.le_add_right _ _)) (Nat.le_add_right _ _)
         · have hor := or_b (k := k) (by omega) (by omega)
           simp [pl, b0, hor]
           try omega)
set_option maxHeartbeats 8000000 in
set_option maxRecDepth 100000 in
theorem pack_tf (k : Int) (d gp off len : Int) (w : World) :
    Calls Try.prog 35 #[.agg #[.int .i64 k, .bool true, .bool false, .int .i64 d, .int .i64 gp, .int .i64 off, .int .i64 len]] w (PackOut w k true false d gp off len) := by
  go_enter Try.func35, Try.ntmps35
  go_wp2
  all_goals first
    | (refine bodyPost_ret (v := .tuple #[.slice none 0 0, .int .i64 1]) ?_ rfl (PackOut.bad ?_ (below_alloc (Below.refl _ _) _))
       · simp only [results, Try.results35]; first | (go_simp; done) | (go_simp; rfl)
       · unfold Ok; omega)
    | (refine bodyPost_ret (v := .tuple #[.slice (some ⟨w.heap.size + 1, 0, none⟩) 8 8, .int .i64 0]) ?_ rfl (PackOut.good ?_ (GU.blk_newest (by simp) _) (by omega) (below_alloc (below_alloc (Below.refl _ _) _) _) ?_)
       · simp only [results, Try.results35]; first | (go_simp; done) | (go_simp; rfl)
       · unfold Ok; omega
       · have hor := or_b (k := k) (by omega) (by omega)
         simp [pl, b0, hor])
set_option maxHeartbeats 8000000 in
set_option maxRecDepth 100000 in
theorem pack_tt (k : Int) (d gp off len : Int) (w : World) :
    Calls Try.prog 35 #[.agg #[.int .i64 k, .bool true, .bool true, .int .i64 d, .int .i64 gp, .int .i64 off, .int .i64 len]] w (PackOut w k true true d gp off len) := by
  go_enter Try.func35, Try.ntmps35
  go_wp2
  all_goals first
    | (refine bodyPost_ret (v := .tuple #[.slice none 0 0, .int .i64 1]) ?_ rfl (PackOut.bad ?_ (below_alloc (Below.refl _ _) _))
       · simp only [results, Try.results35]; first | (go_simp; done) | (go_simp; rfl)
       · unfold Ok; omega)
    | (refine GU.wp_world (fun W => Below w.heap.size w W ∧ W.heap[w.heap.size]? = some (.cells #[.int .i64 k, .bool true, .bool true, .int .i64 d, .int .i64 gp, .int .i64 off, .int .i64 len] 44 (0, 0)) ∧ W.heap[w.heap.size + 1]? = some (.cells #[.int .u8 (bits .or .u8 (bits .or .u8 k 4) 8), .int .u8 0, .int .u8 (d % 256), .int .u8 (d / 256), .int .u8 (gp % 256), .int .u8 (gp / 256), .int .u8 0, .int .u8 255] 5 (0, 0))) ?_ ?_
       · exact ⟨below_alloc (below_alloc (Below.refl _ _) _) _, blk_alloc (blk_new _ _) _, GU.blk_newest (by simp) _⟩
       · intro W ⟨hb, h0, h1⟩
         have C0 := fun i => blk_cell h0 i
         have C1 := fun i => blk_cell h1 i
         have F1 := fun i => blk_frozen h1 i
         have HB := Aside0.mk hb
         have H1 := Aside0.mk h1
         clear hb h0 h1
         go_region
         go_wp2
         refine bodyPost_ret (v := .tuple #[.slice (some ⟨w.heap.size + 1, 0, none⟩) 8 8, .int .i64 0]) ?_ rfl (PackOut.good (cs := #[.int .u8 (bits .or .u8 (bits .or .u8 k 4) 8), .int .u8 0, .int .u8 (d % 256), .int .u8 (d / 256), .int .u8 (gp % 256), .int .u8 (gp / 256), .int .u8 off, .int .u8 (len - 1)]) ?_ ?_ (by omega) ?_ ?_)
         · simp only [results, Try.results35]; first | (go_simp; done) | (go_simp; rfl)
         · unfold Ok; omega
         · first | exact GU.blk_drewM (blk_put (blk_put H1.out _ _ rfl) _ _ rfl) _ | exact blk_put (blk_put H1.out _ _ rfl) _ _ rfl
         · first | exact below_drew1 (below_set (below_set HB.out (Nat.le_add_right _ _)) (Nat.le_add_right _ _)) | exact below_set (below_set HB.out (Nat.le_add_right _ _)) (Nat.le_add_right _ _)
         · have hor := or_b (k := k) (by omega) (by omega)
           simp [pl, b0, hor]
           try omega)
theorem pack_calls (k : Int) (ro sub : Bool) (d gp off len : Int) (w : World) :
    Calls Try.prog 35 #[.agg #[.int .i64 k, .bool ro, .bool sub, .int .i64 d, .int .i64 gp, .int .i64 off, .int .i64 len]] w (PackOut w k ro sub d gp off len) := by
  cases ro <;> cases sub
  · exact pack_ff k d gp off len w
  · exact pack_ft k d gp off len w
  · exact pack_tf k d gp off len w
  · exact pack_tt k d gp off len w
end Go.Proofs.Ytdphppbocoinjaa.GP
