/- Proved: the document's Pack of an entry (a contract for the laws of the grants). -/
import Derived.Test.YtjeobbhaoahdcaaGfI
namespace Go.Proofs.Ytjeobbhaoahdcaa.GkA
open Go.RowKit Go.Maps Go.Proofs.Ytjeobbhaoahdcaa.Base Go.Proofs.Ytjeobbhaoahdcaa.GaA Go.Proofs.Ytjeobbhaoahdcaa.GaB Go.Proofs.Ytjeobbhaoahdcaa.GaC Go.Proofs.Ytjeobbhaoahdcaa.GfC
set_option linter.unusedVariables false
set_option linter.unusedSimpArgs false

/-- Which entries can't be packed. -/
def packBad (g : Gr) : Prop := g.kd < 0 ∨ 2 < g.kd ∨ g.dom < 0 ∨ 65536 ≤ g.dom ∨ g.gp < 0 ∨ 65536 ≤ g.gp ∨ g.of < 0 ∨ 255 < g.of ∨ g.le < 1 ∨ 256 < g.le ∨ 256 < g.of + g.le
instance (g : Gr) : Decidable (packBad g) := by unfold packBad; infer_instance
set_option maxHeartbeats 8000000 in
set_option maxRecDepth 100000 in
theorem pack_bad (g : Gr) (hb : packBad g) (w : World) : Calls Try.prog 16 #[.agg #[.int .i64 g.kd, .bool g.ro, .bool g.sb, .int .i64 g.dom, .int .i64 g.gp, .int .i64 g.of, .int .i64 g.le]] w fun e w' => e = .returned (.tuple #[.slice none 0 0, .int .i64 1]) ∧ Below w.heap.size w w' := by
  obtain ⟨kd, ro, sb, dom, gp, of, le⟩ := g
  unfold packBad at hb
  simp only at hb ⊢
  by_cases b0 : kd < 0
  · have c0 : decide (kd < 0) = true := decide_eq_true b0
    clear hb b0
    go_enter Try.func16, Try.ntmps16
    go_wp2
    go_ret2
    exact ⟨by first | rfl | (simp; done), below_alloc (Below.refl _ _) _⟩
  have c0 : decide (kd < 0) = false := decide_eq_false b0
  by_cases b1 : 2 < kd
  · have c1 : decide (2 < kd) = true := decide_eq_true b1
    clear hb b0 b1
    go_enter Try.func16, Try.ntmps16
    go_wp2
    go_ret2
    exact ⟨by first | rfl | (simp; done), below_alloc (Below.refl _ _) _⟩
  have c1 : decide (2 < kd) = false := decide_eq_false b1
  by_cases b2 : dom < 0
  · have c2 : decide (dom < 0) = true := decide_eq_true b2
    clear hb b0 b1 b2
    go_enter Try.func16, Try.ntmps16
    go_wp2
    go_ret2
    exact ⟨by first | rfl | (simp; done), below_alloc (Below.refl _ _) _⟩
  have c2 : decide (dom < 0) = false := decide_eq_false b2
  by_cases b3 : 65536 ≤ dom
  · have c3 : decide (65536 ≤ dom) = true := decide_eq_true b3
    clear hb b0 b1 b2 b3
    go_enter Try.func16, Try.ntmps16
    go_wp2
    go_ret2
    exact ⟨by first | rfl | (simp; done), below_alloc (Below.refl _ _) _⟩
  have c3 : decide (65536 ≤ dom) = false := decide_eq_false b3
  by_cases b4 : gp < 0
  · have c4 : decide (gp < 0) = true := decide_eq_true b4
    clear hb b0 b1 b2 b3 b4
    go_enter Try.func16, Try.ntmps16
    go_wp2
    go_ret2
    exact ⟨by first | rfl | (simp; done), below_alloc (Below.refl _ _) _⟩
  have c4 : decide (gp < 0) = false := decide_eq_false b4
  by_cases b5 : 65536 ≤ gp
  · have c5 : decide (65536 ≤ gp) = true := decide_eq_true b5
    clear hb b0 b1 b2 b3 b4 b5
    go_enter Try.func16, Try.ntmps16
    go_wp2
    go_ret2
    exact ⟨by first | rfl | (simp; done), below_alloc (Below.refl _ _) _⟩
  have c5 : decide (65536 ≤ gp) = false := decide_eq_false b5
  by_cases b6 : of < 0
  · have c6 : decide (of < 0) = true := decide_eq_true b6
    clear hb b0 b1 b2 b3 b4 b5 b6
    go_enter Try.func16, Try.ntmps16
    go_wp2
    go_ret2
    exact ⟨by first | rfl | (simp; done), below_alloc (Below.refl _ _) _⟩
  have c6 : decide (of < 0) = false := decide_eq_false b6
  by_cases b7 : 255 < of
  · have c7 : decide (255 < of) = true := decide_eq_true b7
    clear hb b0 b1 b2 b3 b4 b5 b6 b7
    go_enter Try.func16, Try.ntmps16
    go_wp2
    go_ret2
    exact ⟨by first | rfl | (simp; done), below_alloc (Below.refl _ _) _⟩
  have c7 : decide (255 < of) = false := decide_eq_false b7
  by_cases b8 : le < 1
  · have c8 : decide (le < 1) = true := decide_eq_true b8
    clear hb b0 b1 b2 b3 b4 b5 b6 b7 b8
    go_enter Try.func16, Try.ntmps16
    go_wp2
    go_ret2
    exact ⟨by first | rfl | (simp; done), below_alloc (Below.refl _ _) _⟩
  have c8 : decide (le < 1) = false := decide_eq_false b8
  by_cases b9 : 256 < le
  · have c9 : decide (256 < le) = true := decide_eq_true b9
    clear hb b0 b1 b2 b3 b4 b5 b6 b7 b8 b9
    go_enter Try.func16, Try.ntmps16
    go_wp2
    go_ret2
    exact ⟨by first | rfl | (simp; done), below_alloc (Below.refl _ _) _⟩
  have c9 : decide (256 < le) = false := decide_eq_false b9
  have ca : decide (256 < of + le) = true := decide_eq_true (by omega)
  have k0 : 0 ≤ of := by omega
  have k1 : of ≤ 255 := by omega
  have k2 : 1 ≤ le := by omega
  have k3 : le ≤ 256 := by omega
  clear hb b0 b1 b2 b3 b4 b5 b6 b7 b8 b9
  go_enter Try.func16, Try.ntmps16
  go_wp2
  go_ret2
  exact ⟨by first | rfl | (simp; done), below_alloc (Below.refl _ _) _⟩
def ofI (x : Int) : UInt8 := UInt8.ofNat x.toNat
theorem ofI_toNat (x : Int) (h0 : 0 ≤ x) (h1 : x < 256) : ((ofI x).toNat : Int) = x := by
  unfold ofI
  rw [UInt8.toNat_ofNat']
  omega
def packN (g : Gr) : Int := g.kd + (if g.ro then 4 else 0) + (if g.sb then 8 else 0)
/-- An entry's bytes. -/
def packZ (g : Gr) : List UInt8 := [ofI (packN g), 0, ofI (g.dom % 256), ofI (g.dom / 256), ofI (g.gp % 256), ofI (g.gp / 256), ofI (if g.sb then g.of else 0), ofI ((if g.sb then g.le else 256) - 1)]
theorem packZ_vals (g : Gr) (hb : ¬ packBad g) : u8s (packZ g) = [.int .u8 (packN g), .int .u8 0, .int .u8 (g.dom % 256), .int .u8 (g.dom / 256), .int .u8 (g.gp % 256), .int .u8 (g.gp / 256), .int .u8 (if g.sb then g.of else 0), .int .u8 ((if g.sb then g.le else 256) - 1)] := by
  unfold packBad at hb
  have hn : 0 ≤ packN g ∧ packN g < 256 := by unfold packN; split <;> split <;> omega
  have h1 : 0 ≤ (if g.sb then g.of else 0) ∧ (if g.sb then g.of else 0) < 256 := by split <;> omega
  have h2 : 0 ≤ ((if g.sb then g.le else 256) - 1) ∧ ((if g.sb then g.le else 256) - 1) < 256 := by split <;> omega
  simp only [u8s, packZ, List.map_cons, List.map_nil]
  rw [ofI_toNat _ hn.1 hn.2, ofI_toNat (g.dom % 256) (by omega) (by omega), ofI_toNat (g.dom / 256) (by omega) (by omega), ofI_toNat (g.gp % 256) (by omega) (by omega), ofI_toNat (g.gp / 256) (by omega) (by omega), ofI_toNat _ h1.1 h1.2, ofI_toNat _ h2.1 h2.2]
  rfl
set_option maxHeartbeats 8000000 in
set_option maxRecDepth 100000 in
theorem pack_good (g : Gr) (hb : ¬ packBad g) (w : World) : Calls Try.prog 16 #[.agg #[.int .i64 g.kd, .bool g.ro, .bool g.sb, .int .i64 g.dom, .int .i64 g.gp, .int .i64 g.of, .int .i64 g.le]] w fun e w' => ∃ N, w.heap.size ≤ N ∧ e = .returned (.tuple #[.slice (some ⟨N, 0, none⟩) 8 8, .int .i64 0]) ∧ w'.heap[N]? = some (.cells (u8s (packZ g)).toArray 5 (0, 0)) ∧ Below w.heap.size w w' := by
  have hv := packZ_vals g hb
  obtain ⟨kd, ro, sb, dom, gp, of, le⟩ := g
  unfold packBad at hb
  simp only at hb hv ⊢
  rw [hv]
  have c0 : decide (kd < 0) = false := decide_eq_false (by omega)
  have c1 : decide (2 < kd) = false := decide_eq_false (by omega)
  have c2 : decide (dom < 0) = false := decide_eq_false (by omega)
  have c3 : decide (65536 ≤ dom) = false := decide_eq_false (by omega)
  have c4 : decide (gp < 0) = false := decide_eq_false (by omega)
  have c5 : decide (65536 ≤ gp) = false := decide_eq_false (by omega)
  have c6 : decide (of < 0) = false := decide_eq_false (by omega)
  have c7 : decide (255 < of) = false := decide_eq_false (by omega)
  have c8 : decide (le < 1) = false := decide_eq_false (by omega)
  have c9 : decide (256 < le) = false := decide_eq_false (by omega)
  have ca : decide (256 < of + le) = false := decide_eq_false (by omega)
  have k0 : 0 ≤ of := by omega
  have k1 : of ≤ 255 := by omega
  have k2 : 1 ≤ le := by omega
  have k3 : le ≤ 256 := by omega
  have k4 : 0 ≤ kd := by omega
  have k5 : kd ≤ 2 := by omega
  have k6 : 0 ≤ dom := by omega
  have k7 : dom < 65536 := by omega
  have k8 : 0 ≤ gp := by omega
  have k9 : gp < 65536 := by omega
  clear hb
  cases ro <;> cases sb
  all_goals
    go_enter Try.func16, Try.ntmps16
    go_wp2
    go_ret2
    go_light
    refine ⟨w.heap.size + 1, by omega, by first | rfl | (simp; done), ?_, below_alloc (below_alloc (Below.refl _ _) _) _⟩
    refine (blk_newest (by simp) _).trans ?_
    simp [packN]
    try omega
end Go.Proofs.Ytjeobbhaoahdcaa.GkA
