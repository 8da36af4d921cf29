/- Proved: name writes an entry of a table; the keeper of the page tables in memory; what mmu.New makes (contracts for the laws of the domains). -/
import Derived.Test.YtebhpmmibffbeaaDbB
import Derived.Test.YtebhpmmibffbeaaGnA
import Derived.Maps.OwnOps
namespace Go.Proofs.Ytebhpmmibffbeaa.DbC
open Go.RowKit Go.Maps Go.Proofs.Ytebhpmmibffbeaa.Base Go.Proofs.Ytebhpmmibffbeaa.GaA Go.Proofs.Ytebhpmmibffbeaa.GaB Go.Proofs.Ytebhpmmibffbeaa.GaC Go.Proofs.Ytebhpmmibffbeaa.GfB Go.Proofs.Ytebhpmmibffbeaa.DbB
set_option linter.unusedVariables false
set_option linter.unusedSimpArgs false

section
variable {w w' W : World} {mb fb : Nat} {s : MS}
set_option maxHeartbeats 4000000 in
set_option maxRecDepth 100000 in
theorem name_calls (h : Mach w mb fb s) {hb : Nat} {hc : Array Value} (hh : w.heap[hb]? = some (.cells hc 51 (0, 0))) (h0 : hc[0]? = some (.pointer (some ⟨mb, 0, none⟩))) (t k m : Nat) (ht : t < s.n) (hown : (s.fr t).own ≠ -1) (hk : k < 64) (hm : m < 256) :
    Calls Try.prog 23 #[.pointer (some ⟨hb, 0, none⟩), .int .i64 t, .int .i64 k, .int .i64 m] w fun e w' => e = .returned (.tuple #[]) ∧ Mach w' mb fb (MS.wr s t (4 * k) (entZ (some m))) ∧ Chg (fun x => x = fb) w w' := by
  have hpk := pack_calls m hm w
  have hwr := fun W (hW : Below w.heap.size w W) (N : Nat) (hN : W.heap[N]? = some (.cells #[.int .u8 3, .int .u8 m, .int .u8 0, .int .u8 0] 5 (0, 0))) => GaC.write_calls (h.below hW) t ht (4 * k) (some ⟨N, 0, none⟩) 4 4 (entZ (some m)) rfl (.inr ⟨_, rfl, Holds.of_block (t := 5) (by rw [hN, entV (some m) (fun m' e => by cases e; exact hm)])⟩) (by show 4 * k + 4 ≤ 256; omega) hown
  rw [show ((4 * k : Nat) : Int) = 4 * (k : Int) by omega] at hwr
  have S0 : ∀ W, Below w.heap.size w W → W.cell? ⟨hb, 0, none⟩ = some (.pointer (some ⟨mb, 0, none⟩)) := fun W hW => (blk_cell (blk_below hh (blk_lt hh) hW) 0).trans h0
  have L0 := blk_lt hh
  have e1 : IntKind.u8.wrap ((m : Int) * 256 + 3) = 3 := by rw [IntKind.wrap_u8]; omega
  have e2 : ((m : Int) * 256 + 3) / 256 = m := by omega
  have e3 : IntKind.u8.wrap (m : Int) = m := by rw [IntKind.wrap_u8]; omega
  have e4 : ((m : Int) * 256 + 3) / 65536 = 0 := by omega
  have e5 : ((m : Int) * 256 + 3) / 16777216 = 0 := by omega
  clear h hh h0
  go_enter Try.func23, Try.ntmps23
  go_wp2_with (first
    | (go_at_call 46; (with_reducible refine hpk.mono ?_); rintro z w2 ⟨rfl, hB⟩; have C2 := S0 _ hB; have L2 := Nat.lt_of_lt_of_le L0 hB.size; have hw2 := hwr _ (below_alloc hB (.cells #[.int .u8 3, .int .u8 m, .int .u8 0, .int .u8 0] 5)) w2.heap.size (blk_new _ _); have E2 := Base.Aside.mk hB; clear hB)
    | (go_at_call 47; (with_reducible refine hw2.mono ?_); rintro z w3 ⟨rfl, hM3, hC3⟩; have E3 := Base.Aside.mk (And.intro hM3 hC3); clear hM3 hC3)
    | go_in)
  refine bodyPost_end (results_none rfl _ _ _) rfl ?_
  exact ⟨by first | rfl | (simp; done), E3.out.1, (Chg.below _ (below_alloc E2.out _)).trans E3.out.2⟩
end
/-- The cells of the page tables' keeper. -/
def mcells (mb t1 t5 t3 : Nat) (rt : Nat → Int) : Array Value := #[.pointer (some ⟨mb, 0, none⟩), .int .i64 0, .nilFunc, .nilFunc,
  .int .i64 2, .func (.func 34) #[] #[.pointer (some ⟨t1, 0, none⟩), .pointer (some ⟨t5, 0, none⟩)], .func (.func 37) #[] #[.pointer (some ⟨t1, 0, none⟩), .pointer (some ⟨t5, 0, none⟩)],
  .int .i64 3, .func (.func 39) #[] #[.pointer (some ⟨t3, 0, none⟩)], .func (.func 41) #[] #[.pointer (some ⟨t3, 0, none⟩)],
  .slice none 0 0, .slice none 0 0, .slice none 0 0, .slice none 0 0, .slice none 0 0, .slice none 0 0, .slice none 0 0, .slice none 0 0,
  .int .i64 (rt 0), .int .i64 (rt 1), .int .i64 (rt 2), .int .i64 (rt 3), .int .i64 (rt 4), .int .i64 (rt 5), .int .i64 (rt 6), .int .i64 (rt 7)]
/-- The keeper of the page tables in memory: no pin; its roots; what its closures hold. -/
structure Mmu (w : World) (xb mb t1 t5 t3 : Nat) (rt : Nat → Int) : Prop where
  blk : w.heap[xb]? = some (.cells (mcells mb t1 t5 t3 rt) 89 (0, 0))
  c1 : w.heap[t1]? = some (.cells #[.pointer (some ⟨mb, 0, none⟩)] 27 (0, 0))
  c5 : w.heap[t5]? = some (.cells #[.func (.func 33) #[] #[]] 92 (0, 0))
  c3 : w.heap[t3]? = some (.cells #[.pointer (some ⟨xb, 0, none⟩)] 40 (0, 0))
section
variable {w w' W : World} {xb mb t1 t5 t3 : Nat} {rt : Nat → Int}
theorem Mmu.chg {F : Nat → Prop} (h : Mmu w xb mb t1 t5 t3 rt) (hc : Chg F w w') (h1 : ¬ F xb) (h2 : ¬ F t1) (h3 : ¬ F t5) (h4 : ¬ F t3) : Mmu w' xb mb t1 t5 t3 rt := ⟨hc.blk h.blk h1, hc.blk h.c1 h2, hc.blk h.c5 h3, hc.blk h.c3 h4⟩
theorem Mmu.below (h : Mmu w xb mb t1 t5 t3 rt) (hb : Below w.heap.size w w') : Mmu w' xb mb t1 t5 t3 rt := h.chg (Chg.below (fun _ => False) hb) (fun h => h) (fun h => h) (fun h => h) (fun h => h)
/-- The frames are no block of the keeper's. -/
theorem Mmu.fb {fb : Nat} {s : MS} (h : Mmu w xb mb t1 t5 t3 rt) (hM : Mach w mb fb s) : xb ≠ fb ∧ t1 ≠ fb ∧ t5 ≠ fb ∧ t3 ≠ fb := by
  obtain ⟨cs, h1, h2⟩ := hM.lst
  have ne : ∀ {g : Nat} {ds : Array Value} {t : TypeId}, w.heap[g]? = some (.cells ds t (0, 0)) → t ≠ 76 → g ≠ fb := by
    intro g ds t hg ht e
    subst e
    rw [hg] at h1
    have e4 := Option.some.inj h1
    injection e4 with e5 e6 e7
    exact ht e6
  exact ⟨ne h.blk (by decide), ne h.c1 (by decide), ne h.c5 (by decide), ne h.c3 (by decide)⟩
theorem Mmu.mach {fb : Nat} {s : MS} (h : Mmu w xb mb t1 t5 t3 rt) (hM : Mach w mb fb s) (hc : Chg (fun x => x = fb) w w') : Mmu w' xb mb t1 t5 t3 rt := by
  obtain ⟨n1, n2, n3, n4⟩ := h.fb hM
  exact h.chg hc n1 n2 n3 n4
end
end Go.Proofs.Ytebhpmmibffbeaa.DbC
