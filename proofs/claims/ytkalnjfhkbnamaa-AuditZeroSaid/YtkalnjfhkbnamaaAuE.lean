/- Proved: of a hypervisor without a domain nothing is counted (a contract for the law AuditZero). -/
import Derived.Test.YtkalnjfhkbnamaaAuD
namespace Go.Proofs.Ytkalnjfhkbnamaa.AuE
open Go.RowKit Go.Shelf Go.Proofs.Ytkalnjfhkbnamaa.Base Go.Proofs.Ytkalnjfhkbnamaa.Phys Go.Proofs.Ytkalnjfhkbnamaa.MaA Go.Proofs.Ytkalnjfhkbnamaa.MaB Go.Proofs.Ytkalnjfhkbnamaa.AuA Go.Proofs.Ytkalnjfhkbnamaa.AuB Go.Proofs.Ytkalnjfhkbnamaa.AuC Go.Proofs.Ytkalnjfhkbnamaa.AuD
attribute [local go_sem] Oper.semAt_some
set_option linter.unusedVariables false

/-- What count holds in memory: its argument's box, the map, the map's box; and the hypervisor. -/
structure CountAt (w W : World) (h n mb fb x g ev m1 m2 : Nat) (o : Nat → Int) : Prop where
  hyp : Hyp W h n mb fb x g ev m1 m2 o
  b1 : W.heap[w.heap.size]? = some (.cells #[.pointer (some ⟨h, 0, none⟩)] 29 (0, 0))
  mp : W.heap[w.heap.size + 1]? = some (.map #[] 0)
  b3 : W.heap[w.heap.size + 1 + 1]? = some (.cells #[.map (some (w.heap.size + 1))] 45 (0, 0))
  bel : Below w.heap.size w W
section
variable {w W W' W0 : World} {h n mb fb x g ev m1 m2 : Nat} {o : Nat → Int}
theorem CountAt.below (E : CountAt w W h n mb fb x g ev m1 m2 o) (hb : Below W.heap.size W W') : CountAt w W' h n mb fb x g ev m1 m2 o :=
  ⟨E.hyp.below hb, blk_below E.b1 (blk_lt E.b1) hb, blk_below E.mp (blk_lt E.mp) hb, blk_below E.b3 (blk_lt E.b3) hb, below_step E.bel hb⟩
theorem CountAt.alloc (E : CountAt w W h n mb fb x g ev m1 m2 o) (ob : Obj) : CountAt w (W.alloc ob) h n mb fb x g ev m1 m2 o :=
  E.below (Below.alloc (Below.refl _ _) (Nat.le_refl _) ob)
theorem CountAt.drew (E : CountAt w W h n mb fb x g ev m1 m2 o) : CountAt w W.drew h n mb fb x g ev m1 m2 o :=
  E.below ⟨rfl, rfl, rfl, Nat.le_refl _, fun _ _ => rfl⟩
theorem CountAt.own (E : CountAt w W0 h n mb fb x g ev m1 m2 o) {B : Nat} (hB : W0.heap.size ≤ B) {β : Type} : OwnFrom B (fun (_ : β) W => CountAt w W h n mb fb x g ev m1 m2 o) := by
  intro s A C row hs hg hr
  have keep : ∀ (k : Nat) (ob ob' : Obj), W0.heap[k]? = some ob' → A.heap[k]? = some ob → C.heap[k]? = some ob := fun k ob ob' h0 ha => keep_blk ha (Nat.lt_of_lt_of_le (blk_lt h0) hB) hg hr
  obtain ⟨cs, q1, q2⟩ := hs.hyp.mach.lst
  obtain ⟨cs', q1', q2'⟩ := E.hyp.mach.lst
  obtain ⟨ds, r1, r2⟩ := hs.hyp.mmu
  obtain ⟨ds', r1', r2'⟩ := E.hyp.mmu
  exact ⟨⟨keep _ _ _ E.hyp.blk hs.hyp.blk, ⟨keep _ _ _ E.hyp.mach.blk hs.hyp.mach.blk, cs, keep _ _ _ q1' q1, q2⟩, ⟨ds, keep _ _ _ r1' r1, r2⟩, keep _ _ _ E.hyp.gr hs.hyp.gr, keep _ _ _ E.hyp.mp hs.hyp.mp⟩, keep _ _ _ E.b1 hs.b1, keep _ _ _ E.mp hs.mp, keep _ _ _ E.b3 hs.b3,
    hs.bel.grown hg hs.bel.size (fun k e => by have := (hr k e).1; have := E.bel.size; omega)⟩
end

set_option maxRecDepth 100000 in
set_option maxHeartbeats 16000000 in
theorem count_in (m : Nat) (hm : 6 ≤ m) (w : World) {h n mb fb x g ev m1 m2 : Nat} {o : Nat → Int} (hn : n ≤ 1000) (H : Hyp w h n mb fb x g ev m1 m2 o) :
    CallsIn Fence.wide m Try.prog 8 #[.pointer (some ⟨h, 0, none⟩)] w fun e w' => ∃ c, e = .returned (.map (some c)) ∧ w'.heap[c]? = some (.map #[] 0) ∧ Below w.heap.size w w' := by
  have hfn : ∀ f, Fence.wide.fn f := fun _ => trivial
  have hro : Fence.wide.round = none := rfl
  have hmm := @run_makeMap Try.prog
  have hm1 : 1 ≤ m := by omega
  have hm2 : 1 ≤ m - 1 := by omega
  refine callsIn_of_wp_marks Try.func8 rfl trivial ?_ rfl
  simp only [Try.ntmps8, List.size_toArray, List.length_cons, List.length_nil, Nat.reduceAdd, Nat.reduceSub, Array.replicate_succ, Array.replicate_zero, List.push_toArray, List.append_toArray, List.nil_append, List.cons_append]
  gi_wp2
  have hE0 : CountAt w (((w.alloc (.cells #[.pointer (some ⟨h, 0, none⟩)] 29)).alloc (.map #[] 0)).alloc (.cells #[.map (some (w.heap.size + 1))] 45)) h n mb fb x g ev m1 m2 o := by
    have hb := below_alloc (below_alloc (below_alloc (Below.refl w.heap.size w) (.cells #[.pointer (some ⟨h, 0, none⟩)] 29)) (.map #[] 0)) (.cells #[.map (some (w.heap.size + 1))] 45)
    exact ⟨H.below hb, blk_alloc (blk_alloc (blk_new _ _) _) _, blk_alloc (blk_newest (by simp) _) _, blk_newest (by simp) _, hb⟩
  have HE := Aside.mk hE0
  clear hE0
  gi_loopw [16] (fun v wr => ∃ (k : Nat) (W2 : World), k ≤ 8 ∧ v = .int .i64 k ∧ wr = W2 ∧ Aside (CountAt w W2 h n mb fb x g ev m1 m2 o)) (fun v _ => 8 - (intOf v).toNat)
  case atStart => exact ⟨0, _, Nat.zero_le _, rfl, rfl, HE.out⟩
  case round =>
    obtain ⟨k, W2, hk, rfl, hwr, hE⟩ := hrel
    obtain rfl := hwr.symm
    have E := Aside.mk hE.out
    have C1 := fun i => blk_cell hE.out.b1 i
    have L1 := blk_lt hE.out.b1
    have C3 := fun i => blk_cell hE.out.b3 i
    have L3 := blk_lt hE.out.b3
    clear hE HE
    by_cases hlt : k < 8
    · gi_wp2_with (first
        | (gi_at_call 21; refine (callsIn_wide.2 (dom_calls E.out.hyp k hlt)).mono ?_; rintro z w3 ⟨rfl, hB3⟩; have E3 := Aside.mk ((E.out.below hB3).alloc (.cells #[.int .i64 0, .int .i64 0, .int .i64 0, .int .i64 0, .int .i64 0] 70)); have C13 := fun i => blk_cell (E.out.below hB3).b1 i; have L13 := blk_lt (E.out.below hB3).b1; have C33 := fun i => blk_cell (E.out.below hB3).b3 i; have L33 := blk_lt (E.out.below hB3).b3; clear hB3)
        | (gi_at_call 23; refine (callsIn_wide.2 (mmu_calls E3.out.hyp)).mono ?_; rintro z w4 ⟨rfl, hw4⟩; obtain rfl := hw4.symm)
        | (gi_at_call 24; refine (callsIn_wide.2 (pins_calls E3.out.hyp k hlt)).mono ?_; rintro z w4 ⟨rfl, hw4⟩; obtain rfl := hw4.symm)
        | gi_in)
      have hW3 : ∃ W3, W3 = w3.alloc (.cells #[.int .i64 0, .int .i64 0, .int .i64 0, .int .i64 0, .int .i64 0] 70) := ⟨_, rfl⟩
      obtain ⟨W3, hW3⟩ := hW3
      rw [← hW3] at E3 ⊢
      clear C13 L13 C33 L33 C1 L1 C3 L3
      have C1 := fun i => blk_cell E3.out.b1 i
      have L1 := blk_lt E3.out.b1
      have C3 := fun i => blk_cell E3.out.b3 i
      have L3 := blk_lt E3.out.b3
      clear hW3
      gi_loopw [36] (fun v wr => v = .int .i64 0 ∧ wr = W3) (fun _ _ => 0)
      case atStart => exact ⟨rfl, rfl⟩
      case round =>
        obtain ⟨rfl, hwr⟩ := hrel
        obtain rfl := hwr.symm
        gi_wp2
        gi_quiet (first
          | (gi_at_call 23; refine CallsIn.quiet_of_same (callsIn_wide.2 (mmu_calls (Hyp.drewN E3.out.hyp _))))
          | (gi_at_call 25; refine CallsIn.quiet_of_same (callsIn_wide.2 (root_calls (Hyp.drewN E3.out.hyp _) k hlt)))
          | (gi_at_call 22; refine CallsIn.quiet_of_same (callsIn_wide.2 (ref_none _ _ 3))))
        have E4' : CountAt w (W3.drewN nq) h n mb fb x g ev m1 m2 o := E3.out.below ⟨rfl, rfl, rfl, Nat.le_refl _, fun _ _ => rfl⟩
        have E4 := Aside.mk E4'
        clear E4' E3 C1 L1 C3 L3
        generalize W3.drewN nq = W4 at E4 ⊢
        have C1 := fun i => blk_cell E4.out.b1 i
        have L1 := blk_lt E4.out.b1
        have C3 := fun i => blk_cell E4.out.b3 i
        have L3 := blk_lt E4.out.b3
        gi_wp2_with (first
          | (gi_at_call 26; refine (callsIn_wide.2 (grants_calls E4.out.hyp)).mono ?_; rintro z w5 ⟨rfl, hw5⟩; obtain rfl := hw5.symm)
          | (gi_at_call 27; refine (callsIn_wide.2 (maps_calls E4.out.hyp k)).mono ?_; rintro z w6 ⟨rfl, hB6⟩; have E6 := Aside.mk (E4.out.below hB6); clear hB6)
          | gi_in)
        gi_loopw [60] (fun v wr => v = .int .i64 0 ∧ wr = w6) (fun _ _ => 0)
        case atStart => exact ⟨rfl, rfl⟩
        case round =>
          obtain ⟨rfl, hwr⟩ := hrel
          obtain rfl := hwr.symm
          gi_wp2
          go_roundw
          case rel => exact ⟨k + 1, w6, by omega, by simp, rfl, E6.out⟩
          case measure => simp [intOf]; omega
    · obtain rfl : k = 8 := by omega
      have hiu := callsIn_wide (n := m - 1).2 (inuse_calls (w.heap.size + 1) h 3 W2)
      gi_wp2_with (first
        | (gi_at_call 29; refine hiu.mono ?_; rintro z w4 ⟨rfl, hw4⟩; obtain rfl := hw4)
        | gi_in)
      have hE0 : CountAt w (((W2.alloc (.cells #[.map (some (w.heap.size + 1))] 45)).alloc (.cells #[.pointer (some ⟨h, 0, none⟩)] 29)).alloc (.cells #[.int .i64 3] 3)) h n mb fb x g ev m1 m2 o := ((E.out.alloc _).alloc _).alloc _
      have hbc : (((W2.alloc (.cells #[.map (some (w.heap.size + 1))] 45)).alloc (.cells #[.pointer (some ⟨h, 0, none⟩)] 29)).alloc (.cells #[.int .i64 3] 3)).cell? ⟨W2.heap.size, 0, none⟩ = some (.map (some (w.heap.size + 1))) := blk_cell (blk_alloc (blk_alloc (blk_new _ _) _) _) 0
      have hbh : (((W2.alloc (.cells #[.map (some (w.heap.size + 1))] 45)).alloc (.cells #[.pointer (some ⟨h, 0, none⟩)] 29)).alloc (.cells #[.int .i64 3] 3)).cell? ⟨W2.heap.size + 1, 0, none⟩ = some (.pointer (some ⟨h, 0, none⟩)) := blk_cell (blk_alloc (blk_newest (by simp) _) _) 0
      have hbk : (((W2.alloc (.cells #[.map (some (w.heap.size + 1))] 45)).alloc (.cells #[.pointer (some ⟨h, 0, none⟩)] 29)).alloc (.cells #[.int .i64 3] 3)).cell? ⟨W2.heap.size + 1 + 1, 0, none⟩ = some (.int .i64 3) := blk_cell (blk_newest (by simp) _) 0
      have hsz : (((W2.alloc (.cells #[.map (some (w.heap.size + 1))] 45)).alloc (.cells #[.pointer (some ⟨h, 0, none⟩)] 29)).alloc (.cells #[.int .i64 3] 3)).heap.size = W2.heap.size + 3 := by simp
      generalize (((W2.alloc (.cells #[.map (some (w.heap.size + 1))] 45)).alloc (.cells #[.pointer (some ⟨h, 0, none⟩)] 29)).alloc (.cells #[.int .i64 3] 3)) = W5 at hE0 hbc hbh hbk hsz ⊢
      have hseq : SeqStopsK Fence.wide (m - 1) Try.prog 52 #[.pointer (some ⟨W2.heap.size + 1, 0, none⟩), .pointer (some ⟨W2.heap.size, 0, none⟩), .pointer (some ⟨W2.heap.size + 1 + 1, 0, none⟩)] (fun x : Empty => x.elim) (Below W5.heap.size) (fun xs => xs = []) (fun _ => False) 0 W5 :=
        fun l J Jx W hW hJ hJx hY h0 => inuse1_in (m - 1) (by omega) l (W2.heap.size + 1) (W2.heap.size) (W2.heap.size + 1 + 1) (w.heap.size + 1) 3 hn J Jx W (hE0.hyp.below hW) ((hW.cell (p := ⟨W2.heap.size + 1, 0, none⟩) (by show W2.heap.size + 1 < _; omega)).trans hbh) ((hW.cell (p := ⟨W2.heap.size, 0, none⟩) (by show W2.heap.size < _; omega)).trans hbc) ((hW.cell (p := ⟨W2.heap.size + 1 + 1, 0, none⟩) (by show W2.heap.size + 1 + 1 < _; omega)).trans hbk) (blk_below hE0.mp (blk_lt hE0.mp) hW) h0
      refine wpIn_rangeFunc_ownF hro hm1 (gf := 52) (lb := #[.pointer (some ⟨W2.heap.size + 1, 0, none⟩), .pointer (some ⟨W2.heap.size, 0, none⟩), .pointer (some ⟨W2.heap.size + 1 + 1, 0, none⟩)]) rfl trivial (enters_of Try.func52 (by kernel_rfl) rfl)
        hseq belowK_t (belowK_b (Nat.le_refl _)) (Below.refl _ _) (fun x => x.elim) (fun _ W => CountAt w W h n mb fb x g ev m1 m2 o) (fun _ _ _ => False) (hE0.own (Nat.le_refl _)) (fun _ _ _ _ _ hs _ _ => hs) hE0 (fun x => x.elim) (fun l x => x.elim) (fun l pre x => x.elim) ?done (fun D c pre W _ h => h.elim)
      rintro D xs Wd hD hxs hWd hK
      have hE5 := Aside.mk hE0
      clear E hE0 hbc hbh hbk hsz hseq C1 L1 C3 L3 hiu
      have E := Aside.mk hWd
      have C1 := fun i => blk_cell hWd.b1 i
      have L1 := blk_lt hWd.b1
      have C3 := fun i => blk_cell hWd.b3 i
      have L3 := blk_lt hWd.b3
      clear hWd
      have hiu := callsIn_wide (n := m - 1).2 (inuse_calls (w.heap.size + 1) h 2 Wd)
      gi_wp2_with (first
        | (gi_at_call 29; refine hiu.mono ?_; rintro z w4 ⟨rfl, hw4⟩; obtain rfl := hw4)
        | gi_in)
      have hE0 : CountAt w (((Wd.alloc (.cells #[.map (some (w.heap.size + 1))] 45)).alloc (.cells #[.pointer (some ⟨h, 0, none⟩)] 29)).alloc (.cells #[.int .i64 2] 3)) h n mb fb x g ev m1 m2 o := ((E.out.alloc _).alloc _).alloc _
      have hbc : (((Wd.alloc (.cells #[.map (some (w.heap.size + 1))] 45)).alloc (.cells #[.pointer (some ⟨h, 0, none⟩)] 29)).alloc (.cells #[.int .i64 2] 3)).cell? ⟨Wd.heap.size, 0, none⟩ = some (.map (some (w.heap.size + 1))) := blk_cell (blk_alloc (blk_alloc (blk_new _ _) _) _) 0
      have hbh : (((Wd.alloc (.cells #[.map (some (w.heap.size + 1))] 45)).alloc (.cells #[.pointer (some ⟨h, 0, none⟩)] 29)).alloc (.cells #[.int .i64 2] 3)).cell? ⟨Wd.heap.size + 1, 0, none⟩ = some (.pointer (some ⟨h, 0, none⟩)) := blk_cell (blk_alloc (blk_newest (by simp) _) _) 0
      have hbk : (((Wd.alloc (.cells #[.map (some (w.heap.size + 1))] 45)).alloc (.cells #[.pointer (some ⟨h, 0, none⟩)] 29)).alloc (.cells #[.int .i64 2] 3)).cell? ⟨Wd.heap.size + 1 + 1, 0, none⟩ = some (.int .i64 2) := blk_cell (blk_newest (by simp) _) 0
      have hsz : (((Wd.alloc (.cells #[.map (some (w.heap.size + 1))] 45)).alloc (.cells #[.pointer (some ⟨h, 0, none⟩)] 29)).alloc (.cells #[.int .i64 2] 3)).heap.size = Wd.heap.size + 3 := by simp
      have hKD : (((Wd.alloc (.cells #[.map (some (w.heap.size + 1))] 45)).alloc (.cells #[.pointer (some ⟨h, 0, none⟩)] 29)).alloc (.cells #[.int .i64 2] 3)).heap[D]? = some (.deferred (some [])) := blk_alloc (blk_alloc (blk_alloc hK _) _) _
      generalize (((Wd.alloc (.cells #[.map (some (w.heap.size + 1))] 45)).alloc (.cells #[.pointer (some ⟨h, 0, none⟩)] 29)).alloc (.cells #[.int .i64 2] 3)) = W6 at hE0 hbc hbh hbk hsz hKD ⊢
      have hseq : SeqStopsK Fence.wide (m - 1) Try.prog 52 #[.pointer (some ⟨Wd.heap.size + 1, 0, none⟩), .pointer (some ⟨Wd.heap.size, 0, none⟩), .pointer (some ⟨Wd.heap.size + 1 + 1, 0, none⟩)] (fun x : Empty => x.elim) (Below W6.heap.size) (fun xs => xs = []) (fun _ => False) 0 W6 :=
        fun l J Jx W hW hJ hJx hY h0 => inuse1_in (m - 1) (by omega) l (Wd.heap.size + 1) (Wd.heap.size) (Wd.heap.size + 1 + 1) (w.heap.size + 1) 2 hn J Jx W (hE0.hyp.below hW) ((hW.cell (p := ⟨Wd.heap.size + 1, 0, none⟩) (by show Wd.heap.size + 1 < _; omega)).trans hbh) ((hW.cell (p := ⟨Wd.heap.size, 0, none⟩) (by show Wd.heap.size < _; omega)).trans hbc) ((hW.cell (p := ⟨Wd.heap.size + 1 + 1, 0, none⟩) (by show Wd.heap.size + 1 + 1 < _; omega)).trans hbk) (blk_below hE0.mp (blk_lt hE0.mp) hW) h0
      refine wpIn_rangeFunc_ownF hro hm1 (gf := 52) (lb := #[.pointer (some ⟨Wd.heap.size + 1, 0, none⟩), .pointer (some ⟨Wd.heap.size, 0, none⟩), .pointer (some ⟨Wd.heap.size + 1 + 1, 0, none⟩)]) rfl trivial (enters_of Try.func52 (by kernel_rfl) rfl)
        hseq belowK_t (belowK_b (Nat.le_refl _)) (Below.refl _ _) (fun x => x.elim) (fun _ W => CountAt w W h n mb fb x g ev m1 m2 o ∧ W.heap[D]? = some (.deferred (some []))) (fun _ _ _ => False) (OwnFrom.and (hE0.own (Nat.le_refl _)) (fun s A C row hs hg hr => keep_blk hs (blk_lt hKD) hg hr)) (fun _ _ _ _ _ hs _ _ => hs) ⟨hE0, hKD⟩ (fun x => x.elim) (fun l x => x.elim) (fun l pre x => x.elim) ?done2 (fun D c pre W _ h => h.elim)
      rintro D2 xs2 W7 hD2 hxs2 ⟨hW7, hK7⟩ hK2
      have C1 := fun i => blk_cell hW7.b1 i
      have L1 := blk_lt hW7.b1
      have C3 := fun i => blk_cell hW7.b3 i
      have L3 := blk_lt hW7.b3
      gi_wp2
      have hne : D ≠ D2 := by
        have := blk_lt hKD
        omega
      have e2 : (W7.putObj D2 (.deferred none)).heap[D]? = some (.deferred (some [])) := (World.putObj_heap_other hne).trans hK7
      refine ⟨by simp, .inl ⟨_, _, rfl, run_takeDeferred hK2, ?_⟩⟩
      refine ⟨by simp, .inl ⟨_, _, rfl, run_takeDeferred e2, ?_⟩⟩
      have c8 : CountAt w (W7.putObj D2 (.deferred none)) h n mb fb x g ev m1 m2 o := CountAt.own (β := Unit) hE0 (Nat.le_refl _) () W7 _ (some D2) hW7 (grownBy_putObj' W7 D2 _) (fun r e => by cases e; exact ⟨hD2, _, hK2, rfl⟩)
      have c9 : CountAt w ((W7.putObj D2 (.deferred none)).putObj D (.deferred none)) h n mb fb x g ev m1 m2 o := CountAt.own (β := Unit) hE5.out (Nat.le_refl _) () _ _ (some D) c8 (grownBy_putObj' _ D _) (fun r e => by cases e; exact ⟨hD, _, e2, rfl⟩)
      refine ⟨.map (some (w.heap.size + 1)), ?_, ?_⟩
      · simp [results, Try.f8, go_sem]
      · first
          | exact ⟨_, rfl, c9.mp, c9.bel⟩
          | exact ⟨⟨_, rfl, c9.mp⟩, c9.bel⟩
theorem count_calls (w : World) {h n mb fb x g ev m1 m2 : Nat} {o : Nat → Int} (hn : n ≤ 1000) (H : Hyp w h n mb fb x g ev m1 m2 o) :
    Calls Try.prog 8 #[.pointer (some ⟨h, 0, none⟩)] w fun e w' => ∃ c, e = .returned (.map (some c)) ∧ w'.heap[c]? = some (.map #[] 0) ∧ Below w.heap.size w w' :=
  callsIn_wide.1 (count_in 6 (Nat.le_refl _) w hn H)
end Go.Proofs.Ytkalnjfhkbnamaa.AuE
