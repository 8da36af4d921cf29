/- Proved: a guest's rewrite of a view (contracts for the laws of the grants). Proved: a view with rewrites, and what its Read finds (contracts for the laws of the grants). Proved: what a view with rewrites reads (contracts for the laws of the grants). Proved: an entry is read through a view with rewrites (contracts for the laws of the grants). -/
import Derived.Test.YthlejchcnfdcpaaGreatMlae
import Derived.Test.YthlejchcnfdcpaaGreatMlah
import Derived.Test.YthlejchcnfdcpaaGreatMlaj
namespace Go.Proofs.YthlejchcnfdcpaaGreat.GwA
open Go.RowKit Go.Maps Base GaA GaB GaC GmA GvA GfA GfB GfC
set_option linter.unusedVariables false
set_option linter.unusedSimpArgs false

/-- May a guest rewrite it? -/
def rewB (s : MS) (k : Int) : Bool := (frV s k).2 == 0 && decide (0 ≤ (frV s k).1.own) && (frV s k).1.typ != 2 && (frV s k).1.typ != 3
/-- What a rewrite leaves. -/
def rewS (s : MS) (k off : Int) (zs : List UInt8) : MS := if rewB s k = true then wrS s k off zs else s
theorem wrS_n (s : MS) (k off : Int) (zs : List UInt8) : (wrS s k off zs).n = s.n := by unfold wrS; split <;> rfl
theorem rewS_n (s : MS) (k off : Int) (zs : List UInt8) : (rewS s k off zs).n = s.n := by
  unfold rewS
  split
  · exact wrS_n _ _ _ _
  · rfl
theorem wrS_fr (s : MS) (k off : Int) (zs : List UInt8) : (wrS s k off zs).fr = s.fr := by unfold wrS; split <;> rfl
theorem rewS_fr (s : MS) (k off : Int) (zs : List UInt8) : (rewS s k off zs).fr = s.fr := by
  unfold rewS
  split
  · exact wrS_fr _ _ _ _
  · rfl
section
variable {w w' W W' : World} {vb db mb fb : Nat} {s : MS} {A : Option Addr} {c : Nat} {zs : List UInt8} {dv rv : Value}
set_option maxHeartbeats 4000000 in
set_option maxRecDepth 100000 in
theorem rewrite_calls (hv : W.heap[vb]? = some (.cells #[.pointer (some ⟨mb, 0, none⟩), dv, rv] 144 (0, 0))) (hM : Mach W mb fb s) (k off : Int) (hz : Bytes W A zs) :
    Calls Tryz.prog 61 #[.pointer (some ⟨vb, 0, none⟩), .int .i64 k, .int .i64 off, .slice A zs.length c] W fun e w' => (∃ v, e = .returned v) ∧ Mach w' mb fb (rewS s k off zs) ∧ Chg (fun x => x = fb) W w' := by
  have C0 := fun i => blk_cell hv i
  have L0 := blk_lt hv
  have hfr := frame_any hM k
  obtain ⟨y, hy⟩ : ∃ y, y = frV s k := ⟨_, rfl⟩
  have hre : rewS s k off zs = if (y.2 == 0 && decide (0 ≤ y.1.own) && y.1.typ != 2 && y.1.typ != 3) = true then wrS s k off zs else s := by rw [hy]; rfl
  rw [← hy] at hfr
  have HV := fun W' (hW : Below W.heap.size W W') => blk_cell (blk_below hv (blk_lt hv) hW) 0
  have hwr := fun W' (hW : Below W.heap.size W W') => (write_any (hM.below (w' := W') hW) k off A zs.length c zs rfl (hz.below hW)).mono (R' := fun e w' => (∃ v, e = .returned v) ∧ Mach w' mb fb (wrS s k off zs) ∧ Chg (fun x => x = fb) W w') (fun e w' h => ⟨⟨_, h.1⟩, h.2.1, (Chg.below _ hW).trans h.2.2⟩)
  have HM := Base.Aside.mk hM
  have HR := Base.Aside.mk hre
  clear hM hv hy hz hre
  by_cases h1 : y.2 = 0
  · have d1 : (y.2 == 0) = true := by simp [h1]
    by_cases h2 : 0 ≤ y.1.own
    · have d2 : decide (0 ≤ y.1.own) = true := decide_eq_true h2
      by_cases h3 : y.1.typ = 2
      · have d3 : (y.1.typ != 2) = false := by simp [h3]
        have HC := Base.Aside.mk (show ¬ (y.2 == 0 && decide (0 ≤ y.1.own) && y.1.typ != 2 && y.1.typ != 3) = true by rw [d1, d2, d3]; simp)
        clear h1 h2 h3
        go_enter Tryz.func61, Tryz.ntmps61
        go_wp2_with (first
                | (go_at_call 36; (with_reducible refine hfr.mono ?_); rintro z w1 ⟨rfl, hB1⟩; have k1 := HV _ (below_alloc hB1 (.cells #[.int .i64 y.1.own, .int .i64 y.1.typ, .int .i64 y.1.cnt, .int .i64 y.1.tot] 95)); have s1 := hB1.size; have E1 := Base.Aside.mk hB1; clear hB1)
                | (go_at_call 58; (with_reducible refine (hwr _ ?_).mono ?_); (focus (repeat (with_reducible first | exact below_alloc E1.out _ | refine below_drew ?_ | refine below_alloc ?_ _))); rintro z w2 ⟨⟨v, rfl⟩, hM2, hC2⟩; have E2 := Base.Aside.mk (And.intro hM2 hC2); clear hM2 hC2)
                | go_in)
        refine bodyPost_end (results_none rfl _ _ _) rfl ?_
        rw [HR.out, if_neg HC.out]
        exact ⟨⟨_, rfl⟩, HM.out.below (below_alloc E1.out _), Chg.below _ (below_alloc E1.out _)⟩
      · have d3 : (y.1.typ != 2) = true := by simp [h3]
        by_cases h4 : y.1.typ = 3
        · have d4 : (y.1.typ != 3) = false := by simp [h4]
          have HC := Base.Aside.mk (show ¬ (y.2 == 0 && decide (0 ≤ y.1.own) && y.1.typ != 2 && y.1.typ != 3) = true by rw [d1, d2, d3, d4]; simp)
          clear h1 h2 h3 h4
          go_enter Tryz.func61, Tryz.ntmps61
          go_wp2_with (first
                  | (go_at_call 36; (with_reducible refine hfr.mono ?_); rintro z w1 ⟨rfl, hB1⟩; have k1 := HV _ (below_alloc hB1 (.cells #[.int .i64 y.1.own, .int .i64 y.1.typ, .int .i64 y.1.cnt, .int .i64 y.1.tot] 95)); have s1 := hB1.size; have E1 := Base.Aside.mk hB1; clear hB1)
                  | (go_at_call 58; (with_reducible refine (hwr _ ?_).mono ?_); (focus (repeat (with_reducible first | exact below_alloc E1.out _ | refine below_drew ?_ | refine below_alloc ?_ _))); rintro z w2 ⟨⟨v, rfl⟩, hM2, hC2⟩; have E2 := Base.Aside.mk (And.intro hM2 hC2); clear hM2 hC2)
                  | go_in)
          refine bodyPost_end (results_none rfl _ _ _) rfl ?_
          rw [HR.out, if_neg HC.out]
          exact ⟨⟨_, rfl⟩, HM.out.below (below_alloc E1.out _), Chg.below _ (below_alloc E1.out _)⟩
        · have d4 : (y.1.typ != 3) = true := by simp [h4]
          have HC := Base.Aside.mk (show (y.2 == 0 && decide (0 ≤ y.1.own) && y.1.typ != 2 && y.1.typ != 3) = true by rw [d1, d2, d3, d4]; rfl)
          clear h1 h2 h3 h4
          go_enter Tryz.func61, Tryz.ntmps61
          go_wp2_with (first
                  | (go_at_call 36; (with_reducible refine hfr.mono ?_); rintro z w1 ⟨rfl, hB1⟩; have k1 := HV _ (below_alloc hB1 (.cells #[.int .i64 y.1.own, .int .i64 y.1.typ, .int .i64 y.1.cnt, .int .i64 y.1.tot] 95)); have s1 := hB1.size; have E1 := Base.Aside.mk hB1; clear hB1)
                  | (go_at_call 58; (with_reducible refine (hwr _ ?_).mono ?_); (focus (repeat (with_reducible first | exact below_alloc E1.out _ | refine below_drew ?_ | refine below_alloc ?_ _))); rintro z w2 ⟨⟨v, rfl⟩, hM2, hC2⟩; have E2 := Base.Aside.mk (And.intro hM2 hC2); clear hM2 hC2)
                  | go_in)
          all_goals
            refine bodyPost_end (results_none rfl _ _ _) rfl ?_
            rw [HR.out, if_pos HC.out]
            exact ⟨⟨_, rfl⟩, E2.out.1, E2.out.2⟩
    · have d2 : decide (0 ≤ y.1.own) = false := decide_eq_false h2
      have HC := Base.Aside.mk (show ¬ (y.2 == 0 && decide (0 ≤ y.1.own) && y.1.typ != 2 && y.1.typ != 3) = true by rw [d1, d2]; simp)
      clear h1 h2
      go_enter Tryz.func61, Tryz.ntmps61
      go_wp2_with (first
              | (go_at_call 36; (with_reducible refine hfr.mono ?_); rintro z w1 ⟨rfl, hB1⟩; have k1 := HV _ (below_alloc hB1 (.cells #[.int .i64 y.1.own, .int .i64 y.1.typ, .int .i64 y.1.cnt, .int .i64 y.1.tot] 95)); have s1 := hB1.size; have E1 := Base.Aside.mk hB1; clear hB1)
              | (go_at_call 58; (with_reducible refine (hwr _ ?_).mono ?_); (focus (repeat (with_reducible first | exact below_alloc E1.out _ | refine below_drew ?_ | refine below_alloc ?_ _))); rintro z w2 ⟨⟨v, rfl⟩, hM2, hC2⟩; have E2 := Base.Aside.mk (And.intro hM2 hC2); clear hM2 hC2)
              | go_in)
      refine bodyPost_end (results_none rfl _ _ _) rfl ?_
      rw [HR.out, if_neg HC.out]
      exact ⟨⟨_, rfl⟩, HM.out.below (below_alloc E1.out _), Chg.below _ (below_alloc E1.out _)⟩
  · have d1 : (y.2 == 0) = false := by simp [h1]
    have HC := Base.Aside.mk (show ¬ (y.2 == 0 && decide (0 ≤ y.1.own) && y.1.typ != 2 && y.1.typ != 3) = true by rw [d1]; simp)
    clear h1
    go_enter Tryz.func61, Tryz.ntmps61
    go_wp2_with (first
            | (go_at_call 36; (with_reducible refine hfr.mono ?_); rintro z w1 ⟨rfl, hB1⟩; have k1 := HV _ (below_alloc hB1 (.cells #[.int .i64 y.1.own, .int .i64 y.1.typ, .int .i64 y.1.cnt, .int .i64 y.1.tot] 95)); have s1 := hB1.size; have E1 := Base.Aside.mk hB1; clear hB1)
            | (go_at_call 58; (with_reducible refine (hwr _ ?_).mono ?_); (focus (repeat (with_reducible first | exact below_alloc E1.out _ | refine below_drew ?_ | refine below_alloc ?_ _))); rintro z w2 ⟨⟨v, rfl⟩, hM2, hC2⟩; have E2 := Base.Aside.mk (And.intro hM2 hC2); clear hM2 hC2)
            | go_in)
    refine bodyPost_end (results_none rfl _ _ _) rfl ?_
    rw [HR.out, if_neg HC.out]
    exact ⟨⟨_, rfl⟩, HM.out.below (below_alloc E1.out _), Chg.below _ (below_alloc E1.out _)⟩
end
end Go.Proofs.YthlejchcnfdcpaaGreat.GwA
namespace Go.Proofs.YthlejchcnfdcpaaGreat.GwB
open Go.RowKit Go.Maps Base GaA GaB GaC GmA GvA GfA GfB GfC GwA
set_option linter.unusedVariables false
set_option linter.unusedSimpArgs false

/-- A rewrite: ahead of which read, of which frame, where, with which bytes. -/
structure Pk where
  at_ : Int
  mfn : Int
  off : Int
  zs : List UInt8
def pokeL (s : MS) (l : List Pk) : MS := l.foldl (fun s p => rewS s p.mfn p.off p.zs) s
def due (ps : List Pk) (r : Int) : List Pk := ps.filter fun p => p.at_ == r
/-- The machine behind the rewrites that are due at the read r. -/
def pokeS (s : MS) (ps : List Pk) (r : Nat) : MS := pokeL s (due ps (cr r))
theorem pokeL_n (l : List Pk) : ∀ s : MS, (pokeL s l).n = s.n := by
  induction l with
  | nil => intro s; rfl
  | cons p l ih => intro s; exact (ih _).trans (rewS_n _ _ _ _)
theorem pokeL_fr (l : List Pk) : ∀ s : MS, (pokeL s l).fr = s.fr := by
  induction l with
  | nil => intro s; rfl
  | cons p l ih => intro s; exact (ih _).trans (rewS_fr _ _ _ _)
theorem pokeS_n (s : MS) (ps : List Pk) (r : Nat) : (pokeS s ps r).n = s.n := pokeL_n _ _
theorem pokeS_fr (s : MS) (ps : List Pk) (r : Nat) : (pokeS s ps r).fr = s.fr := pokeL_fr _ _
theorem pokeL_snoc (s : MS) (l : List Pk) (p : Pk) : pokeL s (l ++ [p]) = rewS (pokeL s l) p.mfn p.off p.zs := by unfold pokeL; rw [List.foldl_append]; rfl
/-- A rewrite as the view holds it: a closure over the view, the rewrite and a copy of its bytes. -/
def Clo (W : World) (B cb : Nat) (v : Value) (p : Pk) : Prop :=
  ∃ t8 t9 A c pv, v = .func (.func 60) #[] #[.pointer (some ⟨cb, 0, none⟩), .pointer (some ⟨t8, 0, none⟩), .pointer (some ⟨t9, 0, none⟩)] ∧ W.heap[t8]? = some (.cells #[.int .i64 p.at_, .int .i64 p.mfn, .int .i64 p.off, pv] 146 (0, 0)) ∧ W.heap[t9]? = some (.cells #[.slice A p.zs.length c] 30 (0, 0)) ∧ W.ownsRow B 5 1 (.slice A p.zs.length c) p.zs.length (u8s p.zs) ∧ B ≤ t8 ∧ B ≤ t9
/-- What the view holds at a number: the rewrites that are due there. -/
def Slot (W : World) (B cb : Nat) (f : Option Value) (l : List Pk) : Prop :=
  (l = [] ∧ f = none) ∨ ∃ g cap vs, f = some (.slice (some ⟨g, 0, none⟩) l.length cap) ∧ 0 < l.length ∧ W.ownsRow B 1 1 (.slice (some ⟨g, 0, none⟩) l.length cap) l.length vs ∧ ∀ (i : Nat) (p : Pk), l[i]? = some p → ∃ v, vs[i]? = some v ∧ Clo W B cb v p
/-- A view in memory, with rewrites, behind so many reads; all that it is made of is as young as B. -/
structure V3 (W : World) (B vb db cb mb r : Nat) (ps : List Pk) : Prop where
  blk : W.heap[vb]? = some (.cells #[.pointer (some ⟨mb, 0, none⟩), .map (some db), .int .i64 (cr r)] 144 (0, 0))
  box : W.heap[cb]? = some (.cells #[.pointer (some ⟨vb, 0, none⟩)] 70 (0, 0))
  due : ∃ f c, IMap W db f c ∧ c ≤ ps.length ∧ (∀ key, Slot W B cb (f key) (due ps key)) ∧ ∀ k1 k2 g n1 c1 n2 c2, f k1 = some (.slice (some ⟨g, 0, none⟩) n1 c1) → f k2 = some (.slice (some ⟨g, 0, none⟩) n2 c2) → k1 = k2
  ge : B ≤ vb ∧ B ≤ db ∧ B ≤ cb
section
variable {W W' : World} {B vb db cb mb fb r : Nat} {ps : List Pk} {F : Nat → Prop} {s : MS}
theorem own_ge {e size n g c : Nat} {xs : List Value} (h : W.ownsRow B e size (.slice (some ⟨g, 0, none⟩) n c) n xs) : B ≤ g := by
  rcases h.2 with ⟨h1, _⟩ | ⟨g', cap, cur, h1, hb, _⟩
  · cases h1
  · injection h1 with h1
    injection h1 with h1
    injection h1 with h1
    omega
theorem own_geA {e size n c : Nat} {A : Option Addr} {xs : List Value} (h : W.ownsRow B e size (.slice A n c) n xs) : ∀ g, (Value.slice A n c).ownBlock = some g → B ≤ g := by
  intro g hg
  rcases h.2 with ⟨h1, _⟩ | ⟨g', cap, cur, h1, hb, _⟩
  · rw [h1] at hg
    cases hg
  · rw [h1] at hg
    simp only [Value.ownBlock, Option.some.injEq] at hg
    omega
theorem Clo.chg {v : Value} {p : Pk} (h : Clo W B cb v p) (hc : Chg F W W') (hF : ∀ x, B ≤ x → ¬ F x) : Clo W' B cb v p := by
  obtain ⟨t8, t9, A, c, pv, h1, h2, h3, h4, h5, h6⟩ := h
  exact ⟨t8, t9, A, c, pv, h1, hc.blk h2 (hF _ h5), hc.blk h3 (hF _ h6), RpA.row_chg h4 hc fun g hg => hF _ (own_geA h4 g hg), h5, h6⟩
theorem row_bytes {A : Option Addr} {c : Nat} {zs : List UInt8} (h : W.ownsRow B 5 1 (.slice A zs.length c) zs.length (u8s zs)) : Bytes W A zs := by
  rcases h.2 with ⟨h1, h2⟩ | ⟨g', cap, cur, h1, hb, hh, hr⟩
  · left
    cases zs with
    | nil => rfl
    | cons a l => simp [u8s] at h2
  · injection h1 with h1 h3 h4
    subst h1
    refine .inr ⟨_, rfl, blk_lt hh, fun j hj => ?_⟩
    have := World.ownsRow.cellAt (g := g') (by exact h) j (by omega)
    rw [addB, Nat.zero_add, this]
    unfold u8s
    rw [List.getElem?_map, List.getElem?_eq_getElem hj]
    rfl
theorem Slot.chg {f : Option Value} {l : List Pk} (h : Slot W B cb f l) (hc : Chg F W W') (hF : ∀ x, B ≤ x → ¬ F x) : Slot W' B cb f l := by
  rcases h with h | ⟨g, cap, vs, h1, h2, h3, h4⟩
  · exact .inl h
  · refine .inr ⟨g, cap, vs, h1, h2, RpA.row_chg h3 hc ?_, fun i p hp => ?_⟩
    · intro g' hg'
      have : g = g' := by simpa [Value.ownBlock] using hg'
      subst this
      exact hF _ (own_ge h3)
    · obtain ⟨v, hv, hk⟩ := h4 i p hp
      exact ⟨v, hv, hk.chg hc hF⟩
/-- What older blocks turn to leaves a view alone. -/
theorem V3.chg (h : V3 W B vb db cb mb r ps) (hc : Chg F W W') (hF : ∀ x, B ≤ x → ¬ F x) : V3 W' B vb db cb mb r ps := by
  obtain ⟨f, c, h1, h2, h3, h4⟩ := h.due
  exact ⟨hc.blk h.blk (hF _ h.ge.1), hc.blk h.box (hF _ h.ge.2.2), ⟨f, c, h1.chg hc (hF _ h.ge.2.1), h2, fun key => (h3 key).chg hc hF, h4⟩, h.ge⟩
theorem V3.below (h : V3 W B vb db cb mb r ps) (hb : Below W.heap.size W W') : V3 W' B vb db cb mb r ps := h.chg (Chg.below (fun _ => False) hb) (fun _ _ h => h)
end
end Go.Proofs.YthlejchcnfdcpaaGreat.GwB
namespace Go.Proofs.YthlejchcnfdcpaaGreat.GwC
open Go.RowKit Go.Maps Base GaA GaB GaC GmA GvA GfA GfB GfC GwA GwB
set_option linter.unusedVariables false
set_option linter.unusedSimpArgs false

section
variable {w w' W W' : World} {B vb db cb mb fb r : Nat} {ps : List Pk} {s : MS}
set_option maxHeartbeats 2000000 in
set_option maxRecDepth 100000 in
theorem clo_calls (hv : W.heap[vb]? = some (.cells #[.pointer (some ⟨mb, 0, none⟩), .map (some db), .int .i64 (cr r)] 144 (0, 0))) (hb : W.heap[cb]? = some (.cells #[.pointer (some ⟨vb, 0, none⟩)] 70 (0, 0))) (hM : Mach W mb fb s) {t8 t9 : Nat} {A : Option Addr} {c : Nat} {zs : List UInt8} {p0 k off : Int} {pv : Value}
    (h8 : W.heap[t8]? = some (.cells #[.int .i64 p0, .int .i64 k, .int .i64 off, pv] 146 (0, 0))) (h9 : W.heap[t9]? = some (.cells #[.slice A zs.length c] 30 (0, 0))) (hz : Bytes W A zs) :
    Calls Tryz.prog 60 #[.pointer (some ⟨cb, 0, none⟩), .pointer (some ⟨t8, 0, none⟩), .pointer (some ⟨t9, 0, none⟩)] W fun e w' => (∃ v, e = .returned v) ∧ Mach w' mb fb (rewS s k off zs) ∧ Chg (fun x => x = fb) W w' := by
  have C0 := fun i => blk_cell hb i
  have C8 := fun i => blk_cell h8 i
  have C9 := fun i => blk_cell h9 i
  have L0 := blk_lt hb
  have L8 := blk_lt h8
  have L9 := blk_lt h9
  have hr := rewrite_calls (c := c) hv hM k off hz
  clear hv hb hM h8 h9 hz
  go_enter Tryz.func60, Tryz.ntmps60
  go_wp2_with (first
    | (go_at_call 61; (with_reducible refine hr.mono ?_); rintro z w2 ⟨⟨v, rfl⟩, hM2, hC2⟩; have E2 := Base.Aside.mk (And.intro hM2 hC2); clear hM2 hC2)
    | go_in)
  refine bodyPost_end (results_none rfl _ _ _) rfl ?_
  exact ⟨⟨_, rfl⟩, E2.out.1, E2.out.2⟩
theorem v3_none (h : V3 W B vb db cb mb r ps) : Calls Tryz.prog 73 #[.pointer (some ⟨vb, 0, none⟩)] W fun e w' => e = .returned (.bool false) ∧ w' = W := by
  have C0 := fun i => blk_cell h.blk i
  have L0 := blk_lt h.blk
  clear h
  go_enter Tryz.func73, Tryz.ntmps73
  go_wp2
  go_ret
  exact ⟨by first | rfl | (simp; done), rfl⟩
theorem v3_machine (h : V3 W B vb db cb mb r ps) : Calls Tryz.prog 98 #[.pointer (some ⟨vb, 0, none⟩)] W fun e w' => e = .returned (.pointer (some ⟨mb, 0, none⟩)) ∧ w' = W := by
  have C0 := fun i => blk_cell h.blk i
  have L0 := blk_lt h.blk
  have hn := v3_none h
  clear h
  go_enter Tryz.func98, Tryz.ntmps98
  go_wp2_with (first
    | (go_at_call 73; (with_reducible refine hn.mono ?_); rintro z w1 ⟨rfl, hw1⟩; obtain rfl := hw1.symm)
    | go_in)
  go_ret
  exact ⟨by first | rfl | (simp; done), rfl⟩
theorem v3_reads (h : V3 W B vb db cb mb r ps) : Calls Tryz.prog 24 #[.pointer (some ⟨vb, 0, none⟩)] W fun e w' => e = .returned (.int .i64 (cr r)) ∧ w' = W := by
  have C0 := fun i => blk_cell h.blk i
  have L0 := blk_lt h.blk
  have hn := v3_none h
  clear h
  go_enter Tryz.func24, Tryz.ntmps24
  go_wp2_with (first
    | (go_at_call 73; (with_reducible refine hn.mono ?_); rintro z w1 ⟨rfl, hw1⟩; obtain rfl := hw1.symm)
    | go_in)
  go_ret
  exact ⟨by first | rfl | (simp; done), rfl⟩
/-- The rewrites that a slot holds, as a slice is read. -/
theorem slot_read {f : Option Value} {l : List Pk} (h : Slot W B cb f l) : ∃ A c, f.getD (.slice none 0 0) = .slice A l.length c ∧ ∀ (i : Nat) (p : Pk), l[i]? = some p → ∃ x v, A = some x ∧ W.cell? (x.add i) = some v ∧ Clo W B cb v p := by
  rcases h with ⟨rfl, rfl⟩ | ⟨g, cap, vs, rfl, h2, h3, h4⟩
  · exact ⟨Option.none, 0, rfl, fun i p hp => by cases hp⟩
  · refine ⟨_, _, rfl, fun i p hp => ?_⟩
    obtain ⟨v, hv, hc⟩ := h4 i p hp
    have hi : i < l.length := (List.getElem?_eq_some_iff.1 hp).1
    refine ⟨_, v, rfl, ?_, hc⟩
    rw [addB, Nat.zero_add, World.ownsRow.cellAt h3 i (by omega)]
    exact hv
/-- What Read comes to. -/
def PrOut (W : World) (B vb db cb mb fb r : Nat) (ps : List Pk) (s : MS) (k off n : Int) (e : Ending) (w' : World) : Prop :=
  ∃ (N : Nat) (A : Option Addr) (l : Nat) (er : Int), e = .returned (.tuple #[.slice A l l, .int .i64 er]) ∧ W.heap.size ≤ N ∧ RdOk N s k off n A l er w' ∧ Mach w' mb fb s ∧ V3 w' B vb db cb mb (r + 1) ps ∧ Chg (fun x => x = vb ∨ x = fb) W w'
theorem v3_ne (h : V3 W B vb db cb mb r ps) (hB : mb < B ∧ fb < B) : vb ≠ mb ∧ vb ≠ fb ∧ cb ≠ vb ∧ db ≠ vb := by
  have := h.ge
  obtain ⟨f, c, h1, _⟩ := h.due
  exact ⟨by omega, by omega, bne h.box h.blk (by decide), fun e => bnm h.blk h1 e.symm⟩
/-- One read more. -/
theorem v3_more (h : V3 W B vb db cb mb r ps) (hB : mb < B ∧ fb < B) : V3 (W.setCell ⟨vb, 2, none⟩ (.int .i64 (cr (r + 1)))) B vb db cb mb (r + 1) ps := by
  obtain ⟨n1, n2, n3, n4⟩ := v3_ne h hB
  have hb := h.blk
  have hc1 : Chg (fun x => x = vb) W (W.setCell ⟨vb, 2, none⟩ (.int .i64 (cr (r + 1)))) := Chg.set (F := fun x => x = vb) (p := ⟨vb, 2, none⟩) (Chg.refl _ W) (.inl rfl) _
  obtain ⟨f, c, h1, h2, h3, h4⟩ := h.due
  refine ⟨blk_put h.blk 2 _ (by simp), hc1.blk h.box n3, ⟨f, c, h1.chg hc1 n4, h2, fun key => ?_, h4⟩, h.ge⟩
  rcases h3 key with h5 | ⟨g, cap, vs, h5, h6, h7, h8⟩
  · exact .inl h5
  · refine .inr ⟨g, cap, vs, h5, h6, RpA.row_chg h7 hc1 ?_, fun i p hp => ?_⟩
    · intro g' hg'
      have : g = g' := by simpa [Value.ownBlock] using hg'
      subst this
      exact fun e => RpA.row_ne h7 hb (by decide) (by rw [e]; rfl)
    · obtain ⟨v, hv, t8, t9, A, c, pv, q1, q2, q3, q4, q5, q6⟩ := h8 i p hp
      refine ⟨v, hv, t8, t9, A, c, pv, q1, hc1.blk q2 (bne q2 hb (by decide)), hc1.blk q3 (bne q3 hb (by decide)), RpA.row_chg q4 hc1 ?_, q5, q6⟩
      intro g' hg' e
      exact RpA.row_ne q4 hb (by decide) (by rw [hg', e])
set_option maxHeartbeats 8000000 in
set_option maxRecDepth 100000 in
theorem vread (h : V3 W B vb db cb mb r ps) (hM : Mach W mb fb s) (hB : mb < B ∧ fb < B) (hps64 : ps.length ≤ 64) (k off n : Int) : Calls Tryz.prog 78 #[.pointer (some ⟨vb, 0, none⟩), .int .i64 k, .int .i64 off, .int .i64 n] W (PrOut W B vb db cb mb fb r ps (pokeS s ps r) k off n) := by
  have C0 := fun i => blk_cell h.blk i
  have F0 := fun i => blk_frozen h.blk i
  have L0 := blk_lt h.blk
  have hn := v3_none h
  have hci := cr_in r
  have hcs := cr_step r
  obtain ⟨f, c, hmap, _, hslot, _⟩ := h.due
  have hlk := (hmap.block (W' := W.drew) rfl).look Tryz.underlying142 (zeroF W.drew) (cr r) (by omega) (by omega)
  obtain ⟨A, cap, hA, hcell⟩ := slot_read (hslot (cr r))
  rw [hA] at hlk
  obtain ⟨l, hl⟩ : ∃ l, l = GwB.due ps (cr r) := ⟨_, rfl⟩
  have hps : pokeS s ps r = pokeL s l := by rw [hl]; rfl
  rw [← hl] at hlk hcell
  have hl64 : l.length ≤ 64 := by rw [hl]; exact Nat.le_trans (List.length_filter_le _ _) hps64
  have hslot := hslot (cr r)
  rw [← hl] at hslot hA
  have HS := Base.Aside.mk (And.intro hslot hA)
  have HH := Base.Aside.mk (And.intro h (And.intro hM (And.intro hps hcell)))
  clear hA hslot hmap h hM hps hl hcell
  go_enter Tryz.func78, Tryz.ntmps78
  go_wp2_with (first
    | (go_at_call 73; refine hn.mono ?_; rintro z w1 ⟨rfl, hw1⟩; obtain rfl := hw1.symm)
    | go_in)
  go_region
  go_wp2
  go_loopw [24] (fun v wr => ∃ (i : Nat) (W2 : World), i ≤ l.length ∧ v = .int .i64 i ∧ wr = W2 ∧ Base.Aside (Mach W2 mb fb (pokeL s (l.take i)) ∧ Chg (fun x => x = fb) W W2)) (fun v _ => l.length - (intOf v).toNat)
  case atStart => exact ⟨0, _, by omega, rfl, rfl, ⟨HH.out.2.1.below (by first | exact Below.refl _ _ | exact (Below.refl _ _).drew), Chg.below _ (by first | exact Below.refl _ _ | exact (Below.refl _ _).drew)⟩⟩
  case round => as_aux_lemma =>
    obtain ⟨i, W2, hi, rfl, hwr, hA2⟩ := hrel
    obtain rfl := hwr.symm
    have hff : ∀ x, B ≤ x → ¬ x = fb := fun x hx e => by omega
    have h2 := HH.out.1.chg hA2.out.2 hff
    by_cases hlt : i < l.length
    · obtain ⟨A', c', hA', hcell'⟩ := slot_read (HS.out.1.chg hA2.out.2 hff)
      have he := HS.out.2.symm.trans hA'
      injection he with e1 e2 e3
      subst e1
      subst e3
      obtain ⟨x, v, rfl, hcx, t8, t9, A8, c8, pv, rfl, k8, k9, kz, _⟩ := hcell' i l[i] (List.getElem?_eq_getElem hlt)
      have hcl := clo_calls (fb := fb) h2.blk h2.box hA2.out.1 k8 k9 (row_bytes kz)
      have hsn := pokeL_snoc s (l.take i) l[i]
      rw [← List.take_succ_eq_append_getElem hlt] at hsn
      rw [← hsn] at hcl
      have HN := Base.Aside.mk hA2.out.2
      clear hA' hcell' h2 hff hsn kz k8 k9 hn hci hcs hlk C0 F0
      go_wp2_with (first
        | (go_at_call 60; (with_reducible refine hcl.mono ?_); rintro z w3 ⟨⟨u, rfl⟩, hM3, hC3⟩; have E3 := Base.Aside.mk (And.intro hM3 (HN.out.trans hC3)); clear hM3 hC3)
        | go_in)
      exact ⟨⟨i + 1, _, by omega, by simp, rfl, E3⟩, by simp [intOf]; omega⟩
    · obtain rfl : i = l.length := by omega
      have hM2 : Mach W2 mb fb (pokeS s ps r) := by
        rw [HH.out.2.2.1]
        have := hA2.out.1
        rwa [List.take_length] at this
      have C2 := fun i => blk_cell h2.blk i
      have F2 := fun i => blk_frozen h2.blk i
      have L2 := blk_lt h2.blk
      have h3 := v3_more h2 hB
      obtain ⟨n1, n2, n3, n4⟩ := v3_ne h2 hB
      have hc1 : Chg (fun x => x = vb) W2 (W2.setCell ⟨vb, 2, none⟩ (.int .i64 (cr (r + 1)))) := Chg.set (F := fun x => x = vb) (p := ⟨vb, 2, none⟩) (Chg.refl _ W2) (.inl rfl) _
      have hM3 := hM2.chg hc1 (fun e => n1 e.symm) (fun e => n2 e.symm)
      have hrd := read_any (hM3.below (Below.refl _ _).drew) k off n
      have hrd2 := read_any hM3 k off n
      have hsz : W2.heap.size = (W2.setCell ⟨vb, 2, none⟩ (.int .i64 (cr (r + 1)))).heap.size := (size_set _ _ _).symm
      have hge := hA2.out.2.size
      have HE := Base.Aside.mk (And.intro h3 (And.intro hM3 (And.intro (Chg.trans (hA2.out.2.mono (G := fun x => x = vb ∨ x = fb) fun _ h => .inr h) (hc1.mono fun _ h => .inl h)) hsz)))
      clear hlt h2 hM2 h3 hc1 hM3 hff n1 n2 n3 n4 hn hlk hsz C0 F0
      go_wp2_with (first
        | (go_at_call 37; (with_reducible (first | refine hrd.mono ?_ | refine hrd2.mono ?_)); rintro z w4 ⟨A4, l4, er4, rfl, hk4, hB4⟩; have E4 := Base.Aside.mk (And.intro hk4 hB4); clear hk4 hB4)
        | go_in)
      go_ret2
      have hb4 : Below (W2.setCell ⟨vb, 2, none⟩ (.int .i64 (cr (r + 1)))).heap.size (W2.setCell ⟨vb, 2, none⟩ (.int .i64 (cr (r + 1)))) w4 := below_step (by first | exact Below.refl _ _ | exact (Below.refl _ _).drew) E4.out.2
      refine ⟨_, A4, l4, er4, rfl, ?_, E4.out.1, HE.out.2.1.below hb4, HE.out.1.below hb4, HE.out.2.2.1.trans (Chg.below _ hb4)⟩
      first
      | (have := HE.out.2.2.2; have h5 : ((W2.setCell ⟨vb, 2, none⟩ (.int .i64 (cr (r + 1)))).drew).heap.size = (W2.setCell ⟨vb, 2, none⟩ (.int .i64 (cr (r + 1)))).heap.size := rfl; omega)
      | (have := HE.out.2.2.2; omega)
end
end Go.Proofs.YthlejchcnfdcpaaGreat.GwC
namespace Go.Proofs.YthlejchcnfdcpaaGreat.GwF
open Go.RowKit Go.Maps Base GaA GaB GaC GmA GmB GpA GgA GvA GeA GeB GfA GfB GfC GfD GwA GwB GwC
set_option linter.unusedVariables false
set_option linter.unusedSimpArgs false

/-- A view, its machine, its rewrites. -/
structure VA where
  B : Nat
  vb : Nat
  db : Nat
  cb : Nat
  mb : Nat
  fb : Nat
  ps : List Pk
/-- A view behind so many reads, and the machine behind their rewrites; nothing else has turned. -/
structure Vm (a : VA) (w W : World) (r : Nat) (s : MS) : Prop where
  v0 : ∃ r0, V3 w a.B a.vb a.db a.cb a.mb r0 a.ps
  blk : W.heap[a.vb]? = some (.cells #[.pointer (some ⟨a.mb, 0, none⟩), .map (some a.db), .int .i64 (cr r)] 144 (0, 0))
  m : Mach W a.mb a.fb s
  c : Chg (fun x => x = a.vb ∨ x = a.fb) w W
  hB : a.mb < a.B ∧ a.fb < a.B
  h64 : a.ps.length ≤ 64
  lm : a.mb < w.heap.size ∧ a.fb < w.heap.size
/-- The machine behind n reads, from the read r on. -/
def pkn (s : MS) (ps : List Pk) (r : Nat) : Nat → MS
  | 0 => s
  | n + 1 => pokeS (pkn s ps r n) ps (r + n)
theorem pkn_n (s : MS) (ps : List Pk) (r n : Nat) : (pkn s ps r n).n = s.n := by
  induction n with
  | zero => rfl
  | succ n ih => exact (pokeS_n _ _ _).trans ih
theorem pkn_fr (s : MS) (ps : List Pk) (r n : Nat) : (pkn s ps r n).fr = s.fr := by
  induction n with
  | zero => rfl
  | succ n ih => exact (pokeS_fr _ _ _).trans ih
section
variable {a : VA} {w W W' : World} {r r' : Nat} {s s' s0 : MS}
theorem v3_lt (h : V3 w a.B a.vb a.db a.cb a.mb r a.ps) : a.vb < w.heap.size ∧ a.db < w.heap.size ∧ a.cb < w.heap.size := by
  obtain ⟨f, c, h1, _⟩ := h.due
  exact ⟨blk_lt h.blk, h1.lt, blk_lt h.box⟩
theorem Vm.v (h : Vm a w W r s) : V3 W a.B a.vb a.db a.cb a.mb r a.ps := by
  obtain ⟨r0, h0⟩ := h.v0
  have hb := h0.blk
  obtain ⟨n1, n2, n3, n4⟩ := v3_ne h0 h.hB
  obtain ⟨hB1, hB2⟩ := h.hB
  obtain ⟨g1, g2, g3⟩ := h0.ge
  obtain ⟨f, c, h1, h2, h3, h4⟩ := h0.due
  have hF : ∀ y cs t, w.heap[y]? = some (.cells cs t (0, 0)) → t ≠ 144 → a.B ≤ y → ¬ (y = a.vb ∨ y = a.fb) := by
    intro y cs t hy ht hge hor
    rcases hor with e | e
    · exact bne hy hb ht e
    · omega
  refine ⟨h.blk, h.c.blk h0.box (hF _ _ _ h0.box (by decide) g3), ⟨f, c, h1.chg h.c (by rintro (e | e); exact n4 e; omega), h2, fun key => ?_, h4⟩, h0.ge⟩
  rcases h3 key with h5 | ⟨g, cap, vs, h5, h6, h7, h8⟩
  · exact .inl h5
  · refine .inr ⟨g, cap, vs, h5, h6, RpA.row_chg h7 h.c ?_, fun i p hp => ?_⟩
    · intro g' hg'
      have : g = g' := by simpa [Value.ownBlock] using hg'
      subst this
      rintro (e | e)
      · exact RpA.row_ne h7 hb (by decide) (by rw [e]; rfl)
      · have := own_ge h7
        omega
    · obtain ⟨v, hv, t8, t9, A, c, pv, q1, q2, q3, q4, q5, q6⟩ := h8 i p hp
      refine ⟨v, hv, t8, t9, A, c, pv, q1, h.c.blk q2 (hF _ _ _ q2 (by decide) q5), h.c.blk q3 (hF _ _ _ q3 (by decide) q6), RpA.row_chg q4 h.c ?_, q5, q6⟩
      intro g' hg'
      rintro (e | e)
      · exact RpA.row_ne q4 hb (by decide) (by rw [hg', e])
      · have := own_geA q4 _ hg'
        omega
theorem Vm.start (h : V3 w a.B a.vb a.db a.cb a.mb r a.ps) (hM : Mach w a.mb a.fb s) (hB : a.mb < a.B ∧ a.fb < a.B) (h64 : a.ps.length ≤ 64) : Vm a w w r s := ⟨⟨r, h⟩, h.blk, hM, Chg.refl _ _, hB, h64, hM.lt⟩
theorem Vm.lt (h : Vm a w W r s) : a.vb < w.heap.size ∧ a.db < w.heap.size ∧ a.cb < w.heap.size := by
  obtain ⟨r0, h0⟩ := h.v0
  exact v3_lt h0
theorem Vm.set (h : Vm a w W r s) {g : Nat} (hg : w.heap.size ≤ g) (i : Nat) (u : Value) : Vm a w (W.setCell ⟨g, i, none⟩ u) r s := by
  have h1 := h.lt
  have h2 := h.lm
  have hc : Chg (fun x => x = g) W (W.setCell ⟨g, i, none⟩ u) := Chg.set (F := fun x => x = g) (p := ⟨g, i, none⟩) (Chg.refl _ W) (.inl rfl) u
  exact ⟨h.v0, hc.blk h.blk (by omega), h.m.chg hc (by omega) (by omega), Chg.set (p := ⟨g, i, none⟩) h.c (.inr hg) u, h.hB, h.h64, h.lm⟩
theorem Vm.below (h : Vm a w W r s) (hb : Below W.heap.size W W') : Vm a w W' r s := ⟨h.v0, blk_below h.blk (blk_lt h.blk) hb, h.m.below hb, h.c.trans (Chg.below _ hb), h.hB, h.h64, h.lm⟩
theorem Vm.alloc (h : Vm a w W r s) (o : Obj) : Vm a w (W.alloc o) r s := h.below (below_alloc (Below.refl _ _) o)
theorem Vm.drew (h : Vm a w W r s) : Vm a w W.drew r s := h.below (Below.refl _ _).drew
theorem Vm.drewN (h : Vm a w W r s) (n : Nat) : Vm a w (W.drewN n) r s := h.below ⟨rfl, rfl, rfl, Nat.le_refl _, fun _ _ => rfl⟩
theorem Vm.trans (h : Vm a w W r s) (k : Vm a W W' r' s') : Vm a w W' r' s' := ⟨h.v0, k.blk, k.m, h.c.trans k.c, h.hB, h.h64, h.lm⟩
theorem Vm.pre (hb : Below w.heap.size w W) (h : Vm a w w r s) (k : Vm a W W' r' s') : Vm a w W' r' s' := ⟨h.v0, k.blk, k.m, (Chg.below _ hb).trans k.c, h.hB, h.h64, h.lm⟩
theorem Vm.bl (h : Vm a w W r s) {g : Nat} {o : Obj} (hg : w.heap[g]? = some o) (hn : g ≠ a.vb) (hn2 : g ≠ a.fb) : W.heap[g]? = some o := h.c.blk hg (by rintro (e | e); exact hn e; exact hn2 e)
def VrOut (a : VA) (w : World) (r : Nat) (s : MS) (k off n : Int) (e : Ending) (w' : World) : Prop := ∃ (N : Nat) (A : Option Addr) (l : Nat) (er : Int), e = .returned (.tuple #[.slice A l l, .int .i64 er]) ∧ w.heap.size ≤ N ∧ RdOk N s k off n A l er w' ∧ Vm a w w' (r + 1) s
theorem vmread (h : Vm a w W r s) (k off n : Int) : Calls Tryz.prog 78 #[.pointer (some ⟨a.vb, 0, none⟩), .int .i64 k, .int .i64 off, .int .i64 n] W (VrOut a W r (pokeS s a.ps r) k off n) := by
  refine (vread h.v h.m h.hB h.h64 k off n).mono ?_
  rintro e w' ⟨N, A, l, er, h1, h2, h3, h4, h5, h6⟩
  exact ⟨N, A, l, er, h1, h2, h3, ⟨⟨r, h.v⟩, h5.blk, h4, h6, h.hB, h.h64, h.m.lt⟩⟩
theorem Vm.unmade (h : Vm a w W r s) : Calls Tryz.prog 62 #[.pointer (some ⟨a.vb, 0, none⟩)] W fun e w' => e = .returned (.bool false) ∧ w' = W := by
  have hm := v3_machine h.v
  clear h
  go_enter Tryz.func62, Tryz.ntmps62
  go_wp2_with (first
    | (go_at_call 98; (with_reducible refine hm.mono ?_); rintro z w1 ⟨rfl, hw1⟩; obtain rfl := hw1.symm)
    | go_in)
  go_ret
  exact ⟨by first | rfl | (simp; done), rfl⟩
end
section
variable {a : VA} {w w' W : World} {gb mm hm : Nat} {f : Int → Option (Int × Nat)} {c : Nat} {s s' : MS} {pi : Nat → PI} {r r' : Nat}
theorem gw_vm (h : GW w gb mm hm a.mb a.fb s f c pi) (k : Vm a w W r' s') (hn : s'.n = s.n) : GW W gb mm hm a.mb a.fb s' f c pi := by
  obtain ⟨r0, h0⟩ := k.v0
  have hb := h0.blk
  obtain ⟨cs, h1, h2⟩ := h.m.lst
  have hc := k.c
  exact ⟨h.g.chg hc (by rintro (e | e); exact bne h.g.blk hb (by decide) e; exact bne h.g.blk h1 (by decide) e) (by rintro (e | e); exact bnm hb h.g.mem e.symm; exact bnm h1 h.g.mem e.symm), k.m,
    fun d x hd => ⟨(h.p d x hd).1.chg hc (by rintro (e | e); exact bne (h.p d x hd).1.blk hb (by decide) e; exact bne (h.p d x hd).1.blk h1 (by decide) e) (by rintro (e | e); exact bnm hb (h.p d x hd).1.mf e.symm; exact bnm h1 (h.p d x hd).1.mf e.symm) (by rintro (e | e); exact bnm hb (h.p d x hd).1.mp e.symm; exact bnm h1 (h.p d x hd).1.mp e.symm), (h.p d x hd).2⟩, fun d x hd => ⟨(h.d d x hd).1, by rw [hn]; exact (h.d d x hd).2⟩⟩
def EntOut (a : VA) (w : World) (l : List Int) (r : Nat) (s : MS) (e : Ending) (w' : World) : Prop :=
  e = .returned (.tuple #[aggv (entG l), .int .i64 (entE l)]) ∧ Vm a w w' (r + 1) s
set_option maxHeartbeats 4000000 in
set_option maxRecDepth 100000 in
theorem ent_any (h : G2 w gb mm hm a.mb f c) (hV : Vm a w w r s) (d : Int) (d0 : 0 ≤ d) (d8 : d < 8) (k pb : Nat) (hd : f d = some ((k : Int), pb)) (hk : k < s.n) (ref : Nat) (h32 : ref < 32) :
    Calls Tryz.prog 99 #[.pointer (some ⟨gb, 0, none⟩), .pointer (some ⟨a.vb, 0, none⟩), .int .i64 d, .int .i64 ref] w (EntOut a w (ent (pokeS s a.ps r) k ref) r (pokeS s a.ps r)) := by
  have C0 := fun i => blk_cell h.blk i
  have L0 := blk_lt h.blk
  have e1 : mvs f d = some (.agg #[.int .i64 k, .pointer (some ⟨pb, 0, none⟩)]) := by unfold mvs; rw [hd]; rfl
  have hb1 := below_alloc (Below.refl w.heap.size w) (.cells #[.int .i64 0, .bool false, .bool false, .int .i64 0, .int .i64 0, .int .i64 0, .int .i64 0] 32)
  have hlk := (h.mem.below hb1).look Tryz.underlying114 (zeroM _) d (by omega) (by omega)
  rw [e1] at hlk
  simp only [Option.getD_some] at hlk
  obtain ⟨s1, hs1⟩ : ∃ s1, s1 = pokeS s a.ps r := ⟨_, rfl⟩
  have hk1 : k < s1.n := by rw [hs1, pokeS_n]; exact hk
  have hrd := (vmread (hV.below hb1) k (8 * ref : Nat) 8).mono (R' := fun e w' => ∃ N, e = .returned (.tuple #[.slice (some ⟨N, 0, none⟩) 8 8, .int .i64 0]) ∧ w'.heap[N]? = some (.cells (u8s (MS.rd s1 k (8 * ref) 8)).toArray 5 (0, 0)) ∧ Vm a (w.alloc (.cells #[.int .i64 0, .bool false, .bool false, .int .i64 0, .int .i64 0, .int .i64 0, .int .i64 0] 32)) w' (r + 1) s1) (by
    rintro e w' ⟨N, A, l, er, he, hN, hrd, hv⟩
    rw [← hs1] at hrd hv
    rcases hrd.res with ⟨_, rfl, rfl, rfl, h5⟩ | ⟨h5, _⟩
    · exact ⟨N, he, by rw [Int.toNat_natCast, Int.toNat_natCast] at h5; exact h5, hv⟩
    · exact absurd (by unfold inR; omega) h5)
  have HB := Base.Aside.mk (And.intro hb1 hV)
  have hfd : ∀ (W : World) (a b : Value), (Instr.field 135 (.agg #[a, b]) 0).run Tryz.prog W = .ok a W := fun _ _ _ => by kernel_rfl
  rw [show ((8 * ref : Nat) : Int) = 8 * (ref : Int) by omega] at hrd
  have hlv := hV.lt.1
  have hlf := hV.lm.2
  rw [← hs1]
  have HS := Base.Aside.mk hs1
  clear h e1 hb1 hV hs1
  have HR := fun (w1 : World) (hc : Vm a (w.alloc (.cells #[.int .i64 0, .bool false, .bool false, .int .i64 0, .int .i64 0, .int .i64 0, .int .i64 0] 32)) w1 (r + 1) s1) => hc.bl (blk_new w _) (Nat.ne_of_gt hlv) (Nat.ne_of_gt hlf)
  by_cases hbad : GuA.bad (ent s1 k ref)
  · have HU := fun (w1 : World) (H : Nat) (hh : w1.heap[H]? = some (.cells (u8s (MS.rd s1 k (8 * ref) 8)).toArray 5 (0, 0))) => unpack_bad ⟨H, 0, none⟩ 8 (ent s1 k ref) w1 (ent_bytes (rd_len _ _ _ _) hh) hbad
    have e3 : entG (ent s1 k ref) = ⟨0, false, false, 0, 0, 0, 0⟩ := if_pos hbad
    have e4 : entE (ent s1 k ref) = 60 := if_pos hbad
    go_enter Tryz.func99, Tryz.ntmps99
    go_wp2_with (first
      | (go_at_call 78; (with_reducible refine hrd.mono ?_); rintro z w1 ⟨N, rfl, hw1, hw2⟩; have hun := HU w1 _ hw1; have hres := HR w1 hw2; have E1 := Base.Aside.mk hw2; clear hw1 hw2)
      | (go_at_call 111; (with_reducible refine hun.mono ?_); rintro z w2 ⟨rfl, hB2⟩; have hres2 := blk_below hres (blk_lt hres) hB2; have C2 := fun i => blk_cell hres2 i; have F2 := fun i => blk_frozen hres2 i; have L2 := blk_lt hres2; have E2 := Base.Aside.mk hB2; clear hB2)
      | go_in)
    refine bodyPost_ret (v := .tuple #[.agg #[.int .i64 0, .bool false, .bool false, .int .i64 0, .int .i64 0, .int .i64 0, .int .i64 0], .int .i64 60]) ?_ rfl ⟨by rw [e3, e4]; rfl, ?_⟩
    · simp only [results, Tryz.results99]; first | (go_simp; done) | (go_simp; rfl)
    · have hw := Vm.pre HB.out.1 HB.out.2 (E1.out.below E2.out)
      exact ((((((((hw.set (Nat.le_refl _) _ _).set (Nat.le_refl _) _ _).set (Nat.le_refl _) _ _).set (Nat.le_refl _) _ _).set (Nat.le_refl _) _ _).set (Nat.le_refl _) _ _).set (Nat.le_refl _) _ _).alloc _)
  · have HU := fun (w1 : World) (H : Nat) (hh : w1.heap[H]? = some (.cells (u8s (MS.rd s1 k (8 * ref) 8)).toArray 5 (0, 0))) => unpack_good ⟨H, 0, none⟩ 8 (ent s1 k ref) w1 (ent_bytes (rd_len _ _ _ _) hh) hbad
    have e3 : entG (ent s1 k ref) = ⟨GuA.kd (ent s1 k ref), GuA.ro (ent s1 k ref), GuA.sb (ent s1 k ref), GuA.rd (ent s1 k ref) 2 + 256 * GuA.rd (ent s1 k ref) 3, GuA.rd (ent s1 k ref) 4 + 256 * GuA.rd (ent s1 k ref) 5, GuA.of (ent s1 k ref), GuA.le (ent s1 k ref)⟩ := if_neg hbad
    have e4 : entE (ent s1 k ref) = 0 := if_neg hbad
    go_enter Tryz.func99, Tryz.ntmps99
    go_wp2_with (first
      | (go_at_call 78; (with_reducible refine hrd.mono ?_); rintro z w1 ⟨N, rfl, hw1, hw2⟩; have hun := HU w1 _ hw1; have hres := HR w1 hw2; have E1 := Base.Aside.mk hw2; clear hw1 hw2)
      | (go_at_call 111; (with_reducible refine hun.mono ?_); rintro z w2 ⟨rfl, hB2⟩; have hres2 := blk_below hres (blk_lt hres) hB2; have C2 := fun i => blk_cell hres2 i; have F2 := fun i => blk_frozen hres2 i; have L2 := blk_lt hres2; have E2 := Base.Aside.mk hB2; clear hB2)
      | go_in)
    refine bodyPost_ret (v := .tuple #[.agg #[.int .i64 (GuA.kd (ent s1 k ref)), .bool (GuA.ro (ent s1 k ref)), .bool (GuA.sb (ent s1 k ref)), .int .i64 (GuA.rd (ent s1 k ref) 2 + 256 * GuA.rd (ent s1 k ref) 3), .int .i64 (GuA.rd (ent s1 k ref) 4 + 256 * GuA.rd (ent s1 k ref) 5), .int .i64 (GuA.of (ent s1 k ref)), .int .i64 (GuA.le (ent s1 k ref))], .int .i64 0]) ?_ rfl ⟨by rw [e3, e4]; rfl, ?_⟩
    · simp only [results, Tryz.results99]; first | (go_simp; done) | (go_simp; rfl)
    · have hw := Vm.pre HB.out.1 HB.out.2 (E1.out.below E2.out)
      exact ((((((((hw.set (Nat.le_refl _) _ _).set (Nat.le_refl _) _ _).set (Nat.le_refl _) _ _).set (Nat.le_refl _) _ _).set (Nat.le_refl _) _ _).set (Nat.le_refl _) _ _).set (Nat.le_refl _) _ _).alloc _)
set_option maxHeartbeats 4000000 in
set_option maxRecDepth 100000 in
theorem permit_any (h : G2 w gb mm hm a.mb f c) (hV : Vm a w w r s) (d : Int) (d0 : 0 ≤ d) (d8 : d < 8) (k pb : Nat) (hd : f d = some ((k : Int), pb)) (hk : k < s.n) (ref : Nat) (h32 : ref < 32) (caller : Int) :
    Calls Tryz.prog 65 #[.pointer (some ⟨gb, 0, none⟩), .pointer (some ⟨a.vb, 0, none⟩), .int .i64 caller, .int .i64 d, .int .i64 ref] w fun e w' => e = .returned (.tuple #[aggv (entG (ent (pokeS s a.ps r) k ref)), .int .i64 (permE (ent (pokeS s a.ps r) k ref) caller)]) ∧ Vm a w w' (r + 1) (pokeS s a.ps r) := by
  have hb1 := below_alloc (Below.refl w.heap.size w) (.cells #[.int .i64 0, .bool false, .bool false, .int .i64 0, .int .i64 0, .int .i64 0, .int .i64 0] 32)
  have hen := ent_any (h.below hb1) (Vm.start (hV.v.below hb1) (hV.m.below hb1) hV.hB hV.h64) d d0 d8 k pb hd hk ref h32
  obtain ⟨s1, hs1⟩ : ∃ s1, s1 = pokeS s a.ps r := ⟨_, rfl⟩
  rw [← hs1] at hen ⊢
  obtain ⟨g, hg⟩ : ∃ g, g = entG (ent s1 k ref) := ⟨_, rfl⟩
  obtain ⟨er, her⟩ : ∃ er, er = entE (ent s1 k ref) := ⟨_, rfl⟩
  obtain ⟨pe, hpe⟩ : ∃ pe, pe = permE (ent s1 k ref) caller := ⟨_, rfl⟩
  have hp2 : pe = if er = 0 ∧ (g.kd ≠ 1 ∨ g.dom ≠ caller) then 60 else er := by rw [hpe, hg, her]; rfl
  unfold EntOut at hen
  rw [← hg, ← her] at hen
  rw [← hg, ← hpe]
  unfold aggv at hen ⊢
  have hlv := hV.lt.1
  have hlf := hV.lm.2
  have HA := Base.Aside.mk hp2
  have HR := fun (w1 : World) (hc : Vm a (w.alloc (.cells #[.int .i64 0, .bool false, .bool false, .int .i64 0, .int .i64 0, .int .i64 0, .int .i64 0] 32)) w1 (r + 1) s1) => hc.bl (blk_new w _) (Nat.ne_of_gt hlv) (Nat.ne_of_gt hlf)
  have HP := Base.Aside.mk (And.intro hb1 hV)
  clear h hV hb1 hg her hpe hp2 hd hs1
  go_enter Tryz.func65, Tryz.ntmps65
  go_wp2_with (first
    | (go_at_call 99; (with_reducible refine hen.mono ?_); rintro z w1 ⟨rfl, hw2⟩; have hres := HR w1 hw2; have C2 := fun i => blk_cell hres i; have F2 := fun i => blk_frozen hres i; have L2 := blk_lt hres; have E1 := Base.Aside.mk hw2; clear hw2 hres)
    | go_in)
  all_goals
    refine bodyPost_ret (v := .tuple #[.agg #[.int .i64 g.kd, .bool g.ro, .bool g.sb, .int .i64 g.dom, .int .i64 g.gp, .int .i64 g.of, .int .i64 g.le], .int .i64 pe]) ?_ rfl ⟨rfl, ?_⟩
    · simp only [results, Tryz.results65]
      go_simp
      all_goals
        go_light
        have hr := HA.out
        clear HA HR hen E1 C2 F2
        simp_all
    · have hw := Vm.pre HP.out.1 HP.out.2 E1.out
      exact ((((((((hw.set (Nat.le_refl _) _ _).set (Nat.le_refl _) _ _).set (Nat.le_refl _) _ _).set (Nat.le_refl _) _ _).set (Nat.le_refl _) _ _).set (Nat.le_refl _) _ _).set (Nat.le_refl _) _ _).alloc _)
end
end Go.Proofs.YthlejchcnfdcpaaGreat.GwF
