/- Proved: lemmas on the two schedulers side by side in memory, and on the state that both hold (for the laws of the scheduler). -/
import Derived.Test.YtpdelhipfleniaaRfH
namespace Go.Proofs.Ytpdelhipfleniaa.AbA
open Go.RowKit Go.Maps Go.Proofs.Ytpdelhipfleniaa.Base Go.Proofs.Ytpdelhipfleniaa.SchA Go.Proofs.Ytpdelhipfleniaa.PlB Go.Proofs.Ytpdelhipfleniaa.PlC Go.Proofs.Ytpdelhipfleniaa.PlD Go.Proofs.Ytpdelhipfleniaa.PlE Go.Proofs.Ytpdelhipfleniaa.PlF Go.Proofs.Ytpdelhipfleniaa.PlG Go.Proofs.Ytpdelhipfleniaa.PlH Go.Proofs.Ytpdelhipfleniaa.PlI Go.Proofs.Ytpdelhipfleniaa.PlJ Go.Proofs.Ytpdelhipfleniaa.PlK Go.Proofs.Ytpdelhipfleniaa.PlL Go.Proofs.Ytpdelhipfleniaa.RfA Go.Proofs.Ytpdelhipfleniaa.RfB Go.Proofs.Ytpdelhipfleniaa.RfC Go.Proofs.Ytpdelhipfleniaa.RfD Go.Proofs.Ytpdelhipfleniaa.RfE Go.Proofs.Ytpdelhipfleniaa.RfF Go.Proofs.Ytpdelhipfleniaa.RfG Go.Proofs.Ytpdelhipfleniaa.RfH
set_option linter.unusedVariables false

/-- What both hold: which numbers there are, their entries, the queue, the ticks. -/
structure St where
  p : Nat → Bool
  e : Nat → V
  q : List Int
  t : Int
/-- What is always so. -/
structure Inv (σ : St) : Prop where
  hi : ∀ k, 16 ≤ k → σ.p k = false
  nd : σ.q.Nodup
  mem : ∀ x, x ∈ σ.q ↔ ∃ k : Nat, x = (k : Int) ∧ k < 16 ∧ σ.p k = true ∧ (σ.e k).ready = true
  val : Vin σ.p σ.e
  t0 : 0 ≤ σ.t

def keysP (p : Nat → Bool) : List Int := ((List.range 16).filter p).map (fun k : Nat => (k : Int))
/-- The program's scheduler holds σ; F are its blocks. -/
def Sst (X F : Nat → Prop) (w : World) (S : Nat) (σ : St) : Prop := ∃ M s c qv, Sch X w S M s σ.e c qv σ.q σ.t ∧ (∀ k, (s k).isSome = σ.p k) ∧ c = (keysP σ.p).length ∧ (∀ k, F k ↔ (k = S ∨ k = M ∨ (∃ j, s j = some k) ∨ qv.ownBlock = some k))
/-- The document's scheduler holds σ; F are its blocks. -/
def Rst (X F : Nat → Prop) (w : World) (R : Nat) (σ : St) : Prop := ∃ L cs qv, Ref X w R L cs σ.p σ.e qv σ.q σ.t ∧ (∀ k, F k ↔ (k = R ∨ k = L ∨ qv.ownBlock = some k))

theorem row_move {W W' : World} {b e size n : Nat} {v : Value} {xs : List Value} (h : W.ownsRow b e size v n xs) (hk : ∀ g, v.ownBlock = some g → W'.heap[g]? = W.heap[g]?) : W'.ownsRow b e size v n xs := by
  refine ⟨h.1, h.2.imp id ?_⟩
  rintro ⟨g, cap, cur, rfl, h1, h2, h3⟩
  exact ⟨g, cap, cur, rfl, h1, (hk g rfl).trans h2, h3⟩
theorem Sst.lt {X F : Nat → Prop} {w : World} {S : Nat} {σ : St} (h : Sst X F w S σ) : ∀ k, F k → k < w.heap.size := by
  obtain ⟨M, s, c, qv, h, h1, h2, h3⟩ := h
  intro k hk
  rcases (h3 k).1 hk with rfl | rfl | ⟨j, hj⟩ | hq
  · exact h.lt
  · exact h.map.lt
  · exact blk_lt (h.ent j k hj)
  · exact (h.row.lt k hq).2
theorem Sst.apart {X F : Nat → Prop} {w : World} {S : Nat} {σ : St} (h : Sst X F w S σ) : ∀ k, F k → ¬ X k := by
  obtain ⟨M, s, c, qv, h, h1, h2, h3⟩ := h
  intro k hk
  rcases (h3 k).1 hk with rfl | rfl | ⟨j, hj⟩ | hq
  · exact h.bS
  · exact h.bM
  · exact h.bE j k hj
  · exact h.bQ k hq
theorem Sst.move {X X' F : Nat → Prop} {w w' : World} {S : Nat} {σ : St} (h : Sst X F w S σ) (hk : ∀ k, F k → w'.heap[k]? = w.heap[k]?) (hx : ∀ k, F k → ¬ X' k) : Sst X' F w' S σ := by
  obtain ⟨M, s, c, qv, h, h1, h2, h3⟩ := h
  have fS := (h3 S).2 (.inl rfl)
  have fM := (h3 M).2 (.inr (.inl rfl))
  have fE := fun j g (hj : s j = some g) => (h3 g).2 (.inr (.inr (.inl ⟨j, hj⟩)))
  have fQ := fun g (hq : qv.ownBlock = some g) => (h3 g).2 (.inr (.inr (.inr hq)))
  exact ⟨M, s, c, qv, ⟨(hk S fS).trans h.blk, h.map.block (hk M fM), fun j g hj => (hk g (fE j g hj)).trans (h.ent j g hj), h.inj, row_move h.row (fun g hg => hk g (fQ g hg)), hx S fS, hx M fM, fun j g hj => hx g (fE j g hj), fun g hg => hx g (fQ g hg)⟩, h1, h2, h3⟩
theorem Rst.lt {X F : Nat → Prop} {w : World} {R : Nat} {σ : St} (h : Rst X F w R σ) : ∀ k, F k → k < w.heap.size := by
  obtain ⟨L, cs, qv, h, h3⟩ := h
  intro k hk
  rcases (h3 k).1 hk with rfl | rfl | hq
  · exact h.lt
  · exact blk_lt h.lst
  · exact (h.row.lt k hq).2
theorem Rst.apart {X F : Nat → Prop} {w : World} {R : Nat} {σ : St} (h : Rst X F w R σ) : ∀ k, F k → ¬ X k := by
  obtain ⟨L, cs, qv, h, h3⟩ := h
  intro k hk
  rcases (h3 k).1 hk with rfl | rfl | hq
  · exact h.bR
  · exact h.bL
  · exact h.bQ k hq
theorem Rst.move {X X' F : Nat → Prop} {w w' : World} {R : Nat} {σ : St} (h : Rst X F w R σ) (hk : ∀ k, F k → w'.heap[k]? = w.heap[k]?) (hx : ∀ k, F k → ¬ X' k) : Rst X' F w' R σ := by
  obtain ⟨L, cs, qv, h, h3⟩ := h
  have fR := (h3 R).2 (.inl rfl)
  have fL := (h3 L).2 (.inr (.inl rfl))
  have fQ := fun g (hq : qv.ownBlock = some g) => (h3 g).2 (.inr (.inr hq))
  exact ⟨L, cs, qv, ⟨(hk R fR).trans h.blk, (hk L fL).trans h.lst, h.size, h.slot, row_move h.row (fun g hg => hk g (fQ g hg)), hx R fR, hx L fL, fun g hg => hx g (fQ g hg)⟩, h3⟩

/-- Both side by side, with other blocks kept apart. -/
def Pair (B : Nat → Prop) (w : World) (S R : Nat) (σ τ : St) : Prop := Old B w ∧ ∃ F1 F2 : Nat → Prop, Sst (fun k => B k ∨ F2 k) F1 w S σ ∧ Rst (fun k => B k ∨ F1 k) F2 w R τ
section
variable {B B' : Nat → Prop} {w w' : World} {S R : Nat} {σ σ' τ τ' : St}
theorem Pair.kept (h : Pair B w S R σ τ) (hb : Below w.heap.size w w') : Pair B w' S R σ τ := by
  obtain ⟨h0, F1, F2, h1, h2⟩ := h
  exact ⟨Old.up h0 hb.size, F1, F2, h1.move (fun k hk => hb.block k (h1.lt k hk)) h1.apart, h2.move (fun k hk => hb.block k (h2.lt k hk)) h2.apart⟩
theorem Pair.heap (h : Pair B w S R σ τ) (hb : w'.heap = w.heap) : Pair B w' S R σ τ := by
  obtain ⟨h0, F1, F2, h1, h2⟩ := h
  exact ⟨fun k hk => by rw [hb]; exact h0 k hk, F1, F2, h1.move (fun k hk => by rw [hb]) h1.apart, h2.move (fun k hk => by rw [hb]) h2.apart⟩
theorem Pair.drew (h : Pair B w S R σ τ) : Pair B w.drew S R σ τ := h.heap rfl
/-- Fewer blocks, or new ones besides. -/
theorem Pair.less (h : Pair B w S R σ τ) (hb : ∀ k, B' k → B k) : Pair B' w S R σ τ := by
  obtain ⟨h0, F1, F2, h1, h2⟩ := h
  exact ⟨fun k hk => h0 k (hb k hk), F1, F2, h1.move (fun _ _ => rfl) (fun k hk hx => h1.apart k hk (hx.imp (hb k) id)), h2.move (fun _ _ => rfl) (fun k hk hx => h2.apart k hk (hx.imp (hb k) id))⟩
theorem Pair.more (h : Pair B w S R σ τ) (hb : Below w.heap.size w w') (hn : ∀ k, B' k → B k ∨ w.heap.size ≤ k) (ho : Old B' w') : Pair B' w' S R σ τ := by
  obtain ⟨h0, F1, F2, h1, h2⟩ := h
  refine ⟨ho, F1, F2, h1.move (fun k hk => hb.block k (h1.lt k hk)) (fun k hk hx => ?_), h2.move (fun k hk => hb.block k (h2.lt k hk)) (fun k hk hx => ?_)⟩
  · rcases hx with hx | hx
    · rcases hn k hx with hx | hx
      · exact h1.apart k hk (.inl hx)
      · have := h1.lt k hk
        omega
    · exact h1.apart k hk (.inr hx)
  · rcases hx with hx | hx
    · rcases hn k hx with hx | hx
      · exact h2.apart k hk (.inl hx)
      · have := h2.lt k hk
        omega
    · exact h2.apart k hk (.inr hx)
theorem liftS {f : Nat} {args : Array Value} {Q : Ending → Prop} (h : Pair B w S R σ τ) (hc : ∀ X F, Sst X F w S σ → Old X w → Calls Try.prog f args w fun z w' => Q z ∧ ∃ F', Sst X F' w' S σ' ∧ Kept X w w') :
    Calls Try.prog f args w fun z w' => Q z ∧ Pair B w' S R σ' τ ∧ Kept B w w' := by
  obtain ⟨h0, F1, F2, h1, h2⟩ := h
  refine (hc _ _ h1 (fun k hk => hk.elim (h0 k) (h2.lt k))).mono ?_
  rintro z w' ⟨hz, F', h3, hK⟩
  refine ⟨hz, ⟨Old.up h0 hK.size, F', F2, h3, h2.move (fun k hk => hK.block k (.inr hk)) (fun k hk hx => ?_)⟩, ⟨hK.os, hK.tape, hK.output, hK.size, fun k hk => hK.block k (.inl hk)⟩⟩
  rcases hx with hx | hx
  · exact h2.apart k hk (.inl hx)
  · exact h3.apart k hx (.inr hk)
theorem liftR {f : Nat} {args : Array Value} {Q : Ending → Prop} (h : Pair B w S R σ τ) (hc : ∀ X F, Rst X F w R τ → Old X w → Calls Try.prog f args w fun z w' => Q z ∧ ∃ F', Rst X F' w' R τ' ∧ Kept X w w') :
    Calls Try.prog f args w fun z w' => Q z ∧ Pair B w' S R σ τ' ∧ Kept B w w' := by
  obtain ⟨h0, F1, F2, h1, h2⟩ := h
  refine (hc _ _ h2 (fun k hk => hk.elim (h0 k) (h1.lt k))).mono ?_
  rintro z w' ⟨hz, F', h3, hK⟩
  refine ⟨hz, ⟨Old.up h0 hK.size, F1, F', h1.move (fun k hk => hK.block k (.inr hk)) (fun k hk hx => ?_), h3⟩, ⟨hK.os, hK.tape, hK.output, hK.size, fun k hk => hK.block k (.inl hk)⟩⟩
  rcases hx with hx | hx
  · exact h1.apart k hk (.inl hx)
  · exact h3.apart k hx (.inr hk)
theorem Kept.less (h : Kept B w w') (hb : ∀ k, B' k → B k) : Kept B' w w' := ⟨h.os, h.tape, h.output, h.size, fun k hk => h.block k (hb k hk)⟩
theorem Kept.below {base : Nat} (h : Kept (fun k => k < base) w w') : Below base w w' := ⟨h.os, h.tape, h.output, h.size, h.block⟩
theorem Kept.drew (h : Kept B w w') : Kept B w w'.drew := ⟨h.os, h.tape, h.output, h.size, h.block⟩
end

/-! ### What the calls make of the state -/
def addS (σ : St) (n : Nat) (a b c : Int) : St := { σ with p := addP σ.p n, e := fun j => if j = n then ⟨a, b, c, 0, false, 0⟩ else σ.e j }
def freeP (p : Nat → Bool) : Option Nat := (List.range 16).find? (fun k => !p k)
def addR (σ : St) (a b c : Int) : Int × Int × St := if okArgs a b c then (match freeP σ.p with | some n => ((n : Int), 0, addS σ n a b c) | none => (0, 71, σ)) else (0, 1, σ)
def wakeS (σ : St) (k : Nat) : St := if (σ.e k).ready then σ else { σ with e := fun j => if j = k then setReady (σ.e k) true else σ.e j, q := σ.q ++ [(k : Int)] }
def sleepS (σ : St) (k : Nat) : St := { σ with e := fun j => if j = k then setReady (σ.e k) false else σ.e j, q := outr σ.q k }
def removeS (σ : St) (k : Nat) : St := { σ with p := delP σ.p k, q := outr σ.q k }
def onS (σ : St) (n : Int) (f : St → Nat → St) : Int × St := if isn σ.p n then (0, f σ n.toNat) else (6, σ)
def dropS (σ : St) (dom : Int) : St := { σ with p := dropP σ.p σ.e dom 16, q := dropQ σ.p σ.e dom 16 σ.q }
def shareS (p : Nat → Bool) (e : Nat → V) (q : List Int) (t : Int) : Nat → V := if t % 10 = 0 then giveP (sumW e q) p e 16 else e
def tickS (σ : St) : St := match nextOf σ.q σ.e with
  | some x => { σ with e := shareS σ.p (runE σ.e x.toNat) (outr σ.q x ++ [x]) (σ.t + 1), q := outr σ.q x ++ [x], t := σ.t + 1 }
  | none => { σ with e := shareS σ.p σ.e σ.q (σ.t + 1), t := σ.t + 1 }

/-! ### What is always so, stays so -/
theorem nodup_len : ∀ (q l : List Int), q.Nodup → (∀ x ∈ q, x ∈ l) → q.length ≤ l.length
  | [], l, _, _ => Nat.zero_le _
  | x :: q, l, h, hs => by
    have hx := hs x (List.mem_cons_self ..)
    have hq : ∀ y ∈ q, y ∈ l.erase x := fun y hy => by
      have hne : y ≠ x := by
        rintro rfl
        exact (List.nodup_cons.1 h).1 hy
      exact (List.mem_erase_of_ne hne).2 (hs y (List.mem_cons_of_mem _ hy))
    have := nodup_len q (l.erase x) (List.nodup_cons.1 h).2 hq
    rw [List.length_erase_of_mem hx] at this
    have h0 : 0 < l.length := List.length_pos_of_mem hx
    simp only [List.length_cons]
    omega
section
variable {σ : St}
theorem Inv.qin (h : Inv σ) : Qin σ.q σ.p := fun x hx => by
  obtain ⟨k, h1, h2, h3, _⟩ := (h.mem x).1 hx
  exact ⟨k, h1, h2, h3⟩
theorem Inv.len (h : Inv σ) : σ.q.length ≤ 16 := by
  have := nodup_len σ.q ((List.range 16).map (fun k : Nat => (k : Int))) h.nd (fun x hx => by
    obtain ⟨k, rfl, h2, _⟩ := (h.mem x).1 hx
    exact List.mem_map.2 ⟨k, List.mem_range.2 h2, rfl⟩)
  simpa using this
theorem Inv.some (h : Inv σ) : ∀ k, k < 16 → σ.p k = true → (σ.e k).ready = true → σ.q ≠ [] := fun k h1 h2 h3 h4 => by
  have := (h.mem k).2 ⟨k, rfl, h1, h2, h3⟩
  rw [h4] at this
  simp at this
theorem Inv.start : Inv ⟨fun _ => false, fun _ => ⟨0, 0, 0, 0, false, 0⟩, [], 0⟩ := ⟨fun _ _ => rfl, List.nodup_nil, fun x => by simp, fun k hk => absurd hk Bool.false_ne_true, Int.le_refl _⟩
theorem outr_erase {q : List Int} (h : q.Nodup) (x : Int) : outq q x = outr q x := by
  unfold outq outr
  exact h.erase_eq_filter x
theorem freeP_some {p : Nat → Bool} {n : Nat} (h : freeP p = some n) : n < 16 ∧ p n = false ∧ ∀ k, k < n → p k = true := by
  unfold freeP at h
  obtain ⟨h1, la, lb, h2, h3⟩ := List.find?_eq_some_iff_append.1 h
  have hl : n = la.length := by
    have e1 : (List.range 16)[la.length]? = some n := by rw [h2]; simp
    rw [List.getElem?_range] at e1
    · exact (Option.some.inj e1).symm
    · have := congrArg List.length h2
      simp at this
      omega
  have h16 : n < 16 := by
    have : n ∈ List.range 16 := by rw [h2]; simp
    exact List.mem_range.1 this
  refine ⟨h16, by simpa using h1, fun k hk => ?_⟩
  have hk2 : k ∈ la := by
    have e2 : (List.range 16)[k]? = some k := List.getElem?_range (by omega)
    rw [h2, List.getElem?_append_left (by omega)] at e2
    exact List.mem_of_getElem? e2
  simpa using h3 k hk2
theorem freeP_none {p : Nat → Bool} (h : freeP p = none) : ∀ k, k < 16 → p k = true := by
  unfold freeP at h
  intro k hk
  simpa using List.find?_eq_none.1 h k (List.mem_range.2 hk)
end
end Go.Proofs.Ytpdelhipfleniaa.AbA
