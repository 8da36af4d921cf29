/- Proved: what the scheduler's share does in memory (contracts for the laws of the scheduler). -/
import Derived.Test.YtpdelhipfleniaaPlE
namespace Go.Proofs.Ytpdelhipfleniaa.PlF
open Go.RowKit Go.Maps Go.Proofs.Ytpdelhipfleniaa.Base Go.Proofs.Ytpdelhipfleniaa.SchA Go.Proofs.Ytpdelhipfleniaa.PlB Go.Proofs.Ytpdelhipfleniaa.PlC Go.Proofs.Ytpdelhipfleniaa.PlD Go.Proofs.Ytpdelhipfleniaa.PlE
set_option linter.unusedVariables false

/-- What stands in an entry is within its bounds. -/
def Vok (s : Nat → Option Nat) (e : Nat → V) : Prop := ∀ k g, s k = some g → 1 ≤ (e k).weight ∧ (e k).weight ≤ 1024 ∧ 0 ≤ (e k).cap ∧ (e k).cap ≤ 100
def more (v : V) (W : Int) : Int := if 0 < v.cap then min (1000 * v.weight / W) (10 * v.cap) else 1000 * v.weight / W
def give (v : V) (W : Int) : V := { v with credit := min 1000 (wrap64 (v.credit + more v W)) }

set_option maxHeartbeats 2000000 in
set_option maxRecDepth 100000 in
theorem plus_calls {w : World} (g Wb : Nat) (v : V) (x : Int) (hg : w.heap[g]? = some (.cells (vcells v) 36 (0, 0))) (hW : w.heap[Wb]? = some (.cells #[.int .i64 x] 3 (0, 0))) (h1 : 0 ≤ x) (h2 : x ≤ 100000) (h3 : 1 ≤ v.weight) (h4 : v.weight ≤ 1024) :
    Calls Try.prog 45 #[.pointer (some ⟨g, 0, none⟩), .pointer (some ⟨Wb, 0, none⟩)] w fun z w' => z = .returned (.tuple #[]) ∧ w' = (w.setCell ⟨Wb, 0, none⟩ (.int .i64 (x + v.weight))).drew := by
  have C0 := fun i => blk_cell hg i
  have L0 := blk_lt hg
  have CW := fun i => blk_cell hW i
  have FW := fun i => blk_frozen hW i
  have LW := blk_lt hW
  simp only [vcells] at C0
  go_enter Try.func45, Try.ntmps45
  go_region
  refine bodyPost_end (results_none rfl _ _ _) rfl ?_
  refine ⟨by first | rfl | (simp; done), ?_⟩
  rfl

set_option maxHeartbeats 2000000 in
set_option maxRecDepth 100000 in
theorem give_calls {w : World} (g Wb : Nat) (v : V) (x : Int) (hg : w.heap[g]? = some (.cells (vcells v) 36 (0, 0))) (hW : w.heap[Wb]? = some (.cells #[.int .i64 x] 3 (0, 0))) (h1 : 0 < x) (h2 : x ≤ 100000) (h3 : 1 ≤ v.weight) (h4 : v.weight ≤ 1024) (h5 : 0 ≤ v.cap) (h6 : v.cap ≤ 100) :
    Calls Try.prog 46 #[.pointer (some ⟨g, 0, none⟩), .pointer (some ⟨Wb, 0, none⟩)] w fun z w' => z = .returned (.tuple #[]) ∧ w' = (w.setCell ⟨g, 3, none⟩ (.int .i64 (give v x).credit)).drew := by
  have C0 := fun i => blk_cell hg i
  have F0 := fun i => blk_frozen hg i
  have L0 := blk_lt hg
  have CW := fun i => blk_cell hW i
  have LW := blk_lt hW
  simp only [vcells] at C0
  have hx0 : (x == 0) = false := beq_eq_false_iff_ne.2 (by omega)
  go_enter Try.func46, Try.ntmps46
  go_wp2
  go_region
  by_cases hc : 0 < v.cap
  · have hd : (decide (0 < v.cap)) = true := decide_eq_true hc
    go_wp2
    refine bodyPost_end (results_none rfl _ _ _) rfl ?_
    exact ⟨by first | rfl | (simp; done), by simp only [give, more, if_pos hc]⟩
  · have hd : (decide (0 < v.cap)) = false := decide_eq_false hc
    go_wp2
    refine bodyPost_end (results_none rfl _ _ _) rfl ?_
    exact ⟨by first | rfl | (simp; done), by simp only [give, more, if_neg (show ¬ 0 < v.cap by omega)]⟩

def sumW (e : Nat → V) : List Int → Int
  | [] => 0
  | x :: q => sumW e q + (e x.toNat).weight
theorem sumW_snoc (e : Nat → V) (q : List Int) (x : Int) : sumW e (q ++ [x]) = sumW e q + (e x.toNat).weight := by
  induction q with
  | nil => simp [sumW]
  | cons y q ih => simp [sumW, ih]; omega
def giveAll (W : Int) (e : Nat → V) : List Int → (Nat → V)
  | [] => e
  | x :: q => giveAll W (fun j => if j = x.toNat then give (e j) W else e j) q
theorem giveAll_snoc (W : Int) (q : List Int) (x : Int) : ∀ e, giveAll W e (q ++ [x]) = (fun j => if j = x.toNat then give (giveAll W e q j) W else giveAll W e q j) := by
  induction q with
  | nil => intro e; rfl
  | cons y q ih => intro e; simp only [List.cons_append, giveAll, ih]
theorem sumW_le (s : Nat → Option Nat) (e : Nat → V) (hv : Vok s e) : ∀ q : List Int, Qok q s → (q.length : Int) ≤ sumW e q ∧ sumW e q ≤ 1024 * q.length := by
  intro q
  induction q with
  | nil => intro _; exact ⟨Int.le_refl _, Int.le_refl _⟩
  | cons x q ih =>
    intro hq
    obtain ⟨k, g, rfl, hk, hg⟩ := hq x (List.mem_cons_self ..)
    have h := hv k g hg
    have := ih (fun y hy => hq y (List.mem_cons_of_mem _ hy))
    simp only [sumW, List.length_cons, Int.toNat_natCast]
    omega
theorem give_same (v : V) (W : Int) : (give v W).weight = v.weight ∧ (give v W).cap = v.cap ∧ (give v W).dom = v.dom ∧ (give v W).ready = v.ready ∧ (give v W).ran = v.ran := ⟨rfl, rfl, rfl, rfl, rfl⟩
theorem giveAll_same (W : Int) (k : Nat) : ∀ (q : List Int) (e : Nat → V), (giveAll W e q k).weight = (e k).weight ∧ (giveAll W e q k).cap = (e k).cap
  | [], e => ⟨rfl, rfl⟩
  | x :: q, e => by
    have := giveAll_same W k q (fun j => if j = x.toNat then give (e j) W else e j)
    simp only [giveAll, this]
    by_cases h : k = x.toNat
    · simp [h, give]
    · simp [h]
theorem giveAll_other (W : Int) (k : Nat) : ∀ (q : List Int) (e : Nat → V), (∀ x ∈ q, x.toNat ≠ k) → giveAll W e q k = e k
  | [], e, _ => rfl
  | x :: q, e, h => by
    rw [giveAll, giveAll_other W k q _ (fun y hy => h y (List.mem_cons_of_mem _ hy))]
    exact if_neg (fun e1 => h x (List.mem_cons_self ..) e1.symm)
theorem take_snoc (q : List Int) (k : Nat) (hk : k < q.length) : q.take (k + 1) = q.take k ++ [q[k]] := by
  rw [List.take_add_one, List.getElem?_eq_getElem hk]
  rfl
theorem Qok.take {q : List Int} {s : Nat → Option Nat} (h : Qok q s) (k : Nat) : Qok (q.take k) s := fun x hx => h x (List.mem_of_mem_take hx)

/-- The blocks of share: its scheduler's pointer, its sum. -/
structure Env (X : Nat → Prop) (w : World) (S M : Nat) (s : Nat → Option Nat) (e : Nat → V) (c : Nat) (qv : Value) (q : List Int) (t : Int) (B Wb : Nat) (x : Int) : Prop where
  sch : Sch X w S M s e c qv q t
  box : w.heap[B]? = some (.cells #[.pointer (some ⟨S, 0, none⟩)] 22 (0, 0))
  sum : w.heap[Wb]? = some (.cells #[.int .i64 x] 3 (0, 0))
  own : qv.ownBlock ≠ some Wb
  bB : ¬ X B
  bW : ¬ X Wb
section
variable {X : Nat → Prop} {w : World} {S M : Nat} {s : Nat → Option Nat} {e : Nat → V} {c : Nat} {qv : Value} {q : List Int} {t : Int} {B Wb : Nat} {x : Int}
theorem Env.drew (h : Env X w S M s e c qv q t B Wb x) : Env X w.drew S M s e c qv q t B Wb x :=
  ⟨⟨h.sch.blk, h.sch.map.block rfl, h.sch.ent, h.sch.inj, h.sch.row.drew, h.sch.bS, h.sch.bM, h.sch.bE, h.sch.bQ⟩, h.box, h.sum, h.own, h.bB, h.bW⟩
theorem ne_of_type {w : World} {g g' : Nat} {cs cs' : Array Value} {t t' : TypeId} {z z' : Nat × Nat} (h : w.heap[g]? = some (.cells cs t z)) (h' : w.heap[g']? = some (.cells cs' t' z')) (ht : t ≠ t') : g ≠ g' := by
  rintro rfl
  rw [h] at h'
  injection h' with h1
  injection h1 with _ h2
  exact ht h2
/-- The sum becomes another. -/
theorem Env.summed (h : Env X w S M s e c qv q t B Wb x) (y : Int) : Env X (w.setCell ⟨Wb, 0, none⟩ (.int .i64 y)) S M s e c qv q t B Wb y ∧ Kept X w (w.setCell ⟨Wb, 0, none⟩ (.int .i64 y)) := by
  have hM := h.sch.map.ne_cells h.sum
  refine ⟨⟨⟨blk_far h.sch.blk (ne_of_type h.sch.blk h.sum (by decide)) _, h.sch.map.block (Below.heap_setCell _ _ _ M (fun e => hM e.symm)), fun k g hg => blk_far (h.sch.ent k g hg) (ne_of_type (h.sch.ent k g hg) h.sum (by decide)) _, h.sch.inj, h.sch.row.kept (grown_set _ _ _) (.inr h.own), h.sch.bS, h.sch.bM, h.sch.bE, h.sch.bQ⟩, blk_far h.box (ne_of_type h.box h.sum (by decide)) _, blk_put h.sum 0 _ rfl, h.own, h.bB, h.bW⟩, Kept.setCell (Kept.refl _ _) h.bW _⟩
theorem Env.gave (h : Env X w S M s e c qv q t B Wb x) {k g : Nat} (hk : s k = some g) (i : Nat) (u : Value) (v : V) (hv : (vcells (e k)).setIfInBounds i u = vcells v) :
    Env X (w.setCell ⟨g, i, none⟩ u) S M s (fun j => if j = k then v else e j) c qv q t B Wb x ∧ Kept X w (w.setCell ⟨g, i, none⟩ u) := by
  have hs := h.sch.entry hk i u v hv
  exact ⟨⟨hs.1, blk_far h.box (ne_of_type h.box (h.sch.ent k g hk) (by decide)) _, blk_far h.sum (ne_of_type h.sum (h.sch.ent k g hk) (by decide)) _, h.own, h.bB, h.bW⟩, hs.2⟩
end
end Go.Proofs.Ytpdelhipfleniaa.PlF
