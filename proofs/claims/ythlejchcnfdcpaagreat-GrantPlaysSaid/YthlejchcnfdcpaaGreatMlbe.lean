/- Proved: what a call of one side leaves of the other (the plain law of the grants). Proved: Map answers the same on both sides (the plain law of the grants). Proved: Map answers the same on both sides (the plain law of the grants). -/
import Derived.Test.YthlejchcnfdcpaaGreatMlbd
namespace Go.Proofs.YthlejchcnfdcpaaGreat.GzC
open Go.RowKit Go.Maps Base GaA GaB GaC GaD GmA GmB GmC GpA GgA GfA GfB GfC GfD GjA GjB GjC GjE GjK GwA GwB GwE GwF GwJ GwO GwQ RpA RmA RmB RgA GxA GxC GxD GyA GyB GyE GyN GbA GzA GzB
set_option linter.unusedVariables false
set_option linter.unusedSimpArgs false

section
variable {w0 W W' : World} {a : BX} {P Q : Value} {σ τ σ' τ' : SS} {G : Nat → Prop}
theorem _root_.Go.Proofs.YthlejchcnfdcpaaGreat.GzB.J.prog (h : J w0 W a P Q σ τ) (hp : Jp W' a σ') (hc : Chg G W W') (hG : ∀ x, G x → x < W.heap.size → tyAt W x ∈ progKinds) (hge : ∀ x, G x → w0.heap.size ≤ x) : J w0 W' a P Q σ' τ :=
  ⟨h.st, h.x.keep hc (fun x hx hl => .inr (hG x hx hl)) (fun x hx _ => hge x hx), hp, h.d.keep hc hG⟩
theorem _root_.Go.Proofs.YthlejchcnfdcpaaGreat.GzB.J.doc (h : J w0 W a P Q σ τ) (hd : Jd w0 W' a τ') (hc : Chg G W W') (hG : ∀ x, G x → x < W.heap.size → tyAt W x ∈ docKinds) (hge : ∀ x, G x → x < W.heap.size → w0.heap.size ≤ x) : J w0 W' a P Q σ τ' :=
  ⟨h.st, h.x.keep hc (fun x hx hl => .inl (hG x hx hl)) hge, h.p.keep hc hG, hd⟩
/-- The program's side, out of its grants: all but the places turned. -/
theorem Jp.of_gx {B : Nat} (h : Jp W a σ) (hs : St B a) (hx : GX W' a.gb a.mm a.hm a.mb a.fb σ'.s σ'.f σ'.c σ'.pi σ'.F σ'.n) (hpi : σ'.pi = σ.pi) (hc : Chg G W W') (hG : ∀ x, G x → x < W.heap.size → x = a.mm ∨ x = a.hm ∨ tyAt W x = some 113 ∨ tyAt W x = some 144) : Jp W' a σ' := by
  refine ⟨hx.g.m, hx.g.g, hx.h, fun i hi => ?_⟩
  rw [hpi]
  have hp := h.p i hi
  have hn := hs.ne i hi
  have kc : ∀ {g : Nat} {cs : Array Value} {u : TypeId}, W.heap[g]? = some (.cells cs u (0, 0)) → u ≠ 113 → u ≠ 144 → ¬ G g := fun hg h1 h2 hx => by
    rcases hG _ hx (blk_lt hg) with h3 | h3 | h3 | h3
    · rw [h3] at hg
      have := ty_imap h.g.mem
      rw [ty_cells hg] at this
      cases this
    · rw [h3] at hg
      obtain ⟨es, n, h4⟩ := h.k.is
      rw [h4] at hg
      injection hg with hg
      cases hg
    · rw [ty_cells hg] at h3
      exact h1 (Option.some.inj h3)
    · rw [ty_cells hg] at h3
      exact h2 (Option.some.inj h3)
  have km : ∀ {g : Nat} {c : Nat} {f : Int → Option Value}, IMap W g f c → g ≠ a.mm → g ≠ a.hm → ¬ G g := fun hg h1 h2 hx => by
    rcases hG _ hx hg.lt with h3 | h3 | h3 | h3
    · exact h1 h3
    · exact h2 h3
    · rw [ty_imap hg] at h3; cases h3
    · rw [ty_imap hg] at h3; cases h3
  exact hp.chg hc (kc hp.blk (by decide) (by decide)) (km hp.mf (fun e => hn.1 e.symm) (fun e => hn.2.2.1 e.symm)) (km hp.mp (fun e => hn.2.1 e.symm) (fun e => hn.2.2.2 e.symm))
/-- The document's side, out of its grants: all but the places turned. -/
theorem Jd.of_dw {A : Option Addr} {cap : Nat} (h : Jd w0 W a τ) (hd : DW W' (daOf a) A cap τ'.s τ'.f τ'.pi (qqOf a) τ'.L) (ho : ∀ x, (Value.slice A τ'.L.length cap).ownBlock = some x → w0.heap.size ≤ x) (hpi : τ'.pi = τ.pi) (hc : Chg G W W') (hG : ∀ x, G x → x < W.heap.size → tyAt W x ∈ docKinds ∧ tyAt W x ≠ some 3) : Jd w0 W' a τ' := by
  refine ⟨⟨A, cap, hd, ho⟩, fun i hi => ?_⟩
  rw [hpi]
  have hq := h.q i hi
  refine hq.chg hc (not_in (fun x hx hl => (hG x hx hl).1) (blk_lt hq.blk) (ty_cells hq.blk) (by decide)) (fun hg => ?_)
  have hr := hq.r.row
  exact (hG _ hg (hr.lt _ rfl).2).2 (ty_row hr rfl)
/-- The two views of a call. -/
structure VP where
  B : Nat
  vb : Nat
  db : Nat
  cb : Nat
  ub : Nat
  A : Option Addr
  cap : Nat
  ps : List Pk
def vaOf (a : BA) (v : VP) : VA := ⟨v.B, v.vb, v.db, v.cb, a.mb, a.fb, v.ps⟩
def dvOf (v : VP) : DVA := ⟨v.ub, v.A, v.cap, v.ps⟩
/-- .. both sides, with their views behind so many reads. -/
structure JV (w0 W : World) (a : BX) (P Q : Value) (σ τ : SS) (v : VP) (rp rd : Nat) : Prop where
  j : J w0 W a P Q σ τ
  b : W.heap[v.vb]? = some (.cells #[.pointer (some ⟨a.mb, 0, none⟩), .map (some v.db), .int .i64 (GvA.cr rp)] 144 (0, 0))
  u : W.heap[v.ub]? = some (.cells #[.pointer (some ⟨a.rb, 0, none⟩), .slice v.A v.ps.length v.cap, .int .i64 (GvA.cr rd)] 80 (0, 0))
  k : Pks w0 v.A v.ps
  h64 : v.ps.length ≤ 64
  lo : w0.heap.size ≤ v.B ∧ v.B ≤ v.vb ∧ a.mb < v.B ∧ a.fb < v.B ∧ a.hm < v.B ∧ (∀ i, i < 3 → a.fm i < v.B ∧ a.pm i < v.B) ∧ w0.heap.size ≤ v.ub
variable {v : VP} {rp rd r' : Nat}
theorem JV.below (h : JV w0 W a P Q σ τ v rp rd) (hb : Below W.heap.size W W') : JV w0 W' a P Q σ τ v rp rd := ⟨h.j.below hb, blk_below h.b (blk_lt h.b) hb, blk_below h.u (blk_lt h.u) hb, h.k, h.h64, h.lo⟩
theorem JV.prog (h : JV w0 W a P Q σ τ v rp rd) (hp : Jp W' a σ') (hb : W'.heap[v.vb]? = some (.cells #[.pointer (some ⟨a.mb, 0, none⟩), .map (some v.db), .int .i64 (GvA.cr r')] 144 (0, 0))) (hc : Chg G W W') (hG : ∀ x, G x → x < W.heap.size → tyAt W x ∈ progKinds) (hge : ∀ x, G x → w0.heap.size ≤ x) : JV w0 W' a P Q σ' τ v r' rd :=
  ⟨h.j.prog hp hc hG hge, hb, hc.blk h.u (not_in hG (blk_lt h.u) (ty_cells h.u) (by decide)), h.k, h.h64, h.lo⟩
theorem JV.doc (h : JV w0 W a P Q σ τ v rp rd) (hd : Jd w0 W' a τ') (hu : W'.heap[v.ub]? = some (.cells #[.pointer (some ⟨a.rb, 0, none⟩), .slice v.A v.ps.length v.cap, .int .i64 (GvA.cr r')] 80 (0, 0))) (hc : Chg G W W') (hG : ∀ x, G x → x < W.heap.size → tyAt W x ∈ docKinds) (hge : ∀ x, G x → x < W.heap.size → w0.heap.size ≤ x) : JV w0 W' a P Q σ τ' v rp r' :=
  ⟨h.j.doc hd hc hG hge, hc.blk h.b (not_in hG (blk_lt h.b) (ty_cells h.b) (by decide)), hu, h.k, h.h64, h.lo⟩
theorem JV.vd (h : JV w0 W a P Q σ τ v rp rd) : Vd w0 W v.ub a.rb a.bs v.A v.cap rd v.ps := ⟨h.u, h.j.x.bel, h.k, h.lo.2.2.2.2.2.2, h.j.st.ge.2.2.2.2.2.2⟩
theorem _root_.Go.Proofs.YthlejchcnfdcpaaGreat.GzB.Jp.tfb (h : Jp W a σ) : tyAt W a.fb = some 113 := by
  obtain ⟨cs, l1, _⟩ := h.m.lst
  exact ty_cells l1
theorem _root_.Go.Proofs.YthlejchcnfdcpaaGreat.GzB.Jp.tmm (h : Jp W a σ) : tyAt W a.mm = none := ty_imap h.g.mem
theorem _root_.Go.Proofs.YthlejchcnfdcpaaGreat.GzB.Jp.thm (h : Jp W a σ) : tyAt W a.hm = none := by
  obtain ⟨es, n, h1⟩ := h.k.is
  exact ty_map h1
/-- The program's contract: the machine's pages and the view's count turned. -/
theorem JV.vm (h : JV w0 W a P Q σ τ v rp rd) (hp : Pu a σ) {s' : MS} (k : Vm (vaOf a v) W W' r' s') (hn : s'.n = σ.s.n) : JV w0 W' a P Q { σ with s := s' } τ v r' rd := by
  have hc : Chg (fun x => x = v.vb ∨ x = a.fb) W W' := k.c
  have hk : ∀ x, (x = v.vb ∨ x = a.fb) → tyAt W x = some 113 ∨ tyAt W x = some 144 := by
    rintro x (rfl | rfl)
    · exact .inr (ty_cells h.b)
    · exact .inl h.j.p.tfb
  refine h.prog (Jp.of_gx (σ' := { σ with s := s' }) h.j.p h.j.st (gx_vm (a := vaOf a v) (h.j.p.gx hp h.j.st) k hn) rfl hc (fun x hx _ => .inr (.inr (hk x hx)))) k.blk hc (fun x hx _ => ?_) ?_
  · rcases hk x hx with e | e <;> (rw [e]; decide)
  · rintro x (rfl | rfl)
    · have := h.lo; omega
    · exact h.j.st.ge.2.1
/-- The program's contract: frames, live maps, members turned. -/
theorem _root_.Go.Proofs.YthlejchcnfdcpaaGreat.GzB.J.gx (h : J w0 W a P Q σ τ) (hx : GX W' a.gb a.mm a.hm a.mb a.fb σ'.s σ'.f σ'.c σ'.pi σ'.F σ'.n) (hpi : σ'.pi = σ.pi) (hc : Chg G W W') (hG : ∀ x, G x → x = a.fb ∨ x = a.hm ∨ x = a.mm) : J w0 W' a P Q σ' τ := by
  refine h.prog (Jp.of_gx h.p h.st hx hpi hc (fun x hx _ => ?_)) hc (fun x hx _ => ?_) (fun x hx => ?_)
  · rcases hG x hx with rfl | rfl | rfl
    · exact .inr (.inr (.inl h.p.tfb))
    · exact .inr (.inl rfl)
    · exact .inl rfl
  · rcases hG x hx with rfl | rfl | rfl
    · rw [h.p.tfb]; decide
    · rw [h.p.thm]; decide
    · rw [h.p.tmm]; decide
  · obtain ⟨g1, g2, g3, g4, _⟩ := h.st.ge
    rcases hG x hx with rfl | rfl | rfl <;> assumption
theorem Jd.tk {A : Option Addr} {cap : Nat} (hd : DW W (daOf a) A cap τ.s τ.f τ.pi (qqOf a) τ.L) : tyAt W a.Fb = some 95 ∧ tyAt W a.hb = some 120 ∧ tyAt W a.Db = some 122 ∧ (∀ b ∈ a.bs, tyAt W b = some 5) ∧ ∀ x, (Value.slice A τ.L.length cap).ownBlock = some x → tyAt W x = some 102 := by
  obtain ⟨c1, k1, _⟩ := hd.m.frs
  obtain ⟨c2, k2, _⟩ := hd.mem
  refine ⟨ty_cells k1, ty_cells hd.blk, ty_cells k2, fun b hb => ?_, fun x hx => ty_row hd.row hx⟩
  obtain ⟨cs, hcs⟩ := page_mem hd.m hb
  exact ty_cells hcs
/-- The document's contract: frames, pages, members, its grants turned. -/
theorem _root_.Go.Proofs.YthlejchcnfdcpaaGreat.GzB.J.dw {A A' : Option Addr} {cap cap' : Nat} (h : J w0 W a P Q σ τ) (hd : DW W (daOf a) A cap τ.s τ.f τ.pi (qqOf a) τ.L) (ho : ∀ x, (Value.slice A τ.L.length cap).ownBlock = some x → w0.heap.size ≤ x) (hd' : DW W' (daOf a) A' cap' τ'.s τ'.f τ'.pi (qqOf a) τ'.L) (ho' : ∀ x, (Value.slice A' τ'.L.length cap').ownBlock = some x → w0.heap.size ≤ x) (hpi : τ'.pi = τ.pi) (hc : Chg G W W') (hG : ∀ x, G x → x = a.Fb ∨ x ∈ a.bs ∨ x = a.Db ∨ x = a.hb ∨ (Value.slice A τ.L.length cap).ownBlock = some x) : J w0 W' a P Q σ τ' := by
  obtain ⟨t1, t2, t3, t4, t5⟩ := Jd.tk hd
  have hk : ∀ x, G x → tyAt W x ∈ docKinds ∧ tyAt W x ≠ some 3 := fun x hx => by
    rcases hG x hx with rfl | e | rfl | rfl | e
    · rw [t1]; decide
    · rw [t4 x e]; decide
    · rw [t3]; decide
    · rw [t2]; decide
    · rw [t5 x e]; decide
  refine h.doc (Jd.of_dw h.d hd' ho' hpi hc (fun x hx _ => hk x hx)) hc (fun x hx _ => (hk x hx).1) (fun x hx _ => ?_)
  obtain ⟨g1, g2, g3, g4, g5, g6, g7⟩ := h.st.ge
  rcases hG x hx with rfl | e | rfl | rfl | e
  · exact g5
  · exact g7 x e
  · exact g6
  · exact h.st.sep.hb
  · exact ho x e
/-- .. with its view. -/
theorem JV.dw {A A' : Option Addr} {cap cap' : Nat} (h : JV w0 W a P Q σ τ v rp rd) (hd : DW W (daOf a) A cap τ.s τ.f τ.pi (qqOf a) τ.L) (ho : ∀ x, (Value.slice A τ.L.length cap).ownBlock = some x → w0.heap.size ≤ x) (hd' : DW W' (daOf a) A' cap' τ'.s τ'.f τ'.pi (qqOf a) τ'.L) (ho' : ∀ x, (Value.slice A' τ'.L.length cap').ownBlock = some x → w0.heap.size ≤ x) (hpi : τ'.pi = τ.pi) (hu : W'.heap[v.ub]? = some (.cells #[.pointer (some ⟨a.rb, 0, none⟩), .slice v.A v.ps.length v.cap, .int .i64 (GvA.cr r')] 80 (0, 0))) (hc : Chg G W W') (hG : ∀ x, G x → x = v.ub ∨ x = a.Fb ∨ x ∈ a.bs ∨ x = a.Db ∨ x = a.hb ∨ (Value.slice A τ.L.length cap).ownBlock = some x) : JV w0 W' a P Q σ τ' v rp r' := by
  obtain ⟨t1, t2, t3, t4, t5⟩ := Jd.tk hd
  have hk : ∀ x, G x → tyAt W x ∈ docKinds ∧ tyAt W x ≠ some 3 := fun x hx => by
    rcases hG x hx with rfl | rfl | e | rfl | rfl | e
    · rw [ty_cells h.u]; decide
    · rw [t1]; decide
    · rw [t4 x e]; decide
    · rw [t3]; decide
    · rw [t2]; decide
    · rw [t5 x e]; decide
  refine h.doc (Jd.of_dw h.j.d hd' ho' hpi hc (fun x hx _ => hk x hx)) hu hc (fun x hx _ => (hk x hx).1) (fun x hx _ => ?_)
  obtain ⟨g1, g2, g3, g4, g5, g6, g7⟩ := h.j.st.ge
  rcases hG x hx with rfl | rfl | e | rfl | rfl | e
  · exact h.lo.2.2.2.2.2.2
  · exact g5
  · exact g7 x e
  · exact g6
  · exact h.j.st.sep.hb
  · exact ho x e
/-- The document's contract: pages and the view's count turned. -/
theorem JV.dv {A : Option Addr} {cap : Nat} (h : JV w0 W a P Q σ τ v rp rd) (hd : DW W (daOf a) A cap τ.s τ.f τ.pi (qqOf a) τ.L) (ho : ∀ x, (Value.slice A τ.L.length cap).ownBlock = some x → w0.heap.size ≤ x) {s' : MS} (k : DV w0 (daOf a) (dvOf v) W W' A cap s' τ.f τ.pi (qqOf a) τ.L r') : JV w0 W' a P Q σ { τ with s := s' } v rp r' :=
  JV.dw (τ' := { τ with s := s' }) h hd ho k.dw ho rfl k.vd.blk k.ch (fun x hx => hx.elim .inl (fun h => .inr (.inr (.inl h))))
theorem JV.startD {A : Option Addr} {cap : Nat} (h : JV w0 W a P Q σ τ v rp rd) (hd : DW W (daOf a) A cap τ.s τ.f τ.pi (qqOf a) τ.L) : DV w0 (daOf a) (dvOf v) W W A cap τ.s τ.f τ.pi (qqOf a) τ.L rd := DV.start hd h.vd h.h64
end
end Go.Proofs.YthlejchcnfdcpaaGreat.GzC
namespace Go.Proofs.YthlejchcnfdcpaaGreat.GzE
open Go.RowKit Go.Maps Base GaA GaB GaC GaD GmA GmB GmC GpA GgA GfA GfB GfC GfD GjA GjB GjC GjE GjK GwA GwB GwE GwF GwJ GwO GwQ RpA RmA RmB RgA GxA GxC GxD GyA GyB GyE GyN GbA GzA GzB GzC GzD
set_option linter.unusedVariables false
set_option linter.unusedSimpArgs false

section
variable {w0 W W' : World} {a : BX} {P Q : Value} {σ τ σ' τ' : SS} {v : VP} {rp rd r' : Nat}
theorem _root_.Go.Proofs.YthlejchcnfdcpaaGreat.GzC.JV.vms (h : JV w0 W a P Q σ τ v rp rd) (h3 : V3 W v.B v.vb v.db v.cb a.mb rp v.ps) : Vm (vaOf a v) W W rp σ.s :=
  Vm.start (a := vaOf a v) h3 h.j.p.m ⟨h.lo.2.2.1, h.lo.2.2.2.1⟩ h.h64
theorem permE_60 (l : List Int) (c : Int) : permE l c = 0 ∨ permE l c = 60 := by
  unfold permE entE
  split
  · exact .inr rfl
  · split
    · exact .inr rfl
    · exact .inl rfl
theorem frameR_or (s : MS) (size : Nat) (fr : Int → Option Int) (d g : Int) : frameR s size fr d g = (0, 60) ∨ ∃ m : Nat, frameR s size fr d g = ((m : Int), 0) ∧ m < s.n ∧ (s.fr m).own = d := by
  unfold frameR
  by_cases h1 : (getV size fr g).2 ≠ 0
  · exact .inl (if_pos h1)
  · rw [if_neg h1]
    generalize (getV size fr g).1 = k
    by_cases h2 : (frV s k).2 ≠ 0 ∨ (frV s k).1.own ≠ d
    · exact .inl (if_pos h2)
    · rw [if_neg h2]
      refine .inr ?_
      have h3 : (frV s k).2 = 0 := Decidable.byContradiction fun e => h2 (.inl e)
      have h4 : (frV s k).1.own = d := Decidable.byContradiction fun e => h2 (.inr e)
      unfold frV at h3 h4
      by_cases hin : 0 ≤ k ∧ k < s.n
      · rw [if_pos hin] at h4
        obtain ⟨m, rfl⟩ : ∃ m : Nat, k = m := ⟨k.toNat, by omega⟩
        rw [Int.toNat_natCast] at h4
        exact ⟨m, rfl, by omega, h4⟩
      · rw [if_neg hin] at h3
        cases h3
/-- The state behind a Map that maps. -/
def mapN (σ : SS) (s1 : MS) (m : Mp) (k : Nat) : SS := { σ with s := getS s1 k m.owner (kindI m.wr), F := kput σ.F (m.caller, m.h) m, n := σ.n + 1, L := σ.L ++ [m] }
theorem pu_map {s1 : MS} {m : Mp} {k : Nat} (h : Pu a σ) (hn : s1.n = σ.s.n) (hf : s1.fr = σ.s.fr) (hk : m.mfn = k) (hk13 : k < 13) (hge : getE (s1.fr k) m.owner (kindI m.wr) = 0) (hc : 0 ≤ m.caller ∧ m.caller < 8) (hh : 0 ≤ m.h ∧ m.h < 16) (hno : σ.F (m.caller, m.h) = none) : Pu a (mapN σ s1 m k) := by
  have hgs : getS s1 k m.owner (kindI m.wr) = MS.put1 s1 k (getF (s1.fr k) (kindI m.wr)) := if_pos hge
  refine ⟨by show (getS _ _ _ _).n = 13; rw [GyO.getS_n, hn]; exact h.n, h.mem, Lk.push h.lk m hno, fun x hx => ?_, ?_, fun j hj => ?_, fun i hi => ⟨(h.pi i hi).e, (h.pi i hi).pos, (h.pi i hi).c⟩, h.cm⟩
  · rcases List.mem_append.1 hx with hx | hx
    · exact h.maps x hx
    · rw [List.mem_singleton.1 hx]
      exact ⟨hc, hh, k, hk, hk13⟩
  · show σ.n + 1 = (σ.L ++ [m]).length
    rw [List.length_append, h.len]
    rfl
  · have ht : totT (mapN σ s1 m k) j = totT σ j + if j = k then 1 else 0 := by
      show (σ.L ++ [m]).countP _ + mN σ.f j = σ.L.countP _ + mN σ.f j + _
      rw [List.countP_append]
      by_cases e : j = k
      · subst e; simp [List.countP_cons, hk]; omega
      · have : ¬ (k : Int) = (j : Int) := by omega
        simp [List.countP_cons, hk, e, this]
    have hc2 : cntT (mapN σ s1 m k) j = cntT σ j + if j = k then (if m.wr then 1 else 0) else 0 := by
      show (σ.L ++ [m]).countP _ + mN σ.f j = σ.L.countP _ + mN σ.f j + _
      rw [List.countP_append]
      by_cases e : j = k
      · subst e; simp [List.countP_cons, hk]; omega
      · have : ¬ (k : Int) = (j : Int) := by omega
        simp [List.countP_cons, hk, e, this]
    by_cases e : j = k
    · subst e
      rw [if_pos rfl] at ht hc2
      refine FrOk.more (h.fr j hj) m.wr (σ.s.fr j).own ht hc2 ?_
      show (getS s1 j m.owner (kindI m.wr)).fr j = _
      rw [hgs]
      show (if j = j then _ else _) = _
      rw [if_pos rfl, hf]
      unfold getF kindI
      cases m.wr <;> simp
    · rw [if_neg e] at ht hc2
      refine FrOk.same (h.fr j hj) ht hc2 ?_
      show ((getS s1 k m.owner (kindI m.wr)).fr j).typ = _ ∧ _
      have : (getS s1 k m.owner (kindI m.wr)).fr j = σ.s.fr j := by
        rw [hgs]
        show (if j = k then _ else _) = _
        rw [if_neg e, hf]
      exact ⟨by rw [this], by show ((getS _ _ _ _).fr j).cnt = _; rw [this], by show ((getS _ _ _ _).fr j).tot = _; rw [this]⟩
def Two (mk : Int → Int → Value) (w0 : World) (a : BX) (P Q : Value) (σ : SS) (v : VP) (cP cD : World → (Ending → World → Prop) → Prop) : Prop :=
  ∃ (x y : Int) (σ' : SS) (r : Nat), Pu a σ' ∧
    (∀ W, JV w0 W a P Q σ σ v 0 0 → V3 W v.B v.vb v.db v.cb a.mb 0 v.ps → cP W fun e w' => e = .returned (mk x y) ∧ JV w0 w' a P Q σ' σ v r 0) ∧
    (∀ W, JV w0 W a P Q σ' σ v r 0 → cD W fun e w' => e = .returned (mk x y) ∧ JV w0 w' a P Q σ' σ' v r r)
end
end Go.Proofs.YthlejchcnfdcpaaGreat.GzE
namespace Go.Proofs.YthlejchcnfdcpaaGreat.GzF
open Go.RowKit Go.Maps Base GaA GaB GaC GaD GmA GmB GmC GpA GgA GeA GeB GfA GfB GfC GfD GjA GjB GjC GjE GjK GwA GwB GwE GwF GwJ GwO GwQ RpA RmA RmB RgA GxA GxC GxD GyA GyB GyE GyN GbA GzA GzB GzC GzD GzE
set_option linter.unusedVariables false
set_option linter.unusedSimpArgs false

section
variable {w0 W W' : World} {a : BX} {P Q : Value} {σ τ σ' τ' : SS} {v : VP} {rp rd r' : Nat}
theorem _root_.Go.Proofs.YthlejchcnfdcpaaGreat.GzC.JV.gx (h : JV w0 W a P Q σ τ v rp rd) (hx : GX W' a.gb a.mm a.hm a.mb a.fb σ'.s σ'.f σ'.c σ'.pi σ'.F σ'.n) (hpi : σ'.pi = σ.pi) (hb : W'.heap[v.vb]? = some (.cells #[.pointer (some ⟨a.mb, 0, none⟩), .map (some v.db), .int .i64 (GvA.cr r')] 144 (0, 0))) {G : Nat → Prop} (hc : Chg G W W') (hG : ∀ x, G x → x = v.vb ∨ x = a.fb ∨ x = a.hm ∨ x = a.mm) : JV w0 W' a P Q σ' τ v r' rd := by
  have tv := ty_cells h.b
  refine h.prog (Jp.of_gx h.j.p h.j.st hx hpi hc (fun x hx _ => ?_)) hb hc (fun x hx _ => ?_) (fun x hx => ?_)
  · rcases hG x hx with rfl | rfl | rfl | rfl
    · exact .inr (.inr (.inr tv))
    · exact .inr (.inr (.inl h.j.p.tfb))
    · exact .inr (.inl rfl)
    · exact .inl rfl
  · rcases hG x hx with rfl | rfl | rfl | rfl
    · rw [tv]; decide
    · rw [h.j.p.tfb]; decide
    · rw [h.j.p.thm]; decide
    · rw [h.j.p.tmm]; decide
  · obtain ⟨g1, g2, g3, g4, _⟩ := h.j.st.ge
    rcases hG x hx with rfl | rfl | rfl | rfl
    · have := h.lo; omega
    all_goals assumption
theorem map_both (hs : St w0.heap.size a) (hp : Pu a σ) (caller owner ref : Int) (ho : okI owner) (wr : Bool) :
    Two (fun x y => .tuple #[.int .i64 x, .int .i64 y]) w0 a P Q σ v (fun W R => Calls Tryz.prog 22 #[.pointer (some ⟨a.gb, 0, none⟩), .pointer (some ⟨v.vb, 0, none⟩), .int .i64 caller, .int .i64 owner, .int .i64 ref, .bool wr] W R)
      (fun W R => Calls Tryz.prog 23 #[.pointer (some ⟨a.hb, 0, none⟩), .pointer (some ⟨v.ub, 0, none⟩), .int .i64 caller, .int .i64 owner, .int .i64 ref, .bool wr] W R) := by
  by_cases hb : ¬ (0 ≤ caller ∧ caller < 8) ∨ σ.f owner = none ∨ slotB ref = false
  · refine ⟨0, 1, σ, 0, hp, fun W h h3 => ?_, fun W h => ?_⟩
    · exact (GwJ.map_arg (a := vaOf a v) (h.j.p.gx hp hs) (h.vms h3) caller owner ref ho wr hb).mono fun e w' ⟨h1, h2⟩ => ⟨h1, h.below h2⟩
    · obtain ⟨A, cap, hd, hob⟩ := h.j.d.d
      exact (rmap_arg hd v.ub caller owner ref wr hb).mono fun e w' ⟨h1, h2⟩ => ⟨h1, by rw [h2]; exact h⟩
  have hc : 0 ≤ caller ∧ caller < 8 := Decidable.byContradiction fun e => hb (.inl e)
  obtain ⟨x, hx⟩ : ∃ x, σ.f owner = some x := by
    cases e : σ.f owner with
    | none => exact absurd (.inr (.inl e)) hb
    | some x => exact ⟨x, rfl⟩
  have hsl : slotB ref = true := by
    cases e : slotB ref with
    | false => exact absurd (.inr (.inr e)) hb
    | true => rfl
  obtain ⟨n, rfl⟩ : ∃ n : Nat, ref = n := ⟨ref.toNat, by unfold slotB at hsl; simp at hsl; omega⟩
  have h32 : n < 32 := by unfold slotB at hsl; simp at hsl; omega
  clear hb hsl
  obtain ⟨ho8, ⟨i, hi, hxi⟩, k, hk, hk13⟩ := hp.mem owner x hx
  obtain ⟨x1, x2⟩ := x
  simp only at hxi hk
  subst hxi
  subst hk
  obtain ⟨hL, hLl⟩ := least_lead (σ := σ) hp.lk caller
  have hp1 : Pu a { σ with s := pokeS σ.s v.ps 0 } := hp.mach (pokeS_n _ _ _) (pokeS_fr _ _ _)
  by_cases hf : lead 0 (mapsL σ.F caller 16) < 16
  rotate_left
  · have hlen : (mapsL σ.F caller 16).length = 16 := by
      have := mapsL_len σ.F caller 16
      have : ¬ (mapsL σ.F caller 16).length < 16 := fun h => hf (hLl.2 h)
      omega
    have h16 : lead 0 (mapsL σ.F caller 16) = 16 := by have := hL.le; omega
    rw [h16] at hL
    refine ⟨0, 64, σ, 0, hp, fun W h h3 => ?_, fun W h => ?_⟩
    · exact (GwJ.map_full (a := vaOf a v) (h.j.p.gx hp hs) (h.vms h3) caller hc owner k _ hx n h32 wr hlen).mono fun e w' ⟨h1, h2⟩ => ⟨h1, h.below h2⟩
    · obtain ⟨A, cap, hd, hob⟩ := h.j.d.d
      exact (rmap_full hd hp.lk v.ub caller hc owner (by rw [hx]; rfl) n h32 wr hL).mono fun e w' ⟨h1, h2⟩ => ⟨h1, by rw [h2]; exact h⟩
  have hlen : (mapsL σ.F caller 16).length < 16 := hLl.1 hf
  obtain ⟨s1, hs1⟩ : ∃ s1, s1 = pokeS σ.s v.ps 0 := ⟨_, rfl⟩
  rw [← hs1] at hp1
  have hn1 : s1.n = σ.s.n := by rw [hs1, pokeS_n]
  have hf1 : s1.fr = σ.s.fr := by rw [hs1, pokeS_fr]
  obtain ⟨l, hl⟩ : ∃ l, l = ent s1 k n := ⟨_, rfl⟩
  -- the refusals behind a read
  have key : ∀ er : Int, er ≠ 0 → er = (if permE l caller ≠ 0 then permE l caller else if (entG l).sb = true then 61 else if (wr && (entG l).ro) = true then 62 else (frameR s1 (σ.pi (a.pb i)).size (σ.pi (a.pb i)).fr owner (entG l).gp).2) →
      Two (fun x y => .tuple #[.int .i64 x, .int .i64 y]) w0 a P Q σ v (fun W R => Calls Tryz.prog 22 #[.pointer (some ⟨a.gb, 0, none⟩), .pointer (some ⟨v.vb, 0, none⟩), .int .i64 caller, .int .i64 owner, .int .i64 n, .bool wr] W R)
      (fun W R => Calls Tryz.prog 23 #[.pointer (some ⟨a.hb, 0, none⟩), .pointer (some ⟨v.ub, 0, none⟩), .int .i64 caller, .int .i64 owner, .int .i64 n, .bool wr] W R) := by
    intro er hne her
    refine ⟨0, er, { σ with s := s1 }, 1, hp1, fun W h h3 => ?_, fun W h => ?_⟩
    · have := GwJ.map_no (a := vaOf a v) (h.j.p.gx hp hs) (h.vms h3) caller hc owner k _ hx n h32 wr hlen er (by have e2 : pokeS σ.s (vaOf a v).ps 0 = s1 := hs1.symm; rw [e2, ← hl]; exact her) hne
      refine this.mono fun e w' ⟨h1, k1⟩ => ⟨h1, ?_⟩
      have k2 : Vm (vaOf a v) W w' (0 + 1) (pokeS σ.s v.ps 0) := k1
      rw [← hs1] at k2
      exact h.vm hp k2 hn1
    · obtain ⟨A, cap, hd, hob⟩ := h.j.d.d
      have hpe := permE_60 l caller
      have hfr := frameR_or s1 (σ.pi (a.pb i)).size (σ.pi (a.pb i)).fr owner (entG l).gp
      have := rmap_no (h.startD hd) hp.lk caller hc owner k _ hx n h32 wr _ hL hf (rdR (pokeS σ.s v.ps 0) (σ.pi (a.pb i)) k caller owner n) rfl er ?_ ?_
      · refine this.mono fun e w' ⟨h1, k1⟩ => ⟨h1, ?_⟩
        have k2 : DV w0 (daOf a) (dvOf v) W w' A cap (pokeS σ.s v.ps 0) σ.f σ.pi (qqOf a) σ.L (0 + 1) := k1
        rw [← hs1] at k2
        exact h.dv hd hob k2
      · rw [← hs1]
        by_cases q : permE l caller = 0
        · have hRv : rdR s1 (σ.pi (a.pb i)) k caller owner n = (entG l, if (frameR s1 (σ.pi (a.pb i)).size (σ.pi (a.pb i)).fr owner (entG l).gp).2 = 0 then (frameR s1 (σ.pi (a.pb i)).size (σ.pi (a.pb i)).fr owner (entG l).gp).1 else -1, 0) := by unfold rdR; rw [← hl, if_neg (fun h => h q)]
          rw [hRv]
          rw [if_neg (fun h => h q)] at her
          simp only [ne_eq, not_true_eq_false, if_false]
          rcases hfr with hfr | ⟨m, hfr, _⟩
          · rw [hfr] at her
            exact her
          · rw [hfr] at her
            simp only at her
            by_cases q1 : (entG l).sb = true
            · rw [if_pos q1] at her ⊢
              exact her
            · rw [if_neg q1] at her ⊢
              by_cases q2 : (wr && (entG l).ro) = true
              · rw [if_pos q2] at her ⊢
                exact her
              · rw [if_neg q2] at her
                exact absurd her hne
        · have hRv : rdR s1 (σ.pi (a.pb i)) k caller owner n = (gr0, 0, 60) := by unfold rdR; rw [← hl, if_pos q]
          rw [hRv]
          rw [if_pos q] at her
          show er = if (60 : Int) ≠ 0 then 60 else _
          rw [if_pos (by decide), her]
          exact hpe.resolve_left q
      · rw [← hs1]
        by_cases q : permE l caller = 0
        · have hRv : rdR s1 (σ.pi (a.pb i)) k caller owner n = (entG l, if (frameR s1 (σ.pi (a.pb i)).size (σ.pi (a.pb i)).fr owner (entG l).gp).2 = 0 then (frameR s1 (σ.pi (a.pb i)).size (σ.pi (a.pb i)).fr owner (entG l).gp).1 else -1, 0) := by unfold rdR; rw [← hl, if_neg (fun h => h q)]
          rw [hRv]
          rw [if_neg (fun h => h q)] at her
          rcases hfr with hfr | ⟨m, hfr, _⟩
          · rw [hfr]
            refine .inr (.inr (.inr ?_))
            show (if (60 : Int) = 0 then (0 : Int) else -1) < 0
            decide
          · rw [hfr] at her
            simp only at her
            by_cases q1 : (entG l).sb = true
            · exact .inr (.inl q1)
            · rw [if_neg q1] at her
              by_cases q2 : (wr && (entG l).ro) = true
              · exact .inr (.inr (.inl q2))
              · rw [if_neg q2] at her
                exact absurd her hne
        · have hRv : rdR s1 (σ.pi (a.pb i)) k caller owner n = (gr0, 0, 60) := by unfold rdR; rw [← hl, if_pos q]
          rw [hRv]
          exact .inl (by decide)
  by_cases hpe : permE l caller = 0
  rotate_left
  · exact key _ hpe (by rw [if_pos hpe])
  by_cases hsb : (entG l).sb = true
  · exact key 61 (by decide) (by rw [if_neg (fun h => h hpe), if_pos hsb])
  by_cases hro : (wr && (entG l).ro) = true
  · exact key 62 (by decide) (by rw [if_neg (fun h => h hpe), if_neg hsb, if_pos hro])
  rcases frameR_or s1 (σ.pi (a.pb i)).size (σ.pi (a.pb i)).fr owner (entG l).gp with hfr | ⟨m, hfr, hms, hown⟩
  · exact key 60 (by decide) (by rw [if_neg (fun h => h hpe), if_neg hsb, if_neg hro, hfr])
  clear key
  have hsb' : (entG l).sb = false := by simpa using hsb
  have hro' : (wr && (entG l).ro) = false := by simpa using hro
  have hm13 : m < 13 := by rw [← hp.n, ← hn1]; exact hms
  have hfew := hp1.frfew m hm13
  have htk := hp1.frtk m hm13
  simp only at hfew htk
  have hR : rdR s1 (σ.pi (a.pb i)) k caller owner n = (entG l, (m : Int), 0) := by
    unfold rdR
    rw [← hl, if_neg (fun h => h hpe), hfr]
    rfl
  by_cases hge : getE (s1.fr m) owner (kindI wr) = 0
  rotate_left
  · refine ⟨0, (getE (s1.fr m) owner (kindI wr)), { σ with s := s1 }, 1, hp1, fun W h h3 => ?_, fun W h => ?_⟩
    · have := GwL.map_ref (a := vaOf a v) (h.j.p.gx hp hs) (h.vms h3) caller hc owner k _ hx n h32 wr hlen (by show permE (ent (pokeS σ.s v.ps 0) k n) caller = 0; rw [← hs1, ← hl]; exact hpe) (by show (entG (ent (pokeS σ.s v.ps 0) k n)).sb = false; rw [← hs1, ← hl]; exact hsb') (by show (wr && (entG (ent (pokeS σ.s v.ps 0) k n)).ro) = false; rw [← hs1, ← hl]; exact hro') m (by show frameR (pokeS σ.s v.ps 0) _ _ owner (entG (ent (pokeS σ.s v.ps 0) k n)).gp = _; rw [← hs1, ← hl]; exact hfr) (by rw [← hn1]; exact hms) (by show Fr.few ((pokeS σ.s v.ps 0).fr m); rw [← hs1]; exact hfew) (by show getE ((pokeS σ.s v.ps 0).fr m) owner (kindI wr) ≠ 0; rw [← hs1]; exact hge)
      refine this.mono fun e w' ⟨h1, k1⟩ => ⟨?_, ?_⟩
      · have h2 : e = .returned (.tuple #[.int .i64 0, .int .i64 (getE ((pokeS σ.s v.ps 0).fr m) owner (kindI wr))]) := h1
        rw [← hs1] at h2
        exact h2
      · have k2 : Vm (vaOf a v) W w' (0 + 1) (pokeS σ.s v.ps 0) := k1
        rw [← hs1] at k2
        exact h.vm hp k2 hn1
    · obtain ⟨A, cap, hd, hob⟩ := h.j.d.d
      have := GyO.rmap_ref (h.startD hd) hp.lk caller hc owner k _ hx n h32 wr _ hL hf (entG l) m (by show rdR (pokeS σ.s v.ps 0) _ k caller owner n = _; rw [← hs1]; exact hR) hsb' hro' (by rw [← hn1]; exact hms) (by show Fr.few ((pokeS σ.s v.ps 0).fr m); rw [← hs1]; exact hfew) (by show Fr.tk ((pokeS σ.s v.ps 0).fr m); rw [← hs1]; exact htk) (by show getE ((pokeS σ.s v.ps 0).fr m) owner (kindI wr) ≠ 0; rw [← hs1]; exact hge)
      refine this.mono fun e w' k1 => ?_
      have k2 : GyO.RmOut W (daOf a) (dvOf v) A cap (pokeS σ.s v.ps 0) σ.f σ.pi (qqOf a) σ.L (0 + 1) 0 (getE ((pokeS σ.s v.ps 0).fr m) owner (kindI wr)) e w' := k1
      rw [← hs1] at k2
      obtain ⟨q1, q2, q3, q4⟩ := k2
      refine ⟨q1, JV.dw (τ' := { σ with s := s1 }) h hd hob q2 hob rfl q3 q4 (fun x hx => ?_)⟩
      rcases hx with e | e | e
      · exact .inl e
      · exact .inr (.inr (.inl e))
      · exact .inr (.inl e)
  · obtain ⟨mp, hmp⟩ : ∃ mp : Mp, mp = ⟨(lead 0 (mapsL σ.F caller 16) : Nat), caller, owner, n, m, wr⟩ := ⟨_, rfl⟩
    have hpm : Pu a (mapN σ s1 mp m) := pu_map hp hn1 hf1 (by rw [hmp]) hm13 (by rw [hmp]; exact hge) (by rw [hmp]; exact hc) (by rw [hmp]; simp only; omega) (by rw [hmp]; exact hL.hi hf)
    refine ⟨(lead 0 (mapsL σ.F caller 16) : Nat), 0, mapN σ s1 mp m, 1, hpm, fun W h h3 => ?_, fun W h => ?_⟩
    · have := GwK.map_ok (a := vaOf a v) (h.j.p.gx hp hs) (h.vms h3) h.lo.2.2.2.2.1 (by rw [hp.len]; have := hp.few; omega) caller hc owner k _ hx n h32 wr hlen (hL.hi hf) (by show permE (ent (pokeS σ.s v.ps 0) k n) caller = 0; rw [← hs1, ← hl]; exact hpe) (by show (entG (ent (pokeS σ.s v.ps 0) k n)).sb = false; rw [← hs1, ← hl]; exact hsb') (by show (wr && (entG (ent (pokeS σ.s v.ps 0) k n)).ro) = false; rw [← hs1, ← hl]; exact hro') m (by show frameR (pokeS σ.s v.ps 0) _ _ owner (entG (ent (pokeS σ.s v.ps 0) k n)).gp = _; rw [← hs1, ← hl]; exact hfr) (by rw [← hn1]; exact hms) (by show Fr.few ((pokeS σ.s v.ps 0).fr m); rw [← hs1]; exact hfew) (by show getE ((pokeS σ.s v.ps 0).fr m) owner (kindI wr) = 0; rw [← hs1]; exact hge)
      refine this.mono fun e w' k1 => ?_
      have k2 : GwK.MapOut W (vaOf a v) a.gb a.mm a.hm (getS (pokeS σ.s v.ps 0) m owner (kindI wr)) σ.f σ.c σ.pi (kput σ.F (caller, (lead 0 (mapsL σ.F caller 16) : Nat)) ⟨(lead 0 (mapsL σ.F caller 16) : Nat), caller, owner, n, m, wr⟩) (σ.n + 1) (0 + 1) (lead 0 (mapsL σ.F caller 16) : Nat) 0 e w' := k1
      rw [← hs1, ← hmp] at k2
      obtain ⟨q1, q2, q3, q4⟩ := k2
      refine ⟨q1, JV.gx (σ' := mapN σ s1 mp m) h ?_ rfl q3.blk q4 (fun x hx => ?_)⟩
      · rw [hmp] at q2 ⊢
        exact q2
      · rcases hx with e | e | e
        · exact .inl e
        · exact .inr (.inl e)
        · exact .inr (.inr (.inl e))
    · obtain ⟨A, cap, hd, hob⟩ := h.j.d.d
      have hlt : σ.L.length < 128 := by
        have h1 := hpm.few
        have h2 : (σ.L ++ [mp]).length ≤ 128 := h1
        rw [List.length_append, List.length_singleton] at h2
        omega
      have := GyO.rmap_ok (h.startD hd) hp.lk hlt caller hc owner k _ hx n h32 wr _ hL hf (entG l) m (by show rdR (pokeS σ.s v.ps 0) _ k caller owner n = _; rw [← hs1]; exact hR) hsb' hro' (by rw [← hn1]; exact hms) (by show Fr.few ((pokeS σ.s v.ps 0).fr m); rw [← hs1]; exact hfew) (by show Fr.tk ((pokeS σ.s v.ps 0).fr m); rw [← hs1]; exact htk) (by show getE ((pokeS σ.s v.ps 0).fr m) owner (kindI wr) = 0; rw [← hs1]; exact hge)
      refine this.mono fun e w' k1 => ?_
      have k2 : GyO.RmNew W (daOf a) (dvOf v) A cap (getS (pokeS σ.s v.ps 0) m owner (kindI wr)) σ.f σ.pi (qqOf a) σ.L ⟨(lead 0 (mapsL σ.F caller 16) : Nat), caller, owner, n, m, wr⟩ (0 + 1) (lead 0 (mapsL σ.F caller 16) : Nat) e w' := k1
      rw [← hs1, ← hmp] at k2
      obtain ⟨g, c2, q1, q2, q3, q4, q5⟩ := k2
      refine ⟨q1, JV.dw (τ' := mapN σ s1 mp m) h hd hob (by rw [hmp] at q2 ⊢; exact q2) (fun x hx => ?_) rfl q3 q4 (fun x hx => ?_)⟩
      · have hx2 : g = x := Option.some.inj hx
        subst hx2
        rcases q5 with e | e
        · exact hob _ e
        · exact Nat.le_trans h.j.x.bel.size e
      · rcases hx with e | e | e | e | e
        · exact .inl e
        · exact .inr (.inr (.inl e))
        · exact .inr (.inl e)
        · exact .inr (.inr (.inr (.inr (.inr e))))
        · exact .inr (.inr (.inr (.inr (.inl e))))
end
end Go.Proofs.YthlejchcnfdcpaaGreat.GzF
