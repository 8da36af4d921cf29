/- Proved: Leave, Join, Revoke and Write answer the same on both sides (the plain law of the grants). -/
import Derived.Test.YthlejchcnfdcpaaGreatMlbf
namespace Go.Proofs.YthlejchcnfdcpaaGreat.GzH
open Go.RowKit Go.Maps Base GaA GaB GaC GaD GmA GmB GmC GpA GgA GeA GeB GfA GfB GfC GfD GjA GjB GjC GjE GjK GwA GwB GwE GwF GwJ GwO GwQ RpA RmA RmB RgA GxA GxC GxD GyA GyB GyE GyN GbA GzA GzB GzC GzD GjI GwN GyM GyQ GyP GzE GzG
set_option linter.unusedVariables false
set_option linter.unusedSimpArgs false

section
variable {w0 W W' : World} {a : BX} {P Q : Value} {σ τ σ' τ' : SS}
theorem mN_out {f f' : Int → Option (Int × Nat)} (d : Nat) (hd : d < 8) (k : Int) (x : Int × Nat) (h1 : f d = some x) (h2 : f' d = none) (hs : ∀ e : Int, e ≠ d → f' e = f e) : mN f k = mN f' k + if x.1 = k then 1 else 0 := by
  unfold mN
  by_cases e : x.1 = k
  · rw [if_pos e]
    exact cp_more (fun d : Nat => (f' d).map (·.1) == some k) (fun d : Nat => (f d).map (·.1) == some k) d (by simp [h2]) (by simp [h1, e]) (fun i hi => by rw [hs i (by omega)]) 8 hd
  · rw [if_neg e, Nat.add_zero]
    refine cp_same _ _ 8 (fun i _ => ?_)
    by_cases hi : i = d
    · subst hi; simp [h1, h2, e]
    · rw [hs i (by omega)]
theorem mJ_out {f f' : Int → Option (Int × Nat)} (d : Nat) (hd : d < 8) (x : Int × Nat) (h1 : f d = some x) (h2 : f' d = none) (hs : ∀ e : Int, e ≠ d → f' e = f e) : mJ f = mJ f' + 1 :=
  cp_more (fun d : Nat => (f' d).isSome) (fun d : Nat => (f d).isSome) d (by simp [h2]) (by simp [h1]) (fun i hi => by rw [hs i (by omega)]) 8 hd
def lvN (σ : SS) (d : Int) (k : Nat) : SS := { σ with s := putS σ.s k 1, f := mdel σ.f d, c := σ.c - 1 }
theorem pu_leave (h : Pu a σ) (d : Nat) (k pb : Nat) (hd : σ.f d = some ((k : Int), pb)) : Pu a (lvN σ d k) ∧ putE (σ.s.fr k) 1 = 0 ∧ k < 13 := by
  obtain ⟨hd8, _, k2, hk2, hk13⟩ := h.mem _ _ hd
  simp only at hk2
  obtain rfl : k = k2 := by omega
  have hnone : mdel σ.f d d = none := if_pos rfl
  have hsame : ∀ e : Int, e ≠ d → mdel σ.f d e = σ.f e := fun e he => if_neg he
  have hm := fun j => mN_out d (by omega) j _ hd hnone hsame
  have hmJ := mJ_out d (by omega) _ hd hnone hsame
  have hp : putE (σ.s.fr k) 1 = 0 := by
    refine FrOk.put (h.fr k hk13) true ?_
    simp only [if_true]
    unfold cntT
    have := hm k
    rw [if_pos rfl] at this
    omega
  have hps : putS σ.s k 1 = MS.put1 σ.s k (putF (σ.s.fr k) 1) := if_pos hp
  refine ⟨⟨by show (putS _ _ _).n = 13; rw [GyQ.putS_n]; exact h.n, fun e x he => ?_, h.lk, h.maps, h.len, fun j hj => ?_, fun i hi => ⟨(h.pi i hi).e, (h.pi i hi).pos, (h.pi i hi).c⟩, ?_⟩, hp, hk13⟩
  · have he2 : mdel σ.f d e = some x := he
    unfold mdel at he2
    split at he2
    · cases he2
    · exact h.mem e x he2
  · have hmj := hm j
    simp only at hmj
    have ht : totT σ j = totT (lvN σ d k) j + if j = k then 1 else 0 := by
      show σ.L.countP _ + mN σ.f j = σ.L.countP _ + mN (mdel σ.f d) j + _
      rw [hmj]
      by_cases e : j = k
      · subst e; simp; omega
      · have : ¬ (k : Int) = (j : Int) := by omega
        simp [e, this]
    have hc2 : cntT σ j = cntT (lvN σ d k) j + if j = k then 1 else 0 := by
      show σ.L.countP _ + mN σ.f j = σ.L.countP _ + mN (mdel σ.f d) j + _
      rw [hmj]
      by_cases e : j = k
      · subst e; simp; omega
      · have : ¬ (k : Int) = (j : Int) := by omega
        simp [e, this]
    by_cases e : j = k
    · subst e
      rw [if_pos rfl] at ht hc2
      refine FrOk.less (h.fr j hj) true ht hc2 ?_
      show (putS σ.s j 1).fr j = _
      rw [hps]
      exact if_pos rfl
    · rw [if_neg e] at ht hc2
      refine FrOk.same (h.fr j hj) ht.symm hc2.symm ?_
      have : (putS σ.s k 1).fr j = σ.s.fr j := by
        rw [hps]
        exact if_neg e
      exact ⟨by show ((putS _ _ _).fr j).typ = _; rw [this], by show ((putS _ _ _).fr j).cnt = _; rw [this], by show ((putS _ _ _).fr j).tot = _; rw [this]⟩
  · show σ.c - 1 ≤ mJ (mdel σ.f d)
    have := h.cm
    omega
theorem leave_both (hs : St w0.heap.size a) (hp : Pu a σ) (d : Int) (hd : okI d) :
    TwoJ w0 a P Q σ (fun W R => Calls Tryz.prog 33 #[.pointer (some ⟨a.gb, 0, none⟩), .int .i64 d] W R)
      (fun W R => Calls Tryz.prog 34 #[.pointer (some ⟨a.hb, 0, none⟩), .int .i64 d] W R) := by
  by_cases hne : leaveE σ.f d ≠ 0
  · refine ⟨(leaveE σ.f d), σ, hp, fun W h => ?_, fun W h => ?_⟩
    · exact (leave_no (h.p.gx hp hs) d hd hne).mono fun e w' ⟨h1, h2⟩ => ⟨h1, h.below h2⟩
    · obtain ⟨A, cap, hdw, hob⟩ := h.d.d
      exact (rleave_no hdw d hne).mono fun e w' ⟨h1, h2⟩ => ⟨h1, by rw [h2]; exact h⟩
  · have hd8 : 0 ≤ d ∧ d < 8 := by
      unfold leaveE at hne
      refine Decidable.byContradiction fun e => hne ?_
      rw [if_pos e]
      decide
    obtain ⟨x, hx⟩ : ∃ x, σ.f d = some x := by
      cases e : σ.f d with
      | some x => exact ⟨x, rfl⟩
      | none =>
        refine absurd ?_ hne
        unfold leaveE
        rw [if_neg (fun h => h hd8), e]
        decide
    obtain ⟨j, rfl⟩ : ∃ j : Nat, d = j := ⟨d.toNat, by omega⟩
    obtain ⟨_, ⟨i, hi, hxi⟩, k, hk, hk13⟩ := hp.mem _ x hx
    obtain ⟨x1, x2⟩ := x
    simp only at hxi hk
    subst hxi
    subst hk
    obtain ⟨hpu, hpe, _⟩ := pu_leave hp j k _ hx
    refine ⟨0, lvN σ j k, hpu, fun W h => ?_, fun W h => ?_⟩
    · refine (leave_ok (h.p.gx hp hs) (fun e y he => ?_) j k _ hx (hp.frfew k hk13)).mono fun e w' ⟨h1, h2, h3⟩ => ⟨h1, J.gx (σ' := lvN σ j k) h h2 rfl h3 (fun x hx => hx.elim .inl (fun e => .inr (.inr e)))⟩
      obtain ⟨_, ⟨i2, hi2, hy⟩, _⟩ := hp.mem _ y he
      rw [hy, (hp.pi i2 hi2).e.1, (hp.pi i2 hi2).e.2.1]
      exact ⟨(hs.ne i2 hi2).1, (hs.ne i2 hi2).2.1⟩
    · obtain ⟨A, cap, hdw, hob⟩ := h.d.d
      exact (rleave_ok hdw j k _ hx (hp.frfew k hk13) (hp.frtk k hk13) hpe).mono fun e w' ⟨h1, h2, h3⟩ => ⟨h1, J.dw (τ' := lvN σ j k) h hdw hob h2 hob rfl h3 (fun x hx => hx.elim .inl (fun e => .inr (.inr (.inl e))))⟩
def jnN (σ : SS) (d : Int) (k pb : Nat) : SS := { σ with s := getS σ.s k d 1, f := mput σ.f d ((k : Int), pb), c := σ.c + 1 }
theorem pu_join (h : Pu a σ) (d k : Nat) (hd : d < 8) (hk : k < 13) (hf : σ.f d = none) (hge : getE (σ.s.fr k) d 1 = 0) : Pu a (jnN σ d k (a.pb 0)) := by
  have hsome : mput σ.f d ((k : Int), a.pb 0) d = some ((k : Int), a.pb 0) := if_pos rfl
  have hsame : ∀ e : Int, e ≠ d → σ.f e = mput σ.f d ((k : Int), a.pb 0) e := fun e he => (if_neg he).symm
  have hm := fun j => mN_out d hd j _ hsome hf hsame
  have hmJ := mJ_out d hd _ hsome hf hsame
  have hgs : getS σ.s k d 1 = MS.put1 σ.s k (getF (σ.s.fr k) 1) := if_pos hge
  refine ⟨by show (getS _ _ _ _).n = 13; rw [GyO.getS_n]; exact h.n, fun e x he => ?_, h.lk, h.maps, h.len, fun j hj => ?_, fun i hi => ⟨(h.pi i hi).e, (h.pi i hi).pos, (h.pi i hi).c⟩, ?_⟩
  · have he2 : mput σ.f d ((k : Int), a.pb 0) e = some x := he
    unfold mput at he2
    split at he2
    · rename_i e3
      injection he2 with he2
      subst he2
      exact ⟨by omega, ⟨0, by omega, rfl⟩, k, rfl, hk⟩
    · exact h.mem e x he2
  · have hmj := hm j
    simp only at hmj
    have ht : totT (jnN σ d k (a.pb 0)) j = totT σ j + if j = k then 1 else 0 := by
      show σ.L.countP _ + mN (mput σ.f d ((k : Int), a.pb 0)) j = σ.L.countP _ + mN σ.f j + _
      rw [hmj]
      by_cases e : j = k
      · subst e; simp; omega
      · have : ¬ (k : Int) = (j : Int) := by omega
        simp [e, this]
    have hc2 : cntT (jnN σ d k (a.pb 0)) j = cntT σ j + if j = k then 1 else 0 := by
      show σ.L.countP _ + mN (mput σ.f d ((k : Int), a.pb 0)) j = σ.L.countP _ + mN σ.f j + _
      rw [hmj]
      by_cases e : j = k
      · subst e; simp; omega
      · have : ¬ (k : Int) = (j : Int) := by omega
        simp [e, this]
    by_cases e : j = k
    · subst e
      rw [if_pos rfl] at ht hc2
      refine FrOk.more (h.fr j hj) true (σ.s.fr j).own ht hc2 ?_
      show (getS σ.s j d 1).fr j = _
      rw [hgs]
      show (if j = j then _ else _) = _
      rw [if_pos rfl]
      rfl
    · rw [if_neg e] at ht hc2
      refine FrOk.same (h.fr j hj) ht hc2 ?_
      have : (getS σ.s k d 1).fr j = σ.s.fr j := by
        rw [hgs]
        exact if_neg e
      exact ⟨by show ((getS _ _ _ _).fr j).typ = _; rw [this], by show ((getS _ _ _ _).fr j).cnt = _; rw [this], by show ((getS _ _ _ _).fr j).tot = _; rw [this]⟩
  · show σ.c + 1 ≤ mJ (mput σ.f d ((k : Int), a.pb 0))
    have := h.cm
    omega
theorem join_both (hs : St w0.heap.size a) (hp : Pu a σ) (d k : Int) (hd : okI d) :
    TwoJ w0 a P Q σ (fun W R => Calls Tryz.prog 17 #[.pointer (some ⟨a.gb, 0, none⟩), .int .i64 d, .int .i64 k, .pointer (some ⟨a.pb 0, 0, none⟩)] W R)
      (fun W R => Calls Tryz.prog 18 #[.pointer (some ⟨a.hb, 0, none⟩), .int .i64 d, .int .i64 k, .pointer (some ⟨a.qb 0, 0, none⟩)] W R) := by
  have hall : ∀ i, i < σ.s.n → Fr.few (σ.s.fr i) ∧ Fr.tk (σ.s.fr i) := fun i hi => ⟨hp.frfew i (by rw [← hp.n]; exact hi), hp.frtk i (by rw [← hp.n]; exact hi)⟩
  have hn1 : (σ.pi (a.pb 0)).pl (-1) = none := by
    have hpos := (hp.pi 0 (by omega)).pos
    cases e : (σ.pi (a.pb 0)).pl (-1) with
    | none => rfl
    | some i =>
      have := (hpos.le i (-1) (hpos.inv _ _ e)).2.1
      omega
  by_cases hne : joinE σ.s σ.f d k ≠ 0
  · refine ⟨(joinE σ.s σ.f d k), σ, hp, fun W h => ?_, fun W h => ?_⟩
    · exact (join_no (h.p.gx hp hs) (h.p.p 0 (by omega)) hn1 (fun i hi => (hall i hi).1) d k hd hne).mono fun e w' ⟨h1, h2, h3⟩ => ⟨h1, J.gx h ((h.p.gx hp hs).mach h2 rfl h3) rfl h3 (fun x hx => .inl hx)⟩
    · obtain ⟨A, cap, hdw, hob⟩ := h.d.d
      exact (rjoin_no hdw hall d k (a.qb 0) hne).mono fun e w' ⟨h1, h2, h3⟩ => ⟨h1, J.dw h hdw hob h2 hob rfl h3 (fun x hx => .inl hx)⟩
  · have hz : joinE σ.s σ.f d k = 0 := Decidable.byContradiction hne
    have hd8 : 0 ≤ d ∧ d < 8 := by
      unfold joinE at hz
      refine Decidable.byContradiction fun e => ?_
      rw [if_pos e] at hz
      cases hz
    unfold joinE at hz
    rw [if_neg (fun h => h hd8)] at hz
    have hf : σ.f d = none := by
      cases e : σ.f d with
      | none => rfl
      | some x => rw [e] at hz; simp at hz
    rw [hf] at hz
    simp only [Option.isSome_none, Bool.false_eq_true, if_false] at hz
    unfold getEE at hz
    have hk : 0 ≤ k ∧ k < σ.s.n := by
      refine Decidable.byContradiction fun e => ?_
      rw [if_neg e] at hz
      cases hz
    rw [if_pos hk] at hz
    obtain ⟨j, rfl⟩ : ∃ j : Nat, d = j := ⟨d.toNat, by omega⟩
    obtain ⟨m, rfl⟩ : ∃ m : Nat, k = m := ⟨k.toNat, by omega⟩
    rw [Int.toNat_natCast] at hz
    have hm13 : m < 13 := by rw [← hp.n]; omega
    have hpu := pu_join hp j m (by omega) hm13 hf hz
    refine ⟨0, jnN σ j m (a.pb 0), hpu, fun W h => ?_, fun W h => ?_⟩
    · obtain ⟨cs, l1, _⟩ := h.p.m.lst
      refine (GgA.join_calls h.p.g h.p.m (h.p.p 0 (by omega)) j hd8.1 hd8.2 m (by rw [hp.n]; exact hm13) hn1 hf (by have := hp.cm; have := mJ_le σ.f; omega) hz (hp.frfew m hm13) (bne h.p.g.blk l1 (by decide)) (fun e => by have := h.p.tmm; rw [e, h.p.tfb] at this; cases this)).mono fun e w' ⟨h1, h2, h3, h4⟩ => ⟨h1, ?_⟩
      have hgs : getS σ.s m j 1 = MS.put1 σ.s m (getF (σ.s.fr m) 1) := if_pos hz
      rw [← hgs] at h3
      have kc : ∀ {g : Nat} {cs : Array Value} {u : TypeId}, W.heap[g]? = some (.cells cs u (0, 0)) → u ≠ 113 → ¬ (g = a.fb ∨ g = a.mm) := fun hg hu => by
        rintro (e | e)
        · exact bne hg l1 hu e
        · have := h.p.tmm; rw [← e, ty_cells hg] at this; cases this
      have km : ∀ {g : Nat} {c : Nat} {f : Int → Option Value}, IMap W g f c → g ≠ a.mm → ¬ (g = a.fb ∨ g = a.mm) := fun hg hn => by
        rintro (e | e)
        · have := ty_imap hg; rw [e, h.p.tfb] at this; cases this
        · exact hn e
      have hJp : Jp w' a (jnN σ j m (a.pb 0)) := by
        refine ⟨h3, h2, h.p.k.chg h4 ?_, fun i hi => ?_⟩
        · rintro (e | e)
          · have := h.p.thm; rw [e, h.p.tfb] at this; cases this
          · exact hs.mh e.symm
        · have hpi := h.p.p i hi
          have hne := hs.ne i hi
          exact hpi.chg h4 (kc hpi.blk (by decide)) (km hpi.mf (fun e => hne.1 e.symm)) (km hpi.mp (fun e => hne.2.1 e.symm))
      refine J.prog h hJp h4 (fun x hx _ => ?_) (fun x hx => ?_)
      · rcases hx with rfl | rfl
        · rw [h.p.tfb]; decide
        · rw [h.p.tmm]; decide
      · rcases hx with rfl | rfl
        · exact hs.ge.2.1
        · exact hs.ge.2.2.1
    · obtain ⟨A, cap, hdw, hob⟩ := h.d.d
      have hq := qq_at hs 0 (by omega)
      have hQ : Q3 W (qqOf a (a.pb 0)).1 (qqOf a (a.pb 0)).2.1 (qqOf a (a.pb 0)).2.2 (σ.pi (a.pb 0)).size (σ.pi (a.pb 0)).fr (σ.pi (a.pb 0)).pl := by
        rw [hq, (hp.pi 0 (by omega)).e.2.2]
        exact h.d.q 0 (by omega)
      have := rjoin_ok hdw j m (by omega) (by rw [hp.n]; exact hm13) hf (a.pb 0) hQ (hp.frfew m hm13) (hp.frtk m hm13) hz
      have e1 : (qqOf a (a.pb 0)).1 = a.qb 0 := by rw [hq]
      rw [e1] at this
      exact this.mono fun e w' ⟨h1, h2, h3⟩ => ⟨h1, J.dw (τ' := jnN σ j m (a.pb 0)) h hdw hob h2 hob rfl h3 (fun x hx => hx.elim .inl (fun e => .inr (.inr (.inl e))))⟩
theorem J.pages (h : J w0 W a P Q σ τ) : ∀ b ∈ a.bs, w0.heap.size ≤ b := h.st.ge.2.2.2.2.2.2
theorem revoke_both (hs : St w0.heap.size a) (hp : Pu a σ) (d ref : Int) (hd : okI d) :
    TwoJ w0 a P Q σ (fun W R => Calls Tryz.prog 31 #[.pointer (some ⟨a.gb, 0, none⟩), .int .i64 d, .int .i64 ref] W R)
      (fun W R => Calls Tryz.prog 32 #[.pointer (some ⟨a.hb, 0, none⟩), .int .i64 d, .int .i64 ref] W R) := by
  by_cases hb : σ.f d = none ∨ slotB ref = false
  · refine ⟨1, σ, hp, fun W h => ?_, fun W h => ?_⟩
    · exact (revoke_arg (h.p.gx hp hs) d ref hd hb).mono fun e w' ⟨h1, h2⟩ => ⟨h1, h.below h2⟩
    · obtain ⟨A, cap, hdw, hob⟩ := h.d.d
      exact (rrevoke_arg hdw d ref hb).mono fun e w' ⟨h1, h2⟩ => ⟨h1, by rw [h2]; exact h⟩
  obtain ⟨x, hx⟩ : ∃ x, σ.f d = some x := by
    cases e : σ.f d with
    | none => exact absurd (.inl e) hb
    | some x => exact ⟨x, rfl⟩
  have hsl : slotB ref = true := by
    cases e : slotB ref with
    | false => exact absurd (.inr e) hb
    | true => rfl
  obtain ⟨n, rfl⟩ : ∃ n : Nat, ref = n := ⟨ref.toNat, by unfold slotB at hsl; simp at hsl; omega⟩
  have h32 : n < 32 := by unfold slotB at hsl; simp at hsl; omega
  obtain ⟨hd8, ⟨i, hi, hxi⟩, k, hk, hk13⟩ := hp.mem d x hx
  obtain ⟨x1, x2⟩ := x
  simp only at hxi hk
  subst hxi
  subst hk
  by_cases hbusy : ∃ m ∈ σ.L, m.owner = d ∧ m.ref = n
  · obtain ⟨m, hm, how, hrf⟩ := hbusy
    obtain ⟨i0, hi0, rfl⟩ := List.mem_iff_getElem.1 hm
    have hmm := hp.maps _ hm
    refine ⟨9, σ, hp, fun W h => ?_, fun W h => ?_⟩
    · exact (revoke_busy (h.p.gx hp hs) d _ hx n h32 (σ.L[i0].caller, σ.L[i0].h) ⟨⟨by show (-9223372036854775808 : Int) ≤ _; simp only; omega, by simp only; omega⟩, ⟨by simp only; omega, by simp only; omega⟩⟩ σ.L[i0] (hp.lk.at_ i0 hi0) how hrf).mono fun e w' ⟨h1, h2⟩ => ⟨h1, h.below h2⟩
    · obtain ⟨A, cap, hdw, hob⟩ := h.d.d
      exact (rrevoke_busy hdw d (by rw [hx]; rfl) n h32 i0 hi0 how hrf).mono fun e w' ⟨h1, h2⟩ => ⟨h1, by rw [h2]; exact h⟩
  · obtain ⟨j, rfl⟩ : ∃ j : Nat, d = j := ⟨d.toNat, by omega⟩
    refine ⟨(wrE σ.s k (8 * n) 8), { σ with s := wrS σ.s k (8 * n) z8 }, hp.mach (GwA.wrS_n _ _ _ _) (GwA.wrS_fr _ _ _ _), fun W h => ?_, fun W h => ?_⟩
    · exact (revoke_ok (h.p.gx hp hs) j k _ hx n h32 (fun p m _ hF hq => hbusy ⟨m, (hp.lk.mem p m hF).1, hq⟩)).mono fun e w' ⟨h1, h2, h3⟩ => ⟨h1, J.gx (σ' := { σ with s := wrS σ.s k (8 * n) z8 }) h h2 rfl h3 (fun x hx => .inl hx)⟩
    · obtain ⟨A, cap, hdw, hob⟩ := h.d.d
      exact (rrevoke_ok hdw j k _ hx n h32 (fun m hm hq => hbusy ⟨m, hm, hq⟩)).mono fun e w' ⟨h1, h2, h3⟩ => ⟨h1, J.dw (τ' := { σ with s := wrS σ.s k (8 * n) z8 }) h hdw hob h2 hob rfl h3 (fun x hx => .inr (.inl hx))⟩
/-- Write: the program is handed a copy of the bytes. -/
theorem write_both (hs : St w0.heap.size a) (hp : Pu a σ) (d k off : Int) (hd : okI d) (hk : okI k) (zs : List UInt8) (hl : zs.length ≤ 9223372036854775807) :
    ∃ (u : Int) (σ' : SS), Pu a σ' ∧
      (∀ W A cap, J w0 W a P Q σ σ → Bytes W A zs → Calls Tryz.prog 29 #[.pointer (some ⟨a.gb, 0, none⟩), .int .i64 d, .int .i64 k, .int .i64 off, .slice A zs.length cap] W fun e w' => e = .returned (.int .i64 u) ∧ J w0 w' a P Q σ' σ) ∧
      (∀ W A cap, J w0 W a P Q σ' σ → Bytes W A zs → (zs ≠ [] → ∀ x, A = some x → x.block < w0.heap.size) → Calls Tryz.prog 30 #[.pointer (some ⟨a.hb, 0, none⟩), .int .i64 d, .int .i64 k, .int .i64 off, .slice A zs.length cap] W fun e w' => e = .returned (.int .i64 u) ∧ J w0 w' a P Q σ' σ') := by
  by_cases hne : weE (heldR σ.F d k) off zs.length ≠ 0
  · refine ⟨(weE (heldR σ.F d k) off zs.length), σ, hp, fun W A cap h hz => ?_, fun W A cap h hz hx => ?_⟩
    · exact (GjI.write_no (h.p.gx hp hs) d k off A zs.length cap hd hk hne).mono fun e w' ⟨h1, h2⟩ => ⟨h1, h.below h2⟩
    · obtain ⟨A2, cap2, hdw, hob⟩ := h.d.d
      exact (GyG.rgwrite_no hdw hp.lk d k off A zs.length cap hne).mono fun e w' ⟨h1, h2⟩ => ⟨h1, h.below h2⟩
  · have hz0 : weE (heldR σ.F d k) off zs.length = 0 := Decidable.byContradiction hne
    rcases held_cases hp d k with hne2 | ⟨i, hi, hd8, hF, hh, hdc, hkh⟩
    · unfold weE at hz0
      rw [if_pos hne2] at hz0
      exact absurd hz0 hne2
    · rw [hh] at hz0
      unfold weE at hz0
      rw [if_neg (fun h => h rfl)] at hz0
      have hwr : σ.L[i].wr = true := by
        cases e : σ.L[i].wr with
        | true => rfl
        | false => simp only [e, if_true] at hz0; cases hz0
      have hin : inn off zs.length 256 = true := by
        cases e : inn off zs.length 256 with
        | true => rfl
        | false => simp only [hwr, e] at hz0; simp at hz0
      refine ⟨(wrE σ.s σ.L[i].mfn off zs.length), { σ with s := wrS σ.s σ.L[i].mfn off zs }, hp.mach (GwA.wrS_n _ _ _ _) (GwA.wrS_fr _ _ _ _), fun W A cap h hz => ?_, fun W A cap h hz hx => ?_⟩
      · exact (GjI.write_ok (h.p.gx hp hs) d k off A cap zs hz hd hk σ.L[i] hh hwr hin).mono fun e w' ⟨h1, h2, h3⟩ => ⟨h1, J.gx (σ' := { σ with s := wrS σ.s σ.L[i].mfn off zs }) h h2 rfl h3 (fun x hx => .inl hx)⟩
      · obtain ⟨A2, cap2, hdw, hob⟩ := h.d.d
        exact (rgwrite_ok hdw hp.lk d k off A cap zs hz (fun h0 x hx2 hb => by have := hx h0 x hx2; have := J.pages h _ hb; omega) σ.L[i] hh hwr hin).mono fun e w' ⟨h1, h2, h3⟩ => ⟨h1, J.dw (τ' := { σ with s := wrS σ.s σ.L[i].mfn off zs }) h hdw hob h2 hob rfl h3 (fun x hx => .inr (.inl hx))⟩
end
end Go.Proofs.YthlejchcnfdcpaaGreat.GzH
