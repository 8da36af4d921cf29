/- Proved: the document's Map where it maps, or takes no reference (contracts for the laws of the grants). Proved: a domain joins the document's grants, or leaves them (contracts for the laws of the grants). -/
import Derived.Test.YthlejchcnfdcpaaGreatMlar
import Derived.Test.YthlejchcnfdcpaaGreatMlaz
namespace Go.Proofs.YthlejchcnfdcpaaGreat.GyO
open Go.RowKit Go.Maps Base GaA GaB GaC GaD GmB GmC GpA GeA GeB GfA GfB GfC GfD GjA GjC GwA GwB GwF RpA RmA RmB RgA GxA GxB GxC GxD GyA GyB GyC GyD GyE GyF GyN
set_option linter.unusedVariables false
set_option linter.unusedSimpArgs false

section
variable {w0 w w' W W0 W' : World} {a : DA} {v : DVA} {A : Option Addr} {cap : Nat} {s s' : MS} {f : Int → Option (Int × Nat)} {pi : Nat → PI} {qq : Nat → Nat × Nat × Nat} {L : List Mp} {F : Int × Int → Option Mp} {r : Nat}
theorem grown_chg {r : Option Nat} (h : W.grownBy W' r) : Chg (fun x => r = some x) W W' := ⟨h.os, h.tape, h.output, h.size, fun k hk hf => h.block k hk (fun e => hf e.symm)⟩
/-- What stays, where only the list of maps turns. -/
theorem DW.rest {G : Nat → Prop} (h : DW W a A cap s f pi qq L) (hc : Chg G W W') (hG : ∀ x, G x → ∀ cs t, W.heap[x]? = some (.cells cs t (0, 0)) → t = 120 ∨ t = 102) :
    (∃ cs, W'.heap[a.Db]? = some (.cells cs 122 (0, 0)) ∧ ∀ i j, i < 8 → j < 2 → cs[i * 2 + j]? = (memC (fD f qq i))[j]?) ∧ RMach W' a.rb a.Fb a.Bb a.cF a.cB a.bs s ∧ (∀ d x, f d = some x → Q3 W' (qq x.2).1 (qq x.2).2.1 (qq x.2).2.2 (pi x.2).size (pi x.2).fr (pi x.2).pl) := by
  have key : ∀ x cs t, W.heap[x]? = some (.cells cs t (0, 0)) → t ≠ 120 → t ≠ 102 → ¬ G x := fun x cs t hx h1 h2 hg => (hG x hg cs t hx).elim h1 h2
  obtain ⟨cs, g1, g2⟩ := h.mem
  obtain ⟨c1, k1, _⟩ := h.m.frs
  obtain ⟨c2, k2, _⟩ := h.m.rows
  refine ⟨⟨cs, hc.blk g1 (key _ _ _ g1 (by decide) (by decide)), g2⟩, h.m.chg hc (key _ _ _ h.m.blk (by decide) (by decide)) (key _ _ _ k1 (by decide) (by decide)) (key _ _ _ k2 (by decide) (by decide)) (fun b hb => ?_), fun d x hd => (h.q d x hd).chg hc (key _ _ _ (h.q d x hd).blk (by decide) (by decide)) ?_⟩
  · obtain ⟨cs, hcs⟩ := page_mem h.m hb
    exact key _ _ _ hcs (by decide) (by decide)
  · obtain ⟨_, ⟨h1, _⟩ | ⟨g', cap', cur, h1, _, h2, _⟩⟩ := (h.q d x hd).r.row
    · cases h1
    · injection h1 with h1
      injection h1 with h1
      injection h1 with h1
      rw [h1]
      exact key _ _ _ h2 (by decide) (by decide)
theorem own_kind (h : DW W a A cap s f pi qq L) {x : Nat} (hx : (Value.slice A L.length cap).ownBlock = some x) : ∀ cs t, W.heap[x]? = some (.cells cs t (0, 0)) → t = 102 := by
  intro cs t hh
  obtain ⟨_, ⟨h1, _⟩ | ⟨g', cap', cur, h1, _, h2, _⟩⟩ := h.row
  · rw [h1] at hx
    cases hx
  · rw [h1] at hx
    simp only [Value.ownBlock, Option.some.injEq] at hx
    subst hx
    rw [h2] at hh
    injection hh with hh
    injection hh with _ hh
    exact hh.symm
/-- A map is added. -/
theorem DW.push (h : DW W a A cap s f pi qq L) (m : Mp) {o : Obj} {w3 : World} {g c2 n : Nat} (hn : n = L.length + 1) (hg : (W.alloc o).grownBy w3 (Value.slice A L.length cap).ownBlock) (hown : w3.ownsRow 0 102 6 (.slice (some ⟨g, 0, none⟩) n c2) n (L.flatMap mcells ++ mcells m)) (hl : L.length < 128) :
    DW (w3.setCell ⟨a.hb, 2, none⟩ (.slice (some ⟨g, 0, none⟩) n c2)) a (some ⟨g, 0, none⟩) c2 s f pi qq (L ++ [m]) ∧ Chg (fun x => (Value.slice A L.length cap).ownBlock = some x ∨ x = a.hb) W (w3.setCell ⟨a.hb, 2, none⟩ (.slice (some ⟨g, 0, none⟩) n c2)) := by
  have hc3 : Chg (fun x => (Value.slice A L.length cap).ownBlock = some x) W w3 := (Chg.below _ (below_alloc (Below.refl _ _) o)).trans (grown_chg hg)
  have nh : (Value.slice A L.length cap).ownBlock ≠ some a.hb := fun e => absurd (own_kind h e _ _ h.blk) (by decide)
  have hb3 := hc3.blk h.blk nh
  have hcs : Chg (fun x => x = a.hb) w3 (w3.setCell ⟨a.hb, 2, none⟩ (.slice (some ⟨g, 0, none⟩) n c2)) := Chg.set (F := fun x => x = a.hb) (p := ⟨a.hb, 2, none⟩) (Chg.refl _ w3) (.inl rfl) _
  have hc : Chg (fun x => (Value.slice A L.length cap).ownBlock = some x ∨ x = a.hb) W (w3.setCell ⟨a.hb, 2, none⟩ (.slice (some ⟨g, 0, none⟩) n c2)) := (hc3.mono fun _ h => .inl h).trans (hcs.mono fun _ h => .inr h)
  obtain ⟨k1, k2, k3⟩ := DW.rest h hc (fun x hx cs t hh => by
    rcases hx with hx | rfl
    · exact .inr (own_kind h hx _ _ hh)
    · rw [h.blk] at hh
      injection hh with hh
      injection hh with _ hh
      exact .inl hh.symm)
  have e1 : (L ++ [m]).length = n := by simp [hn]
  refine ⟨⟨blk_put hb3 2 _ (by rw [e1]; rfl), k1, ?_, k2, k3, h.d, by rw [e1]; omega⟩, hc⟩
  rw [e1, List.flatMap_append]
  have : (L.flatMap mcells ++ [m].flatMap mcells) = L.flatMap mcells ++ mcells m := by simp
  rw [this]
  refine row_chg hown hcs (fun x hx e => ?_)
  subst e
  exact (row_ne hown hb3 (by decide)) hx
theorem getS_n (s : MS) (k : Nat) (o kd : Int) : (getS s k o kd).n = s.n := by unfold getS; split <;> rfl
/-- Behind Get. -/
theorem rm_get {s1 : MS} {Wx w6 W2 : World} {k : Nat} {o kd : Int} (hV : DV w0 a v W W2 A cap s1 f pi qq L r) (hn : True) (hB : Below W2.heap.size W2 Wx) (hM : RMach w6 a.rb a.Fb a.Bb a.cF a.cB a.bs (getS s1 k o kd)) (hC : Chg (fun x => x = a.Fb) Wx w6) :
    DW w6 a A cap (getS s1 k o kd) f pi qq L ∧ w6.heap[v.ub]? = some (.cells #[.pointer (some ⟨a.rb, 0, none⟩), .slice v.A v.ps.length v.cap, .int .i64 (GvA.cr r)] 80 (0, 0)) ∧ Chg (fun x => x = v.ub ∨ x ∈ a.bs ∨ x = a.Fb) W w6 := by
  have h1 := hV.below hB
  obtain ⟨cs, k1, k2⟩ := h1.dw.kfb
  refine ⟨h1.dw.out hC hM (getS_n _ _ _ _) (fun x hx => by subst hx; exact h1.dw.kfb), hC.blk h1.vd.blk (fun e => ?_), (h1.ch.mono fun x hx => hx.elim .inl (fun h => .inr (.inl h))).trans (hC.mono fun x hx => .inr (.inr hx))⟩
  obtain ⟨cs, q1, q2⟩ := h1.dw.m.frs
  exact bne h1.vd.blk q1 (by decide) e
def RmOut (W : World) (a : DA) (v : DVA) (A : Option Addr) (cap : Nat) (s : MS) (f : Int → Option (Int × Nat)) (pi : Nat → PI) (qq : Nat → Nat × Nat × Nat) (L : List Mp) (r : Nat) (x er : Int) (e : Ending) (w' : World) : Prop :=
  e = .returned (.tuple #[.int .i64 x, .int .i64 er]) ∧ DW w' a A cap s f pi qq L ∧ w'.heap[v.ub]? = some (.cells #[.pointer (some ⟨a.rb, 0, none⟩), .slice v.A v.ps.length v.cap, .int .i64 (GvA.cr r)] 80 (0, 0)) ∧ Chg (fun x => x = v.ub ∨ x ∈ a.bs ∨ x = a.Fb) W w'
set_option maxHeartbeats 8000000 in
set_option maxRecDepth 100000 in
theorem rmap_ref (h : DV w0 a v W W A cap s f pi qq L r) (hL : Lk F L) (caller : Int) (hc : 0 ≤ caller ∧ caller < 8) (owner : Int) (k pb : Nat) (hd : f owner = some ((k : Int), pb)) (ref : Nat) (h32 : ref < 32) (wr : Bool) (n : Nat) (hl : Least F caller n) (hn : n < 16)
    (g : Gr) (mfn : Nat) (hR : rdR (pokeS s v.ps r) (pi pb) k caller owner ref = (g, (mfn : Int), 0)) (hsb : g.sb = false) (hro : (wr && g.ro) = false) (hmn : mfn < s.n) (hfew : Fr.few ((pokeS s v.ps r).fr mfn)) (htk : Fr.tk ((pokeS s v.ps r).fr mfn)) (hge : getE ((pokeS s v.ps r).fr mfn) owner (kindI wr) ≠ 0) :
    Calls Tryz.prog 23 #[.pointer (some ⟨a.hb, 0, none⟩), .pointer (some ⟨v.ub, 0, none⟩), .int .i64 caller, .int .i64 owner, .int .i64 ref, .bool wr] W (RmOut W a v A cap (pokeS s v.ps r) f pi qq L (r + 1) 0 (getE ((pokeS s v.ps r).fr mfn) owner (kindI wr))) := by
  have hjo := rjoined h.dw owner
  rw [hd] at hjo
  simp only [Option.isSome_some] at hjo
  have hsl : slotB (ref : Int) = true := by unfold slotB; simp; omega
  have hso := rslot_any ref
  rw [hsl] at hso
  have hdo := fun W => domain_any caller W
  have hb : (decide (0 ≤ caller) && decide (caller < 8)) = true := by simp [hc]
  rw [hb] at hdo
  have hfi := rfind_n h.dw hL caller
  obtain ⟨s1, hs1⟩ : ∃ s1, s1 = pokeS s v.ps r := ⟨_, rfl⟩
  have hn1 : s1.n = s.n := by rw [hs1, pokeS_n]
  have hrd := rread_any h owner k pb hd ref h32 caller
  rw [← hs1] at hrd hR hfew htk hge ⊢
  rw [hR] at hrd
  have HL := Base.Aside.mk (And.intro hl.lo hl.hi)
  obtain ⟨kk, hkk⟩ : ∃ kk : Int, kk = if wr then 1 else 0 := ⟨_, rfl⟩
  have hkd : ∀ W, Calls Tryz.prog 72 #[.bool wr] W fun e w' => e = .returned (.int .i64 kk) ∧ w' = W := fun W => by rw [hkk]; exact rkind wr W
  have hgt0 := fun W2 (hM : RMach W2 a.rb a.Fb a.Bb a.cF a.cB a.bs s1) => GxA.get_any hM mfn (by rw [hn1]; exact hmn) owner wr hfew htk
  unfold kindI at hge ⊢
  rw [← hkk] at hgt0 hge ⊢
  have HK := Base.Aside.mk hkk
  clear hkk
  have hgs : getS s1 mfn owner kk = s1 := if_neg hge
  generalize hgee : getE (s1.fr mfn) owner kk = ge at hge ⊢
  have HGE := Base.Aside.mk hgee
  have HN1 := Base.Aside.mk trivial
  have HGS := Base.Aside.mk hgs
  unfold RmOut
  clear h hd hsl hb hl hR hgee hs1 hfew htk hn1 hgs
  obtain ⟨g1, g2, g3, g4, g5, g6, g7⟩ := g
  unfold aggv at hrd
  simp only at hrd hsb hro
  subst hsb
  have hw : wr = false ∨ (wr = true ∧ g2 = false) := by cases wr <;> simp_all
  clear hro
  rcases hw with rfl | ⟨rfl, rfl⟩
  all_goals
    go_enter Tryz.func23, Tryz.ntmps23
    go_wp2_with (first
      | (go_at_call 48; (with_reducible refine (hdo _).mono ?_); rintro z w9 ⟨rfl, hw9⟩; obtain rfl := hw9.symm)
      | (go_at_call 68; (with_reducible refine hjo.mono ?_); rintro z w1 ⟨rfl, hw1⟩; obtain rfl := hw1.symm)
      | (go_at_call 69; (with_reducible refine (hso _).mono ?_); rintro z w9 ⟨rfl, hw9⟩; obtain rfl := hw9.symm)
      | go_in)
    go_loopw [14] (fun i wr => ∃ j : Nat, j ≤ n ∧ i = .int .i64 j ∧ wr = W) (fun i _ => 16 - (intOf i).toNat)
    case atStart => exact ⟨0, Nat.zero_le _, rfl, rfl⟩
    case round =>
      obtain ⟨j, hj, rfl, hwr⟩ := hrel
      obtain rfl := hwr.symm
      have e3 : (j : Int) < 16 := by omega
      by_cases hlt : j < n
      · have hf2 := hfi j
        rw [HL.out.1 j hlt] at hf2
        clear hrd hgt0
        go_wp2_with (first
          | (go_at_call 70; (with_reducible refine hf2.mono ?_); rintro z w9 ⟨⟨x, rfl, hx⟩, hw9⟩; obtain rfl := hw9.symm)
          | go_in)
        exact ⟨⟨j + 1, by omega, by simp, trivial⟩, by simp [intOf]; omega⟩
      · obtain rfl : j = n := by omega
        have hf2 := hfi j
        rw [HL.out.2 hn] at hf2
        simp only [Option.isSome_none] at hf2
        have d9 : ((j : Int) == 16) = false := by simp; omega
        have m0 : (0 : Int) ≤ (mfn : Int) := Int.natCast_nonneg _
        clear hlt hj
        go_wp2_with (first
          | (go_at_call 70; (with_reducible refine hf2.mono ?_); rintro z w9 ⟨⟨x, rfl, hx⟩, hw9⟩; obtain rfl := hw9.symm)
          | (go_at_call 71; (with_reducible refine hrd.mono ?_); rintro z w2 ⟨rfl, hV2⟩; have E2 := Base.Aside.mk hV2; clear hV2)
          | go_in)
        refine wp_world (fun W2 => DV w0 a v W W2 A cap s1 f pi qq L (r + 1)) (E2.out.below (below_alloc (Below.refl _ _) _)) ?_
        intro W2 hV
        have k0 : W2.cell? ⟨a.hb, 0, none⟩ = some (.pointer (some ⟨a.rb, 0, none⟩)) := blk_cell hV.dw.blk 0
        have L5 := blk_lt hV.dw.blk
        have hgt := fun W' (hW : Below W2.heap.size W2 W') => hgt0 W' (hV.dw.below hW).m
        have kF := hV.dw.kfb
        have S3 : ∀ Wx w3, Below W2.heap.size W2 Wx → Chg (fun x => x = a.Fb) Wx w3 → w3.cell? ⟨a.hb, 0, none⟩ = some (.pointer (some ⟨a.rb, 0, none⟩)) := by
          intro Wx w3 hb hc
          obtain ⟨cs, q1, q2⟩ := (hV.dw.below hb).m.frs
          exact blk_cell (hc.blk (hV.dw.below hb).blk (bne (hV.dw.below hb).blk q1 (by decide))) 0
        have HV := Base.Aside.mk hV
        clear hV kF hgt0 hfi
        go_cut [17] from 67 to 76 (fun e wx => e = .int .i64 ge ∧ Base.Aside (DW wx a A cap (getS s1 mfn owner kk) f pi qq L ∧ wx.heap[v.ub]? = some (.cells #[.pointer (some ⟨a.rb, 0, none⟩), .slice v.A v.ps.length v.cap, .int .i64 (GvA.cr (r + 1))] 80 (0, 0)) ∧ Chg (fun x => x = v.ub ∨ x ∈ a.bs ∨ x = a.Fb) W wx))
        case first =>
          go_region_held3 (fun W' => W'.cell? ⟨a.hb, 0, none⟩ = some (.pointer (some ⟨a.rb, 0, none⟩)))
            (first
              | go_keep
              | exact k0
              | (refine S3 _ _ ?_ E6.out.2; (repeat (with_reducible first | exact Below.refl _ _ | refine below_drew ?_ | refine below_alloc ?_ _)); done))
            ((first
              | (go_at_call 72; (with_reducible refine (hkd _).mono ?_); rintro z w6 ⟨rfl, hw6⟩; obtain rfl := hw6.symm)
              | (go_at_call 56; (with_reducible refine (hgt _ ?_).mono ?_); (focus (repeat (with_reducible first | exact Below.refl _ _ | refine below_drew ?_ | refine below_alloc ?_ _))); rintro z w6 ⟨rfl, hM6, hC6⟩; have E6 := Base.Aside.mk (And.intro hM6 hC6); clear hM6 hC6)))
          all_goals
            go_wp2_with fail
            go_meet
          case rel =>
            refine ⟨by rw [HGE.out], ⟨rm_get HV.out HN1.out ?_ E6.out.1 E6.out.2⟩⟩
            (repeat (with_reducible first | exact Below.refl _ _ | refine below_drew ?_ | refine below_alloc ?_ _))
        case rest =>
          obtain ⟨rfl, hA⟩ := hcut
          have d1 : (ge != 0) = true := by simp [hge]
          clear hge
          go_wp2
          go_ret2
          have h9 := hA.out
          rw [HGS.out] at h9
          exact ⟨by first | rfl | (simp; done), h9⟩
def RmNew (W : World) (a : DA) (v : DVA) (A : Option Addr) (cap : Nat) (s : MS) (f : Int → Option (Int × Nat)) (pi : Nat → PI) (qq : Nat → Nat × Nat × Nat) (L : List Mp) (m : Mp) (r : Nat) (x : Int) (e : Ending) (w' : World) : Prop :=
  ∃ (g c2 : Nat), e = .returned (.tuple #[.int .i64 x, .int .i64 0]) ∧ DW w' a (some ⟨g, 0, none⟩) c2 s f pi qq (L ++ [m]) ∧ w'.heap[v.ub]? = some (.cells #[.pointer (some ⟨a.rb, 0, none⟩), .slice v.A v.ps.length v.cap, .int .i64 (GvA.cr r)] 80 (0, 0)) ∧ Chg (fun x => x = v.ub ∨ x ∈ a.bs ∨ x = a.Fb ∨ (Value.slice A L.length cap).ownBlock = some x ∨ x = a.hb) W w' ∧ ((Value.slice A L.length cap).ownBlock = some g ∨ W.heap.size ≤ g)
set_option maxHeartbeats 8000000 in
set_option maxRecDepth 100000 in
theorem rmap_ok (h : DV w0 a v W W A cap s f pi qq L r) (hL : Lk F L) (hl128 : L.length < 128) (caller : Int) (hc : 0 ≤ caller ∧ caller < 8) (owner : Int) (k pb : Nat) (hd : f owner = some ((k : Int), pb)) (ref : Nat) (h32 : ref < 32) (wr : Bool) (n : Nat) (hl : Least F caller n) (hn : n < 16)
    (g : Gr) (mfn : Nat) (hR : rdR (pokeS s v.ps r) (pi pb) k caller owner ref = (g, (mfn : Int), 0)) (hsb : g.sb = false) (hro : (wr && g.ro) = false) (hmn : mfn < s.n) (hfew : Fr.few ((pokeS s v.ps r).fr mfn)) (htk : Fr.tk ((pokeS s v.ps r).fr mfn)) (hge : getE ((pokeS s v.ps r).fr mfn) owner (kindI wr) = 0) :
    Calls Tryz.prog 23 #[.pointer (some ⟨a.hb, 0, none⟩), .pointer (some ⟨v.ub, 0, none⟩), .int .i64 caller, .int .i64 owner, .int .i64 ref, .bool wr] W (RmNew W a v A cap (getS (pokeS s v.ps r) mfn owner (kindI wr)) f pi qq L ⟨(n : Int), caller, owner, ref, mfn, wr⟩ (r + 1) n) := by
  obtain ⟨i0, hi, hz0, hz1, hz2⟩ := info_parts infoMp
  have hjo := rjoined h.dw owner
  rw [hd] at hjo
  simp only [Option.isSome_some] at hjo
  have hsl : slotB (ref : Int) = true := by unfold slotB; simp; omega
  have hso := rslot_any ref
  rw [hsl] at hso
  have hdo := fun W => domain_any caller W
  have hb : (decide (0 ≤ caller) && decide (caller < 8)) = true := by simp [hc]
  rw [hb] at hdo
  have hfi := rfind_n h.dw hL caller
  obtain ⟨s1, hs1⟩ : ∃ s1, s1 = pokeS s v.ps r := ⟨_, rfl⟩
  have hn1 : s1.n = s.n := by rw [hs1, pokeS_n]
  have hrd := rread_any h owner k pb hd ref h32 caller
  rw [← hs1] at hrd hR hfew htk hge ⊢
  rw [hR] at hrd
  have HL := Base.Aside.mk (And.intro hl.lo hl.hi)
  obtain ⟨kk, hkk⟩ : ∃ kk : Int, kk = if wr then 1 else 0 := ⟨_, rfl⟩
  have hkd : ∀ W, Calls Tryz.prog 72 #[.bool wr] W fun e w' => e = .returned (.int .i64 kk) ∧ w' = W := fun W => by rw [hkk]; exact rkind wr W
  have hgt0 := fun W2 (hM : RMach W2 a.rb a.Fb a.Bb a.cF a.cB a.bs s1) => GxA.get_any hM mfn (by rw [hn1]; exact hmn) owner wr hfew htk
  unfold kindI at hge ⊢
  rw [← hkk] at hgt0 hge ⊢
  have HK := Base.Aside.mk hkk
  clear hkk
  obtain ⟨ge, hgz⟩ : ∃ ge : Int, ge = 0 := ⟨_, rfl⟩
  have HGE : Base.Aside (getE (s1.fr mfn) owner kk = ge) := ⟨by rw [hgz]; exact hge⟩
  have HN1 := Base.Aside.mk trivial
  have hlv := blk_lt h.vd.blk
  unfold RmNew
  clear h hd hsl hb hl hR hs1 hfew htk hn1 hge
  obtain ⟨g1, g2, g3, g4, g5, g6, g7⟩ := g
  unfold aggv at hrd
  simp only at hrd hsb hro
  subst hsb
  have hw : wr = false ∨ (wr = true ∧ g2 = false) := by cases wr <;> simp_all
  clear hro
  rcases hw with rfl | ⟨rfl, rfl⟩
  all_goals
    go_enter Tryz.func23, Tryz.ntmps23
    go_wp2_with (first
      | (go_at_call 48; (with_reducible refine (hdo _).mono ?_); rintro z w9 ⟨rfl, hw9⟩; obtain rfl := hw9.symm)
      | (go_at_call 68; (with_reducible refine hjo.mono ?_); rintro z w1 ⟨rfl, hw1⟩; obtain rfl := hw1.symm)
      | (go_at_call 69; (with_reducible refine (hso _).mono ?_); rintro z w9 ⟨rfl, hw9⟩; obtain rfl := hw9.symm)
      | go_in)
    go_loopw [14] (fun i wr => ∃ j : Nat, j ≤ n ∧ i = .int .i64 j ∧ wr = W) (fun i _ => 16 - (intOf i).toNat)
    case atStart => exact ⟨0, Nat.zero_le _, rfl, rfl⟩
    case round =>
      obtain ⟨j, hj, rfl, hwr⟩ := hrel
      obtain rfl := hwr.symm
      have e3 : (j : Int) < 16 := by omega
      by_cases hlt : j < n
      · have hf2 := hfi j
        rw [HL.out.1 j hlt] at hf2
        clear hrd hgt0
        go_wp2_with (first
          | (go_at_call 70; (with_reducible refine hf2.mono ?_); rintro z w9 ⟨⟨x, rfl, hx⟩, hw9⟩; obtain rfl := hw9.symm)
          | go_in)
        exact ⟨⟨j + 1, by omega, by simp, trivial⟩, by simp [intOf]; omega⟩
      · obtain rfl : j = n := by omega
        have hf2 := hfi j
        rw [HL.out.2 hn] at hf2
        simp only [Option.isSome_none] at hf2
        have d9 : ((j : Int) == 16) = false := by simp; omega
        have m0 : (0 : Int) ≤ (mfn : Int) := Int.natCast_nonneg _
        clear hlt hj
        go_wp2_with (first
          | (go_at_call 70; (with_reducible refine hf2.mono ?_); rintro z w9 ⟨⟨x, rfl, hx⟩, hw9⟩; obtain rfl := hw9.symm)
          | (go_at_call 71; (with_reducible refine hrd.mono ?_); rintro z w2 ⟨rfl, hV2⟩; have E2 := Base.Aside.mk hV2; clear hV2)
          | go_in)
        refine wp_world (fun W2 => DV w0 a v W W2 A cap s1 f pi qq L (r + 1)) (E2.out.below (below_alloc (Below.refl _ _) _)) ?_
        intro W2 hV
        have k0 : W2.cell? ⟨a.hb, 0, none⟩ = some (.pointer (some ⟨a.rb, 0, none⟩)) := blk_cell hV.dw.blk 0
        have L5 := blk_lt hV.dw.blk
        have hgt := fun W' (hW : Below W2.heap.size W2 W') => hgt0 W' (hV.dw.below hW).m
        have kF := hV.dw.kfb
        have S3 : ∀ Wx w3, Below W2.heap.size W2 Wx → Chg (fun x => x = a.Fb) Wx w3 → w3.cell? ⟨a.hb, 0, none⟩ = some (.pointer (some ⟨a.rb, 0, none⟩)) := by
          intro Wx w3 hb hc
          obtain ⟨cs, q1, q2⟩ := (hV.dw.below hb).m.frs
          exact blk_cell (hc.blk (hV.dw.below hb).blk (bne (hV.dw.below hb).blk q1 (by decide))) 0
        have HV := Base.Aside.mk hV
        clear hV kF hgt0 hfi
        go_cut [17] from 67 to 76 (fun e wx => e = .int .i64 ge ∧ Base.Aside (DW wx a A cap (getS s1 mfn owner kk) f pi qq L ∧ wx.heap[v.ub]? = some (.cells #[.pointer (some ⟨a.rb, 0, none⟩), .slice v.A v.ps.length v.cap, .int .i64 (GvA.cr (r + 1))] 80 (0, 0)) ∧ Chg (fun x => x = v.ub ∨ x ∈ a.bs ∨ x = a.Fb) W wx))
        case first =>
          go_region_held3 (fun W' => W'.cell? ⟨a.hb, 0, none⟩ = some (.pointer (some ⟨a.rb, 0, none⟩)))
            (first
              | go_keep
              | exact k0
              | (refine S3 _ _ ?_ E6.out.2; (repeat (with_reducible first | exact Below.refl _ _ | refine below_drew ?_ | refine below_alloc ?_ _)); done))
            ((first
              | (go_at_call 72; (with_reducible refine (hkd _).mono ?_); rintro z w6 ⟨rfl, hw6⟩; obtain rfl := hw6.symm)
              | (go_at_call 56; (with_reducible refine (hgt _ ?_).mono ?_); (focus (repeat (with_reducible first | exact Below.refl _ _ | refine below_drew ?_ | refine below_alloc ?_ _))); rintro z w6 ⟨rfl, hM6, hC6⟩; have E6 := Base.Aside.mk (And.intro hM6 hC6); clear hM6 hC6)))
          all_goals
            go_wp2_with fail
            go_meet
          case rel =>
            refine ⟨by rw [HGE.out], ⟨rm_get HV.out HN1.out ?_ E6.out.1 E6.out.2⟩⟩
            (repeat (with_reducible first | exact Below.refl _ _ | refine below_drew ?_ | refine below_alloc ?_ _))
        case rest =>
          obtain ⟨rfl, hA⟩ := hcut
          subst hgz
          have C7 := fun i => blk_cell hA.out.1.blk i
          have L7 := blk_lt hA.out.1.blk
          have F7 := fun i => blk_frozen hA.out.1.blk i
          have hrow := hA.out.1.row
          have nh : (Value.slice A L.length cap).ownBlock ≠ some a.hb := fun e => absurd (own_kind hA.out.1 e _ _ hA.out.1.blk) (by decide)
          go_wp2_with (first
            | (at_builtin; refine wpList_append_own_at _ rfl _ _ 99 rfl 0 102 i0 (.agg #[.int .i64 0, .int .i64 0, .int .i64 0, .int .i64 0, .int .i64 0, .bool false]) 6 48 Tryz.underlying99 (by assumption) hz0 hz1 hz2 rfl (by decide) _ L.length _ rfl (hrow.alloc _) ⟨wc.heap.size, 0, none⟩ 1 1 (mcells ⟨(j : Int), caller, owner, ref, mfn, _⟩) rfl rfl (cell_six_new wc ⟨(j : Int), caller, owner, ref, mfn, _⟩ 102) (mcells_one _) (by unfold maxLen; omega) (by omega) (Nat.zero_le _) ?_)
            | go_in)
          intro v' w3 hown hg hnil hloc
          obtain ⟨g2, cap2, rfl, _⟩ := row_full hown (by omega)
          have hb3 := (hg.block _ (by simp; omega) (fun e => nh e.symm)).trans (blk_alloc hA.out.1.blk _)
          have C8 := fun i => blk_cell hb3 i
          have F8 := fun i => blk_frozen hb3 i
          have L8 := blk_lt hb3
          have HX := Base.Aside.mk (And.intro (DW.push hA.out.1 ⟨(j : Int), caller, owner, ref, mfn, _⟩ rfl hg hown hl128) hloc)
          clear hb3 hown hg hnil hloc hrow nh
          go_wp2
          go_ret2
          refine ⟨g2, cap2, by first | rfl | (simp; done), HX.out.1.1, ?_, ?_, ?_⟩
          · refine HX.out.1.2.blk hA.out.2.1 (fun e => ?_)
            rcases e with e | e
            · exact absurd (own_kind hA.out.1 e _ _ hA.out.2.1) (by decide)
            · exact bne hA.out.2.1 hA.out.1.blk (by decide) e
          · refine (hA.out.2.2.mono ?_).trans (HX.out.1.2.mono ?_)
            · rintro x (h | h | h)
              · exact .inl h
              · exact .inr (.inl h)
              · exact .inr (.inr (.inl h))
            · rintro x (h | h)
              · exact .inr (.inr (.inr (.inl h)))
              · exact .inr (.inr (.inr (.inr h)))
          · rcases HX.out.2 with h | h
            · exact .inl h.symm
            · refine .inr ?_
              have h9 : g2 = wc.heap.size + 1 := Option.some.inj h
              have := hA.out.2.2.size
              omega
end
end Go.Proofs.YthlejchcnfdcpaaGreat.GyO
namespace Go.Proofs.YthlejchcnfdcpaaGreat.GyQ
open Go.RowKit Go.Maps Base GaA GaB GaC GaD GmB GmC GpA GgA GeA GeB GfA GfB GfC GfD GjA GjB GjC GjK GwA GwB GwQ RpA RmA RmB RgA GxA GxB GxC GxD GyA GyB GyC GyO
set_option linter.unusedVariables false
set_option linter.unusedSimpArgs false

section
variable {w0 w w' W W0 W' : World} {a : DA} {A : Option Addr} {cap : Nat} {s s' : MS} {f f' : Int → Option (Int × Nat)} {pi : Nat → PI} {qq : Nat → Nat × Nat × Nat} {L : List Mp} {F : Int × Int → Option Mp}
/-- A member's two cells are written. -/
theorem DW.mem2 (h : DW W a A cap s f pi qq L) (d : Nat) (hd : d < 8) (x : Int × Option Nat) (hx : x = fD f' qq d) (hf : ∀ i : Nat, i < 8 → i ≠ d → f' i = f i) (u1 u2 : Value) (hu : memC x = [u1, u2])
    (hq : ∀ e y, f' e = some y → Q3 W (qq y.2).1 (qq y.2).2.1 (qq y.2).2.2 (pi y.2).size (pi y.2).fr (pi y.2).pl) (hdd : ∀ e y, f' e = some y → (0 ≤ e ∧ e < 8) ∧ ∃ k : Nat, y.1 = k ∧ k < s.n) :
    DW ((W.setCell ⟨a.Db, d * 2, none⟩ u1).setCell ⟨a.Db, d * 2 + 1, none⟩ u2) a A cap s f' pi qq L ∧ Chg (fun x => x = a.Db) W ((W.setCell ⟨a.Db, d * 2, none⟩ u1).setCell ⟨a.Db, d * 2 + 1, none⟩ u2) := by
  obtain ⟨cs, g1, g2⟩ := h.mem
  have hc := chg_fb (chg_fb (Chg.refl (fun x => x = a.Db) W) (d * 2) u1) (d * 2 + 1) u2
  obtain ⟨c1, k1, _⟩ := h.m.frs
  obtain ⟨c2, k2, _⟩ := h.m.rows
  refine ⟨⟨hc.blk h.blk (bne h.blk g1 (by decide)), ⟨_, blk_put (blk_put g1 (d * 2) _ rfl) (d * 2 + 1) _ rfl, ?_⟩, row_chg h.row hc (fun g hg e => ?_), h.m.chg hc (bne h.m.blk g1 (by decide)) (bne k1 g1 (by decide)) (bne k2 g1 (by decide)) (fun b hb => ?_), fun e y he => (hq e y he).chg hc (bne (hq e y he).blk g1 (by decide)) (fun e2 => ?_), hdd, h.few⟩, hc⟩
  · intro i j hi hj
    have hsz : d * 2 + 1 < cs.size := by
      have := g2 d 1 hd (by omega)
      have e : (memC (fD f qq d))[1]? = some (.pointer ((fD f qq d).2.map fun q => ⟨q, 0, none⟩)) := rfl
      rw [e] at this
      exact (Array.getElem?_eq_some_iff.1 this).1
    simp only [Array.getElem?_setIfInBounds, Array.size_setIfInBounds]
    by_cases hik : i = d
    · subst hik
      rw [← hx, hu]
      match j, hj with
      | 0, _ =>
        rw [if_neg (by omega), if_pos (by omega), if_pos (by omega)]
        rfl
      | 1, _ =>
        rw [if_pos (by omega), if_pos (by omega)]
        rfl
    · rw [if_neg (by omega), if_neg (by omega), g2 i j hi hj]
      unfold fD
      rw [hf i hi hik]
  · subst e
    exact row_ne h.row g1 (by decide) hg
  · obtain ⟨cs, hcs⟩ := page_mem h.m hb
    exact bne hcs g1 (by decide)
  · obtain ⟨_, ⟨h1, _⟩ | ⟨g', cap', cur, h1, _, h2, _⟩⟩ := (hq e y he).r.row
    · cases h1
    · injection h1 with h1
      injection h1 with h1
      injection h1 with h1
      rw [e2] at h1
      rw [← h1] at h2
      exact bne h2 g1 (by decide) rfl
/-- Get of a frame: the frames' block alone. -/
def DgOut (W : World) (a : DA) (A : Option Addr) (cap : Nat) (s : MS) (f : Int → Option (Int × Nat)) (pi : Nat → PI) (qq : Nat → Nat × Nat × Nat) (L : List Mp) (er : Int) (e : Ending) (w' : World) : Prop := e = .returned (.int .i64 er) ∧ DW w' a A cap s f pi qq L ∧ Chg (fun x => x = a.Fb) W w'
theorem dget (h : DW W a A cap s f pi qq L) (k : Nat) (hk : k < s.n) (o : Int) (b : Bool) (hf : Fr.few (s.fr k)) (ht : Fr.tk (s.fr k)) :
    Calls Tryz.prog 56 #[.pointer (some ⟨a.rb, 0, none⟩), .int .i64 k, .int .i64 o, .int .i64 (if b then 1 else 0)] W (DgOut W a A cap (getS s k o (if b then 1 else 0)) f pi qq L (getE (s.fr k) o (if b then 1 else 0))) :=
  (GxA.get_any h.m k hk o b hf ht).mono fun e w' ⟨h1, h2, h3⟩ => ⟨h1, h.out h3 h2 (getS_n _ _ _ _) (fun x hx => by subst hx; exact h.kfb), h3⟩
theorem dget1 (h : DW W a A cap s f pi qq L) (k o : Int) (hf : ∀ i, i < s.n → Fr.few (s.fr i) ∧ Fr.tk (s.fr i)) :
    Calls Tryz.prog 56 #[.pointer (some ⟨a.rb, 0, none⟩), .int .i64 k, .int .i64 o, .int .i64 1] W (DgOut W a A cap (if getEE s k o 1 = 0 then getS s k.toNat o 1 else s) f pi qq L (getEE s k o 1)) := by
  by_cases hk : 0 ≤ k ∧ k < s.n
  · obtain ⟨j, rfl⟩ : ∃ j : Nat, k = j := ⟨k.toNat, by omega⟩
    have he : getEE s j o 1 = getE (s.fr j) o 1 := by unfold getEE; rw [if_pos hk, Int.toNat_natCast]
    have hs : (if getEE s j o 1 = 0 then getS s (j : Int).toNat o 1 else s) = getS s j o 1 := by
      rw [he, Int.toNat_natCast]
      split
      · rfl
      · rename_i hne
        exact (if_neg hne).symm
    rw [hs, he]
    exact dget h j (by omega) o true (hf j (by omega)).1 (hf j (by omega)).2
  · have he : getEE s k o 1 = 1 := by unfold getEE; rw [if_neg hk]
    rw [he, if_neg (by decide)]
    exact (GxA.get_out h.m k hk o 1).mono fun e w' ⟨h1, h2⟩ => by subst h2; exact ⟨h1, h, Chg.refl _ _⟩
set_option maxHeartbeats 8000000 in
set_option maxRecDepth 100000 in
theorem rjoin_no (h : DW W a A cap s f pi qq L) (hfew : ∀ i, i < s.n → Fr.few (s.fr i) ∧ Fr.tk (s.fr i)) (d k : Int) (qb : Nat) (hne : joinE s f d k ≠ 0) :
    Calls Tryz.prog 18 #[.pointer (some ⟨a.hb, 0, none⟩), .int .i64 d, .int .i64 k, .pointer (some ⟨qb, 0, none⟩)] W (DgOut W a A cap s f pi qq L (joinE s f d k)) := by
  have hdo := fun W => domain_any d W
  have C0 := fun i => blk_cell h.blk i
  have L0 := blk_lt h.blk
  have LD := h.ldb
  have HP := Base.Aside.mk h
  unfold joinE at hne ⊢
  unfold DgOut
  by_cases h1 : 0 ≤ d ∧ d < 8
  · have hb : (decide (0 ≤ d) && decide (d < 8)) = true := by simp [h1]
    rw [hb] at hdo
    rw [if_neg (by simp; omega)] at hne ⊢
    obtain ⟨j, rfl⟩ : ∃ j : Nat, d = j := ⟨d.toNat, by omega⟩
    have c0 := h.mfn j (by omega)
    have e2 : (0 : Int) ≤ (j : Int) := h1.1
    have e3 : (j : Int) < 8 := h1.2
    obtain ⟨x, hx⟩ : ∃ x, x = (fD f qq j).1 := ⟨_, rfl⟩
    rw [← hx] at c0
    have hv : decide (0 ≤ x) = (f j).isSome := by
      rw [hx]
      unfold fD
      cases hf : f j with
      | none => rfl
      | some y =>
        obtain ⟨m, e, _⟩ := (h.d j y hf).2
        show decide (0 ≤ y.1) = true
        exact decide_eq_true (by omega)
    cases hs : (f j).isSome with
    | true =>
      rw [hs] at hv
      simp only [if_true]
      clear h hne hs hb hx h1
      go_enter Tryz.func18, Tryz.ntmps18
      go_wp2_with (first
        | (go_at_call 48; (with_reducible refine (hdo _).mono ?_); rintro z w1 ⟨rfl, hw1⟩; obtain rfl := hw1.symm)
        | go_in)
      go_ret
      exact ⟨by first | rfl | (simp; done), HP.out, Chg.refl _ _⟩
    | false =>
      rw [hs] at hv hne
      simp only [Bool.false_eq_true, if_false] at hne ⊢
      have hg := dget1 h k j hfew
      rw [if_neg hne] at hg
      unfold DgOut at hg
      generalize getEE s k j 1 = er at hg hne ⊢
      have d1 : (er == 0) = false := by simp [hne]
      clear h hne hs hb hx h1
      go_enter Tryz.func18, Tryz.ntmps18
      go_wp2_with (first
        | (go_at_call 48; (with_reducible refine (hdo _).mono ?_); rintro z w1 ⟨rfl, hw1⟩; obtain rfl := hw1.symm)
        | (go_at_call 56; (with_reducible refine hg.mono ?_); rintro z w2 ⟨rfl, hM2, hC2⟩; have E2 := Base.Aside.mk (And.intro hM2 hC2); clear hM2 hC2)
        | go_in)
      go_ret
      exact ⟨by first | rfl | (simp; done), E2.out.1, E2.out.2⟩
  · have hb : (decide (0 ≤ d) && decide (d < 8)) = false := by simp; omega
    rw [hb] at hdo
    rw [if_pos h1]
    clear h hne hb h1
    go_enter Tryz.func18, Tryz.ntmps18
    go_wp2_with (first
      | (go_at_call 48; (with_reducible refine (hdo _).mono ?_); rintro z w1 ⟨rfl, hw1⟩; obtain rfl := hw1.symm)
      | go_in)
    go_ret
    exact ⟨by first | rfl | (simp; done), HP.out, Chg.refl _ _⟩
def JnOut (W : World) (a : DA) (A : Option Addr) (cap : Nat) (s : MS) (f : Int → Option (Int × Nat)) (pi : Nat → PI) (qq : Nat → Nat × Nat × Nat) (L : List Mp) (e : Ending) (w' : World) : Prop := e = .returned (.int .i64 0) ∧ DW w' a A cap s f pi qq L ∧ Chg (fun x => x = a.Fb ∨ x = a.Db) W w'
theorem q3_fb (h : DW W a A cap s f pi qq L) (hc : Chg (fun x => x = a.Fb) W W') {qb qr c2 n : Nat} {fr pl : Int → Option Int} (hQ : Q3 W qb qr c2 n fr pl) : Q3 W' qb qr c2 n fr pl := by
  obtain ⟨cs, k1, _⟩ := h.m.frs
  refine hQ.chg hc (bne hQ.blk k1 (by decide)) (fun e => ?_)
  obtain ⟨_, ⟨h1, _⟩ | ⟨g', cap', cur, h1, _, h2, _⟩⟩ := hQ.r.row
  · cases h1
  · injection h1 with h1
    injection h1 with h1
    injection h1 with h1
    rw [e] at h1
    rw [← h1] at h2
    exact bne h2 k1 (by decide) rfl
set_option maxHeartbeats 8000000 in
set_option maxRecDepth 100000 in
theorem rjoin_ok (h : DW W a A cap s f pi qq L) (d k : Nat) (hd : d < 8) (hk : k < s.n) (hf : f d = none) (pb : Nat) (hQ : Q3 W (qq pb).1 (qq pb).2.1 (qq pb).2.2 (pi pb).size (pi pb).fr (pi pb).pl) (hfew : Fr.few (s.fr k)) (htk : Fr.tk (s.fr k)) (hge : getE (s.fr k) d 1 = 0) :
    Calls Tryz.prog 18 #[.pointer (some ⟨a.hb, 0, none⟩), .int .i64 d, .int .i64 k, .pointer (some ⟨(qq pb).1, 0, none⟩)] W (JnOut W a A cap (getS s k d 1) (mput f d ((k : Int), pb)) pi qq L) := by
  have hdo := fun W => domain_any d W
  have hb : (decide (0 ≤ (d : Int)) && decide ((d : Int) < 8)) = true := by simp; omega
  rw [hb] at hdo
  have C0 := fun i => blk_cell h.blk i
  have L0 := blk_lt h.blk
  have LD := h.ldb
  have c0 := h.mfn d hd
  have hfd : (fD f qq d).1 = -1 := by unfold fD; rw [hf]
  rw [hfd] at c0
  have e2 : (0 : Int) ≤ (d : Int) := Int.natCast_nonneg _
  have e3 : (d : Int) < 8 := by omega
  have hg := dget h k hk d true hfew htk
  simp only [if_true] at hg
  rw [hge] at hg
  unfold DgOut at hg
  have hput := fun w1 (h1 : DW w1 a A cap (getS s k d 1) f pi qq L) (hc : Chg (fun x => x = a.Fb) W w1) => DW.mem2 (f' := mput f d ((k : Int), pb)) h1 d hd ((k : Int), some (qq pb).1) (by unfold fD mput; rw [if_pos rfl]) (fun i _ hi => by unfold mput; rw [if_neg (by omega)]) (.int .i64 k) (.pointer (some ⟨(qq pb).1, 0, none⟩)) rfl
    (fun e y he => by
      unfold mput at he
      split at he
      · injection he with he
        subst he
        exact q3_fb h hc hQ
      · exact h1.q e y he)
    (fun e y he => by
      unfold mput at he
      split at he
      · injection he with he
        subst he
        rename_i hed
        exact ⟨by omega, k, rfl, by rw [getS_n]; exact hk⟩
      · exact h1.d e y he)
  have hmf := fun w1 (h1 : DW w1 a A cap (getS s k d 1) f pi qq L) => h1.mem
  obtain ⟨qb, hqb⟩ : ∃ qb, qb = (qq pb).1 := ⟨_, rfl⟩
  rw [← hqb] at hput ⊢
  have HP := Base.Aside.mk (And.intro hput trivial)
  clear hqb
  unfold JnOut
  clear h hb hf hfd hQ hfew htk hge hput
  go_enter Tryz.func18, Tryz.ntmps18
  go_wp2_with (first
    | (go_at_call 48; (with_reducible refine (hdo _).mono ?_); rintro z w1 ⟨rfl, hw1⟩; obtain rfl := hw1.symm)
    | (go_at_call 56; (with_reducible refine hg.mono ?_); rintro z w2 ⟨rfl, hM2, hC2⟩; have C2 := (fun i => blk_cell hM2.blk i); have L2 := blk_lt hM2.blk; obtain ⟨cs, hm1, hm2⟩ := hM2.mem; have F2 := (fun i => blk_frozen hm1 i); have LD2 := blk_lt hm1; have c4 := hM2.mfn d hd; have c5 := hM2.ptr d hd; have E2 := Base.Aside.mk (And.intro (HP.out.1 w2 hM2 hC2) hC2); clear hM2 hC2 hm1 hm2)
    | go_in)
  go_ret
  exact ⟨by first | rfl | (simp; done), E2.out.1.1, (E2.out.2.mono fun _ h => .inl h).trans (E2.out.1.2.mono fun _ h => .inr h)⟩
set_option maxHeartbeats 8000000 in
set_option maxRecDepth 100000 in
theorem rleave_no (h : DW W a A cap s f pi qq L) (d : Int) (hne : leaveE f d ≠ 0) :
    Calls Tryz.prog 34 #[.pointer (some ⟨a.hb, 0, none⟩), .int .i64 d] W fun e w' => e = .returned (.int .i64 (leaveE f d)) ∧ w' = W := by
  have hdo := fun W => domain_any d W
  have C0 := fun i => blk_cell h.blk i
  have L0 := blk_lt h.blk
  have LD := h.ldb
  unfold leaveE at hne ⊢
  by_cases h1 : 0 ≤ d ∧ d < 8
  · have hb : (decide (0 ≤ d) && decide (d < 8)) = true := by simp [h1]
    rw [hb] at hdo
    rw [if_neg (by simp; omega)] at hne ⊢
    obtain ⟨j, rfl⟩ : ∃ j : Nat, d = j := ⟨d.toNat, by omega⟩
    have c0 := h.mfn j (by omega)
    have e2 : (0 : Int) ≤ (j : Int) := h1.1
    have e3 : (j : Int) < 8 := h1.2
    cases hf : f j with
    | some x => rw [hf] at hne; simp at hne
    | none =>
      have hfd : (fD f qq j).1 = -1 := by unfold fD; rw [hf]
      rw [hfd] at c0
      clear h hne hf hb hfd h1
      go_enter Tryz.func34, Tryz.ntmps34
      go_wp2_with (first
        | (go_at_call 48; (with_reducible refine (hdo _).mono ?_); rintro z w1 ⟨rfl, hw1⟩; obtain rfl := hw1.symm)
        | go_in)
      go_ret
      exact ⟨by first | rfl | (simp; done), by first | rfl | trivial⟩
  · have hb : (decide (0 ≤ d) && decide (d < 8)) = false := by simp; omega
    rw [hb] at hdo
    rw [if_pos h1]
    clear h hne hb h1
    go_enter Tryz.func34, Tryz.ntmps34
    go_wp2_with (first
      | (go_at_call 48; (with_reducible refine (hdo _).mono ?_); rintro z w1 ⟨rfl, hw1⟩; obtain rfl := hw1.symm)
      | go_in)
    go_ret
    exact ⟨by first | rfl | (simp; done), by first | rfl | trivial⟩
theorem putS_n (s : MS) (k : Nat) (kd : Int) : (putS s k kd).n = s.n := by unfold putS; split <;> rfl
/-- Put of a frame. -/
def DpOut (W : World) (a : DA) (A : Option Addr) (cap : Nat) (s : MS) (f : Int → Option (Int × Nat)) (pi : Nat → PI) (qq : Nat → Nat × Nat × Nat) (L : List Mp) (e : Ending) (w' : World) : Prop := (∃ v, e = .returned v) ∧ DW w' a A cap s f pi qq L ∧ Chg (fun x => x = a.Fb) W w'
theorem dput (h : DW W a A cap s f pi qq L) (k : Nat) (hk : k < s.n) (b : Bool) (hf : Fr.few (s.fr k)) (ht : Fr.tk (s.fr k)) (hp : putE (s.fr k) (if b then 1 else 0) = 0) :
    Calls Tryz.prog 76 #[.pointer (some ⟨a.rb, 0, none⟩), .int .i64 k, .int .i64 (if b then 1 else 0)] W (DpOut W a A cap (putS s k (if b then 1 else 0)) f pi qq L) :=
  (GxA.put_any h.m k hk b hf ht hp).mono fun e w' ⟨h1, h2, h3⟩ => ⟨h1, h.out h3 h2 (putS_n _ _ _) (fun x hx => by subst hx; exact h.kfb), h3⟩
set_option maxHeartbeats 8000000 in
set_option maxRecDepth 100000 in
theorem rleave_ok (h : DW W a A cap s f pi qq L) (d k pb : Nat) (hd : f d = some ((k : Int), pb)) (hfew : Fr.few (s.fr k)) (htk : Fr.tk (s.fr k)) (hp : putE (s.fr k) 1 = 0) :
    Calls Tryz.prog 34 #[.pointer (some ⟨a.hb, 0, none⟩), .int .i64 d] W (JnOut W a A cap (putS s k 1) (mdel f d) pi qq L) := by
  have hdd := h.d d _ hd
  have d8 : d < 8 := by omega
  have hdo := fun W => domain_any d W
  have hb : (decide (0 ≤ (d : Int)) && decide ((d : Int) < 8)) = true := by simp; omega
  rw [hb] at hdo
  have hkn : k < s.n := by obtain ⟨k2, e1, e2⟩ := hdd.2; simp only at e1; omega
  have hfd : (fD f qq d).1 = k := by unfold fD; rw [hd]
  have S0 : ∀ W' s', DW W' a A cap s' f pi qq L → W'.cell? ⟨a.hb, 0, none⟩ = some (.pointer (some ⟨a.rb, 0, none⟩)) ∧ W'.cell? ⟨a.hb, 1, none⟩ = some (.slice (some ⟨a.Db, 0, none⟩) 8 a.cD) ∧ W'.cell? ⟨a.Db, d * 2, none⟩ = some (.int .i64 k) := fun W' s' h2 => ⟨blk_cell h2.blk 0, blk_cell h2.blk 1, by have := h2.mfn d d8; rw [hfd] at this; exact this⟩
  have L0 := blk_lt h.blk
  have LD := h.ldb
  have e2 : (0 : Int) ≤ (d : Int) := Int.natCast_nonneg _
  have e3 : (d : Int) < 8 := by omega
  have k0 : (0 : Int) ≤ (k : Int) := Int.natCast_nonneg _
  have hpp := fun W' (hW : Below W.heap.size W W') => dput (h.below hW) k hkn true hfew htk hp
  simp only [if_true] at hpp
  unfold DpOut at hpp
  have hput := fun w1 (h1 : DW w1 a A cap (putS s k 1) f pi qq L) => DW.mem2 (f' := mdel f d) h1 d d8 (-1, none) (by unfold fD mdel; rw [if_pos rfl]) (fun i _ hi => by unfold mdel; rw [if_neg (by omega)]) (.int .i64 (-1)) (.pointer none) rfl
    (fun e y he => by
      unfold mdel at he
      split at he
      · cases he
      · exact h1.q e y he)
    (fun e y he => by
      unfold mdel at he
      split at he
      · cases he
      · exact h1.d e y he)
  have HP := Base.Aside.mk (And.intro hput h)
  obtain ⟨c0, c1, c2⟩ := S0 W s h
  unfold JnOut
  clear h hb hd hfd hfew htk hp hput hdd
  go_enter Tryz.func34, Tryz.ntmps34
  go_wp2_with (first
    | (go_at_call 48; (with_reducible refine (hdo _).mono ?_); rintro z w1 ⟨rfl, hw1⟩; obtain rfl := hw1.symm)
    | go_in)
  go_cut [] from 17 to 30 (fun wx => Base.Aside (DW wx a A cap (putS s k 1) f pi qq L ∧ Chg (fun x => x = a.Fb) W wx))
  case first =>
    go_region_held3 (fun W' => W'.cell? ⟨a.hb, 0, none⟩ = some (.pointer (some ⟨a.rb, 0, none⟩)) ∧ W'.cell? ⟨a.hb, 1, none⟩ = some (.slice (some ⟨a.Db, 0, none⟩) 8 a.cD) ∧ W'.cell? ⟨a.Db, d * 2, none⟩ = some (.int .i64 k))
      (first
        | go_keep
        | (with_reducible exact ⟨c0, c1, c2⟩)
        | (with_reducible exact S0 _ _ E3.out.1)
        | (refine S0 _ _ (HP.out.2.below ?_); (repeat (with_reducible first | exact Below.refl _ _ | refine below_drew ?_ | refine below_alloc ?_ _)); done))
      ((first
        | (go_at_call 76; (with_reducible refine (hpp _ ?_).mono ?_); (focus (repeat (with_reducible first | exact Below.refl _ _ | refine below_drew ?_ | refine below_alloc ?_ _))); rintro z w3 ⟨⟨u, rfl⟩, hM3, hC3⟩; have E3 := Base.Aside.mk (And.intro hM3 hC3); clear hM3 hC3)))
    all_goals
      go_wp2_with fail
      go_meet
    case rel =>
      refine ⟨⟨E3.out.1, (Chg.below _ ?_).trans E3.out.2⟩⟩
      (repeat (with_reducible first | exact Below.refl _ _ | refine below_drew ?_ | refine below_alloc ?_ _))
  case rest =>
    have C2 := (fun i => blk_cell hcut.out.1.blk i)
    have L2 := blk_lt hcut.out.1.blk
    obtain ⟨cs, hm1, hm2⟩ := hcut.out.1.mem
    have F2 := (fun i => blk_frozen hm1 i)
    have LD2 := blk_lt hm1
    have c4 := hcut.out.1.mfn d d8
    have c5 := hcut.out.1.ptr d d8
    have E2 := Base.Aside.mk (HP.out.1 _ hcut.out.1)
    clear hm1 hm2 c0 c1 c2
    go_wp2
    go_ret
    exact ⟨by first | rfl | (simp; done), E2.out.1, (hcut.out.2.mono fun _ h => .inl h).trans (E2.out.2.mono fun _ h => .inr h)⟩
end
end Go.Proofs.YthlejchcnfdcpaaGreat.GyQ
