/- Proved: Unmap (a contract for the laws of the grants). Proved: Foreign (a contract for the laws of the grants). Proved: the least free handle (lemmas for Map of the grants). Proved: Map where it maps (a contract for the laws of the grants). Proved: Map where its caller has no handle left (a contract for the laws of the grants). -/
import Derived.Test.YtjeobbhaoahdcaaMlai
namespace Go.Proofs.Ytjeobbhaoahdcaa.GjC
open Go.RowKit Go.Maps Go.Proofs.Ytjeobbhaoahdcaa.Base Go.Proofs.Ytjeobbhaoahdcaa.GaA Go.Proofs.Ytjeobbhaoahdcaa.GaB Go.Proofs.Ytjeobbhaoahdcaa.GaC Go.Proofs.Ytjeobbhaoahdcaa.GmA Go.Proofs.Ytjeobbhaoahdcaa.GmB Go.Proofs.Ytjeobbhaoahdcaa.GmC Go.Proofs.Ytjeobbhaoahdcaa.GpA Go.Proofs.Ytjeobbhaoahdcaa.GgA Go.Proofs.Ytjeobbhaoahdcaa.GvA Go.Proofs.Ytjeobbhaoahdcaa.GeA Go.Proofs.Ytjeobbhaoahdcaa.GfA Go.Proofs.Ytjeobbhaoahdcaa.GfB Go.Proofs.Ytjeobbhaoahdcaa.GfC Go.Proofs.Ytjeobbhaoahdcaa.GfD Go.Proofs.Ytjeobbhaoahdcaa.GfH Go.Proofs.Ytjeobbhaoahdcaa.GjA Go.Proofs.Ytjeobbhaoahdcaa.GjB
set_option linter.unusedVariables false
set_option linter.unusedSimpArgs false

theorem wpK_delete {P : Program} {w : World} {ops : Array Oper} {rest : List Oper} {o : Oper} {a : Act} {Q : Exit → Act → World → Prop} {M c : Nat} {f : Int × Int → Option Mp} (hP : P = Try.prog) (hg : o.guard = none) (m x : Operand)
    (hop : o.op = Op.call { callee := Callee.builtin Builtin.delete, args := #[m, x], argTypes := #[76, 137] }) (h : KMap w M f c) (p : Int × Int) (hp : ok p) (hn : (f p).isSome = true)
    (hm : a.eval m = .map (some M)) (hx : a.eval x = kv p)
    (hK : ∀ w', KMap w' M (kdel f p) (c - 1) → Chg (fun k => k = M) w w' → wpList P ops Q rest (a.put o.dst (.tuple #[])) w') :
    wpList P ops Q (o :: rest) a w := by
  subst hP
  refine wpList_plain hg fun K' hK' => ?_
  obtain ⟨w', hrun, r1, r2⟩ := h.drop p hp hn o.type
  unfold Oper.wp
  simp [execOp, hop, resolve, invoke, builtin, hm, hx, hrun, Result.andThen]
  exact hK' _ _ (hK w' r1 r2)
theorem wpK_store {P : Program} {w : World} {ops : Array Oper} {rest : List Oper} {o : Oper} {a : Act} {Q : Exit → Act → World → Prop} {M c : Nat} {f : Int × Int → Option Mp} (hP : P = Try.prog) (hg : o.guard = none) (m x v : Operand)
    (hop : o.op = Op.mapUpdate 76 m x v) (h : KMap w M f c) (p : Int × Int) (hp : ok p) (v' : Mp) (hc : c < 1000000) (hn : f p = none)
    (hm : a.eval m = .map (some M)) (hx : a.eval x = kv p) (hv : a.eval v = mpv v')
    (hK : ∀ w', KMap w' M (kput f p v') (c + 1) → Chg (fun k => k = M) w w' → wpList P ops Q rest (a.put o.dst undef) w') :
    wpList P ops Q (o :: rest) a w := by
  subst hP
  refine wpList_plain hg fun K' hK' => ?_
  obtain ⟨w', hrun, r1, r2⟩ := h.store p hp v' hc hn
  unfold Oper.wp
  simp [execOp, hop, hm, hx, hv, hrun, Result.andThen]
  exact hK' _ _ (hK w' r1 r2)
def kindI (b : Bool) : Int := if b then 1 else 0
section
variable {w w' W W' : World} {gb mm hm mb fb : Nat} {f : Int → Option (Int × Nat)} {c : Nat} {s s' : MS} {pi : Nat → PI} {F : Int × Int → Option Mp} {n : Nat} {vb db r r' : Nat}
def UnOut (W : World) (gb mm hm mb fb : Nat) (s : MS) (f : Int → Option (Int × Nat)) (c : Nat) (pi : Nat → PI) (F : Int × Int → Option Mp) (n : Nat) (er : Int) (e : Ending) (w' : World) : Prop := e = .returned (.int .i64 er) ∧ GX w' gb mm hm mb fb s f c pi F n ∧ Chg (fun x => x = fb ∨ x = hm) W w'
set_option maxHeartbeats 8000000 in
set_option maxRecDepth 100000 in
theorem unmap_no (h : GX W gb mm hm mb fb s f c pi F n) (d k : Int) (hd : okI d) (hk : okI k) (hne : (heldR F d k).2 ≠ 0) : Calls Try.prog 23 #[.pointer (some ⟨gb, 0, none⟩), .int .i64 d, .int .i64 k] W (UnOut W gb mm hm mb fb s f c pi F n (heldR F d k).2) := by
  have hh := held_calls h d k hd hk
  generalize heldR F d k = R at hh hne ⊢
  have hb : (R.2 == 0) = false := by simp [hne]
  have HG := Base.Aside.mk h
  clear h hne
  go_enter Try.func23, Try.ntmps23
  go_wp2_with (first
    | (go_at_call 62; refine hh.mono ?_; rintro z w1 ⟨rfl, hB1⟩; have E1 := Base.Aside.mk hB1; clear hB1)
    | go_in)
  go_ret
  have hb2 := below_alloc E1.out (.cells #[.int .i64 R.1.h, .int .i64 R.1.caller, .int .i64 R.1.owner, .int .i64 R.1.ref, .int .i64 R.1.mfn, .bool R.1.wr] 135)
  exact ⟨by first | rfl | (simp; done), HG.out.below hb2, Chg.below _ hb2⟩
set_option maxHeartbeats 8000000 in
set_option maxRecDepth 100000 in
theorem unmap_ok (h : GX W gb mm hm mb fb s f c pi F n) (d k : Int) (hd0 : 0 ≤ d ∧ d < 8) (hk : okI k) (m : Mp) (hm2 : F (d, k) = some m) (hval : 0 ≤ m.mfn ∧ m.mfn < s.n) (hfew : Fr.few (s.fr m.mfn.toNat)) :
    Calls Try.prog 23 #[.pointer (some ⟨gb, 0, none⟩), .int .i64 d, .int .i64 k] W (UnOut W gb mm hm mb fb (putS s m.mfn.toNat (kindI m.wr)) f c pi (kdel F (d, k)) (n - 1) 0) := by
  have hR : heldR F d k = (m, 0) := by unfold heldR; rw [if_neg (by simp [hd0]), hm2]
  have hh := held_calls h d k ⟨by omega, by omega⟩ hk
  rw [hR] at hh
  simp only at hh
  obtain ⟨mf, hmf⟩ : ∃ mf : Nat, m.mfn = mf := ⟨m.mfn.toNat, by omega⟩
  rw [hmf] at hh hval hfew ⊢
  simp only [Int.toNat_natCast] at hfew ⊢
  have hkd := fun W => kind_calls m.wr W
  have hpt := fun W' (hW : Below W.heap.size W W') => put_calls (h.below hW).g.m mf (by omega) (kindI m.wr) (by unfold kindI; split <;> omega) (by unfold kindI; split <;> omega) hfew
  have hki : ∀ b : Bool, kindI b = if b then 1 else 0 := fun _ => rfl
  have HG := Base.Aside.mk (And.intro h hm2)
  have hgl := blk_lt h.g.g.blk
  have lfb := h.g.m.lt.2
  have ngf : gb ≠ fb := by obtain ⟨cs, q1, q2⟩ := h.g.m.lst; exact fun e => bne h.g.g.blk q1 (by decide) e
  have S0 : ∀ W', Below W.heap.size W W' → W'.cell? ⟨gb, 0, none⟩ = some (.pointer (some ⟨mb, 0, none⟩)) := fun W' hW => blk_cell (h.below hW).g.g.blk 0
  generalize hkk : kindI m.wr = kk at hpt ⊢
  have hkd2 : ∀ W, Calls Try.prog 61 #[.bool m.wr] W fun e w' => e = .returned (.int .i64 kk) ∧ w' = W := fun W => by rw [← hkk]; exact hkd W
  clear h hm2 hkd hki hkk hR
  go_enter Try.func23, Try.ntmps23
  go_wp2_with (first
    | (go_at_call 62; refine hh.mono ?_; rintro z w1 ⟨rfl, hB1⟩; have E1 := Base.Aside.mk hB1; clear hB1)
    | go_in)
  refine wp_world (fun W2 => Below W.heap.size W W2 ∧ W2.heap[w1.heap.size]? = some (.cells #[.int .i64 m.h, .int .i64 m.caller, .int .i64 m.owner, .int .i64 m.ref, .int .i64 mf, .bool m.wr] 135 (0, 0))) ⟨below_alloc E1.out _, blk_new _ _⟩ ?_
  intro W2 ⟨hb2, hx2⟩
  have k0 := S0 _ hb2
  have C2 := fun i => blk_cell hx2 i
  have k4 : W2.cell? ⟨w1.heap.size, 4, none⟩ = some (.int .i64 mf) := blk_cell hx2 4
  have k5 : W2.cell? ⟨w1.heap.size, 5, none⟩ = some (.bool m.wr) := blk_cell hx2 5
  have L2 := blk_lt hx2
  have L3 := Nat.lt_of_lt_of_le hgl hb2.size
  have S3 : ∀ Wx w3, Below W2.heap.size W2 Wx → Chg (fun x => x = fb) Wx w3 → w3.cell? ⟨gb, 0, none⟩ = some (.pointer (some ⟨mb, 0, none⟩)) ∧ w3.cell? ⟨w1.heap.size, 4, none⟩ = some (.int .i64 mf) ∧ w3.cell? ⟨w1.heap.size, 5, none⟩ = some (.bool m.wr) := by
    intro Wx w3 hb hc
    have hbx : Below W.heap.size W Wx := hb2.trans (hb.mono hb2.size)
    have n1 : gb ≠ fb := ngf
    have n2 : w1.heap.size ≠ fb := by have := E1.out.size; omega
    have hy : Wx.heap[w1.heap.size]? = _ := (hb.block _ L2).trans hx2
    have hz := hc.blk hy n2
    exact ⟨blk_cell (hc.blk (HG.out.1.below hbx).g.g.blk n1) 0, blk_cell hz 4, blk_cell hz 5⟩
  have E2 := Base.Aside.mk (And.intro hb2 hx2)
  clear hb2 hx2 C2 hgl
  go_cut [] from 18 to 27 (fun wx => Base.Aside (GX wx gb mm hm mb fb (putS s mf kk) f c pi F n ∧ Chg (fun x => x = fb) W wx))
  case first =>
    go_region_held3 (fun W' => W'.cell? ⟨gb, 0, none⟩ = some (.pointer (some ⟨mb, 0, none⟩)) ∧ W'.cell? ⟨w1.heap.size, 4, none⟩ = some (.int .i64 mf) ∧ W'.cell? ⟨w1.heap.size, 5, none⟩ = some (.bool m.wr))
      (first
        | go_keep
        | exact ⟨k0, k4, k5⟩
        | (refine S3 _ _ ?_ E3.out.2; (repeat (with_reducible first | exact Below.refl _ _ | refine below_drew ?_ | refine below_alloc ?_ _)); done))
      ((first
        | (go_at_call 61; (with_reducible refine (hkd2 _).mono ?_); rintro z w3 ⟨rfl, hw3⟩; obtain rfl := hw3.symm)
        | (go_at_call 63; (with_reducible refine (hpt _ ?_).mono ?_); (focus (repeat (with_reducible first | exact E2.out.1 | refine below_drew ?_ | refine below_alloc ?_ _))); rintro z w3 ⟨rfl, hM3, hC3⟩; have E3 := Base.Aside.mk (And.intro hM3 hC3); clear hM3 hC3)))
    all_goals
      go_wp2_with fail
      go_meet
    case rel =>
      refine ⟨(HG.out.1.below ?_).mach E3.out.1 (putS_n _ _ _) E3.out.2, (Chg.below _ ?_).trans E3.out.2⟩
      all_goals (repeat (with_reducible first | exact E2.out.1 | refine below_drew ?_ | refine below_alloc ?_ _))
  case rest =>
    have okp : ok (d, k) := ⟨by unfold okI; omega, hk⟩
    have EC := Base.Aside.mk hcut.out
    have CC := fun i => blk_cell hcut.out.1.g.g.blk i
    have LC := blk_lt hcut.out.1.g.g.blk
    clear hcut
    go_wp2_with (first
      | (at_delete; go_loud (refine wpK_delete rfl rfl _ _ rfl ((EC.out.1.below (by (repeat (with_reducible first | exact Below.refl _ _ | refine below_drew ?_ | refine below_alloc ?_ _)))).h) (d, k) okp (by rw [HG.out.2]; rfl) (by go_simp) (by go_simp; rfl) ?_); intro w5 hK5 hC5; have E5 := Base.Aside.mk (And.intro hK5 hC5); clear hK5 hC5)
      | go_in)
    go_ret
    refine ⟨by first | rfl | (simp; done), (EC.out.1.below ?_).maps E5.out.1 E5.out.2, ((EC.out.2.mono fun _ h => .inl h).trans (Chg.below _ ?_)).trans (E5.out.2.mono fun _ h => .inr h)⟩
    all_goals (repeat (with_reducible first | exact Below.refl _ _ | refine below_drew ?_ | refine below_alloc ?_ _))
end
end Go.Proofs.Ytjeobbhaoahdcaa.GjC
namespace Go.Proofs.Ytjeobbhaoahdcaa.GjD
open Go.RowKit Go.Maps Go.Proofs.Ytjeobbhaoahdcaa.Base Go.Proofs.Ytjeobbhaoahdcaa.GaA Go.Proofs.Ytjeobbhaoahdcaa.GaB Go.Proofs.Ytjeobbhaoahdcaa.GaC Go.Proofs.Ytjeobbhaoahdcaa.GmA Go.Proofs.Ytjeobbhaoahdcaa.GmB Go.Proofs.Ytjeobbhaoahdcaa.GmC Go.Proofs.Ytjeobbhaoahdcaa.GpA Go.Proofs.Ytjeobbhaoahdcaa.GgA Go.Proofs.Ytjeobbhaoahdcaa.GvA Go.Proofs.Ytjeobbhaoahdcaa.GeA Go.Proofs.Ytjeobbhaoahdcaa.GfA Go.Proofs.Ytjeobbhaoahdcaa.GfB Go.Proofs.Ytjeobbhaoahdcaa.GfC Go.Proofs.Ytjeobbhaoahdcaa.GfD Go.Proofs.Ytjeobbhaoahdcaa.GfH Go.Proofs.Ytjeobbhaoahdcaa.GjA Go.Proofs.Ytjeobbhaoahdcaa.GjB
set_option linter.unusedVariables false
set_option linter.unusedSimpArgs false

/-- Is the map at k one of d's frames? -/
def ownIs (F : Int × Int → Option Mp) (d : Int) (k : Int × Int) : Bool := match F k with | some m => m.owner == d | none => false
/-- The keys in use, each once. -/
structure Keys (F : Int × Int → Option Mp) (L : List (Int × Int)) : Prop where
  nodup : L.Nodup
  ok : ∀ k ∈ L, ok k
  mem : ∀ k, GmB.ok k → ((F k).isSome = true ↔ k ∈ L)
noncomputable def seen (L : List (Int × Int)) (F : Int × Int → Option Mp) (d : Int) (left : Lit → Bool) : Nat := L.countP fun k => ownIs F d k && !left (kl k)
theorem kl_same {p q : Int × Int} (hp : ok p) (hq : ok q) : (kl p).sameKey (kl q) = decide (p = q) := by
  by_cases e : p = q
  · subst e
    rw [WideAt.sameKey_self (kl_key hp)]
    simp
  · cases hs : (kl p).sameKey (kl q)
    · simp [e]
    · exact absurd (WideAt.sameKey_eq hs) (kl_ne hp hq e)
theorem seen_none (L : List (Int × Int)) (F : Int × Int → Option Mp) (d : Int) (left : Lit → Bool) (h : ∀ k ∈ L, left (kl k) = true) : seen L F d left = 0 := by
  unfold seen
  rw [List.countP_eq_zero]
  intro k hk
  rw [h k hk]
  simp
theorem seen_all (L : List (Int × Int)) (F : Int × Int → Option Mp) (d : Int) (left : Lit → Bool) (h : ∀ l, left l = false) : seen L F d left = L.countP (ownIs F d) := by
  unfold seen
  congr 1
  funext k
  rw [h]
  simp
theorem seen_le (L : List (Int × Int)) (F : Int × Int → Option Mp) (d : Int) (left : Lit → Bool) : seen L F d left ≤ L.length := List.countP_le_length
theorem seen_off {L : List (Int × Int)} {F : Int × Int → Option Mp} (d : Int) (left : Lit → Bool) {p : Int × Int} (hok : ∀ k ∈ L, ok k) (hp : ok p) (hn : p ∉ L) : seen L F d (fun z => left z && !z.sameKey (kl p)) = seen L F d left := by
  unfold seen
  refine List.countP_congr fun k hk => ?_
  dsimp only
  rw [kl_same (hok k hk) hp]
  have : k ≠ p := fun e => hn (e ▸ hk)
  simp [this]
theorem seen_step {F : Int × Int → Option Mp} (d : Int) {left : Lit → Bool} {p : Int × Int} (hp : ok p) (hl : left (kl p) = true) : ∀ {L : List (Int × Int)}, L.Nodup → (∀ k ∈ L, ok k) → p ∈ L →
    seen L F d (fun z => left z && !z.sameKey (kl p)) = seen L F d left + (if ownIs F d p = true then 1 else 0)
  | [], _, _, h => by cases h
  | x :: L, hN, hO, hm => by
    obtain ⟨n1, n2⟩ := List.nodup_cons.1 hN
    by_cases e : x = p
    · subst e
      have := seen_off (F := F) d left (fun k hk => hO k (List.mem_cons_of_mem _ hk)) hp n1
      unfold seen at this ⊢
      rw [List.countP_cons, List.countP_cons, this]
      simp [kl_same hp hp, hl]
    · have ih := seen_step (F := F) d hp hl n2 (fun k hk => hO k (List.mem_cons_of_mem _ hk)) ((List.mem_cons.1 hm).resolve_left fun h => e h.symm)
      unfold seen at ih ⊢
      rw [List.countP_cons, List.countP_cons, ih]
      simp [kl_same (hO x (List.mem_cons_self ..)) hp, e]
      omega
section
variable {w w' W W' : World} {gb mm hm mb fb : Nat} {f : Int → Option (Int × Nat)} {c : Nat} {s s' : MS} {pi : Nat → PI} {F : Int × Int → Option Mp} {n : Nat} {vb db r r' : Nat}
set_option maxHeartbeats 8000000 in
set_option maxRecDepth 100000 in
theorem foreign_calls (h : GX W gb mm hm mb fb s f c pi F n) (d : Int) {L : List (Int × Int)} (hL : Keys F L) (hlen : L.length < 1000000) : Calls Try.prog 25 #[.pointer (some ⟨gb, 0, none⟩), .int .i64 d] W fun e w' =>
    e = .returned (.int .i64 (L.countP (ownIs F d) : Nat)) ∧ Below W.heap.size W w' := by
  have hn := GgA.none_calls h.g.g
  have C0 := fun i => blk_cell h.g.g.blk i
  have L0 := blk_lt h.g.g.blk
  have hbl := h.h.lt
  obtain ⟨D, hown, hsz, hhas, hat⟩ := h.h
  have HA := Base.Aside.mk (And.intro hhas hat)
  have HL := Base.Aside.mk hL
  clear hhas hat hL
  go_enter Try.func25, Try.ntmps25
  go_wp2_with (first
    | (go_at_call 53; refine hn.mono ?_; rintro z w1 ⟨rfl, hw1⟩; obtain rfl := hw1.symm)
    | (at_range; refine wpList_range_own _ rfl _ 76 rfl 137 135 keyed Try.underlying76 hmv hm n D rfl hown ?_; intro w0 hrg0 hg0 hs0)
    | go_in)
  go_frame
  go_loopw [5] (fun v wr => ∃ (left : Lit → Bool) (cnt : Nat), v = .int .i64 (seen L F d left : Nat) ∧ Base.Aside (wr.ranges Try.prog 137 hmv hm W.heap.size n D left cnt ∧ Below W.heap.size W wr ∧ ∀ l, left l = true → Maps.has D l = true))
    (fun _ wr => wr.rangeLeft hm W.heap.size)
  case atStart =>
    refine ⟨_, _, ?_, ⟨hrg0, (Below.refl _ _).grown hg0 (Nat.le_refl _) (fun j hj => by cases hj), fun l h => h⟩⟩
    rw [seen_none]
    · rfl
    · intro k hk
      have hk2 := HL.out.ok k hk
      rw [HA.out.1 k hk2]
      exact (HL.out.mem k hk2).2 hk
  case round =>
    obtain ⟨left, cnt, rfl, hR⟩ := hrel
    have hsl := seen_le L F d left
    go_wp2_with (first
      | (at_next; refine wpList_next_ranges _ rfl _ rfl 137 keyed hmv kv mpv (fun key l hk => by obtain ⟨p, _, hp⟩ := key_inv hk; exact ⟨p, hp⟩) (fun v y hv => by obtain ⟨m, hm, _⟩ := hmv_inv hv; exact ⟨m, hm⟩) hm W.heap.size n _ _ _ rfl hR.out.1 ?_ ?_)
      | go_in)
    · intro hc0 hl0
      go_wp2
      go_ret
      refine ⟨by rw [seen_all _ _ _ _ hl0]; rfl, hR.out.2.1⟩
    · intro p1 p2 m l y1 y2 w2 cnt2 hkey hlk hv hat hrg2 hlt hg2 hs2 hen
      obtain ⟨p', hpo, hpp⟩ := key_inv hkey
      obtain rfl := kv_inj hpp
      generalize hpe : (p1, p2) = p at hkey hpo hen hpp ⊢
      obtain rfl := kl_of hpo hkey
      obtain ⟨m', hm', hy⟩ := hmv_inv hv
      obtain rfl := mpv_inj hm'
      obtain ⟨rfl, rfl⟩ := Prod.mk.inj hy
      have hhp := HA.out.1 p hpo
      rw [hR.out.2.2 _ hlk] at hhp
      have hF : F p = some m := by
        cases hf : F p with
        | none => rw [hf] at hhp; cases hhp
        | some m2 =>
          have h1 := hat (.held (mpv m))
          rw [HA.out.2 p _ hpo, hf] at h1
          have h2 : mpv m2 = mpv m := DataW.held.inj h1
          rw [mpv_inj h2]
      have hin : p ∈ L := (HL.out.mem p hpo).1 (by rw [hF]; rfl)
      have hst := seen_step (F := F) d hpo hlk HL.out.nodup HL.out.ok hin
      have how : ownIs F d p = (m.owner == d) := by unfold ownIs; rw [hF]
      rw [how] at hst
      have hb2 := Below.grown hR.out.2.1 hg2 hR.out.2.1.size (fun j hj => by cases hj; exact Nat.le_refl _)
      have hst2 := Base.Aside.mk hst
      have hq2 := Base.Aside.mk (And.intro hrg2 hb2)
      unfold kv mpv at hen
      clear hst hrg2 hb2 hat hkey hv hm' hhp how hin hs2 hg2 hF hpp
      by_cases ho : m.owner = d
      · subst ho
        go_wp2
        go_roundw
        case rel => exact ⟨_, cnt2, by rw [hst2.out]; simp, ⟨hq2.out.1.alloc _, below_alloc hq2.out.2 _, fun l hl => hR.out.2.2 l (by simp only [Bool.and_eq_true] at hl; exact hl.1)⟩⟩
        case measure => rw [(hq2.out.1.alloc _).left_eq, hR.out.1.left_eq]; exact hlt
      · go_wp2
        go_roundw
        case rel => exact ⟨_, cnt2, by rw [hst2.out]; simp [ho], ⟨hq2.out.1.alloc _, below_alloc hq2.out.2 _, fun l hl => hR.out.2.2 l (by simp only [Bool.and_eq_true] at hl; exact hl.1)⟩⟩
        case measure => rw [(hq2.out.1.alloc _).left_eq, hR.out.1.left_eq]; exact hlt
end
end Go.Proofs.Ytjeobbhaoahdcaa.GjD
namespace Go.Proofs.Ytjeobbhaoahdcaa.GjE
open Go.RowKit Go.Maps Go.Proofs.Ytjeobbhaoahdcaa.Base Go.Proofs.Ytjeobbhaoahdcaa.GaA Go.Proofs.Ytjeobbhaoahdcaa.GaB Go.Proofs.Ytjeobbhaoahdcaa.GaC Go.Proofs.Ytjeobbhaoahdcaa.GmA Go.Proofs.Ytjeobbhaoahdcaa.GmB Go.Proofs.Ytjeobbhaoahdcaa.GmC Go.Proofs.Ytjeobbhaoahdcaa.GpA Go.Proofs.Ytjeobbhaoahdcaa.GgA Go.Proofs.Ytjeobbhaoahdcaa.GvA Go.Proofs.Ytjeobbhaoahdcaa.GeA Go.Proofs.Ytjeobbhaoahdcaa.GfA Go.Proofs.Ytjeobbhaoahdcaa.GfB Go.Proofs.Ytjeobbhaoahdcaa.GfC Go.Proofs.Ytjeobbhaoahdcaa.GfD Go.Proofs.Ytjeobbhaoahdcaa.GfH Go.Proofs.Ytjeobbhaoahdcaa.GjA Go.Proofs.Ytjeobbhaoahdcaa.GjB
set_option linter.unusedVariables false
set_option linter.unusedSimpArgs false

/-- The first number from h on that the list does not go on with. -/
def lead : Nat → List Mp → Nat
  | h, [] => h
  | h, m :: t => if m.h = h then lead (h + 1) t else h
theorem lead_le : ∀ (L : List Mp) (h : Nat), lead h L ≤ h + L.length
  | [], h => by simp [lead]
  | m :: t, h => by
    have := lead_le t (h + 1)
    simp only [lead, List.length_cons]
    split <;> omega
theorem lead_snoc (m : Mp) : ∀ (L : List Mp) (h : Nat), lead h (L ++ [m]) = if lead h L = h + L.length then (if m.h = ((h + L.length : Nat) : Int) then h + L.length + 1 else h + L.length) else lead h L
  | [], h => by simp [lead]
  | x :: t, h => by
    have ih := lead_snoc m t (h + 1)
    have hl := lead_le t (h + 1)
    simp only [lead, List.cons_append, List.length_cons]
    by_cases e : x.h = h
    · rw [if_pos e, if_pos e, ih]
      have e2 : h + 1 + t.length = h + (t.length + 1) := by omega
      rw [e2]
    · rw [if_neg e, if_neg e, if_neg (by omega)]
theorem lead_step (L : List Mp) (k : Nat) (hk : k < L.length) : lead k (L.drop k) = if (L[k]).h = k then lead (k + 1) (L.drop (k + 1)) else k := by
  rw [List.drop_eq_getElem_cons hk, lead]
theorem lead_spec {F : Int × Int → Option Mp} (hF : ∀ c h m, F (c, h) = some m → m.h = h) (c : Int) : ∀ k : Nat, lead 0 (mapsL F c k) ≤ k ∧ (∀ i : Nat, i < lead 0 (mapsL F c k) → (F (c, (i : Int))).isSome = true) ∧
    (lead 0 (mapsL F c k) < k → F (c, (lead 0 (mapsL F c k) : Nat)) = none) ∧ ((mapsL F c k).length = k → lead 0 (mapsL F c k) = k)
  | 0 => ⟨Nat.le_refl _, fun i hi => absurd hi (Nat.not_lt_zero i), fun h => absurd h (Nat.not_lt_zero _), fun _ => rfl⟩
  | k + 1 => by
    obtain ⟨i1, i2, i3, i4⟩ := lead_spec hF c k
    have hl := mapsL_len F c k
    have h0 := lead_le (mapsL F c k) 0
    cases hf : F (c, (k : Int)) with
    | none =>
      rw [mapsL_miss hf]
      refine ⟨by omega, i2, fun h => ?_, fun h => by omega⟩
      by_cases e : lead 0 (mapsL F c k) = k
      · rw [e]; exact hf
      · exact i3 (by omega)
    | some m =>
      have hm := hF _ _ _ hf
      rw [mapsL_hit hf, lead_snoc, hm]
      simp only [Nat.zero_add] at *
      rw [List.length_append]
      simp only [List.length_singleton]
      by_cases e1 : lead 0 (mapsL F c k) = (mapsL F c k).length
      · rw [if_pos e1]
        by_cases e2 : (k : Int) = ((mapsL F c k).length : Nat)
        · rw [if_pos e2]
          refine ⟨by omega, fun i hi => ?_, fun h => by omega, fun h => by omega⟩
          by_cases e3 : i = k
          · rw [e3, hf]; rfl
          · exact i2 i (by omega)
        · rw [if_neg e2, ← e1]
          exact ⟨by omega, i2, fun h => i3 (by omega), fun h => by omega⟩
      · rw [if_neg e1]
        refine ⟨by omega, i2, fun h => i3 ?_, fun h => ?_⟩
        · by_cases e3 : lead 0 (mapsL F c k) = k
          · omega
          · omega
        · have := i4 (by omega)
          omega
/-- A row of maps in memory: their handles. -/
def MRow (N : Nat) (W : World) (A : Option Addr) (L : List Mp) : Prop :=
  (A = none ∧ L = []) ∨ ∃ g cs, A = some ⟨g, 0, none⟩ ∧ N ≤ g ∧ W.heap[g]? = some (.cells cs 135 (0, 0)) ∧ ∀ j (hj : j < L.length), cs[6 * j]? = some (.int .i64 (L[j]).h)
theorem flat_at : ∀ (L : List Mp) (j : Nat) (hj : j < L.length), (L.flatMap mcells)[6 * j]? = some (.int .i64 (L[j]).h)
  | [], j, hj => absurd hj (Nat.not_lt_zero _)
  | m :: t, 0, hj => rfl
  | m :: t, j + 1, hj => by
    have ih := flat_at t j (by simpa using hj)
    rw [List.flatMap_cons, List.getElem?_append_right (by simp [mcells]; omega)]
    have e : 6 * (j + 1) - (mcells m).length = 6 * j := by simp [mcells]; omega
    rw [e, ih]
    rfl
theorem mrow_of {N : Nat} {W : World} {v : Value} {L : List Mp} (h : W.ownsRow N 135 6 v L.length (L.flatMap mcells)) : ∃ A c, v = .slice A L.length c ∧ MRow N W A L := by
  obtain ⟨h1, ⟨rfl, h2⟩ | ⟨g, cap, cur, rfl, hb, hg, q1, q2, q3, q4⟩⟩ := h
  · have : L = [] := List.length_eq_zero_iff.1 h2
    subst this
    exact ⟨none, 0, rfl, .inl ⟨rfl, rfl⟩⟩
  · refine ⟨_, cap, rfl, .inr ⟨g, cur, rfl, hb, hg, fun j hj => ?_⟩⟩
    rw [← flat_at L j hj, ← q4, List.getElem?_take, if_pos (by omega), Array.getElem?_toList]
theorem MRow.chg {N : Nat} {W W' : World} {A : Option Addr} {L : List Mp} {F : Nat → Prop} (h : MRow N W A L) (hc : Chg F W W') (hF : ∀ x, F x → x < N) : MRow N W' A L := by
  rcases h with h | ⟨g, cs, h1, h2, h3, h4⟩
  · exact .inl h
  · exact .inr ⟨g, cs, h1, h2, hc.blk h3 (fun hf => by have := hF g hf; omega), h4⟩
theorem MRow.below {N : Nat} {W W' : World} {A : Option Addr} {L : List Mp} (h : MRow N W A L) (hb : Below W.heap.size W W') : MRow N W' A L := h.chg (Chg.below (fun _ => False) hb) (fun x hx => hx.elim)
end Go.Proofs.Ytjeobbhaoahdcaa.GjE
namespace Go.Proofs.Ytjeobbhaoahdcaa.GjF
open Go.RowKit Go.Maps Go.Proofs.Ytjeobbhaoahdcaa.Base Go.Proofs.Ytjeobbhaoahdcaa.GaA Go.Proofs.Ytjeobbhaoahdcaa.GaB Go.Proofs.Ytjeobbhaoahdcaa.GaC Go.Proofs.Ytjeobbhaoahdcaa.GmA Go.Proofs.Ytjeobbhaoahdcaa.GmB Go.Proofs.Ytjeobbhaoahdcaa.GmC Go.Proofs.Ytjeobbhaoahdcaa.GpA Go.Proofs.Ytjeobbhaoahdcaa.GgA Go.Proofs.Ytjeobbhaoahdcaa.GvA Go.Proofs.Ytjeobbhaoahdcaa.GeA Go.Proofs.Ytjeobbhaoahdcaa.GeB Go.Proofs.Ytjeobbhaoahdcaa.GfA Go.Proofs.Ytjeobbhaoahdcaa.GfB Go.Proofs.Ytjeobbhaoahdcaa.GfC Go.Proofs.Ytjeobbhaoahdcaa.GfD Go.Proofs.Ytjeobbhaoahdcaa.GfH Go.Proofs.Ytjeobbhaoahdcaa.GjA Go.Proofs.Ytjeobbhaoahdcaa.GjB Go.Proofs.Ytjeobbhaoahdcaa.GjC Go.Proofs.Ytjeobbhaoahdcaa.GjE
set_option linter.unusedVariables false
set_option linter.unusedSimpArgs false

section
variable {w w' W W' : World} {gb mm hm mb fb : Nat} {f : Int → Option (Int × Nat)} {c : Nat} {s s' : MS} {pi : Nat → PI} {F : Int × Int → Option Mp} {n : Nat} {vb db r r' : Nat}
theorem getS_n (s : MS) (k : Nat) (o kind : Int) : (getS s k o kind).n = s.n := by unfold getS; split <;> rfl
/-- What Map leaves behind. -/
def MapOut (W : World) (gb mm hm mb fb vb db : Nat) (s : MS) (f : Int → Option (Int × Nat)) (c : Nat) (pi : Nat → PI) (F : Int × Int → Option Mp) (n r : Nat) (a er : Int) (e : Ending) (w' : World) : Prop :=
  e = .returned (.tuple #[.int .i64 a, .int .i64 er]) ∧ GX w' gb mm hm mb fb s f c pi F n ∧ V2 w' vb db mb r ∧ Chg (fun x => x = vb ∨ x = fb ∨ x = hm) W w'
set_option maxHeartbeats 8000000 in
set_option maxRecDepth 100000 in
theorem map_ok (h : GX W gb mm hm mb fb s f c pi F n) (hV : V2 W vb db mb r) (hr : 0 ≤ r) (hdb : db ≠ hm) (hn : n < 1000000) (caller : Int) (hc : 0 ≤ caller ∧ caller < 8) (owner : Int) (k pb : Nat) (hd : f owner = some ((k : Int), pb)) (ref : Nat) (h32 : ref < 32) (wr : Bool)
    (hlen : (mapsL F caller 16).length < 16) (hfree : F (caller, (lead 0 (mapsL F caller 16) : Nat)) = none)
    (hpe : permE (ent s k ref) caller = 0) (hsb : (entG (ent s k ref)).sb = false) (hro : (wr && (entG (ent s k ref)).ro) = false)
    (mfn : Nat) (hfm : frameR s (pi pb).size (pi pb).fr owner (entG (ent s k ref)).gp = ((mfn : Int), 0)) (hmn : mfn < s.n) (hfew : Fr.few (s.fr mfn)) (hge : getE (s.fr mfn) owner (kindI wr) = 0) :
    Calls Try.prog 22 #[.pointer (some ⟨gb, 0, none⟩), .pointer (some ⟨vb, 0, none⟩), .int .i64 caller, .int .i64 owner, .int .i64 ref, .bool wr] W
      (MapOut W gb mm hm mb fb vb db (getS s mfn owner (kindI wr)) f c pi (kput F (caller, (lead 0 (mapsL F caller 16) : Nat)) ⟨(lead 0 (mapsL F caller 16) : Nat), caller, owner, ref, mfn, wr⟩) (n + 1) (r + 1) (lead 0 (mapsL F caller 16) : Nat) 0) := by
  have hno := GgA.none_calls h.g.g
  have hun := unmade_calls hV
  have hdo := GgA.domain_in caller hc.1 hc.2
  have ho8 : 0 ≤ owner ∧ owner < 8 := (h.g.d owner _ hd).1
  have hkn : k < s.n := by obtain ⟨k2, e1, e2⟩ := (h.g.d owner _ hd).2; simp only at e1; omega
  have hjo := joined_any h.g.g owner ⟨by omega, by omega⟩
  rw [hd] at hjo
  simp only [Option.isSome_some] at hjo
  have hsl : slotB (ref : Int) = true := by unfold slotB; simp; omega
  have hso := slot_any ref
  rw [hsl] at hso
  have hma := fun W' (hW : Below W.heap.size W W') => maps_calls (h.below hW) caller ⟨by omega, by omega⟩
  have hpm := fun W' (hW : Below W.heap.size W W') => permit_any (h.below hW).g.g (h.below hW).g.m (hV.below hW) hr owner ho8.1 ho8.2 k pb hd hkn ref h32 caller
  rw [hpe] at hpm
  have hfr := fun W' (hW : Vw vb db mb W W' (r + 1)) => GfA.frame_calls (h.vw hV hW).g.g (h.vw hV hW).g.m ((h.vw hV hW).g.p owner _ hd).1 ((h.vw hV hW).g.p owner _ hd).2 owner ho8.1 ho8.2 k hd (entG (ent s k ref)).gp
  simp only [hfm] at hfr
  generalize entG (ent s k ref) = g at hpm hfr hsb hro
  unfold aggv at hpm
  have hll := lead_le (mapsL F caller 16) 0
  have hVlt := blk_lt hV.blk
  have hDlt := hV.due.lt
  have hGlt := blk_lt h.g.g.blk
  have hkd := fun W => kind_calls wr W
  have hk0 : 0 ≤ kindI wr := by unfold kindI; split <;> omega
  have hk3 : kindI wr ≤ 3 := by unfold kindI; split <;> omega
  have hki : kindI wr = if wr then 1 else 0 := rfl
  generalize hkk : kindI wr = kk at hk0 hk3 hki hge ⊢
  have hkd2 : ∀ W, Calls Try.prog 61 #[.bool wr] W fun e w' => e = .returned (.int .i64 kk) ∧ w' = W := fun W => by rw [hki]; exact hkd W
  clear hkd hki hkk
  have hvh := bnk hV.blk h.h
  generalize hLL : mapsL F caller 16 = L at hlen hll hfree ⊢
  have HG := Base.Aside.mk (And.intro h (And.intro hV (And.intro hfree hge)))
  clear h hV hsl hpe hfm hfree hge hd
  obtain ⟨g1, g2, g3, g4, g5, g6, g7⟩ := g
  simp only at hsb hro hpm hfr
  subst hsb
  have hw : wr = false ∨ (wr = true ∧ g2 = false) := by cases wr <;> simp_all
  clear hro
  rcases hw with rfl | ⟨rfl, rfl⟩
  all_goals
    go_enter Try.func22, Try.ntmps22
    go_wp2_with (first
      | (go_at_call 53; refine hno.mono ?_; rintro z w9 ⟨rfl, hw9⟩; obtain rfl := hw9.symm)
      | (go_at_call 54; refine hun.mono ?_; rintro z w9 ⟨rfl, hw9⟩; obtain rfl := hw9.symm)
      | (go_at_call 55; refine (hdo _).mono ?_; rintro z w9 ⟨rfl, hw9⟩; obtain rfl := hw9.symm)
      | (go_at_call 56; refine hjo.mono ?_; rintro z w1 ⟨rfl, hB1⟩; have hma1 := hma w1 hB1; have E1 := Base.Aside.mk hB1; clear hB1)
      | (go_at_call 57; refine (hso _).mono ?_; rintro z w9 ⟨rfl, hw9⟩; obtain rfl := hw9.symm)
      | (go_at_call 24; refine hma1.mono ?_; rintro z w2 ⟨v, rfl, hr2, hB2⟩; rw [hLL] at hr2; obtain ⟨A, cA, rfl, hM2⟩ := mrow_of hr2; have hpm2 := hpm w2 (E1.out.trans (hB2.mono E1.out.size)); have E2 := Base.Aside.mk (And.intro (E1.out.trans (hB2.mono E1.out.size)) hM2); clear hB2 hr2 hM2)
      | (go_at_call 58; refine hpm2.mono ?_; rintro z w3 ⟨rfl, hv3⟩; have hv4 := Vw.pre E2.out.1 hVlt hDlt hv3; have hx3 := fun cs => blk_new w3 (.cells cs 53); have hfr2 := fun cs => hfr _ (hv4.alloc (.cells cs 53)); have E3 := Base.Aside.mk (And.intro hv4 (E2.out.2.chg hv3.c (fun x hx => by have := E1.out.size; omega))); clear hv3 hv4)
      | (go_at_call 59; refine (hfr2 _).mono ?_; rintro z w5 ⟨rfl, hB5⟩; have E5 := Base.Aside.mk (And.intro (E3.out.1.alloc _ |>.below hB5) ((E3.out.2.below (below_alloc (Below.refl _ _) _)).below hB5)); clear hB5)
      | go_in)
    have V5 := E5.out.1
    have G5 := HG.out.1.vw HG.out.2.1 V5
    have k0 : w5.cell? ⟨gb, 0, none⟩ = some (.pointer (some ⟨mb, 0, none⟩)) := blk_cell G5.g.g.blk 0
    have L5 := blk_lt G5.g.g.blk
    have hgt := fun W' (hW : Below w5.heap.size w5 W') => get_calls (G5.g.m.below hW) mfn hmn owner kk hk0 hk3 hfew
    have S3 : ∀ Wx w3, Below w5.heap.size w5 Wx → Chg (fun x => x = fb) Wx w3 → w3.cell? ⟨gb, 0, none⟩ = some (.pointer (some ⟨mb, 0, none⟩)) := by
      intro Wx w3 hb hc
      obtain ⟨cs, q1, q2⟩ := (G5.below hb).g.m.lst
      exact blk_cell (hc.blk (G5.below hb).g.g.blk (bne (G5.below hb).g.g.blk q1 (by decide))) 0
    have R6 : ∀ Wx w6, Below w5.heap.size w5 Wx → Mach w6 mb fb (getS s mfn owner kk) → Chg (fun x => x = fb) Wx w6 → GX w6 gb mm hm mb fb (getS s mfn owner kk) f c pi F n ∧ V2 w6 vb db mb (r + 1) ∧ Chg (fun x => x = vb ∨ x = fb) W w6 ∧ MRow w1.heap.size w6 A L := by
      intro Wx w6 hB hM hC
      have q1 := E1.out.size
      have q2 := HG.out.1.g.m.lt.2
      exact ⟨(G5.below hB).mach hM (getS_n _ _ _ _) hC, v2_fb (V5.v.below hB) (G5.below hB).g.m hC, ((V5.c.mono fun _ h => .inl h).trans (Chg.below _ hB)).trans (hC.mono fun _ h => .inr h), (E5.out.2.below hB).chg hC (fun x hx => by omega)⟩
    clear V5 G5
    go_cut [16] from 79 to 87 (fun e wx => e = .int .i64 0 ∧ Base.Aside (GX wx gb mm hm mb fb (getS s mfn owner kk) f c pi F n ∧ V2 wx vb db mb (r + 1) ∧ Chg (fun x => x = vb ∨ x = fb) W wx ∧ MRow w1.heap.size wx A L))
    case first =>
      go_region_held3 (fun W' => W'.cell? ⟨gb, 0, none⟩ = some (.pointer (some ⟨mb, 0, none⟩)))
        (first
          | go_keep
          | exact k0
          | (refine S3 _ _ ?_ E6.out.2; (repeat (with_reducible first | exact Below.refl _ _ | refine below_drew ?_ | refine below_alloc ?_ _)); done))
        ((first
          | (go_at_call 61; (with_reducible refine (hkd2 _).mono ?_); rintro z w6 ⟨rfl, hw6⟩; obtain rfl := hw6.symm)
          | (go_at_call 60; (with_reducible refine (hgt _ ?_).mono ?_); (focus (repeat (with_reducible first | exact Below.refl _ _ | refine below_drew ?_ | refine below_alloc ?_ _))); rintro z w6 ⟨rfl, hM6, hC6⟩; have E6 := Base.Aside.mk (And.intro hM6 hC6); clear hM6 hC6)))
      all_goals
        go_wp2_with fail
        go_meet
      case rel =>
        refine ⟨by rw [HG.out.2.2.2], ⟨R6 _ _ ?_ E6.out.1 E6.out.2⟩⟩
        (repeat (with_reducible first | exact Below.refl _ _ | refine below_drew ?_ | refine below_alloc ?_ _))
    case rest =>
      obtain ⟨rfl, hA⟩ := hcut
      have EC := Base.Aside.mk hA.out
      have CC := fun i => blk_cell hA.out.1.g.g.blk i
      have LC := blk_lt hA.out.1.g.g.blk
      clear hA
      go_wp2
      go_loopw [18] (fun h wr => ∃ j : Nat, h = .int .i64 j ∧ wr = wc ∧ j ≤ L.length ∧ lead 0 L = lead j (L.drop j)) (fun h _ => L.length - (intOf h).toNat)
      case atStart => exact ⟨0, rfl, rfl, Nat.zero_le _, rfl⟩
      case round =>
        obtain ⟨j, rfl, rfl, hjl, hld⟩ := hrel
        have okp : ok (caller, (j : Int)) := ⟨by unfold okI; omega, by unfold okI; omega⟩
        by_cases hj : j < L.length
        · rcases EC.out.2.2.2 with ⟨_, hz⟩ | ⟨g, cs, rfl, hN, hg3, hcs⟩
          · subst hz; simp at hj
          have CG := fun i => blk_cell hg3 i
          have hq := hcs j hj
          have LG := blk_lt hg3
          have hq2 : cs[j * 6]? = some (.int .i64 (L[j]).h) := by rw [Nat.mul_comm]; exact hq
          rw [lead_step L j hj] at hld
          clear hg3 hcs hN
          by_cases e : (L[j]).h = j
          · rw [if_pos e] at hld
            rw [e] at hq hq2
            go_wp2
            go_roundw
            case rel => exact ⟨j + 1, by simp, trivial, by omega, hld⟩
            case measure => simp [intOf]; omega
          · rw [if_neg e] at hld
            have hx := hld
            generalize (L[j]).h = y at hq hq2 e
            go_wp2_with (first
              | (at_mapUpdate; (refine wpK_store rfl rfl _ _ _ rfl (EC.out.1.below (by (repeat (with_reducible first | exact Below.refl _ _ | refine below_drew ?_ | refine below_alloc ?_ _)))).h (caller, (j : Int)) okp ⟨(j : Int), caller, owner, ref, mfn, _⟩ hn (by rw [← hx]; exact HG.out.2.2.1) (by go_simp) (by go_simp; rfl) (by go_simp; rfl) ?_); intro w7 hK7 hC7; have E7 := Base.Aside.mk (And.intro hK7 hC7); clear hK7 hC7)
              | go_in)
            refine bodyPost_ret (v := .tuple #[.int .i64 j, .int .i64 0]) (by simp only [results, Try.results22]; go_simp; try rfl) rfl ?_
            refine ⟨by rw [hx], ?_, ?_, ?_⟩
            · rw [hx]
              refine (EC.out.1.below ?_).maps E7.out.1 E7.out.2
              (repeat (with_reducible first | exact Below.refl _ _ | refine below_drew ?_ | refine below_alloc ?_ _))
            · refine (EC.out.2.1.below ?_).chg E7.out.2 hvh hdb
              (repeat (with_reducible first | exact Below.refl _ _ | refine below_drew ?_ | refine below_alloc ?_ _))
            · refine ((EC.out.2.2.1.mono fun x hx => ?_).trans (Chg.below _ ?_)).trans (E7.out.2.mono fun _ h => .inr (.inr h))
              · rcases hx with hx | hx
                · exact .inl hx
                · exact .inr (.inl hx)
              · (repeat (with_reducible first | exact Below.refl _ _ | refine below_drew ?_ | refine below_alloc ?_ _))
        · have hx : lead 0 L = j := by rw [hld]; obtain rfl : j = L.length := by omega
                                       rw [List.drop_length]; rfl
          clear hld
          go_wp2_with (first
            | (at_mapUpdate; (refine wpK_store rfl rfl _ _ _ rfl (EC.out.1.below (by (repeat (with_reducible first | exact Below.refl _ _ | refine below_drew ?_ | refine below_alloc ?_ _)))).h (caller, (j : Int)) okp ⟨(j : Int), caller, owner, ref, mfn, _⟩ hn (by rw [← hx]; exact HG.out.2.2.1) (by go_simp) (by go_simp; rfl) (by go_simp; rfl) ?_); intro w7 hK7 hC7; have E7 := Base.Aside.mk (And.intro hK7 hC7); clear hK7 hC7)
            | go_in)
          refine bodyPost_ret (v := .tuple #[.int .i64 j, .int .i64 0]) (by simp only [results, Try.results22]; go_simp; try rfl) rfl ?_
          refine ⟨by rw [hx], ?_, ?_, ?_⟩
          · rw [hx]
            refine (EC.out.1.below ?_).maps E7.out.1 E7.out.2
            (repeat (with_reducible first | exact Below.refl _ _ | refine below_drew ?_ | refine below_alloc ?_ _))
          · refine (EC.out.2.1.below ?_).chg E7.out.2 hvh hdb
            (repeat (with_reducible first | exact Below.refl _ _ | refine below_drew ?_ | refine below_alloc ?_ _))
          · refine ((EC.out.2.2.1.mono fun x hx => ?_).trans (Chg.below _ ?_)).trans (E7.out.2.mono fun _ h => .inr (.inr h))
            · rcases hx with hx | hx
              · exact .inl hx
              · exact .inr (.inl hx)
            · (repeat (with_reducible first | exact Below.refl _ _ | refine below_drew ?_ | refine below_alloc ?_ _))
end
end Go.Proofs.Ytjeobbhaoahdcaa.GjF
namespace Go.Proofs.Ytjeobbhaoahdcaa.GjG
open Go.RowKit Go.Maps Go.Proofs.Ytjeobbhaoahdcaa.Base Go.Proofs.Ytjeobbhaoahdcaa.GaA Go.Proofs.Ytjeobbhaoahdcaa.GaB Go.Proofs.Ytjeobbhaoahdcaa.GaC Go.Proofs.Ytjeobbhaoahdcaa.GmA Go.Proofs.Ytjeobbhaoahdcaa.GmB Go.Proofs.Ytjeobbhaoahdcaa.GmC Go.Proofs.Ytjeobbhaoahdcaa.GpA Go.Proofs.Ytjeobbhaoahdcaa.GgA Go.Proofs.Ytjeobbhaoahdcaa.GvA Go.Proofs.Ytjeobbhaoahdcaa.GeA Go.Proofs.Ytjeobbhaoahdcaa.GeB Go.Proofs.Ytjeobbhaoahdcaa.GfA Go.Proofs.Ytjeobbhaoahdcaa.GfB Go.Proofs.Ytjeobbhaoahdcaa.GfC Go.Proofs.Ytjeobbhaoahdcaa.GfD Go.Proofs.Ytjeobbhaoahdcaa.GfH Go.Proofs.Ytjeobbhaoahdcaa.GjA Go.Proofs.Ytjeobbhaoahdcaa.GjB Go.Proofs.Ytjeobbhaoahdcaa.GjC Go.Proofs.Ytjeobbhaoahdcaa.GjE Go.Proofs.Ytjeobbhaoahdcaa.GjF
set_option linter.unusedVariables false
set_option linter.unusedSimpArgs false

section
variable {w w' W W' : World} {gb mm hm mb fb : Nat} {f : Int → Option (Int × Nat)} {c : Nat} {s s' : MS} {pi : Nat → PI} {F : Int × Int → Option Mp} {n : Nat} {vb db r r' : Nat}
set_option maxHeartbeats 8000000 in
set_option maxRecDepth 100000 in
theorem map_full (h : GX W gb mm hm mb fb s f c pi F n) (hV : V2 W vb db mb r) (caller : Int) (hc : 0 ≤ caller ∧ caller < 8) (owner : Int) (k pb : Nat) (hd : f owner = some ((k : Int), pb)) (ref : Nat) (h32 : ref < 32) (wr : Bool)
    (hlen : (mapsL F caller 16).length = 16) :
    Calls Try.prog 22 #[.pointer (some ⟨gb, 0, none⟩), .pointer (some ⟨vb, 0, none⟩), .int .i64 caller, .int .i64 owner, .int .i64 ref, .bool wr] W fun e w' =>
      e = .returned (.tuple #[.int .i64 0, .int .i64 64]) ∧ Below W.heap.size W w' := by
  have hno := GgA.none_calls h.g.g
  have hun := unmade_calls hV
  have hdo := GgA.domain_in caller hc.1 hc.2
  have ho8 : 0 ≤ owner ∧ owner < 8 := (h.g.d owner _ hd).1
  have hjo := joined_any h.g.g owner ⟨by omega, by omega⟩
  rw [hd] at hjo
  simp only [Option.isSome_some] at hjo
  have hsl : slotB (ref : Int) = true := by unfold slotB; simp; omega
  have hso := slot_any ref
  rw [hsl] at hso
  have hma := fun W' (hW : Below W.heap.size W W') => maps_calls (h.below hW) caller ⟨by omega, by omega⟩
  clear h hV hsl hd
  generalize hLL : mapsL F caller 16 = L at hlen
  go_enter Try.func22, Try.ntmps22
  go_wp2_with (first
    | (go_at_call 53; refine hno.mono ?_; rintro z w9 ⟨rfl, hw9⟩; obtain rfl := hw9.symm)
    | (go_at_call 54; refine hun.mono ?_; rintro z w9 ⟨rfl, hw9⟩; obtain rfl := hw9.symm)
    | (go_at_call 55; refine (hdo _).mono ?_; rintro z w9 ⟨rfl, hw9⟩; obtain rfl := hw9.symm)
    | (go_at_call 56; refine hjo.mono ?_; rintro z w1 ⟨rfl, hB1⟩; have hma1 := hma w1 hB1; have E1 := Base.Aside.mk hB1; clear hB1)
    | (go_at_call 57; refine (hso _).mono ?_; rintro z w9 ⟨rfl, hw9⟩; obtain rfl := hw9.symm)
    | (go_at_call 24; refine hma1.mono ?_; rintro z w2 ⟨v, rfl, hr2, hB2⟩; rw [hLL] at hr2; obtain ⟨A, cA, rfl, hM2⟩ := mrow_of hr2; have E2 := Base.Aside.mk (E1.out.trans (hB2.mono E1.out.size)); rw [hlen]; clear hB2 hr2 hM2)
    | go_in)
  refine bodyPost_ret (v := .tuple #[.int .i64 0, .int .i64 64]) (by simp only [results, Try.results22]; go_simp; try rfl) rfl ⟨rfl, E2.out⟩
end
end Go.Proofs.Ytjeobbhaoahdcaa.GjG
