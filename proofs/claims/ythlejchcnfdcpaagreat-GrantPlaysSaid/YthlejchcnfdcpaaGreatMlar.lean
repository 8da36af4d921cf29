/- Proved: Write of a live map (a contract for the laws of the grants). Proved: Leave of a member (a contract for the laws of the grants). Proved: a domain joins, a domain leaves, at every argument (contracts for the laws of the grants). Proved: Revoke, at every argument (contracts for the laws of the grants). -/
import Derived.Test.YthlejchcnfdcpaaGreatMlal
import Derived.Test.YthlejchcnfdcpaaGreatMlan
import Derived.Test.YthlejchcnfdcpaaGreatMlaq
import Derived.IntWalk
namespace Go.Proofs.YthlejchcnfdcpaaGreat.GjI
open Go.RowKit Go.Maps Base GaA GaB GaC GmA GmB GmC GpA GgA GvA GeA GeB GfA GfB GfC GfD GfH GjA GjB GjC GjE GjF GjH
set_option linter.unusedVariables false
set_option linter.unusedSimpArgs false

section
variable {w w' W W' : World} {gb mm hm mb fb : Nat} {f : Int → Option (Int × Nat)} {c : Nat} {s s' : MS} {pi : Nat → PI} {F : Int × Int → Option Mp} {n : Nat} {vb db r r' : Nat}
/-- Why a map is not written. -/
def weE (R : Mp × Int) (off l : Int) : Int := if R.2 ≠ 0 then R.2 else if R.1.wr = false then 62 else if inn off l 256 = false then 63 else 0
set_option maxHeartbeats 8000000 in
set_option maxRecDepth 100000 in
theorem write_no (h : GX W gb mm hm mb fb s f c pi F n) (d k off : Int) (A : Option Addr) (l cap : Nat) (hd : okI d) (hk : okI k) (hne : weE (heldR F d k) off l ≠ 0) :
    Calls Tryz.prog 29 #[.pointer (some ⟨gb, 0, none⟩), .int .i64 d, .int .i64 k, .int .i64 off, .slice A l cap] W fun e w' => e = .returned (.int .i64 (weE (heldR F d k) off l)) ∧ Below W.heap.size W w' := by
  have hh := held_calls h d k hd hk
  have hwi := fun W => within_calls off l 256 (by omega) (by omega) W
  clear h
  generalize heldR F d k = R at hh hne ⊢
  obtain ⟨m, er⟩ := R
  obtain ⟨m1, m2, m3, m4, m5, m6⟩ := m
  simp only at hh
  unfold weE at hne ⊢
  simp only at hne ⊢
  have hcs : (er ≠ 0 ∧ (er == 0) = false) ∨ (er = 0 ∧ m6 = false) ∨ (er = 0 ∧ m6 = true ∧ inn off l 256 = false) := by
    by_cases e : er = 0
    · rw [if_neg (by simp [e])] at hne
      cases m6 with
      | false => exact .inr (.inl ⟨e, rfl⟩)
      | true =>
        rw [if_neg (by simp)] at hne
        refine .inr (.inr ⟨e, rfl, ?_⟩)
        cases hi : inn off l 256 with
        | false => rfl
        | true => rw [hi] at hne; simp at hne
    · exact .inl ⟨e, by simp [e]⟩
  clear hne
  rcases hcs with ⟨h1, h2⟩ | ⟨rfl, rfl⟩ | ⟨rfl, rfl, h2⟩
  · rw [if_pos h1]
    go_enter Tryz.func29, Tryz.ntmps29
    go_wp2_with (first
      | (go_at_call 74; refine hh.mono ?_; rintro z w1 ⟨rfl, hB1⟩; have E1 := Base.Aside.mk hB1; clear hB1)
      | go_in)
    go_ret
    exact ⟨by first | rfl | (simp; done), below_alloc E1.out _⟩
  · rw [if_neg (by simp), if_pos rfl]
    go_enter Tryz.func29, Tryz.ntmps29
    go_wp2_with (first
      | (go_at_call 74; refine hh.mono ?_; rintro z w1 ⟨rfl, hB1⟩; have E1 := Base.Aside.mk hB1; clear hB1)
      | go_in)
    go_ret
    exact ⟨by first | rfl | (simp; done), below_alloc E1.out _⟩
  · rw [if_neg (by simp), if_neg (by simp), if_pos h2]
    rw [h2] at hwi
    go_enter Tryz.func29, Tryz.ntmps29
    go_wp2_with (first
      | (go_at_call 74; refine hh.mono ?_; rintro z w1 ⟨rfl, hB1⟩; have E1 := Base.Aside.mk hB1; clear hB1)
      | (go_at_call 77; refine (hwi _).mono ?_; rintro z w6 ⟨rfl, hw6⟩; obtain rfl := hw6.symm)
      | go_in)
    go_ret
    exact ⟨by first | rfl | (simp; done), below_alloc E1.out _⟩
def WoOut (W : World) (gb mm hm mb fb : Nat) (s : MS) (f : Int → Option (Int × Nat)) (c : Nat) (pi : Nat → PI) (F : Int × Int → Option Mp) (n : Nat) (k off : Int) (zs : List UInt8) (e : Ending) (w' : World) : Prop := e = .returned (.int .i64 (wrE s k off zs.length)) ∧ GX w' gb mm hm mb fb (wrS s k off zs) f c pi F n ∧ Chg (fun x => x = fb) W w'
set_option maxHeartbeats 8000000 in
set_option maxRecDepth 100000 in
theorem write_ok (h : GX W gb mm hm mb fb s f c pi F n) (d k off : Int) (A : Option Addr) (cap : Nat) (zs : List UInt8) (hz : Bytes W A zs) (hd : okI d) (hk : okI k) (m : Mp) (hm2 : heldR F d k = (m, 0)) (hwr : m.wr = true) (hin : inn off zs.length 256 = true) :
    Calls Tryz.prog 29 #[.pointer (some ⟨gb, 0, none⟩), .int .i64 d, .int .i64 k, .int .i64 off, .slice A zs.length cap] W (WoOut W gb mm hm mb fb s f c pi F n m.mfn off zs) := by
  have hh := held_calls h d k hd hk
  rw [hm2] at hh
  simp only at hh
  have hwi := fun W => within_calls off zs.length 256 (by omega) (by omega) W
  rw [hin] at hwi
  rw [hwr] at hh
  have hpw := fun W' (hW : Below W.heap.size W W') => write_any (h.below hW).g.m m.mfn off A zs.length cap zs rfl (hz.below hW)
  have lfb := h.g.m.lt.2
  have ngf : gb ≠ fb := by obtain ⟨cs, q1, q2⟩ := h.g.m.lst; exact fun e => bne h.g.g.blk q1 (by decide) e
  have S0 : ∀ W', Below W.heap.size W W' → W'.cell? ⟨gb, 0, none⟩ = some (.pointer (some ⟨mb, 0, none⟩)) := fun W' hW => blk_cell (h.below hW).g.g.blk 0
  have hgl := blk_lt h.g.g.blk
  have HG := Base.Aside.mk h
  clear h hm2 hin hz
  obtain ⟨m1, m2, m3, m4, m5, m6⟩ := m
  simp only at hh hpw hwr ⊢
  subst hwr
  go_enter Tryz.func29, Tryz.ntmps29
  go_wp2_with (first
    | (go_at_call 74; refine hh.mono ?_; rintro z w1 ⟨rfl, hB1⟩; have E1 := Base.Aside.mk hB1; clear hB1)
    | (go_at_call 77; refine (hwi _).mono ?_; rintro z w6 ⟨rfl, hw6⟩; obtain rfl := hw6.symm)
    | go_in)
  refine wp_world (fun W2 => Below W.heap.size W W2 ∧ W2.heap[w1.heap.size]? = some (.cells #[.int .i64 m1, .int .i64 m2, .int .i64 m3, .int .i64 m4, .int .i64 m5, .bool true] 102 (0, 0))) ⟨below_alloc E1.out _, blk_new _ _⟩ ?_
  intro W2 ⟨hb2, hx2⟩
  have k0 := S0 _ hb2
  have k4 : W2.cell? ⟨w1.heap.size, 4, none⟩ = some (.int .i64 m5) := blk_cell hx2 4
  have L2 := blk_lt hx2
  have L3 := Nat.lt_of_lt_of_le hgl hb2.size
  have S3 : ∀ Wx w3, Below W2.heap.size W2 Wx → Chg (fun x => x = fb) Wx w3 → w3.cell? ⟨gb, 0, none⟩ = some (.pointer (some ⟨mb, 0, none⟩)) ∧ w3.cell? ⟨w1.heap.size, 4, none⟩ = some (.int .i64 m5) := by
    intro Wx w3 hb hc
    have hbx : Below W.heap.size W Wx := hb2.trans (hb.mono hb2.size)
    have n2 : w1.heap.size ≠ fb := by have := E1.out.size; omega
    have hy : Wx.heap[w1.heap.size]? = _ := (hb.block _ L2).trans hx2
    exact ⟨blk_cell (hc.blk (HG.out.below hbx).g.g.blk ngf) 0, blk_cell (hc.blk hy n2) 4⟩
  have E2 := Base.Aside.mk hb2
  clear hb2 hx2 hgl
  go_cut [10] from 34 to 42 (fun v wx => v = .int .i64 (wrE s m5 off zs.length) ∧ Base.Aside (GX wx gb mm hm mb fb (wrS s m5 off zs) f c pi F n ∧ Chg (fun x => x = fb) W wx))
  case first =>
    go_region_held3 (fun W' => W'.cell? ⟨gb, 0, none⟩ = some (.pointer (some ⟨mb, 0, none⟩)) ∧ W'.cell? ⟨w1.heap.size, 4, none⟩ = some (.int .i64 m5))
      (first
        | go_keep
        | exact ⟨k0, k4⟩
        | (refine S3 _ _ ?_ E3.out.2; (repeat (with_reducible first | exact Below.refl _ _ | refine below_drew ?_ | refine below_alloc ?_ _)); done))
      ((first
        | (go_at_call 58; (with_reducible refine (hpw _ ?_).mono ?_); (focus (repeat (with_reducible first | exact E2.out | refine below_drew ?_ | refine below_alloc ?_ _))); rintro z w3 ⟨rfl, hM3, hC3⟩; have E3 := Base.Aside.mk (And.intro hM3 hC3); clear hM3 hC3)))
    all_goals
      go_wp2_with fail
      go_meet
    case rel =>
      refine ⟨rfl, ⟨(HG.out.below ?_).mach E3.out.1 (wrS_n _ _ _ _) E3.out.2, (Chg.below _ ?_).trans E3.out.2⟩⟩
      all_goals (repeat (with_reducible first | exact E2.out | refine below_drew ?_ | refine below_alloc ?_ _))
  case rest =>
    obtain ⟨rfl, hA⟩ := hcut
    go_wp2
    go_ret
    exact ⟨by first | rfl | (simp; done), hA.out.1, hA.out.2⟩
end
end Go.Proofs.YthlejchcnfdcpaaGreat.GjI
namespace Go.Proofs.YthlejchcnfdcpaaGreat.GjK
open Go.RowKit Go.Maps Base GaA GaB GaC GmA GmB GmC GpA GgA GvA GeA GeB GfA GfB GfC GfD GfH GjA GjB GjC GjD GjE GjF GjH
set_option linter.unusedVariables false
set_option linter.unusedSimpArgs false

theorem wpI_delete {P : Program} {w : World} {ops : Array Oper} {rest : List Oper} {o : Oper} {a : Act} {Q : Exit → Act → World → Prop} {M c : Nat} {f : Int → Option Value} (hP : P = Tryz.prog) (hg : o.guard = none) (m x : Operand)
    (hop : o.op = Op.call { callee := Callee.builtin Builtin.delete, args := #[m, x], argTypes := #[114, 3] }) (h : IMap w M f c) (p : Int) (hp : okI p) (hn : (f p).isSome = true)
    (hm : a.eval m = .map (some M)) (hx : a.eval x = .int .i64 p)
    (hK : ∀ w', IMap w' M (del f p) (c - 1) → Chg (fun k => k = M) w w' → wpList P ops Q rest (a.put o.dst (.tuple #[])) w') :
    wpList P ops Q (o :: rest) a w := by
  subst hP
  refine wpList_plain hg fun K' hK' => ?_
  obtain ⟨w', hrun, r1, r2⟩ := h.drop Tryz.underlying114 p hp.1 hp.2 hn o.type
  unfold Oper.wp
  simp [execOp, hop, resolve, invoke, builtin, hm, hx, hrun, Result.andThen]
  exact hK' _ _ (hK w' r1 r2)
def mdel (f : Int → Option (Int × Nat)) (d : Int) : Int → Option (Int × Nat) := fun x => if x = d then none else f x
theorem mvs_del (f : Int → Option (Int × Nat)) (d : Int) : del (mvs f) d = mvs (mdel f d) := by
  funext x
  unfold del mvs mdel
  split <;> rfl
theorem mdel_some {f : Int → Option (Int × Nat)} {d y : Int} {x : Int × Nat} (h : mdel f d y = some x) : f y = some x := by
  unfold mdel at h
  split at h
  · cases h
  · exact h
section
variable {w w' W W' : World} {gb mm hm mb fb : Nat} {f : Int → Option (Int × Nat)} {c : Nat} {s s' : MS} {pi : Nat → PI} {F : Int × Int → Option Mp} {n : Nat} {vb db r r' : Nat}
theorem gx_gone (h : GX W gb mm hm mb fb s f c pi F n) (hmm : ∀ d x, f d = some x → mm ≠ (pi x.2).fm ∧ mm ≠ (pi x.2).pm) (d : Int) {c' : Nat} (hI : IMap W' mm (mvs (mdel f d)) c') (hc : Chg (fun x => x = mm) W W') : GX W' gb mm hm mb fb s (mdel f d) c' pi F n := by
  obtain ⟨cs, h1, h2⟩ := h.g.m.lst
  exact ⟨⟨⟨hc.blk h.g.g.blk (bnm h.g.g.blk h.g.g.mem), hI⟩, h.g.m.chg hc (bnm h.g.m.blk h.g.g.mem) (bnm h1 h.g.g.mem),
    fun y x hy => ⟨(h.g.p y x (mdel_some hy)).1.chg hc (bnm (h.g.p y x (mdel_some hy)).1.blk h.g.g.mem) (fun e => (hmm y x (mdel_some hy)).1 e.symm) (fun e => (hmm y x (mdel_some hy)).2 e.symm), (h.g.p y x (mdel_some hy)).2⟩,
    fun y x hy => h.g.d y x (mdel_some hy)⟩, h.h.chg hc (fun e => h.mh e.symm), h.mh, fun y x hy => h.ph y x (mdel_some hy)⟩
def LvOut (W : World) (gb mm hm mb fb : Nat) (s : MS) (f : Int → Option (Int × Nat)) (c : Nat) (pi : Nat → PI) (F : Int × Int → Option Mp) (n : Nat) (e : Ending) (w' : World) : Prop := e = .returned (.int .i64 0) ∧ GX w' gb mm hm mb fb s f c pi F n ∧ Chg (fun x => x = fb ∨ x = mm) W w'
set_option maxHeartbeats 8000000 in
set_option maxRecDepth 100000 in
theorem leave_ok (h : GX W gb mm hm mb fb s f c pi F n) (hmm : ∀ d x, f d = some x → mm ≠ (pi x.2).fm ∧ mm ≠ (pi x.2).pm) (d : Int) (k pb : Nat) (hd : f d = some ((k : Int), pb)) (hfew : Fr.few (s.fr k)) :
    Calls Tryz.prog 33 #[.pointer (some ⟨gb, 0, none⟩), .int .i64 d] W (LvOut W gb mm hm mb fb (putS s k 1) (mdel f d) (c - 1) pi F n) := by
  have hno := GgA.none_calls h.g.g
  have ho8 : 0 ≤ d ∧ d < 8 := (h.g.d d _ hd).1
  have hkn : k < s.n := by obtain ⟨k2, e1, e2⟩ := (h.g.d d _ hd).2; simp only at e1; omega
  have hdo := GgA.domain_in d ho8.1 ho8.2
  have C0 := fun i => blk_cell h.g.g.blk i
  have L0 := blk_lt h.g.g.blk
  have e1 : mvs f d = some (.agg #[.int .i64 k, .pointer (some ⟨pb, 0, none⟩)]) := by unfold mvs; rw [hd]; rfl
  have hlk := h.g.g.mem.look_ok Tryz.underlying114 (zeroM _) d (by omega) (by omega)
  rw [e1] at hlk
  simp only [Option.getD_some, Option.isSome_some] at hlk
  have hpt := fun W' (hW : Below W.heap.size W W') => put_calls (h.below hW).g.m k hkn 1 (by omega) (by omega) hfew
  have lfb := h.g.m.lt.2
  have ngf : gb ≠ fb := by obtain ⟨cs, q1, q2⟩ := h.g.m.lst; exact fun e => bne h.g.g.blk q1 (by decide) e
  have HG := Base.Aside.mk (And.intro h (And.intro hmm e1))
  have okd : okI d := ⟨by omega, by omega⟩
  clear h hmm hd e1
  go_enter Tryz.func33, Tryz.ntmps33
  go_wp2_with (first
    | (go_at_call 52; refine hno.mono ?_; rintro z w9 ⟨rfl, hw9⟩; obtain rfl := hw9.symm)
    | (go_at_call 54; refine (hdo _).mono ?_; rintro z w9 ⟨rfl, hw9⟩; obtain rfl := hw9.symm)
    | go_in)
  refine wp_world (fun W2 => Below W.heap.size W W2 ∧ W2.heap[W.heap.size]? = some (.cells #[.int .i64 k, .pointer (some ⟨pb, 0, none⟩)] 135 (0, 0))) ⟨below_alloc (Below.refl _ _) _, blk_new _ _⟩ ?_
  intro W2 ⟨hb2, hx2⟩
  have k0 : W2.cell? ⟨gb, 0, none⟩ = some (.pointer (some ⟨mb, 0, none⟩)) := blk_cell (HG.out.1.below hb2).g.g.blk 0
  have k4 : W2.cell? ⟨W.heap.size, 0, none⟩ = some (.int .i64 k) := blk_cell hx2 0
  have L2 := blk_lt hx2
  have L3 := Nat.lt_of_lt_of_le L0 hb2.size
  have S3 : ∀ Wx w3, Below W2.heap.size W2 Wx → Chg (fun x => x = fb) Wx w3 → w3.cell? ⟨gb, 0, none⟩ = some (.pointer (some ⟨mb, 0, none⟩)) ∧ w3.cell? ⟨W.heap.size, 0, none⟩ = some (.int .i64 k) := by
    intro Wx w3 hb hc
    have hbx : Below W.heap.size W Wx := hb2.trans (hb.mono hb2.size)
    have n2 : W.heap.size ≠ fb := by omega
    have hy : Wx.heap[W.heap.size]? = _ := (hb.block _ L2).trans hx2
    exact ⟨blk_cell (hc.blk (HG.out.1.below hbx).g.g.blk ngf) 0, blk_cell (hc.blk hy n2) 0⟩
  have E2 := Base.Aside.mk hb2
  clear hb2 hx2 C0
  go_cut [] from 25 to 31 (fun wx => Base.Aside (GX wx gb mm hm mb fb (putS s k 1) f c pi F n ∧ Chg (fun x => x = fb) W wx))
  case first =>
    go_region_held3 (fun W' => W'.cell? ⟨gb, 0, none⟩ = some (.pointer (some ⟨mb, 0, none⟩)) ∧ W'.cell? ⟨W.heap.size, 0, none⟩ = some (.int .i64 k))
      (first
        | go_keep
        | exact ⟨k0, k4⟩
        | (refine S3 _ _ ?_ E3.out.2; (repeat (with_reducible first | exact Below.refl _ _ | refine below_drew ?_ | refine below_alloc ?_ _)); done))
      ((first
        | (go_at_call 75; (with_reducible refine (hpt _ ?_).mono ?_); (focus (repeat (with_reducible first | exact E2.out | refine below_drew ?_ | refine below_alloc ?_ _))); rintro z w3 ⟨rfl, hM3, hC3⟩; have E3 := Base.Aside.mk (And.intro hM3 hC3); clear hM3 hC3)))
    all_goals
      go_wp2_with fail
      go_meet
    case rel =>
      refine ⟨(HG.out.1.below ?_).mach E3.out.1 (putS_n _ _ _) E3.out.2, (Chg.below _ ?_).trans E3.out.2⟩
      all_goals (repeat (with_reducible first | exact E2.out | refine below_drew ?_ | refine below_alloc ?_ _))
  case rest =>
    have EC := Base.Aside.mk hcut.out
    have CC := fun i => blk_cell hcut.out.1.g.g.blk i
    have LC := blk_lt hcut.out.1.g.g.blk
    clear hcut
    go_wp2_with (first
      | (at_delete; (refine wpI_delete rfl rfl _ _ rfl ((EC.out.1.below (by (repeat (with_reducible first | exact Below.refl _ _ | refine below_drew ?_ | refine below_alloc ?_ _)))).g.g.mem) d okd (by rw [HG.out.2.2]; rfl) (by go_simp) (by go_simp) ?_); intro w5 hI5 hC5; have E5 := Base.Aside.mk (And.intro hI5 hC5); clear hI5 hC5)
      | go_in)
    go_ret
    have hI := E5.out.1
    rw [mvs_del] at hI
    refine ⟨by first | rfl | (simp; done), gx_gone (EC.out.1.below ?_) HG.out.2.1 d hI E5.out.2, ((EC.out.2.mono fun _ h => .inl h).trans (Chg.below _ ?_)).trans (E5.out.2.mono fun _ h => .inr h)⟩
    all_goals (repeat (with_reducible first | exact Below.refl _ _ | refine below_drew ?_ | refine below_alloc ?_ _))
end
end Go.Proofs.YthlejchcnfdcpaaGreat.GjK
namespace Go.Proofs.YthlejchcnfdcpaaGreat.GwQ
open Go.RowKit Go.Maps Base GaA GaB GaC GmA GmB GmC GpA GgA GfB GfC GfD GjA GjB GjK
set_option linter.unusedVariables false
set_option linter.unusedSimpArgs false

section
variable {w w' W W' : World} {gb mm hm mb fb : Nat} {f : Int → Option (Int × Nat)} {c : Nat} {s s' : MS} {pi : Nat → PI} {F : Int × Int → Option Mp} {n : Nat}
/-- Why a reference is not taken. -/
def getEE (s : MS) (k owner kind : Int) : Int := if 0 ≤ k ∧ k < s.n then getE (s.fr k.toNat) owner kind else 1
set_option maxHeartbeats 4000000 in
set_option maxRecDepth 100000 in
theorem get_out (h : Mach W mb fb s) (k : Int) (hk : k < 0 ∨ (s.n : Int) ≤ k) (owner kind : Int) : Calls Tryz.prog 55 #[.pointer (some ⟨mb, 0, none⟩), .int .i64 k, .int .i64 owner, .int .i64 kind] W fun e w' => e = .returned (.int .i64 1) ∧ w' = W := by
  have hki := kinds_out h k hk kind
  clear h hk
  go_enter Tryz.func55, Tryz.ntmps55
  go_wp2_with (first
    | (go_at_call 95; (with_reducible refine hki.mono ?_); rintro z w1 ⟨rfl, hw1⟩; obtain rfl := hw1.symm)
    | go_in)
  go_ret
  exact ⟨by first | rfl | (simp; done), rfl⟩
theorem get_no (h : Mach W mb fb s) (k owner kind : Int) (h0 : 0 ≤ kind) (h3 : kind ≤ 3) (hf : ∀ i, i < s.n → Fr.few (s.fr i)) (hne : getEE s k owner kind ≠ 0) : Calls Tryz.prog 55 #[.pointer (some ⟨mb, 0, none⟩), .int .i64 k, .int .i64 owner, .int .i64 kind] W fun e w' => e = .returned (.int .i64 (getEE s k owner kind)) ∧ Mach w' mb fb s ∧ Chg (fun x => x = fb) W w' := by
  unfold getEE at hne ⊢
  by_cases hk : 0 ≤ k ∧ k < s.n
  · rw [if_pos hk] at hne ⊢
    obtain ⟨j, rfl⟩ : ∃ j : Nat, k = j := ⟨k.toNat, by omega⟩
    rw [Int.toNat_natCast] at hne ⊢
    refine (get_calls h j (by omega) owner kind h0 h3 (hf j (by omega))).mono ?_
    rintro e w' ⟨q1, q2, q3⟩
    have : getS s j owner kind = s := if_neg hne
    rw [this] at q2
    exact ⟨q1, q2, q3⟩
  · rw [if_neg hk]
    refine (get_out h k (by omega) owner kind).mono ?_
    rintro e w' ⟨q1, rfl⟩
    exact ⟨q1, h, Chg.refl _ _⟩
/-- Why a domain does not join. -/
def joinE (s : MS) (f : Int → Option (Int × Nat)) (d k : Int) : Int := if ¬ (0 ≤ d ∧ d < 8) then 1 else if (f d).isSome then 8 else getEE s k d 1
set_option maxHeartbeats 8000000 in
set_option maxRecDepth 100000 in
theorem join_no (h : GX W gb mm hm mb fb s f c pi F n) {pb fm pm size c2 : Nat} {fr pl : Int → Option Int} (hP : P2 W pb fm pm size fr pl c2) (hn1 : pl (-1) = none) (hfew : ∀ i, i < s.n → Fr.few (s.fr i)) (d k : Int) (hd : okI d) (hne : joinE s f d k ≠ 0) :
    Calls Tryz.prog 17 #[.pointer (some ⟨gb, 0, none⟩), .int .i64 d, .int .i64 k, .pointer (some ⟨pb, 0, none⟩)] W fun e w' => e = .returned (.int .i64 (joinE s f d k)) ∧ Mach w' mb fb s ∧ Chg (fun x => x = fb) W w' := by
  have C0 := fun i => blk_cell h.g.g.blk i
  have L0 := blk_lt h.g.g.blk
  have hno := GgA.none_calls h.g.g
  have hfi := GpA.find_none hP (-1) (by omega) (by omega) hn1
  have hdo := fun W => GgA.domain_calls d W
  have hlk := h.g.g.mem.look_ok Tryz.underlying114 (zeroM W) d hd.1 hd.2
  have e1 : (mvs f d).isSome = (f d).isSome := by unfold mvs; cases f d <;> rfl
  obtain ⟨a, b, e2⟩ : ∃ a b, (mvs f d).getD (.agg #[.int .i64 0, .pointer none]) = .agg #[.int .i64 a, .pointer b] := by
    unfold mvs
    cases f d with
    | none => exact ⟨0, none, rfl⟩
    | some x => exact ⟨x.1, some ⟨x.2, 0, none⟩, rfl⟩
  rw [e1, e2] at hlk
  have hge : getEE s k d 1 ≠ 0 → ∀ W', Below W.heap.size W W' → _ := fun hq W' hW => get_no (h.g.m.below hW) k d 1 (by omega) (by omega) hfew hq
  have HM := Base.Aside.mk h.g.m
  unfold joinE at hne ⊢
  clear e1 e2 hP hn1 hfew
  by_cases h1 : 0 ≤ d ∧ d < 8
  · have hb : (decide (0 ≤ d) && decide (d < 8)) = true := by simp [h1]
    rw [hb] at hdo
    rw [if_neg (by simp; omega)] at hne ⊢
    cases hs : (f d).isSome with
    | true =>
      rw [hs] at hlk
      simp only [if_true]
      clear h hne hge hs hb
      go_enter Tryz.func17, Tryz.ntmps17
      go_wp2_with (first
        | (go_at_call 52; (with_reducible refine hno.mono ?_); rintro z w1 ⟨rfl, hw1⟩; obtain rfl := hw1.symm)
        | (go_at_call 53; (with_reducible refine hfi.mono ?_); rintro z w1 ⟨rfl, hw1⟩; obtain rfl := hw1.symm)
        | (go_at_call 54; (with_reducible refine (hdo _).mono ?_); rintro z w1 ⟨rfl, hw1⟩; obtain rfl := hw1.symm)
        | go_in)
      go_ret
      exact ⟨by first | rfl | (simp; done), HM.out.below (below_alloc (Below.refl _ _) _), Chg.below _ (below_alloc (Below.refl _ _) _)⟩
    | false =>
      rw [hs] at hlk hne
      simp only [Bool.false_eq_true, if_false] at hne ⊢
      have hg2 := hge hne _ (below_alloc (Below.refl W.heap.size W) (.cells #[.int .i64 a, .pointer b] 135))
      generalize getEE s k d 1 = er at hne hg2 ⊢
      have d1 : (er == 0) = false := by simp [hne]
      clear h hne hge hs hb
      go_enter Tryz.func17, Tryz.ntmps17
      go_wp2_with (first
        | (go_at_call 52; (with_reducible refine hno.mono ?_); rintro z w1 ⟨rfl, hw1⟩; obtain rfl := hw1.symm)
        | (go_at_call 53; (with_reducible refine hfi.mono ?_); rintro z w1 ⟨rfl, hw1⟩; obtain rfl := hw1.symm)
        | (go_at_call 54; (with_reducible refine (hdo _).mono ?_); rintro z w1 ⟨rfl, hw1⟩; obtain rfl := hw1.symm)
        | (go_at_call 55; (with_reducible refine hg2.mono ?_); rintro z w2 ⟨rfl, hM2, hC2⟩; have E2 := Base.Aside.mk (And.intro hM2 hC2); clear hM2 hC2)
        | go_in)
      go_ret
      exact ⟨by first | rfl | (simp; done), E2.out.1, (Chg.below _ (below_alloc (Below.refl _ _) _)).trans E2.out.2⟩
  · have hb : (decide (0 ≤ d) && decide (d < 8)) = false := by simp; omega
    rw [hb] at hdo
    rw [if_pos h1]
    clear h hne hge hb hlk h1
    go_enter Tryz.func17, Tryz.ntmps17
    go_wp2_with (first
      | (go_at_call 52; (with_reducible refine hno.mono ?_); rintro z w1 ⟨rfl, hw1⟩; obtain rfl := hw1.symm)
      | (go_at_call 53; (with_reducible refine hfi.mono ?_); rintro z w1 ⟨rfl, hw1⟩; obtain rfl := hw1.symm)
      | (go_at_call 54; (with_reducible refine (hdo _).mono ?_); rintro z w1 ⟨rfl, hw1⟩; obtain rfl := hw1.symm)
      | go_in)
    go_ret
    exact ⟨by first | rfl | (simp; done), HM.out.below (by first | exact Below.refl _ _ | exact below_alloc (Below.refl _ _) _), Chg.below _ (by first | exact Below.refl _ _ | exact below_alloc (Below.refl _ _) _)⟩
/-- Why a domain does not leave. -/
def leaveE (f : Int → Option (Int × Nat)) (d : Int) : Int := if ¬ (0 ≤ d ∧ d < 8) then 1 else if (f d).isSome then 0 else 6
set_option maxHeartbeats 8000000 in
set_option maxRecDepth 100000 in
theorem leave_no (h : GX W gb mm hm mb fb s f c pi F n) (d : Int) (hd : okI d) (hne : leaveE f d ≠ 0) :
    Calls Tryz.prog 33 #[.pointer (some ⟨gb, 0, none⟩), .int .i64 d] W fun e w' => e = .returned (.int .i64 (leaveE f d)) ∧ Below W.heap.size W w' := by
  have C0 := fun i => blk_cell h.g.g.blk i
  have L0 := blk_lt h.g.g.blk
  have hno := GgA.none_calls h.g.g
  have hdo := fun W => GgA.domain_calls d W
  have hlk := h.g.g.mem.look_ok Tryz.underlying114 (zeroM W) d hd.1 hd.2
  unfold leaveE at hne ⊢
  by_cases h1 : 0 ≤ d ∧ d < 8
  · have hb : (decide (0 ≤ d) && decide (d < 8)) = true := by simp [h1]
    rw [hb] at hdo
    rw [if_neg (by simp; omega)] at hne ⊢
    cases hf : f d with
    | some x => rw [hf] at hne; simp at hne
    | none =>
      have e1 : mvs f d = none := by unfold mvs; rw [hf]; rfl
      rw [e1] at hlk
      simp only [Option.getD_none, Option.isSome_none] at hlk
      clear h hne hf hb e1
      go_enter Tryz.func33, Tryz.ntmps33
      go_wp2_with (first
        | (go_at_call 52; (with_reducible refine hno.mono ?_); rintro z w1 ⟨rfl, hw1⟩; obtain rfl := hw1.symm)
        | (go_at_call 54; (with_reducible refine (hdo _).mono ?_); rintro z w1 ⟨rfl, hw1⟩; obtain rfl := hw1.symm)
        | go_in)
      go_ret
      exact ⟨by first | rfl | (simp; done), below_alloc (Below.refl _ _) _⟩
  · have hb : (decide (0 ≤ d) && decide (d < 8)) = false := by simp; omega
    rw [hb] at hdo
    rw [if_pos h1]
    clear h hne hb hlk h1
    go_enter Tryz.func33, Tryz.ntmps33
    go_wp2_with (first
      | (go_at_call 52; (with_reducible refine hno.mono ?_); rintro z w1 ⟨rfl, hw1⟩; obtain rfl := hw1.symm)
      | (go_at_call 54; (with_reducible refine (hdo _).mono ?_); rintro z w1 ⟨rfl, hw1⟩; obtain rfl := hw1.symm)
      | go_in)
    go_ret
    exact ⟨by first | rfl | (simp; done), by first | exact Below.refl _ _ | exact below_alloc (Below.refl _ _) _⟩
end
end Go.Proofs.YthlejchcnfdcpaaGreat.GwQ
namespace Go.Proofs.YthlejchcnfdcpaaGreat.GwN
open Go.RowKit Go.Maps Base GaA GaB GaC GmA GmB GmC GpA GgA GeA GeB GfA GfB GfC GfD GfH GjA GjB GjC GjE GjF GwB GwF GwH GjD
set_option linter.unusedVariables false
set_option linter.unusedSimpArgs false

def z8 : List UInt8 := List.replicate 8 0
section
variable {mb fb : Nat} {w w' W W' : World} {gb mm hm : Nat} {f : Int → Option (Int × Nat)} {c : Nat} {s s' : MS} {pi : Nat → PI} {F : Int × Int → Option Mp} {n : Nat} {r r' : Nat}
set_option maxHeartbeats 8000000 in
set_option maxRecDepth 100000 in
theorem revoke_arg (h : GX W gb mm hm mb fb s f c pi F n) (d ref : Int) (hd : okI d) (hb : f d = none ∨ slotB ref = false) :
    Calls Tryz.prog 31 #[.pointer (some ⟨gb, 0, none⟩), .int .i64 d, .int .i64 ref] W fun e w' => e = .returned (.int .i64 1) ∧ Below W.heap.size W w' := by
  have hno := GgA.none_calls h.g.g
  have hjo := joined_any h.g.g d hd
  have hso := slot_any ref
  have hcase : (f d).isSome = false ∨ ((f d).isSome = true ∧ slotB ref = false) := by
    cases h2 : f d with
    | none => exact .inl rfl
    | some x =>
      rcases hb with hb | hb
      · rw [h2] at hb; cases hb
      · exact .inr ⟨rfl, hb⟩
  generalize (f d).isSome = b2 at hjo hcase
  generalize slotB ref = b3 at hso hcase
  clear h hb
  rcases hcase with rfl | ⟨rfl, rfl⟩
  all_goals
    go_enter Tryz.func31, Tryz.ntmps31
    go_wp2_with (first
      | (go_at_call 52; (with_reducible refine hno.mono ?_); rintro z w9 ⟨rfl, hw9⟩; obtain rfl := hw9.symm)
      | (go_at_call 63; (with_reducible refine hjo.mono ?_); rintro z w1 ⟨rfl, hB1⟩; have E1 := Base.Aside.mk hB1; clear hB1)
      | (go_at_call 64; (with_reducible refine (hso _).mono ?_); rintro z w9 ⟨rfl, hw9⟩; obtain rfl := hw9.symm)
      | go_in)
    go_ret
    exact ⟨by first | rfl | (simp; done), E1.out⟩
set_option maxHeartbeats 8000000 in
set_option maxRecDepth 100000 in
theorem revoke_busy (h : GX W gb mm hm mb fb s f c pi F n) (d : Int) (x : Int × Nat) (hd : f d = some x) (ref : Nat) (h32 : ref < 32) (p0 : Int × Int) (hp0 : ok p0) (m0 : Mp) (hm0 : F p0 = some m0) (how : m0.owner = d) (hrf : m0.ref = ref) :
    Calls Tryz.prog 31 #[.pointer (some ⟨gb, 0, none⟩), .int .i64 d, .int .i64 ref] W fun e w' => e = .returned (.int .i64 9) ∧ Below W.heap.size W w' := by
  have hno := GgA.none_calls h.g.g
  have ho8 : 0 ≤ d ∧ d < 8 := (h.g.d d _ hd).1
  have hjo := joined_any h.g.g d ⟨by omega, by omega⟩
  rw [hd] at hjo
  simp only [Option.isSome_some] at hjo
  have hsl : slotB (ref : Int) = true := by unfold slotB; simp; omega
  have hso := slot_any ref
  rw [hsl] at hso
  have HG := Base.Aside.mk (And.intro h (And.intro hp0 (And.intro hm0 (And.intro how hrf))))
  have C0 : ∀ W', Below W.heap.size W W' → ∀ i, W'.cell? ⟨gb, i, none⟩ = (#[.pointer (some ⟨mb, 0, none⟩), .map (some mm), .map (some hm)] : Array Value)[i]? := fun W' hb i => blk_cell (h.below hb).g.g.blk i
  have L0 := blk_lt h.g.g.blk
  have hbl := h.h.lt
  obtain ⟨D, hown, hsz, hhas, hat⟩ := h.h
  have HA := Base.Aside.mk (And.intro hhas hat)
  clear hhas hat h hd hsl hm0 how hrf
  go_enter Tryz.func31, Tryz.ntmps31
  go_wp2_with (first
    | (go_at_call 52; (with_reducible refine hno.mono ?_); rintro z w1 ⟨rfl, hw1⟩; obtain rfl := hw1.symm)
    | (go_at_call 63; refine hjo.mono ?_; rintro z w1 ⟨rfl, hB1⟩; have C1 := C0 w1 hB1; have L1 := Nat.lt_of_lt_of_le L0 hB1.size; have hown1 := ownsMap_block hown (hB1.block _ hbl); have E1 := Base.Aside.mk hB1; clear hB1)
    | (go_at_call 64; refine (hso _).mono ?_; rintro z w9 ⟨rfl, hw9⟩; obtain rfl := hw9.symm)
    | (at_range; refine wpList_range_own _ rfl _ 115 rfl 155 102 keyed Tryz.underlying115 hmv hm n D rfl hown1 ?_; intro w0 hrg0 hg0 hs0)
    | go_in)
  go_frame
  go_loopw [] (fun wr => ∃ (left : Lit → Bool) (cnt : Nat), Base.Aside (wr.ranges Tryz.prog 155 hmv hm w1.heap.size n D left cnt ∧ Below W.heap.size W wr ∧ (∀ l, left l = true → Maps.has D l = true) ∧ left (kl p0) = true))
    (fun wr => wr.rangeLeft hm w1.heap.size)
  case atStart =>
    refine ⟨_, _, ⟨hrg0, E1.out.grown hg0 E1.out.size (fun j hj => by cases hj), fun l h => h, ?_⟩⟩
    rw [HA.out.1 p0 hp0, HG.out.2.2.1]
    rfl
  case round =>
    obtain ⟨left, cnt, hR⟩ := hrel
    go_wp2_with (first
      | (at_next; refine wpList_next_ranges _ rfl _ rfl 155 keyed hmv kv mpv (fun key l hk => by obtain ⟨p, _, hp⟩ := key_inv hk; exact ⟨p, hp⟩) (fun v y hv => by obtain ⟨m, hm, _⟩ := hmv_inv hv; exact ⟨m, hm⟩) hm w1.heap.size n _ _ _ rfl hR.out.1 ?_ ?_)
      | go_in)
    · intro hc0 hl0
      have := hR.out.2.2.2
      rw [hl0] at this
      cases this
    · intro p1 p2 m l y1 y2 w2 cnt2 hkey hlk hv hat hrg2 hlt hg2 hs2 hen
      obtain ⟨p', hpo, hpp⟩ := key_inv hkey
      obtain rfl := kv_inj hpp
      generalize hpe : (p1, p2) = p at hkey hpo hen hpp ⊢
      obtain rfl := kl_of hpo hkey
      obtain ⟨m', hm', hy⟩ := hmv_inv hv
      obtain rfl := mpv_inj hm'
      obtain ⟨rfl, rfl⟩ := Prod.mk.inj hy
      have hhp := HA.out.1 p hpo
      rw [hR.out.2.2.1 _ hlk] at hhp
      have hF : F p = some m := by
        cases hf : F p with
        | none => rw [hf] at hhp; cases hhp
        | some m2 =>
          have h1 := hat (.held (mpv m))
          rw [HA.out.2 p _ hpo, hf] at h1
          have h2 : mpv m2 = mpv m := DataW.held.inj h1
          rw [mpv_inj h2]
      have hne : ¬ (m.owner = d ∧ m.ref = ref) → p ≠ p0 := by
        rintro hn rfl
        rw [HG.out.2.2.1] at hF
        cases hF
        exact hn HG.out.2.2.2
      have hb2 := Below.grown hR.out.2.1 hg2 hR.out.2.1.size (fun j hj => by cases hj; exact E1.out.size)
      have hq2 := Base.Aside.mk (And.intro hrg2 (And.intro hb2 hne))
      have hrel2 : ¬ (m.owner = d ∧ m.ref = ref) → ∀ os : Obj, ∃ (left : Lit → Bool) (cnt : Nat), Base.Aside ((w2.alloc os).ranges Tryz.prog 155 hmv hm w1.heap.size n D left cnt ∧ Below W.heap.size W (w2.alloc os) ∧ (∀ l, left l = true → Maps.has D l = true) ∧ left (kl p0) = true) := by
        intro hn os
        refine ⟨_, cnt2, ⟨hq2.out.1.alloc _, below_alloc hq2.out.2.1 _, fun l hl => hR.out.2.2.1 l (by simp only [Bool.and_eq_true] at hl; exact hl.1), ?_⟩⟩
        have h9 := hne hn
        simp only [hR.out.2.2.2, Bool.true_and]
        rw [kl_same hp0 hpo]
        simp [Ne.symm h9]
      have Hrel := Base.Aside.mk hrel2
      unfold kv mpv at hen
      clear hrel2 hne hrg2 hb2 hat hkey hv hm' hhp hs2 hg2 hF hpp
      by_cases e1 : m.owner = d
      · by_cases e2 : m.ref = ref
        · have d1 : (m.owner == d) = true := by simp [e1]
          have d2 : (m.ref == (ref : Int)) = true := by simp [e2]
          clear e1 e2
          go_wp2
          go_ret
          exact ⟨by first | rfl | (simp; done), below_alloc hq2.out.2.1 _⟩
        · have hn : ¬ (m.owner = d ∧ m.ref = ref) := fun h => e2 h.2
          have HN := Base.Aside.mk hn
          have d1 : (m.owner == d) = true := by simp [e1]
          have d2 : (m.ref == (ref : Int)) = false := by simp [e2]
          clear e1 e2 hn
          go_wp2
          go_roundw
          case rel => exact Hrel.out HN.out _
          case measure => rw [(hq2.out.1.alloc _).left_eq, hR.out.1.left_eq]; exact hlt
      · have hn : ¬ (m.owner = d ∧ m.ref = ref) := fun h => e1 h.1
        have HN := Base.Aside.mk hn
        have d1 : (m.owner == d) = false := by simp [e1]
        clear e1 hn
        go_wp2
        go_roundw
        case rel => exact Hrel.out HN.out _
        case measure => rw [(hq2.out.1.alloc _).left_eq, hR.out.1.left_eq]; exact hlt
set_option maxHeartbeats 8000000 in
set_option maxRecDepth 100000 in
theorem revoke_ok (h : GX W gb mm hm mb fb s f c pi F n) (d : Int) (k pb : Nat) (hd : f d = some ((k : Int), pb)) (ref : Nat) (h32 : ref < 32) (hfree : ∀ p m, ok p → F p = some m → ¬ (m.owner = d ∧ m.ref = ref)) :
    Calls Tryz.prog 31 #[.pointer (some ⟨gb, 0, none⟩), .int .i64 d, .int .i64 ref] W fun e w' => e = .returned (.int .i64 (wrE s k (8 * ref) 8)) ∧ GX w' gb mm hm mb fb (wrS s k (8 * ref) z8) f c pi F n ∧ Chg (fun x => x = fb) W w' := by
  have hno := GgA.none_calls h.g.g
  have ho8 : 0 ≤ d ∧ d < 8 := (h.g.d d _ hd).1
  have hjo := joined_any h.g.g d ⟨by omega, by omega⟩
  rw [hd] at hjo
  simp only [Option.isSome_some] at hjo
  have hsl : slotB (ref : Int) = true := by unfold slotB; simp; omega
  have hso := slot_any ref
  rw [hsl] at hso
  have HG := Base.Aside.mk (And.intro h hfree)
  have C0 : ∀ W', Below W.heap.size W W' → ∀ i, W'.cell? ⟨gb, i, none⟩ = (#[.pointer (some ⟨mb, 0, none⟩), .map (some mm), .map (some hm)] : Array Value)[i]? := fun W' hb i => blk_cell (h.below hb).g.g.blk i
  have L0 := blk_lt h.g.g.blk
  have hbl := h.h.lt
  obtain ⟨D, hown, hsz, hhas, hat⟩ := h.h
  have HA := Base.Aside.mk (And.intro hhas hat)
  have hlk : ∀ W', Below W.heap.size W W' → _ := fun W' hW => (h.below (W' := W') hW).g.g.mem.look Tryz.underlying114 (zeroM _) d (by omega) (by omega)
  have e1 : mvs f d = some (.agg #[.int .i64 k, .pointer (some ⟨pb, 0, none⟩)]) := by unfold mvs; rw [hd]; rfl
  rw [e1] at hlk
  simp only [Option.getD_some] at hlk
  have hfd : ∀ (W : World) (a b : Value), (Instr.field 135 (.agg #[a, b]) 0).run Tryz.prog W = .ok a W := fun _ _ _ => by kernel_rfl
  have hmk : ∀ w : World, (Instr.makeSlice 30 (.int .i64 8) (.int .i64 8)).run Tryz.prog w = .ok (.slice (some ⟨w.heap.size, 0, none⟩) 8 8) (w.alloc (.cells #[.int .u8 0, .int .u8 0, .int .u8 0, .int .u8 0, .int .u8 0, .int .u8 0, .int .u8 0, .int .u8 0] 5)) := fun _ => by kernel_rfl
  have hwr := fun W' (hW : Below W.heap.size W W') (g : Nat) (hz : W'.heap[g]? = some (.cells #[.int .u8 0, .int .u8 0, .int .u8 0, .int .u8 0, .int .u8 0, .int .u8 0, .int .u8 0, .int .u8 0] 5 (0, 0))) => write_any (h.below hW).g.m k (8 * ref) (some ⟨g, 0, none⟩) 8 8 z8 rfl (.inr ⟨_, rfl, Holds.of_block hz⟩)
  have HLK := Base.Aside.mk hlk
  have HWR := Base.Aside.mk hwr
  clear hhas hat h hd hsl hlk e1 hwr hfree
  go_enter Tryz.func31, Tryz.ntmps31
  go_wp2_with (first
    | (go_at_call 52; (with_reducible refine hno.mono ?_); rintro z w1 ⟨rfl, hw1⟩; obtain rfl := hw1.symm)
    | (go_at_call 63; refine hjo.mono ?_; rintro z w1 ⟨rfl, hB1⟩; have C1 := C0 w1 hB1; have L1 := Nat.lt_of_lt_of_le L0 hB1.size; have hown1 := ownsMap_block hown (hB1.block _ hbl); have E1 := Base.Aside.mk hB1; clear hB1)
    | (go_at_call 64; refine (hso _).mono ?_; rintro z w9 ⟨rfl, hw9⟩; obtain rfl := hw9.symm)
    | (at_range; refine wpList_range_own _ rfl _ 115 rfl 155 102 keyed Tryz.underlying115 hmv hm n D rfl hown1 ?_; intro w0 hrg0 hg0 hs0)
    | go_in)
  go_frame
  go_loopw [] (fun wr => ∃ (left : Lit → Bool) (cnt : Nat), Base.Aside (wr.ranges Tryz.prog 155 hmv hm w1.heap.size n D left cnt ∧ Below W.heap.size W wr ∧ (∀ l, left l = true → Maps.has D l = true)))
    (fun wr => wr.rangeLeft hm w1.heap.size)
  case atStart =>
    exact ⟨_, _, ⟨hrg0, E1.out.grown hg0 E1.out.size (fun j hj => by cases hj), fun l h => h⟩⟩
  case round =>
    obtain ⟨left, cnt, hR⟩ := hrel
    go_wp2_with (first
      | (at_next; refine wpList_next_ranges _ rfl _ rfl 155 keyed hmv kv mpv (fun key l hk => by obtain ⟨p, _, hp⟩ := key_inv hk; exact ⟨p, hp⟩) (fun v y hv => by obtain ⟨m, hm, _⟩ := hmv_inv hv; exact ⟨m, hm⟩) hm w1.heap.size n _ _ _ rfl hR.out.1 ?_ ?_)
      | go_in)
    · intro hc0 hl0
      have hbw := hR.out.2.1
      have hE := Base.Aside.mk hbw
      have S0 : ∀ W', Below wr.heap.size wr W' → W'.cell? ⟨gb, 0, none⟩ = some (.pointer (some ⟨mb, 0, none⟩)) ∧ W'.cell? ⟨gb, 1, none⟩ = some (.map (some mm)) := fun W' hb => ⟨C0 W' (hbw.trans (hb.mono hbw.size)) 0, C0 W' (hbw.trans (hb.mono hbw.size)) 1⟩
      have K0 := S0 wr (Below.refl _ _)
      obtain ⟨q0, q1⟩ := K0
      have hlA := HLK.out wr.drew (below_drew hbw)
      have hlB := fun o => HLK.out (wr.alloc o).drew (below_drew (below_alloc hbw o))
      have hwr := fun W' (hW : Below W.heap.size W W') hz => (HWR.out W' hW wr.heap.size hz).mono (R' := fun e w' => e = .returned (.int .i64 (wrE s k (8 * ref) 8)) ∧ GX w' gb mm hm mb fb (wrS s k (8 * ref) z8) f c pi F n ∧ Chg (fun x => x = fb) W w') (fun e w' h => ⟨h.1, (HG.out.1.below hW).mach h.2.1 (GwA.wrS_n _ _ _ _) h.2.2, (Chg.below _ hW).trans h.2.2⟩)
      have Lg : gb < wr.heap.size := Nat.lt_of_lt_of_le L0 hbw.size
      have SG : ∀ W', GX W' gb mm hm mb fb (wrS s k (8 * ref) z8) f c pi F n → W'.cell? ⟨gb, 0, none⟩ = some (.pointer (some ⟨mb, 0, none⟩)) ∧ W'.cell? ⟨gb, 1, none⟩ = some (.map (some mm)) := fun W' h => ⟨blk_cell h.g.g.blk 0, blk_cell h.g.g.blk 1⟩
      clear hR hbw C0 L0 hown hbl hc0 hl0
      go_wp2_with fail
      go_upto_region 10 with fail
      go_cut [6] from 41 to 55 (fun v wx => v = .int .i64 (wrE s k (8 * ref) 8) ∧ Base.Aside (GX wx gb mm hm mb fb (wrS s k (8 * ref) z8) f c pi F n ∧ Chg (fun x => x = fb) W wx))
      case first =>
        have r0 : (0 : Int) ≤ ref := by omega
        have r1 : (ref : Int) < 32 := by omega
        have sm : IntKind.i64.wrap (8 * (ref : Int)) = 8 * (ref : Int) := IntWalk.i64_in _ (by omega)
        go_region_held3 (fun W' => W'.cell? ⟨gb, 0, none⟩ = some (.pointer (some ⟨mb, 0, none⟩)) ∧ W'.cell? ⟨gb, 1, none⟩ = some (.map (some mm)))
          (first
            | go_keep
            | (with_reducible exact ⟨q0, q1⟩)
            | (with_reducible exact SG _ E3.out.1)
            | (refine S0 _ ?_; (repeat (with_reducible first | exact Below.refl _ _ | refine below_drew ?_ | refine below_alloc ?_ _)); done))
          ((first
            | (go_at_call 58; (with_reducible refine (hwr _ ?_ ?_).mono ?_); (focus (repeat (with_reducible first | exact hE.out | refine below_drew ?_ | refine below_alloc ?_ _))); (focus (exact blk_new wr _)); rintro z w3 ⟨rfl, hM3, hC3⟩; have E3 := Base.Aside.mk (And.intro hM3 hC3); clear hM3 hC3)))
        all_goals
          go_wp2_with fail
          go_meet
          exact ⟨rfl, ⟨E3.out.1.below (by first | exact Below.refl _ _ | exact (Below.refl _ _).drew), E3.out.2.trans (Chg.below _ (by first | exact Below.refl _ _ | exact (Below.refl _ _).drew))⟩⟩
      case rest =>
        obtain ⟨rfl, hA⟩ := hcut
        go_wp2
        go_ret
        exact ⟨by first | rfl | (simp; done), hA.out.1, hA.out.2⟩
    · intro p1 p2 m l y1 y2 w2 cnt2 hkey hlk hv hat hrg2 hlt hg2 hs2 hen
      obtain ⟨p', hpo, hpp⟩ := key_inv hkey
      obtain rfl := kv_inj hpp
      generalize hpe : (p1, p2) = p at hkey hpo hen hpp ⊢
      obtain rfl := kl_of hpo hkey
      obtain ⟨m', hm', hy⟩ := hmv_inv hv
      obtain rfl := mpv_inj hm'
      obtain ⟨rfl, rfl⟩ := Prod.mk.inj hy
      have hhp := HA.out.1 p hpo
      rw [hR.out.2.2 _ hlk] at hhp
      have hF : F p = some m := by
        cases hf : F p with
        | none => rw [hf] at hhp; cases hhp
        | some m2 =>
          have h1 := hat (.held (mpv m))
          rw [HA.out.2 p _ hpo, hf] at h1
          have h2 : mpv m2 = mpv m := DataW.held.inj h1
          rw [mpv_inj h2]
      have hne : ¬ (m.owner = d ∧ m.ref = ref) := HG.out.2 p m hpo hF
      have hb2 := Below.grown hR.out.2.1 hg2 hR.out.2.1.size (fun j hj => by cases hj; exact E1.out.size)
      have hq2 := Base.Aside.mk (And.intro hrg2 hb2)
      have hrel2 : ∀ os : Obj, ∃ (left : Lit → Bool) (cnt : Nat), Base.Aside ((w2.alloc os).ranges Tryz.prog 155 hmv hm w1.heap.size n D left cnt ∧ Below W.heap.size W (w2.alloc os) ∧ (∀ l, left l = true → Maps.has D l = true)) := fun os =>
        ⟨_, cnt2, ⟨hq2.out.1.alloc _, below_alloc hq2.out.2 _, fun l hl => hR.out.2.2 l (by simp only [Bool.and_eq_true] at hl; exact hl.1)⟩⟩
      have Hrel := Base.Aside.mk hrel2
      have HNE := Base.Aside.mk hne
      unfold kv mpv at hen
      clear hrel2 hne hrg2 hb2 hat hkey hv hm' hhp hs2 hg2 hF hpp
      by_cases e1 : m.owner = d
      · have e2 : ¬ m.ref = ref := fun e => HNE.out ⟨e1, e⟩
        have d1 : (m.owner == d) = true := by simp [e1]
        have d2 : (m.ref == (ref : Int)) = false := by simp [e2]
        clear e1 e2
        go_wp2
        go_roundw
        case rel => exact Hrel.out _
        case measure => rw [(hq2.out.1.alloc _).left_eq, hR.out.1.left_eq]; exact hlt
      · have d1 : (m.owner == d) = false := by simp [e1]
        clear e1
        go_wp2
        go_roundw
        case rel => exact Hrel.out _
        case measure => rw [(hq2.out.1.alloc _).left_eq, hR.out.1.left_eq]; exact hlt
end
end Go.Proofs.YthlejchcnfdcpaaGreat.GwN
