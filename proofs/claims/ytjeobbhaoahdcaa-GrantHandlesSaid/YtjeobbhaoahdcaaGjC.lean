/- Proved: Unmap (a contract for the laws of the grants). -/
import Derived.Test.YtjeobbhaoahdcaaGjB
namespace Go.Proofs.Ytjeobbhaoahdcaa.GjC
open Go.RowKit Go.Maps Go.Proofs.Ytjeobbhaoahdcaa.Base Go.Proofs.Ytjeobbhaoahdcaa.GaA Go.Proofs.Ytjeobbhaoahdcaa.GaB Go.Proofs.Ytjeobbhaoahdcaa.GaC Go.Proofs.Ytjeobbhaoahdcaa.GmA Go.Proofs.Ytjeobbhaoahdcaa.GmB Go.Proofs.Ytjeobbhaoahdcaa.GmC Go.Proofs.Ytjeobbhaoahdcaa.GpA Go.Proofs.Ytjeobbhaoahdcaa.GgA Go.Proofs.Ytjeobbhaoahdcaa.GvA Go.Proofs.Ytjeobbhaoahdcaa.GeA Go.Proofs.Ytjeobbhaoahdcaa.GfA Go.Proofs.Ytjeobbhaoahdcaa.GfB Go.Proofs.Ytjeobbhaoahdcaa.GfC Go.Proofs.Ytjeobbhaoahdcaa.GfD Go.Proofs.Ytjeobbhaoahdcaa.GfH Go.Proofs.Ytjeobbhaoahdcaa.GjA Go.Proofs.Ytjeobbhaoahdcaa.GjB
set_option linter.unusedVariables false
set_option linter.unusedSimpArgs false

theorem wpK_delete {P : Program} {w : World} {ops : Array Oper} {rest : List Oper} {o : Oper} {a : Act} {Q : Exit → Act → World → Prop} {M c : Nat} {f : Int × Int → Option Mp} (hP : P = Try.prog) (hg : o.guard = none) (m x : Operand)
    (hop : o.op = Op.call { callee := Callee.builtin Builtin.delete, args := #[m, x], argTypes := #[76, 137] }) (h : KMap w M f c) (p : Int × Int) (hp : ok p) (hn : (f p).isSome = true)
    (hm : a.eval m = .map (some M)) (hx : a.eval x = kv p)
    (hK : ∀ w', KMap w' M (kdel f p) (c - 1) → Chg (fun k => k = M) w w' → wpList P ops Q rest (a.put o.dst (.tuple #[])) w') :
    wpList P ops Q (o :: rest) a w := by
  subst hP
  refine wpList_plain hg fun K' hK' => ?_
  obtain ⟨w', hrun, r1, r2⟩ := h.drop p hp hn o.type
  unfold Oper.wp
  simp [execOp, hop, resolve, invoke, builtin, hm, hx, hrun, Result.andThen]
  exact hK' _ _ (hK w' r1 r2)
theorem wpK_store {P : Program} {w : World} {ops : Array Oper} {rest : List Oper} {o : Oper} {a : Act} {Q : Exit → Act → World → Prop} {M c : Nat} {f : Int × Int → Option Mp} (hP : P = Try.prog) (hg : o.guard = none) (m x v : Operand)
    (hop : o.op = Op.mapUpdate 76 m x v) (h : KMap w M f c) (p : Int × Int) (hp : ok p) (v' : Mp) (hc : c < 1000000) (hn : f p = none)
    (hm : a.eval m = .map (some M)) (hx : a.eval x = kv p) (hv : a.eval v = mpv v')
    (hK : ∀ w', KMap w' M (kput f p v') (c + 1) → Chg (fun k => k = M) w w' → wpList P ops Q rest (a.put o.dst undef) w') :
    wpList P ops Q (o :: rest) a w := by
  subst hP
  refine wpList_plain hg fun K' hK' => ?_
  obtain ⟨w', hrun, r1, r2⟩ := h.store p hp v' hc hn
  unfold Oper.wp
  simp [execOp, hop, hm, hx, hv, hrun, Result.andThen]
  exact hK' _ _ (hK w' r1 r2)
def kindI (b : Bool) : Int := if b then 1 else 0
section
variable {w w' W W' : World} {gb mm hm mb fb : Nat} {f : Int → Option (Int × Nat)} {c : Nat} {s s' : MS} {pi : Nat → PI} {F : Int × Int → Option Mp} {n : Nat} {vb db r r' : Nat}
def UnOut (W : World) (gb mm hm mb fb : Nat) (s : MS) (f : Int → Option (Int × Nat)) (c : Nat) (pi : Nat → PI) (F : Int × Int → Option Mp) (n : Nat) (er : Int) (e : Ending) (w' : World) : Prop := e = .returned (.int .i64 er) ∧ GX w' gb mm hm mb fb s f c pi F n ∧ Chg (fun x => x = fb ∨ x = hm) W w'
set_option maxHeartbeats 8000000 in
set_option maxRecDepth 100000 in
theorem unmap_no (h : GX W gb mm hm mb fb s f c pi F n) (d k : Int) (hd : okI d) (hk : okI k) (hne : (heldR F d k).2 ≠ 0) : Calls Try.prog 23 #[.pointer (some ⟨gb, 0, none⟩), .int .i64 d, .int .i64 k] W (UnOut W gb mm hm mb fb s f c pi F n (heldR F d k).2) := by
  have hh := held_calls h d k hd hk
  generalize heldR F d k = R at hh hne ⊢
  have hb : (R.2 == 0) = false := by simp [hne]
  have HG := Base.Aside.mk h
  clear h hne
  go_enter Try.func23, Try.ntmps23
  go_wp2_with (first
    | (go_at_call 62; refine hh.mono ?_; rintro z w1 ⟨rfl, hB1⟩; have E1 := Base.Aside.mk hB1; clear hB1)
    | go_in)
  go_ret
  have hb2 := below_alloc E1.out (.cells #[.int .i64 R.1.h, .int .i64 R.1.caller, .int .i64 R.1.owner, .int .i64 R.1.ref, .int .i64 R.1.mfn, .bool R.1.wr] 135)
  exact ⟨by first | rfl | (simp; done), HG.out.below hb2, Chg.below _ hb2⟩
set_option maxHeartbeats 8000000 in
set_option maxRecDepth 100000 in
theorem unmap_ok (h : GX W gb mm hm mb fb s f c pi F n) (d k : Int) (hd0 : 0 ≤ d ∧ d < 8) (hk : okI k) (m : Mp) (hm2 : F (d, k) = some m) (hval : 0 ≤ m.mfn ∧ m.mfn < s.n) (hfew : Fr.few (s.fr m.mfn.toNat)) :
    Calls Try.prog 23 #[.pointer (some ⟨gb, 0, none⟩), .int .i64 d, .int .i64 k] W (UnOut W gb mm hm mb fb (putS s m.mfn.toNat (kindI m.wr)) f c pi (kdel F (d, k)) (n - 1) 0) := by
  have hR : heldR F d k = (m, 0) := by unfold heldR; rw [if_neg (by simp [hd0]), hm2]
  have hh := held_calls h d k ⟨by omega, by omega⟩ hk
  rw [hR] at hh
  simp only at hh
  obtain ⟨mf, hmf⟩ : ∃ mf : Nat, m.mfn = mf := ⟨m.mfn.toNat, by omega⟩
  rw [hmf] at hh hval hfew ⊢
  simp only [Int.toNat_natCast] at hfew ⊢
  have hkd := fun W => kind_calls m.wr W
  have hpt := fun W' (hW : Below W.heap.size W W') => put_calls (h.below hW).g.m mf (by omega) (kindI m.wr) (by unfold kindI; split <;> omega) (by unfold kindI; split <;> omega) hfew
  have hki : ∀ b : Bool, kindI b = if b then 1 else 0 := fun _ => rfl
  have HG := Base.Aside.mk (And.intro h hm2)
  have hgl := blk_lt h.g.g.blk
  have lfb := h.g.m.lt.2
  have ngf : gb ≠ fb := by obtain ⟨cs, q1, q2⟩ := h.g.m.lst; exact fun e => bne h.g.g.blk q1 (by decide) e
  have S0 : ∀ W', Below W.heap.size W W' → W'.cell? ⟨gb, 0, none⟩ = some (.pointer (some ⟨mb, 0, none⟩)) := fun W' hW => blk_cell (h.below hW).g.g.blk 0
  generalize hkk : kindI m.wr = kk at hpt ⊢
  have hkd2 : ∀ W, Calls Try.prog 61 #[.bool m.wr] W fun e w' => e = .returned (.int .i64 kk) ∧ w' = W := fun W => by rw [← hkk]; exact hkd W
  clear h hm2 hkd hki hkk hR
  go_enter Try.func23, Try.ntmps23
  go_wp2_with (first
    | (go_at_call 62; refine hh.mono ?_; rintro z w1 ⟨rfl, hB1⟩; have E1 := Base.Aside.mk hB1; clear hB1)
    | go_in)
  refine wp_world (fun W2 => Below W.heap.size W W2 ∧ W2.heap[w1.heap.size]? = some (.cells #[.int .i64 m.h, .int .i64 m.caller, .int .i64 m.owner, .int .i64 m.ref, .int .i64 mf, .bool m.wr] 135 (0, 0))) ⟨below_alloc E1.out _, blk_new _ _⟩ ?_
  intro W2 ⟨hb2, hx2⟩
  have k0 := S0 _ hb2
  have C2 := fun i => blk_cell hx2 i
  have k4 : W2.cell? ⟨w1.heap.size, 4, none⟩ = some (.int .i64 mf) := blk_cell hx2 4
  have k5 : W2.cell? ⟨w1.heap.size, 5, none⟩ = some (.bool m.wr) := blk_cell hx2 5
  have L2 := blk_lt hx2
  have L3 := Nat.lt_of_lt_of_le hgl hb2.size
  have S3 : ∀ Wx w3, Below W2.heap.size W2 Wx → Chg (fun x => x = fb) Wx w3 → w3.cell? ⟨gb, 0, none⟩ = some (.pointer (some ⟨mb, 0, none⟩)) ∧ w3.cell? ⟨w1.heap.size, 4, none⟩ = some (.int .i64 mf) ∧ w3.cell? ⟨w1.heap.size, 5, none⟩ = some (.bool m.wr) := by
    intro Wx w3 hb hc
    have hbx : Below W.heap.size W Wx := hb2.trans (hb.mono hb2.size)
    have n1 : gb ≠ fb := ngf
    have n2 : w1.heap.size ≠ fb := by have := E1.out.size; omega
    have hy : Wx.heap[w1.heap.size]? = _ := (hb.block _ L2).trans hx2
    have hz := hc.blk hy n2
    exact ⟨blk_cell (hc.blk (HG.out.1.below hbx).g.g.blk n1) 0, blk_cell hz 4, blk_cell hz 5⟩
  have E2 := Base.Aside.mk (And.intro hb2 hx2)
  clear hb2 hx2 C2 hgl
  go_cut [] from 18 to 27 (fun wx => Base.Aside (GX wx gb mm hm mb fb (putS s mf kk) f c pi F n ∧ Chg (fun x => x = fb) W wx))
  case first =>
    go_region_held3 (fun W' => W'.cell? ⟨gb, 0, none⟩ = some (.pointer (some ⟨mb, 0, none⟩)) ∧ W'.cell? ⟨w1.heap.size, 4, none⟩ = some (.int .i64 mf) ∧ W'.cell? ⟨w1.heap.size, 5, none⟩ = some (.bool m.wr))
      (first
        | go_keep
        | exact ⟨k0, k4, k5⟩
        | (refine S3 _ _ ?_ E3.out.2; (repeat (with_reducible first | exact Below.refl _ _ | refine below_drew ?_ | refine below_alloc ?_ _)); done))
      ((first
        | (go_at_call 61; (with_reducible refine (hkd2 _).mono ?_); rintro z w3 ⟨rfl, hw3⟩; obtain rfl := hw3.symm)
        | (go_at_call 63; (with_reducible refine (hpt _ ?_).mono ?_); (focus (repeat (with_reducible first | exact E2.out.1 | refine below_drew ?_ | refine below_alloc ?_ _))); rintro z w3 ⟨rfl, hM3, hC3⟩; have E3 := Base.Aside.mk (And.intro hM3 hC3); clear hM3 hC3)))
    all_goals
      go_wp2_with fail
      go_meet
    case rel =>
      refine ⟨(HG.out.1.below ?_).mach E3.out.1 (putS_n _ _ _) E3.out.2, (Chg.below _ ?_).trans E3.out.2⟩
      all_goals (repeat (with_reducible first | exact E2.out.1 | refine below_drew ?_ | refine below_alloc ?_ _))
  case rest =>
    have okp : ok (d, k) := ⟨by unfold okI; omega, hk⟩
    have EC := Base.Aside.mk hcut.out
    have CC := fun i => blk_cell hcut.out.1.g.g.blk i
    have LC := blk_lt hcut.out.1.g.g.blk
    clear hcut
    go_wp2_with (first
      | (at_delete; go_loud (refine wpK_delete rfl rfl _ _ rfl ((EC.out.1.below (by (repeat (with_reducible first | exact Below.refl _ _ | refine below_drew ?_ | refine below_alloc ?_ _)))).h) (d, k) okp (by rw [HG.out.2]; rfl) (by go_simp) (by go_simp; rfl) ?_); intro w5 hK5 hC5; have E5 := Base.Aside.mk (And.intro hK5 hC5); clear hK5 hC5)
      | go_in)
    go_ret
    refine ⟨by first | rfl | (simp; done), (EC.out.1.below ?_).maps E5.out.1 E5.out.2, ((EC.out.2.mono fun _ h => .inl h).trans (Chg.below _ ?_)).trans (E5.out.2.mono fun _ h => .inr h)⟩
    all_goals (repeat (with_reducible first | exact Below.refl _ _ | refine below_drew ?_ | refine below_alloc ?_ _))
end
end Go.Proofs.Ytjeobbhaoahdcaa.GjC
