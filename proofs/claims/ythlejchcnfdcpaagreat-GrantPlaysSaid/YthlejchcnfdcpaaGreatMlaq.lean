/- Proved: Map where it maps (a contract for the laws of the grants). Proved: Map where its caller has no handle left (a contract for the laws of the grants). Proved: Map through a view with rewrites, where it refuses (contracts for the laws of the grants). Proved: Read and Write of a live map, Free of a frame in use, Revoke of an entry in use (contracts for the laws of the grants). -/
import Derived.Test.YthlejchcnfdcpaaGreatMlan
import Derived.Test.YthlejchcnfdcpaaGreatMlap
namespace Go.Proofs.YthlejchcnfdcpaaGreat.GjF
open Go.RowKit Go.Maps Base GaA GaB GaC GmA GmB GmC GpA GgA GvA GeA GeB GfA GfB GfC GfD GfH GjA GjB GjC GjE
set_option linter.unusedVariables false
set_option linter.unusedSimpArgs false

section
variable {w w' W W' : World} {gb mm hm mb fb : Nat} {f : Int → Option (Int × Nat)} {c : Nat} {s s' : MS} {pi : Nat → PI} {F : Int × Int → Option Mp} {n : Nat} {vb db r r' : Nat}
theorem getS_n (s : MS) (k : Nat) (o kind : Int) : (getS s k o kind).n = s.n := by unfold getS; split <;> rfl
/-- What Map leaves behind. -/
def MapOut (W : World) (gb mm hm mb fb vb db : Nat) (s : MS) (f : Int → Option (Int × Nat)) (c : Nat) (pi : Nat → PI) (F : Int × Int → Option Mp) (n r : Nat) (a er : Int) (e : Ending) (w' : World) : Prop :=
  e = .returned (.tuple #[.int .i64 a, .int .i64 er]) ∧ GX w' gb mm hm mb fb s f c pi F n ∧ V2 w' vb db mb r ∧ Chg (fun x => x = vb ∨ x = fb ∨ x = hm) W w'
set_option maxHeartbeats 8000000 in
set_option maxRecDepth 100000 in
theorem map_ok (h : GX W gb mm hm mb fb s f c pi F n) (hV : V2 W vb db mb r) (hr : 0 ≤ r) (hdb : db ≠ hm) (hn : n < 1000000) (caller : Int) (hc : 0 ≤ caller ∧ caller < 8) (owner : Int) (k pb : Nat) (hd : f owner = some ((k : Int), pb)) (ref : Nat) (h32 : ref < 32) (wr : Bool)
    (hlen : (mapsL F caller 16).length < 16) (hfree : F (caller, (lead 0 (mapsL F caller 16) : Nat)) = none)
    (hpe : permE (ent s k ref) caller = 0) (hsb : (entG (ent s k ref)).sb = false) (hro : (wr && (entG (ent s k ref)).ro) = false)
    (mfn : Nat) (hfm : frameR s (pi pb).size (pi pb).fr owner (entG (ent s k ref)).gp = ((mfn : Int), 0)) (hmn : mfn < s.n) (hfew : Fr.few (s.fr mfn)) (hge : getE (s.fr mfn) owner (kindI wr) = 0) :
    Calls Tryz.prog 22 #[.pointer (some ⟨gb, 0, none⟩), .pointer (some ⟨vb, 0, none⟩), .int .i64 caller, .int .i64 owner, .int .i64 ref, .bool wr] W
      (MapOut W gb mm hm mb fb vb db (getS s mfn owner (kindI wr)) f c pi (kput F (caller, (lead 0 (mapsL F caller 16) : Nat)) ⟨(lead 0 (mapsL F caller 16) : Nat), caller, owner, ref, mfn, wr⟩) (n + 1) (r + 1) (lead 0 (mapsL F caller 16) : Nat) 0) := by
  have hno := GgA.none_calls h.g.g
  have hun := unmade_calls hV
  have hdo := GgA.domain_in caller hc.1 hc.2
  have ho8 : 0 ≤ owner ∧ owner < 8 := (h.g.d owner _ hd).1
  have hkn : k < s.n := by obtain ⟨k2, e1, e2⟩ := (h.g.d owner _ hd).2; simp only at e1; omega
  have hjo := joined_any h.g.g owner ⟨by omega, by omega⟩
  rw [hd] at hjo
  simp only [Option.isSome_some] at hjo
  have hsl : slotB (ref : Int) = true := by unfold slotB; simp; omega
  have hso := slot_any ref
  rw [hsl] at hso
  have hma := fun W' (hW : Below W.heap.size W W') => maps_calls (h.below hW) caller ⟨by omega, by omega⟩
  have hpm := fun W' (hW : Below W.heap.size W W') => permit_any (h.below hW).g.g (h.below hW).g.m (hV.below hW) hr owner ho8.1 ho8.2 k pb hd hkn ref h32 caller
  rw [hpe] at hpm
  have hfr := fun W' (hW : Vw vb db mb W W' (r + 1)) => GfA.frame_calls (h.vw hV hW).g.g (h.vw hV hW).g.m ((h.vw hV hW).g.p owner _ hd).1 ((h.vw hV hW).g.p owner _ hd).2 owner ho8.1 ho8.2 k hd (entG (ent s k ref)).gp
  simp only [hfm] at hfr
  generalize entG (ent s k ref) = g at hpm hfr hsb hro
  unfold aggv at hpm
  have hll := lead_le (mapsL F caller 16) 0
  have hVlt := blk_lt hV.blk
  have hDlt := hV.due.lt
  have hGlt := blk_lt h.g.g.blk
  have hkd := fun W => kind_calls wr W
  have hk0 : 0 ≤ kindI wr := by unfold kindI; split <;> omega
  have hk3 : kindI wr ≤ 3 := by unfold kindI; split <;> omega
  have hki : kindI wr = if wr then 1 else 0 := rfl
  generalize hkk : kindI wr = kk at hk0 hk3 hki hge ⊢
  have hkd2 : ∀ W, Calls Tryz.prog 67 #[.bool wr] W fun e w' => e = .returned (.int .i64 kk) ∧ w' = W := fun W => by rw [hki]; exact hkd W
  clear hkd hki hkk
  have hvh := bnk hV.blk h.h
  generalize hLL : mapsL F caller 16 = L at hlen hll hfree ⊢
  have HG := Base.Aside.mk (And.intro h (And.intro hV (And.intro hfree hge)))
  clear h hV hsl hpe hfm hfree hge hd
  obtain ⟨g1, g2, g3, g4, g5, g6, g7⟩ := g
  simp only at hsb hro hpm hfr
  subst hsb
  have hw : wr = false ∨ (wr = true ∧ g2 = false) := by cases wr <;> simp_all
  clear hro
  rcases hw with rfl | ⟨rfl, rfl⟩
  all_goals
    go_enter Tryz.func22, Tryz.ntmps22
    go_wp2_with (first
      | (go_at_call 52; refine hno.mono ?_; rintro z w9 ⟨rfl, hw9⟩; obtain rfl := hw9.symm)
      | (go_at_call 62; refine hun.mono ?_; rintro z w9 ⟨rfl, hw9⟩; obtain rfl := hw9.symm)
      | (go_at_call 54; refine (hdo _).mono ?_; rintro z w9 ⟨rfl, hw9⟩; obtain rfl := hw9.symm)
      | (go_at_call 63; refine hjo.mono ?_; rintro z w1 ⟨rfl, hB1⟩; have hma1 := hma w1 hB1; have E1 := Base.Aside.mk hB1; clear hB1)
      | (go_at_call 64; refine (hso _).mono ?_; rintro z w9 ⟨rfl, hw9⟩; obtain rfl := hw9.symm)
      | (go_at_call 38; refine hma1.mono ?_; rintro z w2 ⟨v, rfl, hr2, hB2⟩; rw [hLL] at hr2; obtain ⟨A, cA, rfl, hM2⟩ := mrow_of hr2; have hpm2 := hpm w2 (E1.out.trans (hB2.mono E1.out.size)); have E2 := Base.Aside.mk (And.intro (E1.out.trans (hB2.mono E1.out.size)) hM2); clear hB2 hr2 hM2)
      | (go_at_call 65; refine hpm2.mono ?_; rintro z w3 ⟨rfl, hv3⟩; have hv4 := Vw.pre E2.out.1 hVlt hDlt hv3; have hx3 := fun cs => blk_new w3 (.cells cs 32); have hfr2 := fun cs => hfr _ (hv4.alloc (.cells cs 32)); have E3 := Base.Aside.mk (And.intro hv4 (E2.out.2.chg hv3.c (fun x hx => by have := E1.out.size; omega))); clear hv3 hv4)
      | (go_at_call 66; refine (hfr2 _).mono ?_; rintro z w5 ⟨rfl, hB5⟩; have E5 := Base.Aside.mk (And.intro (E3.out.1.alloc _ |>.below hB5) ((E3.out.2.below (below_alloc (Below.refl _ _) _)).below hB5)); clear hB5)
      | go_in)
    have V5 := E5.out.1
    have G5 := HG.out.1.vw HG.out.2.1 V5
    have k0 : w5.cell? ⟨gb, 0, none⟩ = some (.pointer (some ⟨mb, 0, none⟩)) := blk_cell G5.g.g.blk 0
    have L5 := blk_lt G5.g.g.blk
    have hgt := fun W' (hW : Below w5.heap.size w5 W') => get_calls (G5.g.m.below hW) mfn hmn owner kk hk0 hk3 hfew
    have S3 : ∀ Wx w3, Below w5.heap.size w5 Wx → Chg (fun x => x = fb) Wx w3 → w3.cell? ⟨gb, 0, none⟩ = some (.pointer (some ⟨mb, 0, none⟩)) := by
      intro Wx w3 hb hc
      obtain ⟨cs, q1, q2⟩ := (G5.below hb).g.m.lst
      exact blk_cell (hc.blk (G5.below hb).g.g.blk (bne (G5.below hb).g.g.blk q1 (by decide))) 0
    have R6 : ∀ Wx w6, Below w5.heap.size w5 Wx → Mach w6 mb fb (getS s mfn owner kk) → Chg (fun x => x = fb) Wx w6 → GX w6 gb mm hm mb fb (getS s mfn owner kk) f c pi F n ∧ V2 w6 vb db mb (r + 1) ∧ Chg (fun x => x = vb ∨ x = fb) W w6 ∧ MRow w1.heap.size w6 A L := by
      intro Wx w6 hB hM hC
      have q1 := E1.out.size
      have q2 := HG.out.1.g.m.lt.2
      exact ⟨(G5.below hB).mach hM (getS_n _ _ _ _) hC, v2_fb (V5.v.below hB) (G5.below hB).g.m hC, ((V5.c.mono fun _ h => .inl h).trans (Chg.below _ hB)).trans (hC.mono fun _ h => .inr h), (E5.out.2.below hB).chg hC (fun x hx => by omega)⟩
    clear V5 G5
    go_cut [16] from 79 to 87 (fun e wx => e = .int .i64 0 ∧ Base.Aside (GX wx gb mm hm mb fb (getS s mfn owner kk) f c pi F n ∧ V2 wx vb db mb (r + 1) ∧ Chg (fun x => x = vb ∨ x = fb) W wx ∧ MRow w1.heap.size wx A L))
    case first =>
      go_region_held3 (fun W' => W'.cell? ⟨gb, 0, none⟩ = some (.pointer (some ⟨mb, 0, none⟩)))
        (first
          | go_keep
          | exact k0
          | (refine S3 _ _ ?_ E6.out.2; (repeat (with_reducible first | exact Below.refl _ _ | refine below_drew ?_ | refine below_alloc ?_ _)); done))
        ((first
          | (go_at_call 67; (with_reducible refine (hkd2 _).mono ?_); rintro z w6 ⟨rfl, hw6⟩; obtain rfl := hw6.symm)
          | (go_at_call 55; (with_reducible refine (hgt _ ?_).mono ?_); (focus (repeat (with_reducible first | exact Below.refl _ _ | refine below_drew ?_ | refine below_alloc ?_ _))); rintro z w6 ⟨rfl, hM6, hC6⟩; have E6 := Base.Aside.mk (And.intro hM6 hC6); clear hM6 hC6)))
      all_goals
        go_wp2_with fail
        go_meet
      case rel =>
        refine ⟨by rw [HG.out.2.2.2], ⟨R6 _ _ ?_ E6.out.1 E6.out.2⟩⟩
        (repeat (with_reducible first | exact Below.refl _ _ | refine below_drew ?_ | refine below_alloc ?_ _))
    case rest =>
      obtain ⟨rfl, hA⟩ := hcut
      have EC := Base.Aside.mk hA.out
      have CC := fun i => blk_cell hA.out.1.g.g.blk i
      have LC := blk_lt hA.out.1.g.g.blk
      clear hA
      go_wp2
      go_loopw [18] (fun h wr => ∃ j : Nat, h = .int .i64 j ∧ wr = wc ∧ j ≤ L.length ∧ lead 0 L = lead j (L.drop j)) (fun h _ => L.length - (intOf h).toNat)
      case atStart => exact ⟨0, rfl, rfl, Nat.zero_le _, rfl⟩
      case round =>
        obtain ⟨j, rfl, rfl, hjl, hld⟩ := hrel
        have okp : ok (caller, (j : Int)) := ⟨by unfold okI; omega, by unfold okI; omega⟩
        by_cases hj : j < L.length
        · rcases EC.out.2.2.2 with ⟨_, hz⟩ | ⟨g, cs, rfl, hN, hg3, hcs⟩
          · subst hz; simp at hj
          have CG := fun i => blk_cell hg3 i
          have hq := hcs j hj
          have LG := blk_lt hg3
          have hq2 : cs[j * 6]? = some (.int .i64 (L[j]).h) := by rw [Nat.mul_comm]; exact hq
          rw [lead_step L j hj] at hld
          clear hg3 hcs hN
          by_cases e : (L[j]).h = j
          · rw [if_pos e] at hld
            rw [e] at hq hq2
            go_wp2
            go_roundw
            case rel => exact ⟨j + 1, by simp, trivial, by omega, hld⟩
            case measure => simp [intOf]; omega
          · rw [if_neg e] at hld
            have hx := hld
            generalize (L[j]).h = y at hq hq2 e
            go_wp2_with (first
              | (at_mapUpdate; (refine wpK_store rfl rfl _ _ _ rfl (EC.out.1.below (by (repeat (with_reducible first | exact Below.refl _ _ | refine below_drew ?_ | refine below_alloc ?_ _)))).h (caller, (j : Int)) okp ⟨(j : Int), caller, owner, ref, mfn, _⟩ hn (by rw [← hx]; exact HG.out.2.2.1) (by go_simp) (by go_simp; rfl) (by go_simp; rfl) ?_); intro w7 hK7 hC7; have E7 := Base.Aside.mk (And.intro hK7 hC7); clear hK7 hC7)
              | go_in)
            refine bodyPost_ret (v := .tuple #[.int .i64 j, .int .i64 0]) (by simp only [results, Tryz.results22]; go_simp; try rfl) rfl ?_
            refine ⟨by rw [hx], ?_, ?_, ?_⟩
            · rw [hx]
              refine (EC.out.1.below ?_).maps E7.out.1 E7.out.2
              (repeat (with_reducible first | exact Below.refl _ _ | refine below_drew ?_ | refine below_alloc ?_ _))
            · refine (EC.out.2.1.below ?_).chg E7.out.2 hvh hdb
              (repeat (with_reducible first | exact Below.refl _ _ | refine below_drew ?_ | refine below_alloc ?_ _))
            · refine ((EC.out.2.2.1.mono fun x hx => ?_).trans (Chg.below _ ?_)).trans (E7.out.2.mono fun _ h => .inr (.inr h))
              · rcases hx with hx | hx
                · exact .inl hx
                · exact .inr (.inl hx)
              · (repeat (with_reducible first | exact Below.refl _ _ | refine below_drew ?_ | refine below_alloc ?_ _))
        · have hx : lead 0 L = j := by rw [hld]; obtain rfl : j = L.length := by omega
                                       rw [List.drop_length]; rfl
          clear hld
          go_wp2_with (first
            | (at_mapUpdate; (refine wpK_store rfl rfl _ _ _ rfl (EC.out.1.below (by (repeat (with_reducible first | exact Below.refl _ _ | refine below_drew ?_ | refine below_alloc ?_ _)))).h (caller, (j : Int)) okp ⟨(j : Int), caller, owner, ref, mfn, _⟩ hn (by rw [← hx]; exact HG.out.2.2.1) (by go_simp) (by go_simp; rfl) (by go_simp; rfl) ?_); intro w7 hK7 hC7; have E7 := Base.Aside.mk (And.intro hK7 hC7); clear hK7 hC7)
            | go_in)
          refine bodyPost_ret (v := .tuple #[.int .i64 j, .int .i64 0]) (by simp only [results, Tryz.results22]; go_simp; try rfl) rfl ?_
          refine ⟨by rw [hx], ?_, ?_, ?_⟩
          · rw [hx]
            refine (EC.out.1.below ?_).maps E7.out.1 E7.out.2
            (repeat (with_reducible first | exact Below.refl _ _ | refine below_drew ?_ | refine below_alloc ?_ _))
          · refine (EC.out.2.1.below ?_).chg E7.out.2 hvh hdb
            (repeat (with_reducible first | exact Below.refl _ _ | refine below_drew ?_ | refine below_alloc ?_ _))
          · refine ((EC.out.2.2.1.mono fun x hx => ?_).trans (Chg.below _ ?_)).trans (E7.out.2.mono fun _ h => .inr (.inr h))
            · rcases hx with hx | hx
              · exact .inl hx
              · exact .inr (.inl hx)
            · (repeat (with_reducible first | exact Below.refl _ _ | refine below_drew ?_ | refine below_alloc ?_ _))
end
end Go.Proofs.YthlejchcnfdcpaaGreat.GjF
namespace Go.Proofs.YthlejchcnfdcpaaGreat.GjG
open Go.RowKit Go.Maps Base GaA GaB GaC GmA GmB GmC GpA GgA GvA GeA GeB GfA GfB GfC GfD GfH GjA GjB GjC GjE GjF
set_option linter.unusedVariables false
set_option linter.unusedSimpArgs false

section
variable {w w' W W' : World} {gb mm hm mb fb : Nat} {f : Int → Option (Int × Nat)} {c : Nat} {s s' : MS} {pi : Nat → PI} {F : Int × Int → Option Mp} {n : Nat} {vb db r r' : Nat}
set_option maxHeartbeats 8000000 in
set_option maxRecDepth 100000 in
theorem map_full (h : GX W gb mm hm mb fb s f c pi F n) (hV : V2 W vb db mb r) (caller : Int) (hc : 0 ≤ caller ∧ caller < 8) (owner : Int) (k pb : Nat) (hd : f owner = some ((k : Int), pb)) (ref : Nat) (h32 : ref < 32) (wr : Bool)
    (hlen : (mapsL F caller 16).length = 16) :
    Calls Tryz.prog 22 #[.pointer (some ⟨gb, 0, none⟩), .pointer (some ⟨vb, 0, none⟩), .int .i64 caller, .int .i64 owner, .int .i64 ref, .bool wr] W fun e w' =>
      e = .returned (.tuple #[.int .i64 0, .int .i64 64]) ∧ Below W.heap.size W w' := by
  have hno := GgA.none_calls h.g.g
  have hun := unmade_calls hV
  have hdo := GgA.domain_in caller hc.1 hc.2
  have ho8 : 0 ≤ owner ∧ owner < 8 := (h.g.d owner _ hd).1
  have hjo := joined_any h.g.g owner ⟨by omega, by omega⟩
  rw [hd] at hjo
  simp only [Option.isSome_some] at hjo
  have hsl : slotB (ref : Int) = true := by unfold slotB; simp; omega
  have hso := slot_any ref
  rw [hsl] at hso
  have hma := fun W' (hW : Below W.heap.size W W') => maps_calls (h.below hW) caller ⟨by omega, by omega⟩
  clear h hV hsl hd
  generalize hLL : mapsL F caller 16 = L at hlen
  go_enter Tryz.func22, Tryz.ntmps22
  go_wp2_with (first
    | (go_at_call 52; refine hno.mono ?_; rintro z w9 ⟨rfl, hw9⟩; obtain rfl := hw9.symm)
    | (go_at_call 62; refine hun.mono ?_; rintro z w9 ⟨rfl, hw9⟩; obtain rfl := hw9.symm)
    | (go_at_call 54; refine (hdo _).mono ?_; rintro z w9 ⟨rfl, hw9⟩; obtain rfl := hw9.symm)
    | (go_at_call 63; refine hjo.mono ?_; rintro z w1 ⟨rfl, hB1⟩; have hma1 := hma w1 hB1; have E1 := Base.Aside.mk hB1; clear hB1)
    | (go_at_call 64; refine (hso _).mono ?_; rintro z w9 ⟨rfl, hw9⟩; obtain rfl := hw9.symm)
    | (go_at_call 38; refine hma1.mono ?_; rintro z w2 ⟨v, rfl, hr2, hB2⟩; rw [hLL] at hr2; obtain ⟨A, cA, rfl, hM2⟩ := mrow_of hr2; have E2 := Base.Aside.mk (E1.out.trans (hB2.mono E1.out.size)); rw [hlen]; clear hB2 hr2 hM2)
    | go_in)
  refine bodyPost_ret (v := .tuple #[.int .i64 0, .int .i64 64]) (by simp only [results, Tryz.results22]; go_simp; try rfl) rfl ⟨rfl, E2.out⟩
end
end Go.Proofs.YthlejchcnfdcpaaGreat.GjG
namespace Go.Proofs.YthlejchcnfdcpaaGreat.GwJ
open Go.RowKit Go.Maps Base GaA GaB GaC GmA GmB GmC GpA GgA GeA GeB GfA GfB GfC GfD GfH GjA GjB GjC GjE GjF GwB GwF GwH
set_option linter.unusedVariables false
set_option linter.unusedSimpArgs false

section
variable {a : VA} {w w' W W' : World} {gb mm hm : Nat} {f : Int → Option (Int × Nat)} {c : Nat} {s s' : MS} {pi : Nat → PI} {F : Int × Int → Option Mp} {n : Nat} {r r' : Nat}
theorem gx_vm (h : GX W gb mm hm a.mb a.fb s f c pi F n) (k : Vm a W W' r' s') (hn : s'.n = s.n) : GX W' gb mm hm a.mb a.fb s' f c pi F n := by
  obtain ⟨r0, h0⟩ := k.v0
  obtain ⟨cs, h1, h2⟩ := h.g.m.lst
  refine ⟨gw_vm h.g k hn, h.h.chg k.c ?_, h.mh, h.ph⟩
  rintro (e | e)
  · exact bnk h0.blk h.h e.symm
  · exact bnk h1 h.h e.symm
set_option maxHeartbeats 8000000 in
set_option maxRecDepth 100000 in
theorem map_arg (h : GX W gb mm hm a.mb a.fb s f c pi F n) (hV : Vm a W W r s) (caller owner ref : Int) (ho : okI owner) (wr : Bool) (hb : ¬ (0 ≤ caller ∧ caller < 8) ∨ f owner = none ∨ slotB ref = false) :
    Calls Tryz.prog 22 #[.pointer (some ⟨gb, 0, none⟩), .pointer (some ⟨a.vb, 0, none⟩), .int .i64 caller, .int .i64 owner, .int .i64 ref, .bool wr] W fun e w' => e = .returned (.tuple #[.int .i64 0, .int .i64 1]) ∧ Below W.heap.size W w' := by
  have hno := GgA.none_calls h.g.g
  have hun := hV.unmade
  have hdo := GgA.domain_calls caller
  have hjo := joined_any h.g.g owner ho
  have hso := slot_any ref
  have hcase : (decide (0 ≤ caller) && decide (caller < 8)) = false ∨ ((decide (0 ≤ caller) && decide (caller < 8)) = true ∧ (f owner).isSome = false) ∨ ((decide (0 ≤ caller) && decide (caller < 8)) = true ∧ (f owner).isSome = true ∧ slotB ref = false) := by
    cases h1 : (decide (0 ≤ caller) && decide (caller < 8)) with
    | false => exact .inl rfl
    | true =>
      right
      have hc : 0 ≤ caller ∧ caller < 8 := by simpa using h1
      cases h2 : f owner with
      | none => exact .inl ⟨rfl, rfl⟩
      | some x =>
        rcases hb with hb | hb | hb
        · exact absurd hc hb
        · rw [h2] at hb; cases hb
        · exact .inr ⟨rfl, rfl, hb⟩
  generalize (f owner).isSome = b2 at hjo hcase
  generalize slotB ref = b3 at hso hcase
  generalize (decide (0 ≤ caller) && decide (caller < 8)) = b1 at hdo hcase
  clear h hV hb
  rcases hcase with rfl | ⟨rfl, rfl⟩ | ⟨rfl, rfl, rfl⟩
  all_goals
    go_enter Tryz.func22, Tryz.ntmps22
    go_wp2_with (first
      | (go_at_call 52; (with_reducible refine hno.mono ?_); rintro z w9 ⟨rfl, hw9⟩; obtain rfl := hw9.symm)
      | (go_at_call 62; (with_reducible refine hun.mono ?_); rintro z w9 ⟨rfl, hw9⟩; obtain rfl := hw9.symm)
      | (go_at_call 54; (with_reducible refine (hdo _).mono ?_); rintro z w9 ⟨rfl, hw9⟩; obtain rfl := hw9.symm)
      | (go_at_call 63; (with_reducible refine hjo.mono ?_); rintro z w1 ⟨rfl, hB1⟩; have E1 := Base.Aside.mk hB1; clear hB1)
      | (go_at_call 64; (with_reducible refine (hso _).mono ?_); rintro z w9 ⟨rfl, hw9⟩; obtain rfl := hw9.symm)
      | go_in)
    refine bodyPost_ret (v := .tuple #[.int .i64 0, .int .i64 1]) (by simp only [results, Tryz.results22]; go_simp; try rfl) rfl ⟨rfl, ?_⟩
    first | exact E1.out | exact Below.refl _ _
set_option maxHeartbeats 8000000 in
set_option maxRecDepth 100000 in
theorem map_full (h : GX W gb mm hm a.mb a.fb s f c pi F n) (hV : Vm a W W r s) (caller : Int) (hc : 0 ≤ caller ∧ caller < 8) (owner : Int) (k pb : Nat) (hd : f owner = some ((k : Int), pb)) (ref : Nat) (h32 : ref < 32) (wr : Bool)
    (hlen : (mapsL F caller 16).length = 16) :
    Calls Tryz.prog 22 #[.pointer (some ⟨gb, 0, none⟩), .pointer (some ⟨a.vb, 0, none⟩), .int .i64 caller, .int .i64 owner, .int .i64 ref, .bool wr] W fun e w' => e = .returned (.tuple #[.int .i64 0, .int .i64 64]) ∧ Below W.heap.size W w' := by
  have hno := GgA.none_calls h.g.g
  have hun := hV.unmade
  have hdo := GgA.domain_in caller hc.1 hc.2
  have ho8 : 0 ≤ owner ∧ owner < 8 := (h.g.d owner _ hd).1
  have hjo := joined_any h.g.g owner ⟨by omega, by omega⟩
  rw [hd] at hjo
  simp only [Option.isSome_some] at hjo
  have hsl : slotB (ref : Int) = true := by unfold slotB; simp; omega
  have hso := slot_any ref
  rw [hsl] at hso
  have hma := fun W' (hW : Below W.heap.size W W') => maps_calls (h.below hW) caller ⟨by omega, by omega⟩
  clear h hV hsl hd
  generalize hLL : mapsL F caller 16 = L at hlen
  go_enter Tryz.func22, Tryz.ntmps22
  go_wp2_with (first
    | (go_at_call 52; (with_reducible refine hno.mono ?_); rintro z w9 ⟨rfl, hw9⟩; obtain rfl := hw9.symm)
    | (go_at_call 62; (with_reducible refine hun.mono ?_); rintro z w9 ⟨rfl, hw9⟩; obtain rfl := hw9.symm)
    | (go_at_call 54; (with_reducible refine (hdo _).mono ?_); rintro z w9 ⟨rfl, hw9⟩; obtain rfl := hw9.symm)
    | (go_at_call 63; (with_reducible refine hjo.mono ?_); rintro z w1 ⟨rfl, hB1⟩; have hma1 := hma w1 hB1; have E1 := Base.Aside.mk hB1; clear hB1)
    | (go_at_call 64; (with_reducible refine (hso _).mono ?_); rintro z w9 ⟨rfl, hw9⟩; obtain rfl := hw9.symm)
    | (go_at_call 38; (with_reducible refine hma1.mono ?_); rintro z w2 ⟨v, rfl, hr2, hB2⟩; rw [hLL] at hr2; obtain ⟨A, cA, rfl, hM2⟩ := mrow_of hr2; have E2 := Base.Aside.mk (E1.out.trans (hB2.mono E1.out.size)); rw [hlen]; clear hB2 hr2 hM2)
    | go_in)
  refine bodyPost_ret (v := .tuple #[.int .i64 0, .int .i64 64]) (by simp only [results, Tryz.results22]; go_simp; try rfl) rfl ⟨rfl, E2.out⟩
set_option maxHeartbeats 8000000 in
set_option maxRecDepth 100000 in
theorem map_no (h : GX W gb mm hm a.mb a.fb s f c pi F n) (hV : Vm a W W r s) (caller : Int) (hc : 0 ≤ caller ∧ caller < 8) (owner : Int) (k pb : Nat) (hd : f owner = some ((k : Int), pb)) (ref : Nat) (h32 : ref < 32) (wr : Bool)
    (hlen : (mapsL F caller 16).length < 16) (er : Int) (her : er = (if permE (ent (pokeS s a.ps r) k ref) caller ≠ 0 then permE (ent (pokeS s a.ps r) k ref) caller else if (entG (ent (pokeS s a.ps r) k ref)).sb = true then 61 else if (wr && (entG (ent (pokeS s a.ps r) k ref)).ro) = true then 62 else (frameR (pokeS s a.ps r) (pi pb).size (pi pb).fr owner (entG (ent (pokeS s a.ps r) k ref)).gp).2)) (her0 : er ≠ 0) :
    Calls Tryz.prog 22 #[.pointer (some ⟨gb, 0, none⟩), .pointer (some ⟨a.vb, 0, none⟩), .int .i64 caller, .int .i64 owner, .int .i64 ref, .bool wr] W fun e w' => e = .returned (.tuple #[.int .i64 0, .int .i64 er]) ∧ Vm a W w' (r + 1) (pokeS s a.ps r) := by
  have hno := GgA.none_calls h.g.g
  have hun := hV.unmade
  have hdo := GgA.domain_in caller hc.1 hc.2
  have ho8 : 0 ≤ owner ∧ owner < 8 := (h.g.d owner _ hd).1
  have hjo := joined_any h.g.g owner ⟨by omega, by omega⟩
  rw [hd] at hjo
  simp only [Option.isSome_some] at hjo
  have hsl : slotB (ref : Int) = true := by unfold slotB; simp; omega
  have hso := slot_any ref
  rw [hsl] at hso
  have hma := fun W' (hW : Below W.heap.size W W') => maps_calls (h.below hW) caller ⟨by omega, by omega⟩
  have hkn : k < s.n := by obtain ⟨k2, e1, e2⟩ := (h.g.d owner _ hd).2; simp only at e1; omega
  obtain ⟨s1, hs1⟩ : ∃ s1, s1 = pokeS s a.ps r := ⟨_, rfl⟩
  have hn1 : s1.n = s.n := by rw [hs1, pokeS_n]
  have hpm := fun W' (hW : Below W.heap.size W W') => GwF.permit_any (h.below hW).g.g (Vm.start (hV.v.below hW) (hV.m.below hW) hV.hB hV.h64) owner ho8.1 ho8.2 k pb hd hkn ref h32 caller
  have hfr := fun W' (hW : Vm a W W' (r + 1) s1) => GfA.frame_calls (gx_vm h hW hn1).g.g (gx_vm h hW hn1).g.m ((gx_vm h hW hn1).g.p owner _ hd).1 ((gx_vm h hW hn1).g.p owner _ hd).2 owner ho8.1 ho8.2 k hd (entG (ent s1 k ref)).gp
  rw [← hs1] at hpm her ⊢
  have HV0 := Base.Aside.mk hV
  have hlv := hV.lt.1
  have hlf := hV.lm.2
  simp only at hfr
  generalize frameR s1 (pi pb).size (pi pb).fr owner (entG (ent s1 k ref)).gp = q at hfr her
  generalize permE (ent s1 k ref) caller = pe at hpm her
  generalize entG (ent s1 k ref) = g at hpm hfr her
  unfold aggv at hpm
  obtain ⟨g1, g2, g3, g4, g5, g6, g7⟩ := g
  simp only at hpm hfr her
  have hcase : (pe ≠ 0 ∧ er = pe) ∨ (pe = 0 ∧ g3 = true ∧ er = 61) ∨ (pe = 0 ∧ g3 = false ∧ wr = true ∧ g2 = true ∧ er = 62) ∨ (pe = 0 ∧ g3 = false ∧ ((wr = false) ∨ (wr = true ∧ g2 = false)) ∧ er = q.2) := by
    by_cases h1 : pe = 0
    · rw [if_neg (by simp [h1])] at her
      right
      cases g3 with
      | true => exact .inl ⟨h1, rfl, by simpa using her⟩
      | false =>
        right
        simp only [Bool.false_eq_true, if_false] at her
        cases wr with
        | false => exact .inr ⟨h1, rfl, .inl rfl, by simpa using her⟩
        | true =>
          cases g2 with
          | true => exact .inl ⟨h1, rfl, rfl, rfl, by simpa using her⟩
          | false => exact .inr ⟨h1, rfl, .inr ⟨rfl, rfl⟩, by simpa using her⟩
    · rw [if_pos h1] at her
      exact .inl ⟨h1, her⟩
  clear her h hV hsl hd hs1 hn1 hkn
  generalize hLL : mapsL F caller 16 = L at hlen
  have hlen2 : decide (L.length = 16) = false := decide_eq_false (by omega)
  have hlen3 : ((L.length : Int) == 16) = false := by rw [beq_eq_false_iff_ne]; omega
  rcases hcase with ⟨hpe, rfl⟩ | ⟨rfl, rfl, rfl⟩ | ⟨rfl, rfl, rfl, rfl, rfl⟩ | ⟨rfl, rfl, hw, rfl⟩
  · have d1 : (er == 0) = false := by simp [her0]
    have d2 : (er != 0) = true := by simp [her0]
    clear her0 hpe
    go_enter Tryz.func22, Tryz.ntmps22
    go_wp2_with (first
      | (go_at_call 52; (with_reducible refine hno.mono ?_); rintro z w9 ⟨rfl, hw9⟩; obtain rfl := hw9.symm)
      | (go_at_call 62; (with_reducible refine hun.mono ?_); rintro z w9 ⟨rfl, hw9⟩; obtain rfl := hw9.symm)
      | (go_at_call 54; (with_reducible refine (hdo _).mono ?_); rintro z w9 ⟨rfl, hw9⟩; obtain rfl := hw9.symm)
      | (go_at_call 63; (with_reducible refine hjo.mono ?_); rintro z w1 ⟨rfl, hB1⟩; have hma1 := hma w1 hB1; have E1 := Base.Aside.mk hB1; clear hB1)
      | (go_at_call 64; (with_reducible refine (hso _).mono ?_); rintro z w9 ⟨rfl, hw9⟩; obtain rfl := hw9.symm)
      | (go_at_call 38; (with_reducible refine hma1.mono ?_); rintro z w2 ⟨v, rfl, hr2, hB2⟩; rw [hLL] at hr2; obtain ⟨A, cA, rfl, hM2⟩ := mrow_of hr2; have hpm2 := hpm w2 (E1.out.trans (hB2.mono E1.out.size)); have E2 := Base.Aside.mk (And.intro (E1.out.trans (hB2.mono E1.out.size)) hM2); clear hB2 hr2 hM2)
      | (go_at_call 65; (with_reducible refine hpm2.mono ?_); rintro z w3 ⟨rfl, hv3⟩; have hv4 := Vm.pre E2.out.1 HV0.out hv3; have hx3 := fun cs => blk_new w3 (.cells cs 32); have hfr2 := fun cs => hfr _ (hv4.alloc (.cells cs 32)); have E3 := Base.Aside.mk (And.intro hv4 (E2.out.2.chg hv3.c (fun x hx => by have := E1.out.size; omega))); clear hv3 hv4)
      | go_in)
    refine bodyPost_ret (v := .tuple #[.int .i64 0, .int .i64 er]) (by simp only [results, Tryz.results22]; go_simp; try rfl) rfl ⟨rfl, E3.out.1.alloc _⟩
  · go_enter Tryz.func22, Tryz.ntmps22
    go_wp2_with (first
      | (go_at_call 52; (with_reducible refine hno.mono ?_); rintro z w9 ⟨rfl, hw9⟩; obtain rfl := hw9.symm)
      | (go_at_call 62; (with_reducible refine hun.mono ?_); rintro z w9 ⟨rfl, hw9⟩; obtain rfl := hw9.symm)
      | (go_at_call 54; (with_reducible refine (hdo _).mono ?_); rintro z w9 ⟨rfl, hw9⟩; obtain rfl := hw9.symm)
      | (go_at_call 63; (with_reducible refine hjo.mono ?_); rintro z w1 ⟨rfl, hB1⟩; have hma1 := hma w1 hB1; have E1 := Base.Aside.mk hB1; clear hB1)
      | (go_at_call 64; (with_reducible refine (hso _).mono ?_); rintro z w9 ⟨rfl, hw9⟩; obtain rfl := hw9.symm)
      | (go_at_call 38; (with_reducible refine hma1.mono ?_); rintro z w2 ⟨v, rfl, hr2, hB2⟩; rw [hLL] at hr2; obtain ⟨A, cA, rfl, hM2⟩ := mrow_of hr2; have hpm2 := hpm w2 (E1.out.trans (hB2.mono E1.out.size)); have E2 := Base.Aside.mk (And.intro (E1.out.trans (hB2.mono E1.out.size)) hM2); clear hB2 hr2 hM2)
      | (go_at_call 65; (with_reducible refine hpm2.mono ?_); rintro z w3 ⟨rfl, hv3⟩; have hv4 := Vm.pre E2.out.1 HV0.out hv3; have hx3 := fun cs => blk_new w3 (.cells cs 32); have hfr2 := fun cs => hfr _ (hv4.alloc (.cells cs 32)); have E3 := Base.Aside.mk (And.intro hv4 (E2.out.2.chg hv3.c (fun x hx => by have := E1.out.size; omega))); clear hv3 hv4)
      | go_in)
    refine bodyPost_ret (v := .tuple #[.int .i64 0, .int .i64 61]) (by simp only [results, Tryz.results22]; go_simp; try rfl) rfl ⟨rfl, E3.out.1.alloc _⟩
  · go_enter Tryz.func22, Tryz.ntmps22
    go_wp2_with (first
      | (go_at_call 52; (with_reducible refine hno.mono ?_); rintro z w9 ⟨rfl, hw9⟩; obtain rfl := hw9.symm)
      | (go_at_call 62; (with_reducible refine hun.mono ?_); rintro z w9 ⟨rfl, hw9⟩; obtain rfl := hw9.symm)
      | (go_at_call 54; (with_reducible refine (hdo _).mono ?_); rintro z w9 ⟨rfl, hw9⟩; obtain rfl := hw9.symm)
      | (go_at_call 63; (with_reducible refine hjo.mono ?_); rintro z w1 ⟨rfl, hB1⟩; have hma1 := hma w1 hB1; have E1 := Base.Aside.mk hB1; clear hB1)
      | (go_at_call 64; (with_reducible refine (hso _).mono ?_); rintro z w9 ⟨rfl, hw9⟩; obtain rfl := hw9.symm)
      | (go_at_call 38; (with_reducible refine hma1.mono ?_); rintro z w2 ⟨v, rfl, hr2, hB2⟩; rw [hLL] at hr2; obtain ⟨A, cA, rfl, hM2⟩ := mrow_of hr2; have hpm2 := hpm w2 (E1.out.trans (hB2.mono E1.out.size)); have E2 := Base.Aside.mk (And.intro (E1.out.trans (hB2.mono E1.out.size)) hM2); clear hB2 hr2 hM2)
      | (go_at_call 65; (with_reducible refine hpm2.mono ?_); rintro z w3 ⟨rfl, hv3⟩; have hv4 := Vm.pre E2.out.1 HV0.out hv3; have hx3 := fun cs => blk_new w3 (.cells cs 32); have hfr2 := fun cs => hfr _ (hv4.alloc (.cells cs 32)); have E3 := Base.Aside.mk (And.intro hv4 (E2.out.2.chg hv3.c (fun x hx => by have := E1.out.size; omega))); clear hv3 hv4)
      | go_in)
    refine bodyPost_ret (v := .tuple #[.int .i64 0, .int .i64 62]) (by simp only [results, Tryz.results22]; go_simp; try rfl) rfl ⟨rfl, E3.out.1.alloc _⟩
  · have d1 : (q.2 == 0) = false := by simp [her0]
    have d2 : (q.2 != 0) = true := by simp [her0]
    clear her0
    rcases hw with rfl | ⟨rfl, rfl⟩
    all_goals
      go_enter Tryz.func22, Tryz.ntmps22
      go_wp2_with (first
        | (go_at_call 52; (with_reducible refine hno.mono ?_); rintro z w9 ⟨rfl, hw9⟩; obtain rfl := hw9.symm)
        | (go_at_call 62; (with_reducible refine hun.mono ?_); rintro z w9 ⟨rfl, hw9⟩; obtain rfl := hw9.symm)
        | (go_at_call 54; (with_reducible refine (hdo _).mono ?_); rintro z w9 ⟨rfl, hw9⟩; obtain rfl := hw9.symm)
        | (go_at_call 63; (with_reducible refine hjo.mono ?_); rintro z w1 ⟨rfl, hB1⟩; have hma1 := hma w1 hB1; have E1 := Base.Aside.mk hB1; clear hB1)
        | (go_at_call 64; (with_reducible refine (hso _).mono ?_); rintro z w9 ⟨rfl, hw9⟩; obtain rfl := hw9.symm)
        | (go_at_call 38; (with_reducible refine hma1.mono ?_); rintro z w2 ⟨v, rfl, hr2, hB2⟩; rw [hLL] at hr2; obtain ⟨A, cA, rfl, hM2⟩ := mrow_of hr2; have hpm2 := hpm w2 (E1.out.trans (hB2.mono E1.out.size)); have E2 := Base.Aside.mk (And.intro (E1.out.trans (hB2.mono E1.out.size)) hM2); clear hB2 hr2 hM2)
        | (go_at_call 65; (with_reducible refine hpm2.mono ?_); rintro z w3 ⟨rfl, hv3⟩; have hv4 := Vm.pre E2.out.1 HV0.out hv3; have hx3 := fun cs => blk_new w3 (.cells cs 32); have hfr2 := fun cs => hfr _ (hv4.alloc (.cells cs 32)); have E3 := Base.Aside.mk (And.intro hv4 (E2.out.2.chg hv3.c (fun x hx => by have := E1.out.size; omega))); clear hv3 hv4)
        | (go_at_call 66; (with_reducible refine (hfr2 _).mono ?_); rintro z w5 ⟨rfl, hB5⟩; have E5 := Base.Aside.mk (And.intro (E3.out.1.alloc _ |>.below hB5) ((E3.out.2.below (below_alloc (Below.refl _ _) _)).below hB5)); clear hB5)
        | go_in)
      refine bodyPost_ret (v := .tuple #[.int .i64 0, .int .i64 q.2]) (by simp only [results, Tryz.results22]; go_simp; try rfl) rfl ⟨rfl, E5.out.1⟩
end
end Go.Proofs.YthlejchcnfdcpaaGreat.GwJ
namespace Go.Proofs.YthlejchcnfdcpaaGreat.GjH
open Go.RowKit Go.Maps Base GaA GaB GaC GmA GmB GmC GpA GgA GvA GeA GeB GfA GfB GfC GfD GfH GjA GjB GjC GjE GjF
set_option linter.unusedVariables false
set_option linter.unusedSimpArgs false

section
variable {w w' W W' : World} {gb mm hm mb fb : Nat} {f : Int → Option (Int × Nat)} {c : Nat} {s s' : MS} {pi : Nat → PI} {F : Int × Int → Option Mp} {n : Nat} {vb db r r' : Nat}
/-- Why a map is not read. -/
def rdE (R : Mp × Int) (off l : Int) : Int := if R.2 ≠ 0 then R.2 else if inn off l 256 = false then 63 else 0
set_option maxHeartbeats 8000000 in
set_option maxRecDepth 100000 in
theorem read_no (h : GX W gb mm hm mb fb s f c pi F n) (hV : V2 W vb db mb r) (d k off l : Int) (hd : okI d) (hk : okI k) (hne : rdE (heldR F d k) off l ≠ 0) :
    Calls Tryz.prog 27 #[.pointer (some ⟨gb, 0, none⟩), .pointer (some ⟨vb, 0, none⟩), .int .i64 d, .int .i64 k, .int .i64 off, .int .i64 l] W fun e w' => e = .returned (.tuple #[.slice none 0 0, .int .i64 (rdE (heldR F d k) off l)]) ∧ Below W.heap.size W w' := by
  have hno := GgA.none_calls h.g.g
  have hun := unmade_calls hV
  have hh := held_calls h d k hd hk
  have hwi := fun W => within_calls off l 256 (by omega) (by omega) W
  clear h hV
  generalize heldR F d k = R at hh hne ⊢
  obtain ⟨m, er⟩ := R
  simp only at hh
  unfold rdE at hne ⊢
  simp only at hne ⊢
  have hcs : (er ≠ 0 ∧ (er == 0) = false) ∨ (er = 0 ∧ inn off l 256 = false) := by
    by_cases e : er = 0
    · rw [if_neg (by simp [e])] at hne
      refine .inr ⟨e, ?_⟩
      cases hi : inn off l 256 with
      | false => rfl
      | true => rw [hi] at hne; simp at hne
    · exact .inl ⟨e, by simp [e]⟩
  clear hne
  rcases hcs with ⟨h1, h2⟩ | ⟨rfl, h2⟩
  · rw [if_pos h1]
    go_enter Tryz.func27, Tryz.ntmps27
    go_wp2_with (first
      | (go_at_call 52; refine hno.mono ?_; rintro z w9 ⟨rfl, hw9⟩; obtain rfl := hw9.symm)
      | (go_at_call 62; refine hun.mono ?_; rintro z w9 ⟨rfl, hw9⟩; obtain rfl := hw9.symm)
      | (go_at_call 74; refine hh.mono ?_; rintro z w1 ⟨rfl, hB1⟩; have E1 := Base.Aside.mk hB1; clear hB1)
      | go_in)
    refine bodyPost_ret (v := .tuple #[.slice none 0 0, .int .i64 er]) (by simp only [results, Tryz.results27]; go_simp; try rfl) rfl ⟨rfl, ?_⟩
    exact below_alloc E1.out _
  · rw [if_neg (by simp), if_pos h2]
    rw [h2] at hwi
    go_enter Tryz.func27, Tryz.ntmps27
    go_wp2_with (first
      | (go_at_call 52; refine hno.mono ?_; rintro z w9 ⟨rfl, hw9⟩; obtain rfl := hw9.symm)
      | (go_at_call 62; refine hun.mono ?_; rintro z w9 ⟨rfl, hw9⟩; obtain rfl := hw9.symm)
      | (go_at_call 74; refine hh.mono ?_; rintro z w1 ⟨rfl, hB1⟩; have E1 := Base.Aside.mk hB1; clear hB1)
      | (go_at_call 77; refine (hwi _).mono ?_; rintro z w6 ⟨rfl, hw6⟩; obtain rfl := hw6.symm)
      | go_in)
    refine bodyPost_ret (v := .tuple #[.slice none 0 0, .int .i64 63]) (by simp only [results, Tryz.results27]; go_simp; try rfl) rfl ⟨rfl, ?_⟩
    exact below_alloc E1.out _
def RoOut (W : World) (vb db mb r : Nat) (s : MS) (k off l : Int) (e : Ending) (w' : World) : Prop := ∃ (A : Option Addr) (z : Nat) (er : Int) (N : Nat), e = .returned (.tuple #[.slice A z z, .int .i64 er]) ∧ W.heap.size ≤ N ∧ RdOk N s k off l A z er w' ∧ Vw vb db mb W w' (r + 1)
set_option maxHeartbeats 8000000 in
set_option maxRecDepth 100000 in
theorem read_ok (h : GX W gb mm hm mb fb s f c pi F n) (hV : V2 W vb db mb r) (d k off l : Int) (hd : okI d) (hk : okI k) (m : Mp) (hm2 : heldR F d k = (m, 0)) (hin : inn off l 256 = true) :
    Calls Tryz.prog 27 #[.pointer (some ⟨gb, 0, none⟩), .pointer (some ⟨vb, 0, none⟩), .int .i64 d, .int .i64 k, .int .i64 off, .int .i64 l] W (RoOut W vb db mb r s m.mfn off l) := by
  have hno := GgA.none_calls h.g.g
  have hun := unmade_calls hV
  have hh := held_calls h d k hd hk
  rw [hm2] at hh
  simp only at hh
  have hwi := fun W => within_calls off l 256 (by omega) (by omega) W
  rw [hin] at hwi
  have hvr := fun W' (hW : Below W.heap.size W W') => vread_any (hV.below hW) (h.below hW).g.m (Nat.zero_le _) m.mfn off l
  have HG := Base.Aside.mk hV
  clear h hV hm2 hin
  go_enter Tryz.func27, Tryz.ntmps27
  go_wp2_with (first
    | (go_at_call 52; refine hno.mono ?_; rintro z w9 ⟨rfl, hw9⟩; obtain rfl := hw9.symm)
    | (go_at_call 62; refine hun.mono ?_; rintro z w9 ⟨rfl, hw9⟩; obtain rfl := hw9.symm)
    | (go_at_call 74; refine hh.mono ?_; rintro z w1 ⟨rfl, hB1⟩; have hvr2 := (fun cs => hvr _ (below_alloc hB1 (.cells cs 102))); have E1 := Base.Aside.mk hB1; clear hB1)
    | (go_at_call 77; refine (hwi _).mono ?_; rintro z w6 ⟨rfl, hw6⟩; obtain rfl := hw6.symm)
    | (go_at_call 78; refine (hvr2 _).mono ?_; rintro z w7 ⟨A, y, er, rfl, hR7, hV7⟩; have E7 := Base.Aside.mk (And.intro hR7 hV7); clear hR7 hV7)
    | go_in)
  refine bodyPost_ret (v := .tuple #[.slice A y y, .int .i64 er]) (by simp only [results, Tryz.results27]; go_simp; try rfl) rfl ⟨A, y, er, _, rfl, ?_, E7.out.1, Vw.pre (below_alloc E1.out _) (blk_lt HG.out.blk) HG.out.due.lt E7.out.2⟩
  exact (below_alloc E1.out _).size
end
end Go.Proofs.YthlejchcnfdcpaaGreat.GjH
