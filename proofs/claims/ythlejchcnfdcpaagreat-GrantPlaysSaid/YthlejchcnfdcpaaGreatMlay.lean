/- Proved: Map through a view with rewrites, where it maps (contracts for the laws of the grants). Proved: Map through a view with rewrites, where the frame refuses (contracts for the laws of the grants). -/
import Derived.Test.YthlejchcnfdcpaaGreatMlaq
namespace Go.Proofs.YthlejchcnfdcpaaGreat.GwK
open Go.RowKit Go.Maps Base GaA GaB GaC GmA GmB GmC GpA GgA GeA GeB GfA GfB GfC GfD GfH GjA GjB GjC GjE GjF GwB GwF GwH GwJ
set_option linter.unusedVariables false
set_option linter.unusedSimpArgs false

section
variable {a : VA} {w w' W W' : World} {gb mm hm : Nat} {f : Int → Option (Int × Nat)} {c : Nat} {s s' : MS} {pi : Nat → PI} {F : Int × Int → Option Mp} {n : Nat} {r r' : Nat}
/-- What Map leaves behind. -/
def MapOut (W : World) (a : VA) (gb mm hm : Nat) (s : MS) (f : Int → Option (Int × Nat)) (c : Nat) (pi : Nat → PI) (F : Int × Int → Option Mp) (n r : Nat) (x er : Int) (e : Ending) (w' : World) : Prop :=
  e = .returned (.tuple #[.int .i64 x, .int .i64 er]) ∧ GX w' gb mm hm a.mb a.fb s f c pi F n ∧ V3 w' a.B a.vb a.db a.cb a.mb r a.ps ∧ Chg (fun x => x = a.vb ∨ x = a.fb ∨ x = hm) W w'
set_option maxHeartbeats 8000000 in
set_option maxRecDepth 100000 in
theorem map_ok (h : GX W gb mm hm a.mb a.fb s f c pi F n) (hV : Vm a W W r s) (hdb : hm < a.B) (hn : n < 1000000) (caller : Int) (hc : 0 ≤ caller ∧ caller < 8) (owner : Int) (k pb : Nat) (hd : f owner = some ((k : Int), pb)) (ref : Nat) (h32 : ref < 32) (wr : Bool)
    (hlen : (mapsL F caller 16).length < 16) (hfree : F (caller, (lead 0 (mapsL F caller 16) : Nat)) = none)
    (hpe : permE (ent (pokeS s a.ps r) k ref) caller = 0) (hsb : (entG (ent (pokeS s a.ps r) k ref)).sb = false) (hro : (wr && (entG (ent (pokeS s a.ps r) k ref)).ro) = false)
    (mfn : Nat) (hfm : frameR (pokeS s a.ps r) (pi pb).size (pi pb).fr owner (entG (ent (pokeS s a.ps r) k ref)).gp = ((mfn : Int), 0)) (hmn : mfn < s.n) (hfew : Fr.few ((pokeS s a.ps r).fr mfn)) (hge : getE ((pokeS s a.ps r).fr mfn) owner (kindI wr) = 0) :
    Calls Tryz.prog 22 #[.pointer (some ⟨gb, 0, none⟩), .pointer (some ⟨a.vb, 0, none⟩), .int .i64 caller, .int .i64 owner, .int .i64 ref, .bool wr] W
      (MapOut W a gb mm hm (getS (pokeS s a.ps r) mfn owner (kindI wr)) f c pi (kput F (caller, (lead 0 (mapsL F caller 16) : Nat)) ⟨(lead 0 (mapsL F caller 16) : Nat), caller, owner, ref, mfn, wr⟩) (n + 1) (r + 1) (lead 0 (mapsL F caller 16) : Nat) 0) := by
  have hno := GgA.none_calls h.g.g
  have hun := hV.unmade
  have hdo := GgA.domain_in caller hc.1 hc.2
  have ho8 : 0 ≤ owner ∧ owner < 8 := (h.g.d owner _ hd).1
  have hjo := joined_any h.g.g owner ⟨by omega, by omega⟩
  rw [hd] at hjo
  simp only [Option.isSome_some] at hjo
  have hsl : slotB (ref : Int) = true := by unfold slotB; simp; omega
  have hso := slot_any ref
  rw [hsl] at hso
  have hma := fun W' (hW : Below W.heap.size W W') => maps_calls (h.below hW) caller ⟨by omega, by omega⟩
  have hkn : k < s.n := by obtain ⟨k2, e1, e2⟩ := (h.g.d owner _ hd).2; simp only at e1; omega
  obtain ⟨s1, hs1⟩ : ∃ s1, s1 = pokeS s a.ps r := ⟨_, rfl⟩
  have hn1 : s1.n = s.n := by rw [hs1, pokeS_n]
  have hpm := fun W' (hW : Below W.heap.size W W') => GwF.permit_any (h.below hW).g.g (Vm.start (hV.v.below hW) (hV.m.below hW) hV.hB hV.h64) owner ho8.1 ho8.2 k pb hd hkn ref h32 caller
  have hfr := fun W' (hW : Vm a W W' (r + 1) s1) => GfA.frame_calls (gx_vm h hW hn1).g.g (gx_vm h hW hn1).g.m ((gx_vm h hW hn1).g.p owner _ hd).1 ((gx_vm h hW hn1).g.p owner _ hd).2 owner ho8.1 ho8.2 k hd (entG (ent s1 k ref)).gp
  rw [← hs1] at hpm hpe hsb hro hfm hfew hge ⊢
  have HV0 := Base.Aside.mk hV
  have hlv := hV.lt.1
  have hlf := hV.lm.2
  rw [hpe] at hpm
  simp only [hfm] at hfr
  rw [← hn1] at hmn
  generalize entG (ent s1 k ref) = g at hpm hfr hsb hro
  unfold aggv at hpm
  have hll := lead_le (mapsL F caller 16) 0
  have hGlt := blk_lt h.g.g.blk
  have hkd := fun W => kind_calls wr W
  have hk0 : 0 ≤ kindI wr := by unfold kindI; split <;> omega
  have hk3 : kindI wr ≤ 3 := by unfold kindI; split <;> omega
  have hki : kindI wr = if wr then 1 else 0 := rfl
  generalize hkk : kindI wr = kk at hk0 hk3 hki hge ⊢
  have hkd2 : ∀ W, Calls Tryz.prog 67 #[.bool wr] W fun e w' => e = .returned (.int .i64 kk) ∧ w' = W := fun W => by rw [hki]; exact hkd W
  clear hkd hki hkk
  have hvh := bnk hV.blk h.h
  have hV0B := hV.hB
  generalize hLL : mapsL F caller 16 = L at hlen hll hfree ⊢
  have HG := Base.Aside.mk (And.intro h (And.intro hn1 (And.intro hfree hge)))
  clear h hV hsl hpe hfm hfree hge hd hs1 hn1
  obtain ⟨g1, g2, g3, g4, g5, g6, g7⟩ := g
  simp only at hsb hro hpm hfr
  subst hsb
  have hw : wr = false ∨ (wr = true ∧ g2 = false) := by cases wr <;> simp_all
  clear hro
  rcases hw with rfl | ⟨rfl, rfl⟩
  all_goals
    go_enter Tryz.func22, Tryz.ntmps22
    go_wp2_with (first
      | (go_at_call 52; (with_reducible refine hno.mono ?_); rintro z w9 ⟨rfl, hw9⟩; obtain rfl := hw9.symm)
      | (go_at_call 62; (with_reducible refine hun.mono ?_); rintro z w9 ⟨rfl, hw9⟩; obtain rfl := hw9.symm)
      | (go_at_call 54; (with_reducible refine (hdo _).mono ?_); rintro z w9 ⟨rfl, hw9⟩; obtain rfl := hw9.symm)
      | (go_at_call 63; (with_reducible refine hjo.mono ?_); rintro z w1 ⟨rfl, hB1⟩; have hma1 := hma w1 hB1; have E1 := Base.Aside.mk hB1; clear hB1)
      | (go_at_call 64; (with_reducible refine (hso _).mono ?_); rintro z w9 ⟨rfl, hw9⟩; obtain rfl := hw9.symm)
      | (go_at_call 38; (with_reducible refine hma1.mono ?_); rintro z w2 ⟨v, rfl, hr2, hB2⟩; rw [hLL] at hr2; obtain ⟨A, cA, rfl, hM2⟩ := mrow_of hr2; have hpm2 := hpm w2 (E1.out.trans (hB2.mono E1.out.size)); have E2 := Base.Aside.mk (And.intro (E1.out.trans (hB2.mono E1.out.size)) hM2); clear hB2 hr2 hM2)
      | (go_at_call 65; (with_reducible refine hpm2.mono ?_); rintro z w3 ⟨rfl, hv3⟩; have hv4 := Vm.pre E2.out.1 HV0.out hv3; have hx3 := fun cs => blk_new w3 (.cells cs 32); have hfr2 := fun cs => hfr _ (hv4.alloc (.cells cs 32)); have E3 := Base.Aside.mk (And.intro hv4 (E2.out.2.chg hv3.c (fun x hx => by have := E1.out.size; omega))); clear hv3 hv4)
      | (go_at_call 66; (with_reducible refine (hfr2 _).mono ?_); rintro z w5 ⟨rfl, hB5⟩; have E5 := Base.Aside.mk (And.intro (E3.out.1.alloc _ |>.below hB5) ((E3.out.2.below (below_alloc (Below.refl _ _) _)).below hB5)); clear hB5)
      | go_in)
    have V5 := E5.out.1
    have G5 := gx_vm HG.out.1 V5 HG.out.2.1
    have k0 : w5.cell? ⟨gb, 0, none⟩ = some (.pointer (some ⟨a.mb, 0, none⟩)) := blk_cell G5.g.g.blk 0
    have L5 := blk_lt G5.g.g.blk
    have hgt := fun W' (hW : Below w5.heap.size w5 W') => get_calls (G5.g.m.below hW) mfn hmn owner kk hk0 hk3 hfew
    have S3 : ∀ Wx w3, Below w5.heap.size w5 Wx → Chg (fun x => x = a.fb) Wx w3 → w3.cell? ⟨gb, 0, none⟩ = some (.pointer (some ⟨a.mb, 0, none⟩)) := by
      intro Wx w3 hb hc
      obtain ⟨cs, q1, q2⟩ := (G5.below hb).g.m.lst
      exact blk_cell (hc.blk (G5.below hb).g.g.blk (bne (G5.below hb).g.g.blk q1 (by decide))) 0
    have R6 : ∀ Wx w6, Below w5.heap.size w5 Wx → Mach w6 a.mb a.fb (getS s1 mfn owner kk) → Chg (fun x => x = a.fb) Wx w6 → GX w6 gb mm hm a.mb a.fb (getS s1 mfn owner kk) f c pi F n ∧ V3 w6 a.B a.vb a.db a.cb a.mb (r + 1) a.ps ∧ Chg (fun x => x = a.vb ∨ x = a.fb) W w6 ∧ MRow w1.heap.size w6 A L := by
      intro Wx w6 hB hM hC
      have q1 := E1.out.size
      have q2 := HG.out.1.g.m.lt.2
      have q3 := HG.out.1.g.m.lt.1
      exact ⟨(G5.below hB).mach hM (getS_n _ _ _ _) hC, (V5.v.below hB).chg hC (fun x hx hx2 => by omega), (V5.c.trans (Chg.below _ hB)).trans (hC.mono fun _ h => .inr h), (E5.out.2.below hB).chg hC (fun x hx => by omega)⟩
    clear V5 G5
    go_cut [16] from 79 to 87 (fun e wx => e = .int .i64 0 ∧ Base.Aside (GX wx gb mm hm a.mb a.fb (getS s1 mfn owner kk) f c pi F n ∧ V3 wx a.B a.vb a.db a.cb a.mb (r + 1) a.ps ∧ Chg (fun x => x = a.vb ∨ x = a.fb) W wx ∧ MRow w1.heap.size wx A L))
    case first =>
      go_region_held3 (fun W' => W'.cell? ⟨gb, 0, none⟩ = some (.pointer (some ⟨a.mb, 0, none⟩)))
        (first
          | go_keep
          | exact k0
          | (refine S3 _ _ ?_ E6.out.2; (repeat (with_reducible first | exact Below.refl _ _ | refine below_drew ?_ | refine below_alloc ?_ _)); done))
        ((first
          | (go_at_call 67; (with_reducible refine (hkd2 _).mono ?_); rintro z w6 ⟨rfl, hw6⟩; obtain rfl := hw6.symm)
          | (go_at_call 55; (with_reducible refine (hgt _ ?_).mono ?_); (focus (repeat (with_reducible first | exact Below.refl _ _ | refine below_drew ?_ | refine below_alloc ?_ _))); rintro z w6 ⟨rfl, hM6, hC6⟩; have E6 := Base.Aside.mk (And.intro hM6 hC6); clear hM6 hC6)))
      all_goals
        go_wp2_with fail
        go_meet
      case rel =>
        refine ⟨by rw [HG.out.2.2.2], ⟨R6 _ _ ?_ E6.out.1 E6.out.2⟩⟩
        (repeat (with_reducible first | exact Below.refl _ _ | refine below_drew ?_ | refine below_alloc ?_ _))
    case rest =>
      obtain ⟨rfl, hA⟩ := hcut
      have EC := Base.Aside.mk hA.out
      have CC := fun i => blk_cell hA.out.1.g.g.blk i
      have LC := blk_lt hA.out.1.g.g.blk
      clear hA
      go_wp2
      go_loopw [18] (fun h wr => ∃ j : Nat, h = .int .i64 j ∧ wr = wc ∧ j ≤ L.length ∧ lead 0 L = lead j (L.drop j)) (fun h _ => L.length - (intOf h).toNat)
      case atStart => exact ⟨0, rfl, rfl, Nat.zero_le _, rfl⟩
      case round =>
        obtain ⟨j, rfl, rfl, hjl, hld⟩ := hrel
        have okp : ok (caller, (j : Int)) := ⟨by unfold okI; omega, by unfold okI; omega⟩
        by_cases hj : j < L.length
        · rcases EC.out.2.2.2 with ⟨_, hz⟩ | ⟨g, cs, rfl, hN, hg3, hcs⟩
          · subst hz; simp at hj
          have CG := fun i => blk_cell hg3 i
          have hq := hcs j hj
          have LG := blk_lt hg3
          have hq2 : cs[j * 6]? = some (.int .i64 (L[j]).h) := by rw [Nat.mul_comm]; exact hq
          rw [lead_step L j hj] at hld
          clear hg3 hcs hN
          by_cases e : (L[j]).h = j
          · rw [if_pos e] at hld
            rw [e] at hq hq2
            go_wp2
            go_roundw
            case rel => exact ⟨j + 1, by simp, trivial, by omega, hld⟩
            case measure => simp [intOf]; omega
          · rw [if_neg e] at hld
            have hx := hld
            generalize (L[j]).h = y at hq hq2 e
            go_wp2_with (first
              | (at_mapUpdate; (refine wpK_store rfl rfl _ _ _ rfl (EC.out.1.below (by (repeat (with_reducible first | exact Below.refl _ _ | refine below_drew ?_ | refine below_alloc ?_ _)))).h (caller, (j : Int)) okp ⟨(j : Int), caller, owner, ref, mfn, _⟩ hn (by rw [← hx]; exact HG.out.2.2.1) (by go_simp) (by go_simp; rfl) (by go_simp; rfl) ?_); intro w7 hK7 hC7; have E7 := Base.Aside.mk (And.intro hK7 hC7); clear hK7 hC7)
              | go_in)
            refine bodyPost_ret (v := .tuple #[.int .i64 j, .int .i64 0]) (by simp only [results, Tryz.results22]; go_simp; try rfl) rfl ?_
            refine ⟨by rw [hx], ?_, ?_, ?_⟩
            · rw [hx]
              refine (EC.out.1.below ?_).maps E7.out.1 E7.out.2
              (repeat (with_reducible first | exact Below.refl _ _ | refine below_drew ?_ | refine below_alloc ?_ _))
            · refine (EC.out.2.1.below ?_).chg E7.out.2 (fun x hx hx2 => by omega)
              (repeat (with_reducible first | exact Below.refl _ _ | refine below_drew ?_ | refine below_alloc ?_ _))
            · refine ((EC.out.2.2.1.mono fun x hx => ?_).trans (Chg.below _ ?_)).trans (E7.out.2.mono fun _ h => .inr (.inr h))
              · rcases hx with hx | hx
                · exact .inl hx
                · exact .inr (.inl hx)
              · (repeat (with_reducible first | exact Below.refl _ _ | refine below_drew ?_ | refine below_alloc ?_ _))
        · have hx : lead 0 L = j := by rw [hld]; obtain rfl : j = L.length := by omega
                                       rw [List.drop_length]; rfl
          clear hld
          go_wp2_with (first
            | (at_mapUpdate; (refine wpK_store rfl rfl _ _ _ rfl (EC.out.1.below (by (repeat (with_reducible first | exact Below.refl _ _ | refine below_drew ?_ | refine below_alloc ?_ _)))).h (caller, (j : Int)) okp ⟨(j : Int), caller, owner, ref, mfn, _⟩ hn (by rw [← hx]; exact HG.out.2.2.1) (by go_simp) (by go_simp; rfl) (by go_simp; rfl) ?_); intro w7 hK7 hC7; have E7 := Base.Aside.mk (And.intro hK7 hC7); clear hK7 hC7)
            | go_in)
          refine bodyPost_ret (v := .tuple #[.int .i64 j, .int .i64 0]) (by simp only [results, Tryz.results22]; go_simp; try rfl) rfl ?_
          refine ⟨by rw [hx], ?_, ?_, ?_⟩
          · rw [hx]
            refine (EC.out.1.below ?_).maps E7.out.1 E7.out.2
            (repeat (with_reducible first | exact Below.refl _ _ | refine below_drew ?_ | refine below_alloc ?_ _))
          · refine (EC.out.2.1.below ?_).chg E7.out.2 (fun x hx hx2 => by omega)
            (repeat (with_reducible first | exact Below.refl _ _ | refine below_drew ?_ | refine below_alloc ?_ _))
          · refine ((EC.out.2.2.1.mono fun x hx => ?_).trans (Chg.below _ ?_)).trans (E7.out.2.mono fun _ h => .inr (.inr h))
            · rcases hx with hx | hx
              · exact .inl hx
              · exact .inr (.inl hx)
            · (repeat (with_reducible first | exact Below.refl _ _ | refine below_drew ?_ | refine below_alloc ?_ _))
end
end Go.Proofs.YthlejchcnfdcpaaGreat.GwK
namespace Go.Proofs.YthlejchcnfdcpaaGreat.GwL
open Go.RowKit Go.Maps Base GaA GaB GaC GmA GmB GmC GpA GgA GeA GeB GfA GfB GfC GfD GfH GjA GjB GjC GjE GjF GwB GwF GwH GwJ
set_option linter.unusedVariables false
set_option linter.unusedSimpArgs false

section
variable {a : VA} {w w' W W' : World} {gb mm hm : Nat} {f : Int → Option (Int × Nat)} {c : Nat} {s s' : MS} {pi : Nat → PI} {F : Int × Int → Option Mp} {n : Nat} {r r' : Nat}
set_option maxHeartbeats 8000000 in
set_option maxRecDepth 100000 in
theorem map_ref (h : GX W gb mm hm a.mb a.fb s f c pi F n) (hV : Vm a W W r s) (caller : Int) (hc : 0 ≤ caller ∧ caller < 8) (owner : Int) (k pb : Nat) (hd : f owner = some ((k : Int), pb)) (ref : Nat) (h32 : ref < 32) (wr : Bool)
    (hlen : (mapsL F caller 16).length < 16)
    (hpe : permE (ent (pokeS s a.ps r) k ref) caller = 0) (hsb : (entG (ent (pokeS s a.ps r) k ref)).sb = false) (hro : (wr && (entG (ent (pokeS s a.ps r) k ref)).ro) = false)
    (mfn : Nat) (hfm : frameR (pokeS s a.ps r) (pi pb).size (pi pb).fr owner (entG (ent (pokeS s a.ps r) k ref)).gp = ((mfn : Int), 0)) (hmn : mfn < s.n) (hfew : Fr.few ((pokeS s a.ps r).fr mfn)) (hge : getE ((pokeS s a.ps r).fr mfn) owner (kindI wr) ≠ 0) :
    Calls Tryz.prog 22 #[.pointer (some ⟨gb, 0, none⟩), .pointer (some ⟨a.vb, 0, none⟩), .int .i64 caller, .int .i64 owner, .int .i64 ref, .bool wr] W fun e w' => e = .returned (.tuple #[.int .i64 0, .int .i64 (getE ((pokeS s a.ps r).fr mfn) owner (kindI wr))]) ∧ Vm a W w' (r + 1) (pokeS s a.ps r) := by
  have hno := GgA.none_calls h.g.g
  have hun := hV.unmade
  have hdo := GgA.domain_in caller hc.1 hc.2
  have ho8 : 0 ≤ owner ∧ owner < 8 := (h.g.d owner _ hd).1
  have hjo := joined_any h.g.g owner ⟨by omega, by omega⟩
  rw [hd] at hjo
  simp only [Option.isSome_some] at hjo
  have hsl : slotB (ref : Int) = true := by unfold slotB; simp; omega
  have hso := slot_any ref
  rw [hsl] at hso
  have hma := fun W' (hW : Below W.heap.size W W') => maps_calls (h.below hW) caller ⟨by omega, by omega⟩
  have hkn : k < s.n := by obtain ⟨k2, e1, e2⟩ := (h.g.d owner _ hd).2; simp only at e1; omega
  obtain ⟨s1, hs1⟩ : ∃ s1, s1 = pokeS s a.ps r := ⟨_, rfl⟩
  have hn1 : s1.n = s.n := by rw [hs1, pokeS_n]
  have hpm := fun W' (hW : Below W.heap.size W W') => GwF.permit_any (h.below hW).g.g (Vm.start (hV.v.below hW) (hV.m.below hW) hV.hB hV.h64) owner ho8.1 ho8.2 k pb hd hkn ref h32 caller
  have hfr := fun W' (hW : Vm a W W' (r + 1) s1) => GfA.frame_calls (gx_vm h hW hn1).g.g (gx_vm h hW hn1).g.m ((gx_vm h hW hn1).g.p owner _ hd).1 ((gx_vm h hW hn1).g.p owner _ hd).2 owner ho8.1 ho8.2 k hd (entG (ent s1 k ref)).gp
  rw [← hs1] at hpm hpe hsb hro hfm hfew hge ⊢
  have HV0 := Base.Aside.mk hV
  have hlv := hV.lt.1
  have hlf := hV.lm.2
  rw [hpe] at hpm
  simp only [hfm] at hfr
  rw [← hn1] at hmn
  generalize entG (ent s1 k ref) = g at hpm hfr hsb hro
  unfold aggv at hpm
  have hll := lead_le (mapsL F caller 16) 0
  have hGlt := blk_lt h.g.g.blk
  have hkd := fun W => kind_calls wr W
  have hk0 : 0 ≤ kindI wr := by unfold kindI; split <;> omega
  have hk3 : kindI wr ≤ 3 := by unfold kindI; split <;> omega
  have hki : kindI wr = if wr then 1 else 0 := rfl
  generalize hkk : kindI wr = kk at hk0 hk3 hki hge ⊢
  have hkd2 : ∀ W, Calls Tryz.prog 67 #[.bool wr] W fun e w' => e = .returned (.int .i64 kk) ∧ w' = W := fun W => by rw [hki]; exact hkd W
  clear hkd hki hkk
  have hgs : getS s1 mfn owner kk = s1 := if_neg hge
  have hgo : ∀ W' w', GetOut a.mb a.fb s1 mfn owner kk W' (.returned (.int .i64 (getE (s1.fr mfn) owner kk))) w' → True := fun _ _ _ => trivial
  generalize hgee : getE (s1.fr mfn) owner kk = ge at hge ⊢
  have HGE := Base.Aside.mk hgee
  clear hgee
  have hvh := bnk hV.blk h.h
  have hV0B := hV.hB
  generalize hLL : mapsL F caller 16 = L at hlen hll
  have HG := Base.Aside.mk (And.intro h (And.intro hn1 (And.intro trivial hgs)))
  clear h hV hsl hpe hfm hd hs1 hgs hgo hn1
  obtain ⟨g1, g2, g3, g4, g5, g6, g7⟩ := g
  simp only at hsb hro hpm hfr
  subst hsb
  have hw : wr = false ∨ (wr = true ∧ g2 = false) := by cases wr <;> simp_all
  clear hro
  rcases hw with rfl | ⟨rfl, rfl⟩
  all_goals
    go_enter Tryz.func22, Tryz.ntmps22
    go_wp2_with (first
      | (go_at_call 52; (with_reducible refine hno.mono ?_); rintro z w9 ⟨rfl, hw9⟩; obtain rfl := hw9.symm)
      | (go_at_call 62; (with_reducible refine hun.mono ?_); rintro z w9 ⟨rfl, hw9⟩; obtain rfl := hw9.symm)
      | (go_at_call 54; (with_reducible refine (hdo _).mono ?_); rintro z w9 ⟨rfl, hw9⟩; obtain rfl := hw9.symm)
      | (go_at_call 63; (with_reducible refine hjo.mono ?_); rintro z w1 ⟨rfl, hB1⟩; have hma1 := hma w1 hB1; have E1 := Base.Aside.mk hB1; clear hB1)
      | (go_at_call 64; (with_reducible refine (hso _).mono ?_); rintro z w9 ⟨rfl, hw9⟩; obtain rfl := hw9.symm)
      | (go_at_call 38; (with_reducible refine hma1.mono ?_); rintro z w2 ⟨v, rfl, hr2, hB2⟩; rw [hLL] at hr2; obtain ⟨A, cA, rfl, hM2⟩ := mrow_of hr2; have hpm2 := hpm w2 (E1.out.trans (hB2.mono E1.out.size)); have E2 := Base.Aside.mk (And.intro (E1.out.trans (hB2.mono E1.out.size)) hM2); clear hB2 hr2 hM2)
      | (go_at_call 65; (with_reducible refine hpm2.mono ?_); rintro z w3 ⟨rfl, hv3⟩; have hv4 := Vm.pre E2.out.1 HV0.out hv3; have hx3 := fun cs => blk_new w3 (.cells cs 32); have hfr2 := fun cs => hfr _ (hv4.alloc (.cells cs 32)); have E3 := Base.Aside.mk (And.intro hv4 (E2.out.2.chg hv3.c (fun x hx => by have := E1.out.size; omega))); clear hv3 hv4)
      | (go_at_call 66; (with_reducible refine (hfr2 _).mono ?_); rintro z w5 ⟨rfl, hB5⟩; have E5 := Base.Aside.mk (And.intro (E3.out.1.alloc _ |>.below hB5) ((E3.out.2.below (below_alloc (Below.refl _ _) _)).below hB5)); clear hB5)
      | go_in)
    have V5 := E5.out.1
    have G5 := gx_vm HG.out.1 V5 HG.out.2.1
    have k0 : w5.cell? ⟨gb, 0, none⟩ = some (.pointer (some ⟨a.mb, 0, none⟩)) := blk_cell G5.g.g.blk 0
    have L5 := blk_lt G5.g.g.blk
    have hgt := fun W' (hW : Below w5.heap.size w5 W') => get_calls (G5.g.m.below hW) mfn hmn owner kk hk0 hk3 hfew
    have S3 : ∀ Wx w3, Below w5.heap.size w5 Wx → Chg (fun x => x = a.fb) Wx w3 → w3.cell? ⟨gb, 0, none⟩ = some (.pointer (some ⟨a.mb, 0, none⟩)) := by
      intro Wx w3 hb hc
      obtain ⟨cs, q1, q2⟩ := (G5.below hb).g.m.lst
      exact blk_cell (hc.blk (G5.below hb).g.g.blk (bne (G5.below hb).g.g.blk q1 (by decide))) 0
    have R6 : ∀ Wx w6, Below w5.heap.size w5 Wx → Mach w6 a.mb a.fb (getS s1 mfn owner kk) → Chg (fun x => x = a.fb) Wx w6 → Vm a W w6 (r + 1) s1 := by
      intro Wx w6 hB hM hC
      rw [HG.out.2.2.2] at hM
      exact (V5.below hB).frames hM hC
    clear V5 G5
    go_cut [16] from 79 to 87 (fun e wx => e = .int .i64 ge ∧ Base.Aside (Vm a W wx (r + 1) s1))
    case first =>
      go_region_held3 (fun W' => W'.cell? ⟨gb, 0, none⟩ = some (.pointer (some ⟨a.mb, 0, none⟩)))
        (first
          | go_keep
          | exact k0
          | (refine S3 _ _ ?_ E6.out.2; (repeat (with_reducible first | exact Below.refl _ _ | refine below_drew ?_ | refine below_alloc ?_ _)); done))
        ((first
          | (go_at_call 67; (with_reducible refine (hkd2 _).mono ?_); rintro z w6 ⟨rfl, hw6⟩; obtain rfl := hw6.symm)
          | (go_at_call 55; (with_reducible refine (hgt _ ?_).mono ?_); (focus (repeat (with_reducible first | exact Below.refl _ _ | refine below_drew ?_ | refine below_alloc ?_ _))); rintro z w6 ⟨rfl, hM6, hC6⟩; have E6 := Base.Aside.mk (And.intro hM6 hC6); clear hM6 hC6)))
      all_goals
        go_wp2_with fail
        go_meet
      case rel =>
        refine ⟨by rw [HGE.out], ⟨R6 _ _ ?_ E6.out.1 E6.out.2⟩⟩
        (repeat (with_reducible first | exact Below.refl _ _ | refine below_drew ?_ | refine below_alloc ?_ _))
    case rest =>
      obtain ⟨rfl, hA⟩ := hcut
      have d1 : (ge == 0) = false := by simp [hge]
      have d2 : (ge != 0) = true := by simp [hge]
      clear hge
      go_wp2
      refine bodyPost_ret (v := .tuple #[.int .i64 0, .int .i64 ge]) (by simp only [results, Tryz.results22]; go_simp; try rfl) rfl ⟨rfl, hA.out.below (by first | exact Below.refl _ _ | exact (Below.refl _ _).drew)⟩
end
end Go.Proofs.YthlejchcnfdcpaaGreat.GwL
