/- Proved: an act's line, the document's own function: where there is one (a contract for the law ScriptPrints). -/
import Derived.Test.YtafphlimklgijaaDoorSpE
namespace Go.Proofs.YtafphlimklgijaaDoor.SpF
open Go.RowKit Go.Shelf Go.Proofs.YtafphlimklgijaaDoor.Base Go.Proofs.YtafphlimklgijaaDoor.TdA Go.Proofs.YtafphlimklgijaaDoor.TdB Go.Proofs.YtafphlimklgijaaDoor.TdC Go.Proofs.YtafphlimklgijaaDoor.SpA Go.Proofs.YtafphlimklgijaaDoor.SpP Go.Proofs.YtafphlimklgijaaDoor.SpB Go.Proofs.YtafphlimklgijaaDoor.SpC Go.Proofs.YtafphlimklgijaaDoor.SpD Go.Proofs.YtafphlimklgijaaDoor.SpE
set_option linter.unusedVariables false
set_option linter.unusedSimpArgs false

theorem cat2 (a b : List UInt8) : (⟨a.toArray⟩ : ByteArray) ++ ⟨b.toArray⟩ = ⟨(a ++ b).toArray⟩ := by
  apply ByteArray.ext
  simp [ByteArray.data_append]
theorem tailW (x : List UInt8) (l : List (List UInt8)) (y : List UInt8) : x ++ tail (l ++ [y]) = (x ++ tail l) ++ [32] ++ y := by rw [tail_snoc]; simp
set_option maxHeartbeats 16000000 in
set_option maxRecDepth 100000 in
theorem print_good (w : World) (k : Nat) (d a b c : Int) (T : ByteArray) (A : Option Addr) (l cc : Nat) (zs : List UInt8) (PA : Option Addr) (pl pc : Nat) (ps : List Pk) (hA : Arg w A l zs PA pl ps) (hk : k < 23)
    (hS : allSmall (four d a b c) 4 = true) (hP : plainB T.data.toList = true) (hd : (k == 0 && d != 0) = false) (hl : l ≤ 1048576) (hpl : pl ≤ 1048576) (hT : T.size ≤ 1048576) :
    Calls Tryd.prog 5 #[.agg #[.int .i64 k, .int .i64 d, .int .i64 a, .int .i64 b, .int .i64 c, .string T, .slice A l cc, .slice PA pl pc]] w fun e w' =>
      e = .returned (.tuple #[.string ⟨(outOf (nameOf k) (fOf k d a b c) (trimK (fOf k d a b c) (nOf k)) T.data.toList zs ps).1.toArray⟩, .int .i64 (outOf (nameOf k) (fOf k d a b c) (trimK (fOf k d a b c) (nOf k)) T.data.toList zs ps).2]) ∧ Below w.heap.size w w' := by
  have d0 : decide ((k : Int) < 0) = false := decide_eq_false (by omega)
  have d1 : (k : Int) < 23 := by omega
  have k0 : (0 : Int) ≤ (k : Int) := Int.natCast_nonneg _
  have e0 := En.start w #[.int .i64 k, .int .i64 d, .int .i64 a, .int .i64 b, .int .i64 c, .string T, .slice A l cc, .slice PA pl pc]
  have hn := names_ref' (w.alloc (.cells #[.int .i64 k, .int .i64 d, .int .i64 a, .int .i64 b, .int .i64 c, .string T, .slice A l cc, .slice PA pl pc] 25)).drew
  have E0 := Base.Aside.mk e0.drew
  have HA := Base.Aside.mk hA
  clear hA e0
  generalize hcs : (#[.int .i64 k, .int .i64 d, .int .i64 a, .int .i64 b, .int .i64 c, .string T, .slice A l cc, .slice PA pl pc] : Array Value) = cs at E0
  have HC := Base.Aside.mk hcs
  clear hcs
  have s0 : smallB d = true := allSmall_at hS (k := 0) (by omega)
  have s1 : smallB a = true := allSmall_at hS (k := 1) (by omega)
  have s2 : smallB b = true := allSmall_at hS (k := 2) (by omega)
  have s3 : smallB c = true := allSmall_at hS (k := 3) (by omega)
  go_enter Tryd.func5, Tryd.ntmps5
  go_upto_region 1 with (fail)
  go_cut [18] from 9 to 18 (fun v wx => v = .bool false ∧ Aside (En w wx cs))
  case first =>
    have H := HC.out
    subst H
    go_region_with (go_at_call 13; refine hn.mono ?_; rintro z w2 ⟨rfl, hN, hB2⟩; have E2 := Base.Aside.mk (E0.out.step hB2); have C2 := fun i => blk_cell E2.out.blk i; have L2 := E2.out.lt; clear hN hB2)
    all_goals
      go_wp2_with fail
      go_meet
      case rel => exact ⟨by rw [decide_eq_false (by omega)], E2.out⟩
  case rest =>
    obtain ⟨rfl, hE⟩ := hcut
    have E1 := Base.Aside.mk hE
    clear hE hn E0
    have C1 := cellsE E1.out HC.out
    have L1 := E1.out.lt
    have hs := fun x => small_ref wc x
    have hp := plain_ref wc T hT
    have HSS := Base.Aside.mk (And.intro hs hp)
    clear hs hp
    go_upto_region 3 with (fail)
    go_cut [56] from 19 to 56 (fun v wx => v = .bool false ∧ wc = wx)
    case first =>
      by_cases hk0 : k = 0
      · subst hk0
        have hd0 : (d == 0) = true := by simpa using hd
        clear hd
        go_wp2_with (first
          | (go_at_call 14; refine (HSS.out.1 _).mono ?_; rintro z w3 ⟨rfl, hw3⟩; obtain rfl := hw3.symm)
          | (go_at_call 15; refine HSS.out.2.mono ?_; rintro z w4 ⟨rfl, hw4⟩; obtain rfl := hw4.symm)
          | go_in)
        all_goals
          go_meet
          case rel => exact ⟨by rw [show (d != 0) = !(d == 0) from rfl, hd0]; rfl, rfl⟩
      · have hk1 : ((k : Int) == 0) = false := by simp; omega
        clear hd
        go_wp2_with (first
          | (go_at_call 14; refine (HSS.out.1 _).mono ?_; rintro z w3 ⟨rfl, hw3⟩; obtain rfl := hw3.symm)
          | (go_at_call 15; refine HSS.out.2.mono ?_; rintro z w4 ⟨rfl, hw4⟩; obtain rfl := hw4.symm)
          | go_in)
        all_goals
          go_meet
          case rel => exact ⟨rfl, rfl⟩
    case rest =>
      obtain ⟨rfl, hwx⟩ := hcut
      subst hwx
      clear HSS s0 s1 s2 s3
      have hn := names_ref' wc.drew
      have HK := Base.Aside.mk hk
      clear hd
      go_upto_region 5 with (fail)
      go_cut [4] from 57 to 61 (fun v wx => v = .string ⟨(nameOf k).toArray⟩ ∧ Aside (En w wx cs))
      case first =>
        go_region_with (go_at_call 13; refine hn.mono ?_; rintro z w2 ⟨rfl, hN, hB2⟩; have E2 := Base.Aside.mk (En.step (En.drew E1.out) hB2); have C2 := cellsE E2.out HC.out; have L2 := E2.out.lt; have hN2 := (show w2.cell? ⟨wc.heap.size, k, none⟩ = some (.string ⟨(nameOf k).toArray⟩) from hN.cell k HK.out); have hNl := (show wc.heap.size < w2.heap.size from hN.lt); clear hN hB2)
        all_goals
          go_wp2_with fail
          go_meet
          case rel => exact ⟨rfl, E2.out⟩
      case rest =>
        obtain ⟨rfl, hE⟩ := hcut
        clear E1 C1 L1 hn
        have E1 := Base.Aside.mk hE
        have C1 := cellsE E1.out HC.out
        have L1 := E1.out.lt
        clear hE
        go_upto_if 73 with (fail)
        go_cut [5] from 71 to 75 (fun v wx => ∃ lb o n : Nat, v = .slice (some ⟨lb, o, none⟩) n n ∧ Aside (o = oOf k ∧ n = nOf k ∧ En w wx cs ∧ wx.heap[lb]? = some (.cells #[.int .i64 d, .int .i64 a, .int .i64 b, .int .i64 c] 3 (0, 0))))
        case first =>
          by_cases hk0 : k = 0
          · subst hk0
            go_wp2
            go_meet
            case rel => exact ⟨_, _, _, rfl, rfl, rfl, En.alloc E1.out _, blk_new _ _⟩
          · have hk1 : ((k : Int) == 0) = false := by simp; omega
            have HK0 := Base.Aside.mk hk0
            clear hk0
            go_wp2
            go_meet
            case rel => exact ⟨_, _, _, rfl, by simp [oOf, HK0.out], by simp [nOf, HK0.out], En.alloc E1.out _, blk_new _ _⟩
        case rest =>
          obtain ⟨lb, o, n, rfl, hE⟩ := hcut
          clear E1 C1 L1
          have E1 := Base.Aside.mk hE
          clear hE
          obtain ⟨f, hF⟩ : ∃ f, f = fOf k d a b c := ⟨_, rfl⟩
          have HF := Base.Aside.mk hF
          have HNk := Base.Aside.mk E1.out.2.1
          have hon : o + n = 4 := by rw [E1.out.1, E1.out.2.1]; unfold oOf nOf; split <;> rfl
          have hfs' : ∀ i, i < n → smallB (f i) = true := fun i hi => by rw [hF]; unfold fOf; exact allSmall_at hS (by rw [← E1.out.1]; omega)
          have hfs := Base.Aside.mk hfs'
          have hfc : ∀ W : World, W.heap[lb]? = some (.cells #[.int .i64 d, .int .i64 a, .int .i64 b, .int .i64 c] 3 (0, 0)) → ∀ i, i < n → W.cell? ⟨lb, o + i, none⟩ = some (.int .i64 (f i)) := fun W hW i hi => by
            rw [four_cells hW (o + i) (by omega), hF]
            unfold fOf
            rw [← E1.out.1]
          have HFC := Base.Aside.mk hfc
          clear hF hfs' hfc
          have CL := HFC.out _ E1.out.2.2.2
          have LL := blk_lt E1.out.2.2.2
          go_upto_block 0 with fail
          go_cut [5] from 76 to 92 (fun v wx => ∃ m : Nat, v = .slice (some ⟨lb, o, none⟩) m n ∧ wc = wx ∧ Aside (m = trimK f n))
          case first =>
            go_wp2_with fail
            go_loopw [5] (fun v wr => ∃ j : Nat, j ≤ n ∧ v = .slice (some ⟨lb, o, none⟩) j n ∧ wr = wc ∧ Aside (trimK f n = trimK f j)) (fun v _ => match v with | .slice _ n _ => n | _ => 0)
            case atStart => exact ⟨n, Nat.le_refl _, rfl, rfl, rfl⟩
            case round =>
              obtain ⟨j, hj, rfl, hwr, hT⟩ := hrel
              obtain rfl := hwr.symm
              rcases j with _ | j
              · go_wp2
                go_meet
                case rel => exact ⟨0, rfl, rfl, hT.out.symm⟩
              · by_cases hz : f j = 0
                · have d2 : (f j == 0) = true := by simp [hz]
                  have HZ := Base.Aside.mk hz
                  clear hz
                  have d3 : (0 : Int) < ((j + 1 : Nat) : Int) := by omega
                  go_wp2
                  exact ⟨⟨j, by omega, rfl, trivial, hT.out.trans (trimK_zero HZ.out)⟩, Nat.lt_succ_self _⟩
                · have d2 : (f j == 0) = false := by simp [hz]
                  have HZ := Base.Aside.mk hz
                  clear hz
                  have d3 : (0 : Int) < ((j + 1 : Nat) : Int) := by omega
                  go_wp2
                  go_meet
                  case rel => exact ⟨j + 1, rfl, rfl, (hT.out.trans (trimK_hit HZ.out)).symm⟩
          case rest =>
            obtain ⟨m, rfl, hwx, hE⟩ := hcut
            subst hwx
            have HM := Base.Aside.mk hE
            have hmn : m ≤ n := by rw [hE]; exact trimK_le _ _
            clear hE
            have hpk := HA.out.pks
            have hplen := hpk.len
            have HP := Base.Aside.mk hpk
            clear hpk
            have hfit : ∀ q, Fit f m T.data.toList zs (ps.take q) := fun q => Fit.take ⟨fun i hi => hfs.out i (by omega), by omega, by rw [Array.length_toList]; exact hT, by have := HA.out.len; omega, by omega, fun p hp => by have := HP.out.data p hp; omega⟩ q
            have HFIT := Base.Aside.mk hfit
            have hnl := nameOf_len hk
            clear hfit hplen
            go_wp2_with fail
            go_loopw [4, 6] (fun v i wr => ∃ (j : Nat) (W2 : World) (L : List UInt8), j ≤ m ∧ v = .string ⟨L.toArray⟩ ∧ i = .int .i64 j ∧ wr = W2 ∧ Aside (L = nameOf k ++ tail (numW f j) ∧ En w W2 cs ∧ W2.heap[lb]? = some (.cells #[.int .i64 d, .int .i64 a, .int .i64 b, .int .i64 c] 3 (0, 0)))) (fun _ i _ => m - (intOf i).toNat)
            case atStart => exact ⟨0, wc, _, Nat.zero_le _, rfl, rfl, rfl, by simp [numW, tail_nil], E1.out.2.2.1, E1.out.2.2.2⟩
            case round =>
              obtain ⟨j, W2, L, hj, rfl, rfl, hwr, hE⟩ := hrel
              obtain rfl := hwr.symm
              have E2 := Base.Aside.mk hE.out
              clear hE
              by_cases hlt : j < m
              · have hit := told_small (f j) (hfs.out j (by omega)) W2
                have C2 := HFC.out _ E2.out.2.2
                have L2 := blk_lt E2.out.2.2
                have hjn : j < n := by omega
                have hj0 : (j : Int) < (m : Int) := by omega
                have hL : L.length ≤ 100 := by
                  rw [E2.out.1, List.length_append]
                  have h1 := tail_len (l := numW f j) (b := 20) (fun x hx => by
                    unfold numW at hx
                    obtain ⟨i, hi, rfl⟩ := List.mem_map.1 hx
                    exact dec_len (hfs.out i (by simp at hi; omega)))
                  have h2 : (numW f j).length = j := by simp [numW]
                  rw [h2] at h1
                  omega
                have hdl := dec_len (hfs.out j (by omega))
                have tl1 : ¬ 9223372036854775807 < L.length + 1 := by omega
                have tl2 : ¬ 9223372036854775807 < L.length + 1 + (dec (f j)).length := by omega
                clear CL LL
                go_wp2_with (first
                  | (go_at_call 16; refine hit.mono ?_; rintro z w3 ⟨rfl, hB3⟩; have HB3 := Base.Aside.mk hB3; clear hB3)
                  | go_in)
                have e1 : (⟨L.toArray⟩ ++ ⟨#[32]⟩ ++ ⟨(dec (f j)).toArray⟩ : ByteArray) = ⟨(L ++ [32] ++ dec (f j)).toArray⟩ := by
                  apply ByteArray.ext
                  simp [ByteArray.data_append]
                refine ⟨⟨j + 1, w3, _, by omega, by rw [e1], by simp, rfl, ?_, En.step E2.out.2.1 HB3.out, blk_below E2.out.2.2 (blk_lt E2.out.2.2) HB3.out⟩, by simp [intOf]; omega⟩
                rw [numW_succ, tailW, ← E2.out.1]
              · obtain rfl : j = m := by omega
                have E3 := Base.Aside.mk (And.intro E2.out.1 E2.out.2.1)
                clear CL LL E1 E2
                have C2 := cellsE E3.out.2 HC.out
                have L2 := En.lt E3.out.2
                have hrl := fun q hall => rest_len (HFIT.out q) hall
                have HRL := Base.Aside.mk hrl
                clear hrl
                have hLb : L.length ≤ 3000000000100 := by
                  rw [E3.out.1, List.length_append]
                  have h1 := HRL.out 0 (by simp)
                  unfold restW at h1
                  rw [tail_app, tail_app, tail_app, List.length_append, List.length_append, List.length_append] at h1
                  omega
                go_upto_if 109 with (fail)
                go_cut [4] from 107 to 115 (fun v wx => ∃ L : List UInt8, v = .string ⟨L.toArray⟩ ∧ W2 = wx ∧ Aside (L = nameOf k ++ tail (numW f j ++ textW T.data.toList)))
                case first =>
                  rcases hT0 : T.toList.isEmpty with _ | _
                  · have hne : T.data.toList ≠ [] := by
                      intro h
                      rw [toL, h] at hT0
                      cases hT0
                    have HN := Base.Aside.mk hne
                    have tl1 : ¬ 9223372036854775807 < L.length + 2 := by omega
                    have tl2 : ¬ 9223372036854775807 < L.length + 2 + T.size := by omega
                    have tl3 : ¬ 9223372036854775807 < L.length + 2 + T.size + 1 := by omega
                    clear hne
                    go_wp2
                    go_meet
                    case rel =>
                      have e1 : (⟨L.toArray⟩ ++ ⟨#[32, 34]⟩ ++ T ++ ⟨#[34]⟩ : ByteArray) = ⟨(L ++ [32, 34] ++ T.data.toList ++ [34]).toArray⟩ := by
                        apply ByteArray.ext
                        simp [ByteArray.data_append]
                      have e2 : L ++ [32, 34] ++ T.data.toList ++ [34] = nameOf k ++ tail (numW f j ++ textW T.data.toList) := by
                        rw [E3.out.1]
                        simp [textW, HN.out, tail_app, tail, Lib.joinTail]
                      exact ⟨L ++ [32, 34] ++ T.data.toList ++ [34], congrArg Value.string e1, rfl, e2⟩
                  · have hne : T.data.toList = [] := by
                      rw [toL] at hT0
                      simpa using hT0
                    have HN := Base.Aside.mk hne
                    clear hne
                    go_wp2
                    go_meet
                    case rel =>
                      have e2 : L = nameOf k ++ tail (numW f j ++ textW T.data.toList) := by
                        rw [E3.out.1]
                        simp [textW, HN.out]
                      exact ⟨_, rfl, rfl, e2⟩
                case rest =>
                  obtain ⟨L, rfl, hwx, hE⟩ := hcut
                  subst hwx
                  have E3' := Base.Aside.mk (And.intro hE E3.out.2)
                  clear E3 hE hLb
                  have E3 := E3'
                  clear E3'
                  have hLb : L.length ≤ 3000000000100 := by
                    rw [E3.out.1, List.length_append]
                    have h1 := HRL.out 0 (by simp)
                    unfold restW at h1
                    rw [tail_app, tail_app, List.length_append, List.length_append] at h1
                    omega
                  go_upto_if 119 with (fail)
                  go_cut [4] from 116 to 125 (fun v wx => ∃ L : List UInt8, v = .string ⟨L.toArray⟩ ∧ Aside (L = nameOf k ++ tail (restW f j T.data.toList zs []) ∧ En w wx cs))
                  case first =>
                    rcases Nat.eq_zero_or_pos l with h0 | h0
                    · have hzs : zs = [] := List.length_eq_zero_iff.1 (by have := HA.out.len; omega)
                      have HZ := Base.Aside.mk hzs
                      clear hzs
                      subst h0
                      go_wp2
                      go_meet
                      case rel => exact ⟨_, rfl, by rw [E3.out.1]; simp [restW, byteW, HZ.out], E3.out.2⟩
                    · have hzs : zs ≠ [] := by
                        rintro rfl
                        have := HA.out.len
                        simp at this
                        omega
                      have HZ := Base.Aside.mk hzs
                      have hd1 : (0 : Int) < (l : Int) := by omega
                      have hx := digits_any W2 A l cc zs HA.out.len hl (HA.out.data.below (En.out E3.out.2)) h0
                      have hlx : (hexs zs).length ≤ 2097152 := by rw [hexs_len]; have := HA.out.len; omega
                      have tl1 : ¬ 9223372036854775807 < L.length + 2 := by omega
                      have tl2 : ¬ 9223372036854775807 < L.length + 2 + (hexs zs).length := by omega
                      clear hzs h0
                      go_wp2_with (first
                        | (go_at_call 17; refine hx.mono ?_; rintro z w3 ⟨rfl, hB3⟩; have HB3 := Base.Aside.mk hB3; clear hB3)
                        | go_in)
                      go_meet
                      case rel =>
                        have e1 : (⟨L.toArray⟩ ++ ⟨#[32, 61]⟩ ++ ⟨(hexs zs).toArray⟩ : ByteArray) = ⟨(L ++ [32, 61] ++ hexs zs).toArray⟩ := by
                          apply ByteArray.ext
                          simp [ByteArray.data_append]
                        have e2 : L ++ [32, 61] ++ hexs zs = nameOf k ++ tail (restW f j T.data.toList zs []) := by
                          rw [E3.out.1]
                          simp [restW, byteW, HZ.out, tail_app, tail, Lib.joinTail]
                        exact ⟨L ++ [32, 61] ++ hexs zs, congrArg Value.string e1, e2, En.step E3.out.2 HB3.out⟩
                  case rest =>
                    obtain ⟨L, rfl, hE⟩ := hcut
                    clear E3 C2 L2 hLb
                    have E3 := Base.Aside.mk hE
                    have C2 := cellsE E3.out.2 HC.out
                    have L2 := En.lt E3.out.2
                    clear hE
                    have hplen := HP.out.len
                    go_wp2_with fail
                    go_loopw [4, 7] (fun v i wr => ∃ (q : Nat) (W2 : World) (L : List UInt8), q ≤ pl ∧ v = .string ⟨L.toArray⟩ ∧ i = .int .i64 q ∧ wr = W2 ∧ Aside (L = nameOf k ++ tail (restW f j T.data.toList zs (ps.take q)) ∧ En w W2 cs ∧ ∀ p ∈ ps.take q, p.small = true)) (fun _ i _ => pl - (intOf i).toNat)
                    case atStart => exact ⟨0, wc, L, Nat.zero_le _, rfl, rfl, rfl, by simpa using E3.out.1, E3.out.2, by simp⟩
                    case round =>
                      obtain ⟨q, W2, L, hq, rfl, rfl, hwr, hE⟩ := hrel
                      obtain rfl := hwr.symm
                      clear E3 C2 L2
                      have E3 := Base.Aside.mk hE.out
                      have C2 := cellsE E3.out.2.1 HC.out
                      have L2 := En.lt E3.out.2.1
                      clear hE
                      have hLb : L.length ≤ 3000000000100 := by
                        rw [E3.out.1, List.length_append]
                        have h1 := HRL.out q E3.out.2.2
                        omega
                      by_cases hlt : q < pl
                      · obtain ⟨x, hx1, hx2, hx3⟩ : ∃ x, PA = some x ∧ x.block < w.heap.size ∧ PkCells w (x.add (q * 4)) (ps[q]'(by omega)) := by
                          rcases HP.out.cells with h | ⟨x, h1, h2, h3⟩
                          · rw [h] at hplen
                            simp at hplen
                            omega
                          · exact ⟨x, h1, h2, h3 q _ (List.getElem?_eq_getElem (by omega))⟩
                        subst hx1
                        have hpc := hx3.below (En.out E3.out.2.1)
                        obtain ⟨p, hp⟩ : ∃ p, ps[q]'(by omega) = p := ⟨_, rfl⟩
                        rw [hp] at hpc
                        have k0 := hpc.c0
                        have k1 := hpc.c1
                        have k2 := hpc.c2
                        have k3 := hpc.c3
                        have hq0 : (q : Int) < (pl : Int) := by omega
                        have hsm := fun W x => small_ref W x
                        have HPQ := Base.Aside.mk hp
                        clear hx3 hpc hp
                        have hps : p.small = (smallB p.at_ && (smallB p.mfn && smallB p.off)) := rfl
                        by_cases hpp : p.small = true
                        · have hq1 : smallB p.at_ = true ∧ smallB p.mfn = true ∧ smallB p.off = true := by simpa [Pk.small] using hpp
                          obtain ⟨q1, q2, q3⟩ := hq1
                          have hmem : p ∈ ps := by rw [← HPQ.out]; exact List.getElem_mem _
                          have HD := Base.Aside.mk (HP.out.data p hmem)
                          have HPP := Base.Aside.mk hpp
                          clear hmem hps hpp
                          go_upto_region 25 with (first
                            | (go_at_call 14; refine (hsm _ _).mono ?_; rintro z w3 ⟨rfl, hw3⟩; obtain rfl := hw3.symm)
                            | go_in)
                          have hb9 : (W2.alloc (.cells #[.int .i64 p.at_, .int .i64 p.mfn, .int .i64 p.off, .slice p.A p.l p.c] 41)).heap[W2.heap.size]? = some (.cells #[.int .i64 p.at_, .int .i64 p.mfn, .int .i64 p.off, .slice p.A p.l p.c] 41 (0, 0)) := blk_new _ _
                          have hB23 : Below W2.heap.size W2 (W2.alloc (.cells #[.int .i64 p.at_, .int .i64 p.mfn, .int .i64 p.off, .slice p.A p.l p.c] 41)) := below_alloc (Below.refl _ _) _
                          generalize (W2.alloc (.cells #[.int .i64 p.at_, .int .i64 p.mfn, .int .i64 p.off, .slice p.A p.l p.c] 41)) = W3 at hb9 hB23 ⊢
                          obtain ⟨pb, hpb⟩ : ∃ pb, pb = W2.heap.size := ⟨_, rfl⟩
                          rw [← hpb] at hb9 ⊢
                          have HPB := Base.Aside.mk hpb
                          have E5 := Base.Aside.mk (And.intro (En.step E3.out.2.1 hB23) hb9)
                          have hS : ∀ w' : World, w'.heap[pb]? = some (.cells #[.int .i64 p.at_, .int .i64 p.mfn, .int .i64 p.off, .slice p.A p.l p.c] 41 (0, 0)) → (w'.cell? ⟨pb, 0, none⟩ = some (.int .i64 p.at_) ∧ w'.cell? ⟨pb, 1, none⟩ = some (.int .i64 p.mfn) ∧ w'.cell? ⟨pb, 2, none⟩ = some (.int .i64 p.off) ∧ w'.cell? ⟨pb, 3, none⟩ = some (.slice p.A p.l p.c)) := fun w' h => ⟨blk_cell h 0, blk_cell h 1, blk_cell h 2, blk_cell h 3⟩
                          obtain ⟨s0, s1, s2, s3⟩ := hS W3 hb9
                          have c1 := told_small p.at_ q1 W3.drew
                          have la1 := dec_len q1
                          have la2 := dec_len q2
                          have la3 := dec_len q3
                          have la4 : (hexs p.zs).length ≤ 2097152 := by rw [hexs_len]; have := HD.out.1; have := HD.out.2.1; omega
                          have tl0 : ¬ 9223372036854775807 < L.length + 2 := by omega
                          have tl1 : ¬ 9223372036854775807 < L.length + 2 + (dec p.at_).length := by omega
                          have tl2 : ¬ 9223372036854775807 < L.length + 2 + (dec p.at_).length + 1 := by omega
                          have tl3 : ¬ 9223372036854775807 < L.length + 2 + (dec p.at_).length + 1 + (dec p.mfn).length := by omega
                          have tl4 : ¬ 9223372036854775807 < L.length + 2 + (dec p.at_).length + 1 + (dec p.mfn).length + 1 := by omega
                          have tl5 : ¬ 9223372036854775807 < L.length + 2 + (dec p.at_).length + 1 + (dec p.mfn).length + 1 + (dec p.off).length := by omega
                          have tl6 : ¬ 9223372036854775807 < L.length + 2 + (dec p.at_).length + 1 + (dec p.mfn).length + 1 + (dec p.off).length + 1 := by omega
                          have tl7 : ¬ 9223372036854775807 < L.length + 2 + (dec p.at_).length + 1 + (dec p.mfn).length + 1 + (dec p.off).length + 1 + (hexs p.zs).length := by omega
                          have HQ := Base.Aside.mk (And.intro q2 q3)
                          clear hb9 hB23 hpb hsm k0 k1 k2 k3 C2 L2 hx2 q1 q2 q3
                          go_region_held3 (fun w' => w'.cell? ⟨pb, 0, none⟩ = some (.int .i64 p.at_) ∧ w'.cell? ⟨pb, 1, none⟩ = some (.int .i64 p.mfn) ∧ w'.cell? ⟨pb, 2, none⟩ = some (.int .i64 p.off) ∧ w'.cell? ⟨pb, 3, none⟩ = some (.slice p.A p.l p.c))
                            (first
                              | go_keep
                              | exact hS _ HB8.out.2
                              | exact hS _ HB7.out.2
                              | exact hS _ HB6.out.2
                              | exact hS _ HB5.out.2)
                            ((first
                              | (go_at_call 16; (with_reducible refine c1.mono ?_); rintro z w5 ⟨rfl, hB50⟩; have hB5 := (Below.refl W3.heap.size W3).drew.trans hB50; have HB5 := Base.Aside.mk (And.intro (En.step E5.out.1 hB5) (blk_below E5.out.2 (blk_lt E5.out.2) hB5)); clear hB50; have c2 := told_small p.mfn HQ.out.1 w5; clear hB5)
                              | (go_at_call 16; (with_reducible refine c2.mono ?_); rintro z w6 ⟨rfl, hB6⟩; have HB6 := Base.Aside.mk (And.intro (En.step HB5.out.1 hB6) (blk_below HB5.out.2 (blk_lt HB5.out.2) hB6)); have c3 := told_small p.off HQ.out.2 w6; clear hB6)
                              | (go_at_call 16; (with_reducible refine c3.mono ?_); rintro z w7 ⟨rfl, hB7⟩; have HB7 := Base.Aside.mk (And.intro (En.step HB6.out.1 hB7) (blk_below HB6.out.2 (blk_lt HB6.out.2) hB7)); have c4 := digits_all w7 p.A p.l p.c p.zs HD.out.1 HD.out.2.1 (HD.out.2.2.below (En.out HB7.out.1)); clear hB7)
                              | (go_at_call 17; (with_reducible refine c4.mono ?_); rintro z w8 ⟨rfl, hB8⟩; have HB8 := Base.Aside.mk (And.intro (En.step HB7.out.1 hB8) (blk_below HB7.out.2 (blk_lt HB7.out.2) hB8)); clear hB8)))
                          all_goals
                            go_wp2
                            have hget : ps[q]? = some p := by rw [← HPQ.out]; exact List.getElem?_eq_getElem _
                            have e1 : (⟨L.toArray⟩ ++ ⟨#[32, 64]⟩ ++ ⟨(dec p.at_).toArray⟩ ++ ⟨#[58]⟩ ++ ⟨(dec p.mfn).toArray⟩ ++ ⟨#[58]⟩ ++ ⟨(dec p.off).toArray⟩ ++ ⟨#[58]⟩ ++ ⟨(hexs p.zs).toArray⟩ : ByteArray) = ⟨(L ++ [32] ++ pokeW p).toArray⟩ := by
                              apply ByteArray.ext
                              simp [ByteArray.data_append, pokeW]
                            have e2 : L ++ [32] ++ pokeW p = nameOf k ++ tail (restW f j T.data.toList zs (ps.take (q + 1))) := by
                              rw [restW_take hget, tailW, ← E3.out.1]
                            refine ⟨⟨q + 1, w8, L ++ [32] ++ pokeW p, by omega, congrArg Value.string e1, by simp, rfl, e2, HB8.out.1, ?_⟩, by simp [intOf]; omega⟩
                            intro p' hp'
                            rw [List.take_add_one, hget] at hp'
                            rcases List.mem_append.1 hp' with h | h
                            · exact E3.out.2.2 p' h
                            · obtain rfl : p' = p := by simpa using h
                              exact HPP.out
                        · have ho : outOf (nameOf k) (fOf k d a b c) (trimK (fOf k d a b c) (nOf k)) T.data.toList zs ps = ([], 4) := by
                            unfold outOf
                            rw [if_neg]
                            intro hall
                            have hmem : p ∈ ps := by rw [← HPQ.out]; exact List.getElem_mem _
                            exact hpp (List.all_eq_true.1 hall p hmem)
                          have HO := Base.Aside.mk ho
                          have hpf : (smallB p.at_ && (smallB p.mfn && smallB p.off)) = false := by
                            rw [← hps]
                            simpa using hpp
                          have HPF := Base.Aside.mk hpf
                          clear ho hpp hps hpf
                          rcases q1 : smallB p.at_ with _ | _
                          · clear HPF
                            go_wp2_with (first
                              | (go_at_call 14; refine (hsm _ _).mono ?_; rintro z w3 ⟨rfl, hw3⟩; obtain rfl := hw3.symm)
                              | go_in)
                            go_ret2
                            rw [HO.out]
                            exact ⟨by first | rfl | (simp; done), En.out (En.alloc E3.out.2.1 _)⟩
                          · rcases q2 : smallB p.mfn with _ | _
                            · clear HPF
                              go_wp2_with (first
                                | (go_at_call 14; refine (hsm _ _).mono ?_; rintro z w3 ⟨rfl, hw3⟩; obtain rfl := hw3.symm)
                                | go_in)
                              go_ret2
                              rw [HO.out]
                              exact ⟨by first | rfl | (simp; done), En.out (En.alloc E3.out.2.1 _)⟩
                            · have q3 : smallB p.off = false := by
                                have := HPF.out
                                rw [q1, q2] at this
                                simpa using this
                              clear HPF
                              go_wp2_with (first
                                | (go_at_call 14; refine (hsm _ _).mono ?_; rintro z w3 ⟨rfl, hw3⟩; obtain rfl := hw3.symm)
                                | go_in)
                              go_ret2
                              rw [HO.out]
                              exact ⟨by first | rfl | (simp; done), En.out (En.alloc E3.out.2.1 _)⟩
                      · have hqe : q = ps.length := by omega
                        have hqt : ps.take q = ps := by rw [hqe, List.take_length]
                        have hall : ∀ p ∈ ps, p.small = true := by
                          have := E3.out.2.2
                          rwa [hqt] at this
                        have hout : outOf (nameOf k) (fOf k d a b c) (trimK (fOf k d a b c) (nOf k)) T.data.toList zs ps = lineOf (nameOf k) (restW f j T.data.toList zs ps) := by
                          have h1 := HM.out
                          rw [HNk.out, HF.out] at h1
                          unfold outOf
                          rw [if_pos (List.all_eq_true.2 hall), HF.out, h1]
                        have hL : L = nameOf k ++ tail (restW f j T.data.toList zs ps) := by
                          have := E3.out.1
                          rwa [hqt] at this
                        have HO := Base.Aside.mk (And.intro hL hout)
                        clear hL hout hall hqe hqt
                        by_cases hlong : 65536 < L.length
                        · have dl : (65536 : Int) < (L.length : Int) := by omega
                          go_wp2
                          go_ret2
                          rw [HO.out.2]
                          unfold lineOf
                          rw [← HO.out.1, if_pos hlong]
                          exact ⟨by first | rfl | (simp; done), En.out E3.out.2.1⟩
                        · have dl : ¬ (65536 : Int) < (L.length : Int) := by omega
                          go_wp2
                          go_ret2
                          rw [HO.out.2]
                          unfold lineOf
                          rw [← HO.out.1, if_neg hlong]
                          exact ⟨by first | rfl | (simp; done), En.out E3.out.2.1⟩
end Go.Proofs.YtafphlimklgijaaDoor.SpF
