/- Proved: both sides tell the same frames, places and maps (the plain law of the grants). -/
import Derived.Test.YthlejchcnfdcpaaGreatMlan
import Derived.Test.YthlejchcnfdcpaaGreatMlas
import Derived.Test.YthlejchcnfdcpaaGreatMlbk
import Derived.Laws.IdiomStrings
import Derived.Laws.BytesString
import Derived.Deep.QuietTactic
import Derived.BigQuiet
namespace Go.Proofs.YthlejchcnfdcpaaGreat.GzL
open Go.RowKit Go.Maps Base GaA GaB GaC GaD GmA GmB GmC GpA GgA GeA GeB GfA GfB GfC GfD GjA GjB GjC GjE GjK GwA GwB GwE GwF GwJ GwO GwQ RpA RmA RmB RgA GxA GxC GxD GyA GyB GyE GyN GbA GzA GzB GzC GzD GjD GwP GyC GoA GzE GzG GzK
set_option linter.unusedVariables false
set_option linter.unusedSimpArgs false

theorem conv_zero (w : World) (p : Option Addr) (c : Nat) : (convert 30 9 (.slice p 0 c)).run Tryz.prog w = .ok (.string ByteArray.empty) w := by
  rw [run_convert_bytes_string w _ _ _ _ 0 c Tryz.underlying30 Tryz.underlying5 Tryz.underlying9]
  cases p <;> simp [Conv.bytesToString, loadCells]
  all_goals rfl
/-- string(b). -/
theorem conv_bytes {w : World} {A : Option Addr} {zs : List UInt8} (h : Bytes w A zs) (l c : Nat) (hl : l = zs.length) : (convert 30 9 (.slice A l c)).run Tryz.prog w = .ok (.string ⟨zs.toArray⟩) w := by
  subst hl
  rcases h with rfl | ⟨x, rfl, hx⟩
  · exact conv_zero w A c
  · exact run_convert_bytes_back w _ _ _ x c zs Tryz.underlying30 Tryz.underlying5 Tryz.underlying9 hx.cell
/-- A row in memory, cell by cell. -/
def RowAt (W : World) (A : Option Addr) (xs : List Value) : Prop := xs = [] ∨ ∃ g, A = some ⟨g, 0, none⟩ ∧ g < W.heap.size ∧ ∀ j u, xs[j]? = some u → W.cell? ⟨g, j, none⟩ = some u
theorem rowat_of {W : World} {N e sz n : Nat} {v : Value} {xs : List Value} (h : W.ownsRow N e sz v n xs) : ∃ A c, v = .slice A n c ∧ RowAt W A xs := by
  have hw := h
  obtain ⟨h1, ⟨rfl, h2⟩ | ⟨g, cap, cur, rfl, hb, hg, q1, q2, q3, q4⟩⟩ := h
  · subst h2
    rw [Nat.zero_mul] at h1
    exact ⟨none, 0, rfl, .inl (List.length_eq_zero_iff.1 h1)⟩
  · refine ⟨_, cap, rfl, .inr ⟨g, rfl, blk_lt hg, fun j u hj => ?_⟩⟩
    have hjl := (List.getElem?_eq_some_iff.1 hj).1
    rw [World.ownsRow.cellAt hw j (by omega), hj]
theorem RowAt.below {W W' : World} {A : Option Addr} {xs : List Value} (h : RowAt W A xs) (hb : Below W.heap.size W W') : RowAt W' A xs := by
  rcases h with h | ⟨g, h1, h2, h3⟩
  · exact .inl h
  · exact .inr ⟨g, h1, Nat.lt_of_lt_of_le h2 hb.size, fun j u hj => cell_below hb (h3 j u hj)⟩
theorem RowAt.six {W : World} {A : Option Addr} {L : List Mp} (h : RowAt W A (L.flatMap mcells)) (i : Nat) (hi : i < L.length) : ∃ g, A = some ⟨g, 0, none⟩ ∧ g < W.heap.size ∧ W.cell? ⟨g, i * 6, none⟩ = some (.int .i64 L[i].h) ∧ W.cell? ⟨g, i * 6 + 1, none⟩ = some (.int .i64 L[i].caller) ∧ W.cell? ⟨g, i * 6 + 2, none⟩ = some (.int .i64 L[i].owner) ∧ W.cell? ⟨g, i * 6 + 3, none⟩ = some (.int .i64 L[i].ref) ∧ W.cell? ⟨g, i * 6 + 4, none⟩ = some (.int .i64 L[i].mfn) ∧ W.cell? ⟨g, i * 6 + 5, none⟩ = some (.bool L[i].wr) := by
  rcases h with h | ⟨g, h1, h2, h3⟩
  · have := flat_six L i 0 hi (by omega)
    rw [h] at this
    cases this
  · have key : ∀ j, j < 6 → ∀ u, (mcells L[i])[j]? = some u → W.cell? ⟨g, i * 6 + j, none⟩ = some u := fun j hj u hu => h3 _ _ (by rw [flat_six L i j hi hj]; exact hu)
    exact ⟨g, h1, h2, key 0 (by omega) _ rfl, key 1 (by omega) _ rfl, key 2 (by omega) _ rfl, key 3 (by omega) _ rfl, key 4 (by omega) _ rfl, key 5 (by omega) _ rfl⟩
theorem flat_two : ∀ (L : List (Int × Int)) (i j : Nat) (hi : i < L.length) (hj : j < 2), (L.flatMap pcells)[i * 2 + j]? = (pcells L[i])[j]?
  | [], i, j, hi, _ => absurd hi (Nat.not_lt_zero _)
  | m :: t, 0, j, hi, hj => by
      rw [List.flatMap_cons, Nat.zero_mul, Nat.zero_add, List.getElem?_append_left (by simp [pcells]; omega)]
      rfl
  | m :: t, i + 1, j, hi, hj => by
      have ih := flat_two t i j (by simpa using hi) hj
      rw [List.flatMap_cons, List.getElem?_append_right (by simp [pcells]; omega), show (i + 1) * 2 + j - (pcells m).length = i * 2 + j by simp [pcells]; omega, ih]
      rfl
theorem RowAt.two {W : World} {A : Option Addr} {L : List (Int × Int)} (h : RowAt W A (L.flatMap pcells)) (i : Nat) (hi : i < L.length) : ∃ g, A = some ⟨g, 0, none⟩ ∧ g < W.heap.size ∧ W.cell? ⟨g, i * 2, none⟩ = some (.int .i64 L[i].1) ∧ W.cell? ⟨g, i * 2 + 1, none⟩ = some (.int .i64 L[i].2) := by
  rcases h with h | ⟨g, h1, h2, h3⟩
  · have := flat_two L i 0 hi (by omega)
    rw [h] at this
    cases this
  · have key : ∀ j, j < 2 → ∀ u, (pcells L[i])[j]? = some u → W.cell? ⟨g, i * 2 + j, none⟩ = some u := fun j hj u hu => h3 _ _ (by rw [flat_two L i j hi hj]; exact hu)
    exact ⟨g, h1, h2, key 0 (by omega) _ rfl, key 1 (by omega) _ rfl⟩
section
variable {w0 W W' : World} {a : BX} {P Q : Value} {σ τ σ' τ' : SS}
/-- The keys of the live maps. -/
theorem keys_of (hp : Pu a σ) : Keys σ.F (σ.L.map fun m => (m.caller, m.h)) := by
  have hok : ∀ m ∈ σ.L, GmB.ok (m.caller, m.h) := fun m hm => by
    have := hp.maps m hm
    exact ⟨⟨by simp only; omega, by simp only; omega⟩, ⟨by simp only; omega, by simp only; omega⟩⟩
  refine ⟨?_, fun k hk => ?_, fun k hk => ⟨fun h => ?_, fun h => ?_⟩⟩
  · refine List.pairwise_iff_getElem.2 fun i j hi hj hij => ?_
    rw [List.getElem_map, List.getElem_map]
    rw [List.length_map] at hi hj
    intro e
    injection e with e1 e2
    have := hp.lk.one hi hj e1 e2
    omega
  · obtain ⟨m, hm, rfl⟩ := List.mem_map.1 hk
    exact hok m hm
  · cases e : σ.F k with
    | none => rw [e] at h; cases h
    | some m =>
      obtain ⟨h1, h2⟩ := hp.lk.mem k m e
      exact List.mem_map.2 ⟨m, h1, h2.symm⟩
  · obtain ⟨m, hm, rfl⟩ := List.mem_map.1 h
    obtain ⟨i, hi, rfl⟩ := List.mem_iff_getElem.1 hm
    rw [hp.lk.at_ i hi]
    rfl
theorem count_same (hp : Pu a σ) (d : Int) : (σ.L.map fun m => (m.caller, m.h)).countP (ownIs σ.F d) = forL σ.L d := by
  rw [List.countP_map]
  unfold forL
  refine List.countP_congr fun m hm => ?_
  obtain ⟨i, hi, rfl⟩ := List.mem_iff_getElem.1 hm
  simp only [Function.comp, ownIs]
  rw [hp.lk.at_ i hi]
theorem foreignP (hs : St w0.heap.size a) (hp : Pu a σ) (h : J w0 W a P Q σ τ) (d : Int) : Calls Tryz.prog 40 #[.pointer (some ⟨a.gb, 0, none⟩), .int .i64 d] W fun e w' => e = .returned (.int .i64 (forL σ.L d : Nat)) ∧ Below W.heap.size W w' :=
  (foreign_calls (h.p.gx hp hs) d (keys_of hp) (by rw [List.length_map]; have := hp.few; omega)).mono fun e w' ⟨h1, h2⟩ => ⟨by rw [h1, count_same hp], h2⟩
theorem foreignD (h : J w0 W a P Q τ σ) (d : Int) : Calls Tryz.prog 41 #[.pointer (some ⟨a.hb, 0, none⟩), .int .i64 d] W fun e w' => e = .returned (.int .i64 (forL σ.L d : Nat)) ∧ w' = W := by
  obtain ⟨A, cap, hd, ho⟩ := h.d.d
  exact rforeign hd d
theorem mapsP (hs : St w0.heap.size a) (hp : Pu a σ) (h : J w0 W a P Q σ τ) (d : Int) (hd : okI d) : Calls Tryz.prog 38 #[.pointer (some ⟨a.gb, 0, none⟩), .int .i64 d] W (MapsOut W σ.F d) := maps_calls (h.p.gx hp hs) d hd
theorem mapsD (hp : Pu a σ) (h : J w0 W a P Q τ σ) (d : Int) : Calls Tryz.prog 39 #[.pointer (some ⟨a.hb, 0, none⟩), .int .i64 d] W (MapsOut W σ.F d) := by
  obtain ⟨A, cap, hd, ho⟩ := h.d.d
  exact rmaps hd hp.lk d
/-- What same reads of the law's own block. -/
theorem J.rm (h : J w0 W a P Q σ τ) : RMach W a.rb a.Fb a.Bb a.cF a.cB a.bs τ.s := by
  obtain ⟨A, cap, hd, ho⟩ := h.d.d
  exact hd.m
theorem frameP (h : J w0 W a P Q σ τ) (k : Nat) (hk : k < σ.s.n) (o y cn tt : Int) (hf : σ.s.fr k = ⟨o, y, cn, tt⟩) : Calls Tryz.prog 36 #[.pointer (some ⟨a.mb, 0, none⟩), .int .i64 k] W fun e w' => e = .returned (.tuple #[.agg #[.int .i64 o, .int .i64 y, .int .i64 cn, .int .i64 tt], .int .i64 0]) ∧ Below W.heap.size W w' := by
  have hv : frV σ.s k = (⟨o, y, cn, tt⟩, 0) := by unfold frV; rw [if_pos (by omega), Int.toNat_natCast, hf]
  have := frame_any h.p.m (k : Int)
  rw [hv] at this
  exact this
def PageOut (W : World) (zs : List UInt8) (e : Ending) (w' : World) : Prop := ∃ N, e = .returned (.tuple #[.slice (some ⟨N, 0, none⟩) 256 256, .int .i64 0]) ∧ Bytes w' (some ⟨N, 0, none⟩) zs ∧ Below W.heap.size W w'
theorem pageP (h : J w0 W a P Q σ τ) (k : Nat) (hk : k < σ.s.n) : Calls Tryz.prog 37 #[.pointer (some ⟨a.mb, 0, none⟩), .int .i64 k, .int .i64 0, .int .i64 256] W (PageOut W (MS.rd σ.s k 0 256)) := by
  refine (read_any h.p.m k 0 256).mono ?_
  rintro e w' ⟨A, l, er, h1, ⟨h2⟩, h3⟩
  rcases h2 with ⟨_, rfl, rfl, rfl, h4⟩ | ⟨h2, _⟩
  · exact ⟨_, h1, .inr ⟨_, rfl, Holds.of_block h4⟩, h3⟩
  · exact absurd (by unfold inR; omega) h2
set_option maxHeartbeats 16000000 in
set_option maxRecDepth 100000 in
theorem same_both (hs : St w0.heap.size a) (hp : Pu a σ) (hx : a.xb = w0.heap.size) (h : J w0 W a P Q σ σ) :
    Calls Tryz.prog 6 #[.pointer (some ⟨w0.heap.size, 0, none⟩)] W fun e w' => e = .returned (.bool true) ∧ J w0 w' a P Q σ σ := by
  have HN := Base.Aside.mk (And.intro hs (And.intro hp hx))
  have H := Base.Aside.mk h
  clear h hs hp hx
  go_enter Tryz.func6, Tryz.ntmps6
  go_wp2
  go_loopw [3] (fun v wr => ∃ (k : Nat) (W2 : World), k ≤ 13 ∧ v = .int .i64 k ∧ wr = W2 ∧ Base.Aside (J w0 W2 a P Q σ σ)) (fun v _ => 13 - (intOf v).toNat)
  case atStart => exact ⟨0, W, by omega, rfl, rfl, H⟩
  case round => as_aux_lemma =>
    obtain ⟨k, W2, hk, rfl, hwr, hA⟩ := hrel
    obtain rfl := hwr.symm
    have hxb := jblk hA.out HN.out.2.2
    have C2 := fun i => blk_cell hxb i
    have L2 := blk_lt hxb
    have D2 := fun i => blk_cell (J.rm hA.out).blk i
    have M2 := blk_lt (J.rm hA.out).blk
    have hn13 : σ.s.n = 13 := HN.out.2.1.n
    rw [hn13] at D2
    clear hxb
    by_cases hlt : k < 13
    · obtain ⟨o, y, cn, tt, hfk⟩ : ∃ o y cn tt, σ.s.fr k = ⟨o, y, cn, tt⟩ := ⟨_, _, _, _, rfl⟩
      have hfr := frameP hA.out k (by rw [hn13]; exact hlt) o y cn tt hfk
      have hpg := fun W' (hW : Below W2.heap.size W2 W') => pageP (hA.out.below hW) k (by rw [hn13]; exact hlt)
      unfold PageOut at hpg
      obtain ⟨zs, hzs⟩ : ∃ zs, zs = MS.rd σ.s k 0 256 := ⟨_, rfl⟩
      rw [← hzs] at hpg
      have hzl : zs.length = 256 := by rw [hzs, rd_len]
      have HR : Base.Aside (∀ W', Below W2.heap.size W2 W' → W'.cell? ⟨a.Fb, k * 4, none⟩ = some (.int .i64 o) ∧ W'.cell? ⟨a.Fb, k * 4 + 1, none⟩ = some (.int .i64 y) ∧ W'.cell? ⟨a.Fb, k * 4 + 2, none⟩ = some (.int .i64 cn) ∧ W'.cell? ⟨a.Fb, k * 4 + 3, none⟩ = some (.int .i64 tt) ∧ W'.cell? ⟨a.Bb, k, none⟩ = some (.slice (some ⟨a.bs.getD k 0, 0, none⟩) 256 256) ∧ Bytes W' (some ⟨a.bs.getD k 0, 0, none⟩) zs) := ⟨fun W' hW => by
        have hM := J.rm (hA.out.below hW)
        have hkn : k < σ.s.n := by rw [hn13]; exact hlt
        have h0 := hM.cell k 0 hkn (by omega)
        have h1 := hM.cell k 1 hkn (by omega)
        have h2 := hM.cell k 2 hkn (by omega)
        have h3 := hM.cell k 3 hkn (by omega)
        simp only [cellM, hfk] at h0 h1 h2 h3
        exact ⟨h0, h1, h2, h3, RMach.slot hM k hkn, .inr ⟨_, rfl, by rw [hzs]; exact Holds.of_block (hM.page k hkn)⟩⟩⟩
      have HJ := Base.Aside.mk hA.out
      have e2 : (0 : Int) ≤ (k : Int) := Int.natCast_nonneg _
      have e3 : (k : Int) < 13 := by omega
      clear hA hfk hzs hn13
      go_wp2_with (first
        | (go_at_call 36; (with_reducible refine hfr.mono ?_); rintro z w3 ⟨rfl, hB3⟩; have E3 := Base.Aside.mk hB3; have hb4 := blk_new w3 (.cells #[.int .i64 o, .int .i64 y, .int .i64 cn, .int .i64 tt] 95); have hpg4 := hpg _ (below_alloc hB3 (.cells #[.int .i64 o, .int .i64 y, .int .i64 cn, .int .i64 tt] 95)); have E4 := Base.Aside.mk hb4; have C4 := (fun i => blk_cell (jblk (HJ.out.below (below_alloc hB3 (.cells #[.int .i64 o, .int .i64 y, .int .i64 cn, .int .i64 tt] 95))) HN.out.2.2) i); have L4 := blk_lt (jblk (HJ.out.below (below_alloc hB3 (.cells #[.int .i64 o, .int .i64 y, .int .i64 cn, .int .i64 tt] 95))) HN.out.2.2); clear hB3 hb4)
        | (go_at_call 37; (with_reducible refine hpg4.mono ?_); rintro z w5 ⟨N, rfl, hN5, hB5⟩; have E5 := Base.Aside.mk (And.intro hN5 hB5); clear hN5 hB5)
        | go_in)
      have hB5 : Below W2.heap.size W2 w5 := (below_alloc E3.out (.cells #[.int .i64 o, .int .i64 y, .int .i64 cn, .int .i64 tt] 95)).trans (E5.out.2.mono (below_alloc E3.out (.cells #[.int .i64 o, .int .i64 y, .int .i64 cn, .int .i64 tt] 95)).size)
      have hJ5 := HJ.out.below hB5
      obtain ⟨f0, f1, f2, f3, f4, f5⟩ := HR.out w5 hB5
      have hb5 := blk_below E4.out (blk_lt E4.out) E5.out.2
      have C5 := fun i => blk_cell (jblk hJ5 HN.out.2.2) i
      have L5 := blk_lt (jblk hJ5 HN.out.2.2)
      have D5 := fun i => blk_cell (J.rm hJ5).blk i
      have M5 := blk_lt (J.rm hJ5).blk
      rw [HN.out.2.1.n] at D5
      have G5 := fun i => blk_cell hb5 i
      have N5 := blk_lt hb5
      have hcv1 : ∀ m, (convert 30 9 (.slice (some ⟨N, 0, none⟩) 256 256)).run Tryz.prog (w5.drewN m) = .ok (.string ⟨zs.toArray⟩) (w5.drewN m) := fun m => conv_bytes (E5.out.1.below (below_drewN (Below.refl _ _) m)) 256 256 hzl.symm
      have hcv2 : ∀ m, (convert 30 9 (.slice (some ⟨a.bs.getD k 0, 0, none⟩) 256 256)).run Tryz.prog (w5.drewN m) = .ok (.string ⟨zs.toArray⟩) (w5.drewN m) := fun m => conv_bytes (f5.below (below_drewN (Below.refl _ _) m)) 256 256 hzl.symm
      generalize a.bs.getD k 0 = b at f4 hcv2
      have H5 := Base.Aside.mk hJ5
      clear hJ5 hB5 f5 hb5 C4 L4 C2 L2 D2 M2 hfr hpg hzl
      go_quiet (fail)
      go_wp2
      exact ⟨⟨k + 1, _, by omega, by simp, rfl, ⟨H5.out.below (below_drewN (Below.refl _ _) _)⟩⟩, by simp [intOf]; omega⟩
    · obtain rfl : k = 13 := by omega
      have HJ := Base.Aside.mk hA.out
      clear hA hn13 hlt hk
      go_wp2
      go_loopw [8] (fun v wr => ∃ (d : Nat) (W3 : World), d ≤ 8 ∧ v = .int .i64 d ∧ wr = W3 ∧ Base.Aside (J w0 W3 a P Q σ σ)) (fun v _ => 8 - (intOf v).toNat)
      case atStart => exact ⟨0, W2, by omega, rfl, rfl, HJ⟩
      case round => as_aux_lemma =>
        obtain ⟨d, W3, hd, rfl, hwr3, hB⟩ := hrel
        obtain rfl := hwr3.symm
        clear C2 L2 D2 M2 HJ
        by_cases hlt2 : d < 8
        · have hxb := jblk hB.out HN.out.2.2
          have C3 := fun i => blk_cell hxb i
          have L3 := blk_lt hxb
          have hmp := mapsP HN.out.1 HN.out.2.1 hB.out d ⟨by omega, by omega⟩
          have hmd := fun W' (hW : Below W3.heap.size W3 W') => mapsD HN.out.2.1 (hB.out.below hW) d
          unfold MapsOut at hmp hmd
          obtain ⟨Lm, hLm⟩ : ∃ Lm, Lm = mapsL σ.F d 16 := ⟨_, rfl⟩
          have hl16 := mapsL_len σ.F d 16
          obtain ⟨n, hn⟩ : ∃ n, n = Lm.length := ⟨_, rfl⟩
          rw [← hLm, ← hn] at hmp hmd hl16
          obtain ⟨fo, hfo⟩ : ∃ fo, fo = forL σ.L d := ⟨_, rfl⟩
          have hfp := fun W' (hW : Below W3.heap.size W3 W') => foreignP HN.out.1 HN.out.2.1 (hB.out.below hW) d
          have hfd := fun W' (h : J w0 W' a P Q σ σ) => foreignD h d
          rw [← hfo] at hfp hfd
          have HN2 := Base.Aside.mk (And.intro hn hB.out)
          clear hB hxb hLm hn hfo
          go_wp2_with (first
            | (go_at_call 38; (with_reducible refine hmp.mono ?_); rintro z w4 ⟨v1, rfl, hr4, hB4⟩; obtain ⟨A1, c1, rfl, hM1⟩ := rowat_of hr4; have hmd4 := hmd w4 hB4; have C4 := (fun i => blk_cell (jblk (HN2.out.2.below hB4) HN.out.2.2) i); have L4 := blk_lt (jblk (HN2.out.2.below hB4) HN.out.2.2); have E4 := Base.Aside.mk (And.intro hM1 hB4); clear hM1 hB4 hr4)
            | (go_at_call 39; (with_reducible refine hmd4.mono ?_); rintro z w5 ⟨v2, rfl, hr5, hB5⟩; obtain ⟨A2, c2, rfl, hM2⟩ := rowat_of hr5; have E5 := Base.Aside.mk (And.intro hM2 hB5); clear hM2 hB5 hr5)
            | go_in)
          have hB5 : Below W3.heap.size W3 w5 := E4.out.2.trans (E5.out.2.mono E4.out.2.size)
          have hJ5 := HN2.out.2.below hB5
          have hfp5 := fun W' (hW : Below w5.heap.size w5 W') => (hfp W' (hB5.trans (hW.mono hB5.size))).mono (R' := fun e w' => e = .returned (.int .i64 (fo : Nat)) ∧ Below w5.heap.size w5 w') (fun e w' h => ⟨h.1, hW.trans (h.2.mono hW.size)⟩)
          have k1 : w5.cell? ⟨w0.heap.size, 1, none⟩ = some (.pointer (some ⟨a.gb, 0, none⟩)) := blk_cell (jblk hJ5 HN.out.2.2) 1
          have k4 : w5.cell? ⟨w0.heap.size, 4, none⟩ = some (.pointer (some ⟨a.hb, 0, none⟩)) := blk_cell (jblk hJ5 HN.out.2.2) 4
          have L5 := blk_lt (jblk hJ5 HN.out.2.2)
          have S5 : ∀ W', J w0 W' a P Q σ σ → W'.cell? ⟨w0.heap.size, 1, none⟩ = some (.pointer (some ⟨a.gb, 0, none⟩)) ∧ W'.cell? ⟨w0.heap.size, 4, none⟩ = some (.pointer (some ⟨a.hb, 0, none⟩)) := fun W' h => ⟨blk_cell (jblk h HN.out.2.2) 1, blk_cell (jblk h HN.out.2.2) 4⟩
          have E6 := Base.Aside.mk (And.intro hJ5 (And.intro (E4.out.1.below E5.out.2) E5.out.1))
          clear hJ5 hB5 C3 L3 C4 L4 hmp hmd hmd4 hfp
          go_cut [117] from 98 to 118 (fun u wx => u = .bool false ∧ Base.Aside (J w0 wx a P Q σ σ ∧ RowAt wx A1 (Lm.flatMap mcells) ∧ RowAt wx A2 (Lm.flatMap mcells)))
          case first =>
            go_region_held3 (fun W' => W'.cell? ⟨w0.heap.size, 1, none⟩ = some (.pointer (some ⟨a.gb, 0, none⟩)) ∧ W'.cell? ⟨w0.heap.size, 4, none⟩ = some (.pointer (some ⟨a.hb, 0, none⟩)))
              (first
                | go_keep
                | (with_reducible exact ⟨k1, k4⟩)
                | (with_reducible exact S5 _ E7.out.1)
                | (refine S5 _ (E6.out.1.below ?_); (repeat (with_reducible first | exact Below.refl _ _ | refine below_drew ?_ | refine below_alloc ?_ _)); done)
                | (refine S5 _ (GzB.J.below E7.out.1 ?_); (repeat (with_reducible first | exact Below.refl _ _ | refine below_drew ?_ | refine below_alloc ?_ _)); done))
              ((first
                | (go_at_call 40; (with_reducible refine (hfp5 _ ?_).mono ?_); (focus (repeat (with_reducible first | exact Below.refl _ _ | refine below_drew ?_ | refine below_alloc ?_ _))); rintro z w6 ⟨rfl, hB6⟩; have E7 := Base.Aside.mk (And.intro (GzB.J.below E6.out.1 hB6) (And.intro (E6.out.2.1.below hB6) (E6.out.2.2.below hB6))); clear hB6)
                | (go_at_call 41; (with_reducible refine (hfd _ ?_).mono ?_); (focus (refine GzB.J.below E7.out.1 ?_; (repeat (with_reducible first | exact Below.refl _ _ | refine below_drew ?_ | refine below_alloc ?_ _)))); rintro z w9 ⟨rfl, hw9⟩; obtain rfl := hw9.symm)))
            all_goals
              go_wp2_with fail
              go_meet
            all_goals
              refine ⟨by first | rfl | (simp; done), ⟨GzB.J.below E7.out.1 ?_, E7.out.2.1.below ?_, E7.out.2.2.below ?_⟩⟩
              all_goals (repeat (with_reducible first | exact Below.refl _ _ | refine below_drew ?_ | refine below_alloc ?_ _))
          case rest =>
            obtain ⟨rfl, hA7⟩ := hcut
            clear k1 k4 L5 S5 hfp5 hfd E6
            go_wp2
            go_loopw [11] (fun v wr => ∃ (i : Nat) (W4 : World), i ≤ n ∧ v = .int .i64 i ∧ wr = W4 ∧ Base.Aside (J w0 W4 a P Q σ σ ∧ RowAt W4 A1 (Lm.flatMap mcells) ∧ RowAt W4 A2 (Lm.flatMap mcells))) (fun v _ => n - (intOf v).toNat)
            case atStart => exact ⟨0, wc, Nat.zero_le _, rfl, rfl, hA7⟩
            case round => as_aux_lemma =>
              obtain ⟨i, W4, hi, rfl, hwr4, hC⟩ := hrel
              obtain rfl := hwr4.symm
              by_cases hlt3 : i < n
              · have hil : i < Lm.length := by have := HN2.out.1; omega
                obtain ⟨g1, rfl, G1, x0, x1, x2, x3, x4, x5⟩ := RowAt.six hC.out.2.1 i hil
                obtain ⟨g2, rfl, G2, y0, y1, y2, y3, y4, y5⟩ := RowAt.six hC.out.2.2 i hil
                obtain ⟨mp, hmp⟩ : ∃ mp, mp = Lm[i] := ⟨_, rfl⟩
                rw [← hmp] at x0 x1 x2 x3 x4 x5 y0 y1 y2 y3 y4 y5
                have e2 : (0 : Int) ≤ (i : Int) := Int.natCast_nonneg _
                have e3 : (i : Int) < (n : Int) := by omega
                obtain ⟨m1, m2, m3, m4, m5, m6⟩ := mp
                simp only at x0 x1 x2 x3 x4 x5 y0 y1 y2 y3 y4 y5
                clear hmp hil
                go_wp2
                go_quiet (fail)
                go_wp2
                exact ⟨⟨i + 1, _, by omega, by simp, rfl, ⟨GzB.J.below hC.out.1 (below_drewN (Below.refl _ _) _), hC.out.2.1.below (below_drewN (Below.refl _ _) _), hC.out.2.2.below (below_drewN (Below.refl _ _) _)⟩⟩, by simp [intOf]; omega⟩
              · obtain rfl : i = n := by omega
                go_wp2
                exact ⟨⟨d + 1, W4, by omega, by simp, rfl, ⟨hC.out.1⟩⟩, by simp [intOf]; omega⟩
        · obtain rfl : d = 8 := by omega
          have HJ := Base.Aside.mk hB.out
          have hxb := jblk hB.out HN.out.2.2
          have C3 := fun i => blk_cell hxb i
          have L3 := blk_lt hxb
          clear hB hlt2 hd hxb
          obtain ⟨gp, cp, rfl, _⟩ := row_full HJ.out.x.rp (by omega)
          go_wp2
          go_loopw [12] (fun v wr => ∃ (i : Nat) (W5 : World), i ≤ 3 ∧ v = .int .i64 i ∧ wr = W5 ∧ Base.Aside (J w0 W5 a (.slice (some ⟨gp, 0, none⟩) 3 cp) Q σ σ)) (fun v _ => 3 - (intOf v).toNat)
          case atStart => exact ⟨0, W3, by omega, rfl, rfl, HJ⟩
          case round => as_aux_lemma =>
            obtain ⟨i, W5, hi, rfl, hwr5, hB⟩ := hrel
            obtain rfl := hwr5.symm
            clear HJ C3 L3
            have hxb := jblk hB.out HN.out.2.2
            have C5 := fun i => blk_cell hxb i
            have L5 := blk_lt hxb
            by_cases hlt3 : i < 3
            · obtain ⟨gq, cq, rfl, _⟩ := row_full hB.out.x.rq (by omega)
              have hP : W5.cell? ⟨gp, i, none⟩ = some (.pointer (some ⟨a.pb i, 0, none⟩)) := by
                rw [World.ownsRow.cellAt hB.out.x.rp i (by omega)]
                simp only [ptrs, List.getElem?_map, List.getElem?_range hlt3, Option.map_some]
              have hQ : ∀ W', Below W5.heap.size W5 W' → W'.cell? ⟨gq, i, none⟩ = some (.pointer (some ⟨a.qb i, 0, none⟩)) := fun W' hW => by
                rw [World.ownsRow.cellAt (hB.out.below hW).x.rq i (by omega)]
                simp only [ptrs, List.getElem?_map, List.getElem?_range hlt3, Option.map_some]
              have LP := (hB.out.x.rp.lt _ rfl).2
              have LQ := (hB.out.x.rq.lt _ rfl).2
              have hlp := GwP.list_calls (hB.out.p.p i hlt3) (by omega)
              have hlq := fun W' (hW : Below W5.heap.size W5 W') => GyA.list_any ((hB.out.below hW).d.q i hlt3)
              unfold GwP.ListOut at hlp hlq
              obtain ⟨Lp, hLp⟩ : ∃ Lp, Lp = prsL (σ.pi (a.pb i)).fr 8 := ⟨_, rfl⟩
              have hl8 := prsL_len (σ.pi (a.pb i)).fr 8
              obtain ⟨n, hn⟩ : ∃ n, n = Lp.length := ⟨_, rfl⟩
              rw [← hLp, ← hn] at hlp hlq hl8
              have HN2 := Base.Aside.mk (And.intro hn hB.out)
              have e2 : (0 : Int) ≤ (i : Int) := Int.natCast_nonneg _
              have e3 : (i : Int) < 3 := by omega
              clear hB hxb hLp hn
              go_wp2_with (first
                | (go_at_call 42; (with_reducible refine hlp.mono ?_); rintro z w6 ⟨v1, rfl, hr6, hB6⟩; obtain ⟨A1, c1, rfl, hM1⟩ := rowat_of hr6; have hlq6 := hlq w6 hB6; have hQ6 := hQ w6 hB6; have LQ6 := Nat.lt_of_lt_of_le LQ hB6.size; have C6 := (fun i => blk_cell (jblk (HN2.out.2.below hB6) HN.out.2.2) i); have L6 := blk_lt (jblk (HN2.out.2.below hB6) HN.out.2.2); have E6 := Base.Aside.mk (And.intro hM1 hB6); clear hM1 hB6 hr6)
                | (go_at_call 43; (with_reducible refine hlq6.mono ?_); rintro z w7 ⟨v2, rfl, hr7, hB7⟩; obtain ⟨A2, c2, rfl, hM2⟩ := rowat_of hr7; have E7 := Base.Aside.mk (And.intro hM2 hB7); clear hM2 hB7 hr7)
                | go_in)
              go_loopw [15] (fun v wr => ∃ (j : Nat) (W4 : World), j ≤ n ∧ v = .int .i64 j ∧ wr = W4 ∧ Base.Aside (J w0 W4 a (.slice (some ⟨gp, 0, none⟩) 3 cp) (.slice (some ⟨gq, 0, none⟩) 3 cq) σ σ ∧ RowAt W4 A1 (Lp.flatMap pcells) ∧ RowAt W4 A2 (Lp.flatMap pcells))) (fun v _ => n - (intOf v).toNat)
              case atStart => exact ⟨0, w7, Nat.zero_le _, rfl, rfl, ⟨HN2.out.2.below (E6.out.2.trans (E7.out.2.mono E6.out.2.size)), E6.out.1.below E7.out.2, E7.out.1⟩⟩
              case round => as_aux_lemma =>
                obtain ⟨j, W4, hj, rfl, hwr4, hC⟩ := hrel
                obtain rfl := hwr4.symm
                clear C6 L6 C5 L5 hQ6 LQ6 LP LQ hP hQ hlp hlq hlq6
                by_cases hlt4 : j < n
                · have hil : j < Lp.length := by have := HN2.out.1; omega
                  obtain ⟨g1, rfl, G1, x0, x1⟩ := RowAt.two hC.out.2.1 j hil
                  obtain ⟨g2, rfl, G2, y0, y1⟩ := RowAt.two hC.out.2.2 j hil
                  obtain ⟨mp, hmp⟩ : ∃ mp, mp = Lp[j] := ⟨_, rfl⟩
                  rw [← hmp] at x0 x1 y0 y1
                  have e4 : (0 : Int) ≤ (j : Int) := Int.natCast_nonneg _
                  have e5 : (j : Int) < (n : Int) := by omega
                  obtain ⟨m1, m2⟩ := mp
                  simp only at x0 x1 y0 y1
                  clear hmp hil
                  go_wp2
                  go_quiet (fail)
                  go_wp2
                  exact ⟨⟨j + 1, _, by omega, by simp, rfl, ⟨GzB.J.below hC.out.1 (below_drewN (Below.refl _ _) _), hC.out.2.1.below (below_drewN (Below.refl _ _) _), hC.out.2.2.below (below_drewN (Below.refl _ _) _)⟩⟩, by simp [intOf]; omega⟩
                · obtain rfl : j = n := by omega
                  go_wp2
                  exact ⟨⟨i + 1, W4, by omega, by simp, rfl, ⟨hC.out.1⟩⟩, by simp [intOf]; omega⟩
            · obtain rfl : i = 3 := by omega
              go_wp2
              go_ret
              exact ⟨by first | rfl | (simp; done), hB.out⟩
end
end Go.Proofs.YthlejchcnfdcpaaGreat.GzL
