/- Proved: GrantRange answers true at every argument (the walk of the law). -/
import Derived.Test.YtjeobbhaoahdcaaGrA
import Derived.Outline
import Derived.Deep.CutRange
import Derived.BigQuiet
namespace Go.Proofs.Ytjeobbhaoahdcaa.GrB
open Go.RowKit Go.Maps Go.Proofs.Ytjeobbhaoahdcaa.Base Go.Proofs.Ytjeobbhaoahdcaa.GaA Go.Proofs.Ytjeobbhaoahdcaa.GaB Go.Proofs.Ytjeobbhaoahdcaa.GaC Go.Proofs.Ytjeobbhaoahdcaa.GmB Go.Proofs.Ytjeobbhaoahdcaa.GpA Go.Proofs.Ytjeobbhaoahdcaa.GvA Go.Proofs.Ytjeobbhaoahdcaa.GeA Go.Proofs.Ytjeobbhaoahdcaa.GeB Go.Proofs.Ytjeobbhaoahdcaa.GfA Go.Proofs.Ytjeobbhaoahdcaa.GfB Go.Proofs.Ytjeobbhaoahdcaa.GfC Go.Proofs.Ytjeobbhaoahdcaa.GfD Go.Proofs.Ytjeobbhaoahdcaa.GfE Go.Proofs.Ytjeobbhaoahdcaa.GfF Go.Proofs.Ytjeobbhaoahdcaa.GfG Go.Proofs.Ytjeobbhaoahdcaa.GfH Go.Proofs.Ytjeobbhaoahdcaa.GbA Go.Proofs.Ytjeobbhaoahdcaa.GbB Go.Proofs.Ytjeobbhaoahdcaa.GbC Go.Proofs.Ytjeobbhaoahdcaa.GkA Go.Proofs.Ytjeobbhaoahdcaa.GkB Go.Proofs.Ytjeobbhaoahdcaa.GlA Go.Proofs.Ytjeobbhaoahdcaa.GrA
set_option linter.unusedVariables false
set_option linter.unusedSimpArgs false

def cG (o L : Int) : Array Value := #[.int .i64 1, .bool false, .bool true, .int .i64 2, .int .i64 3, .int .i64 o, .int .i64 L]
theorem sr_wr7 {S : MS} {o L : Int} (h : SR S o L) (off : Int) (zs : List UInt8) : SR (wrS S 7 off zs) o L := by
  refine ⟨by rw [wrS_n]; exact h.n, by rw [wrS_fr]; exact h.fr, fun j hj => ?_⟩
  unfold wrS
  split
  · rw [wr_miss (by rintro ⟨h1, _⟩; exact absurd h1 (by decide))]
    exact h.e j hj
  · exact h.e j hj
theorem sr_start (o L : Int) : SR (wrS (msB 3 0) 4 0 (packZ (gR o L))) o L := by
  have h := (wrS_ok (s := msB 3 0) (k := 4) (off := 0) (zs := packZ (gR o L)) (by show 4 < 13; omega) (by show 0 + 8 ≤ 256; omega) (msB_low 3 0 4 (by omega))).2
  have h' : wrS (msB 3 0) 4 0 (packZ (gR o L)) = MS.wr (msB 3 0) 4 0 (packZ (gR o L)) := h
  rw [h']
  refine ⟨rfl, rfl, fun j hj => ?_⟩
  rw [wr_hit (by omega) (by show _ < 0 + 8; omega)]
  simp
/-- The worlds of the law. -/
structure Rw (w W : World) (a : BA) (S : MS) (P Q : Value) (g : Nat) (o L : Int) : Prop where
  l : Lw w W a S P Q
  s : SR S o L
  gk : W.heap[g]? = some (.cells (cG o L) 53 (0, 0))
  gg : w.heap.size ≤ g
section
variable {w W W' : World} {a : BA} {S : MS} {P Q : Value} {g : Nat} {o L : Int}
theorem Rw.below (h : Rw w W a S P Q g o L) (hb : Below W.heap.size W W') : Rw w W' a S P Q g o L := ⟨h.l.below hb, h.s, blk_below h.gk (blk_lt h.gk) hb, h.gg⟩
theorem Rw.gf (h : Rw w W a S P Q g o L) : g ≠ a.fb := by
  obtain ⟨cs, h1, _⟩ := h.l.g.m.lst
  exact bne h.gk h1 (by decide)
theorem one_bytes (W : World) (v : Int) (h0 : 0 ≤ v) (h1 : v < 256) : Bytes (W.alloc (.cells #[.int .u8 v] 5)) (some ⟨W.heap.size, 0, none⟩) [ofI v] := by
  refine .inr ⟨_, rfl, Holds.of_block (t := 5) ?_⟩
  have := blk_new W (.cells #[.int .u8 v] 5)
  rw [this]
  simp [u8s, ofI_toNat v h0 h1]
/-- A byte of the page is written. -/
theorem rw_byte (h : Rw w W a S P Q g o L) (k v : Int) (h0 : 0 ≤ v) (h1 : v < 256) : Calls Try.prog 18 #[.pointer (some ⟨a.mb, 0, none⟩), .int .i64 7, .int .i64 k, .slice (some ⟨W.heap.size, 0, none⟩) 1 1] (W.alloc (.cells #[.int .u8 v] 5)) fun e w' => (∃ x : Int, e = .returned (.int .i64 x)) ∧ ∃ S', Rw w w' a S' P Q g o L := by
  have hb := below_alloc (Below.refl W.heap.size W) (.cells #[.int .u8 v] 5)
  have h2 := h.below hb
  exact (lw_write h2.l 7 k _ 1 1 [ofI v] rfl (one_bytes W v h0 h1)).mono fun e w' ⟨e1, e2, e3⟩ => ⟨⟨_, e1⟩, _, e2, sr_wr7 h2.s _ _, e3.blk h2.gk h2.gf, h2.gg⟩
theorem rw_start (h : Lw w W a (msB 3 0) P Q) (hg : W.heap[g]? = some (.cells (cG o L) 53 (0, 0))) (hgg : w.heap.size ≤ g) {N : Nat} (hN : W.heap[N]? = some (.cells (u8s (packZ (gR o L))).toArray 5 (0, 0))) : Calls Try.prog 18 #[.pointer (some ⟨a.mb, 0, none⟩), .int .i64 4, .int .i64 0, .slice (some ⟨N, 0, none⟩) 8 8] W fun e w' => (∃ x : Int, e = .returned (.int .i64 x)) ∧ ∃ S', Rw w w' a S' P Q g o L :=
  (lw_write h 4 0 _ 8 8 (packZ (gR o L)) rfl (.inr ⟨_, rfl, Holds.of_block hN⟩)).mono fun e w' ⟨e1, e2, e3⟩ => ⟨⟨_, e1⟩, _, e2, sr_start o L, e3.blk hg (by obtain ⟨cs, h1, _⟩ := h.g.m.lst; exact bne hg h1 (by decide)), hgg⟩
theorem rw_vw {vb db r r' : Nat} (h : Rw w W a S P Q g o L) (hV : V2 W vb db a.mb r) (hv : w.heap.size ≤ vb) (k : Vw vb db a.mb W W' r') : Rw w W' a S P Q g o L := ⟨h.l.vw hV hv k, h.s, k.blk h.gk (fun e => bne hV.blk h.gk (by decide) e.symm), h.gg⟩
theorem rd7 (h : Rw w W a S P Q g o L) : Calls Try.prog 12 #[.pointer (some ⟨a.mb, 0, none⟩), .int .i64 7, .int .i64 0, .int .i64 256] W fun e w' => e = .returned (.tuple #[.slice (some ⟨W.heap.size, 0, none⟩) 256 256, .int .i64 0]) ∧ w'.heap[W.heap.size]? = some (.cells (u8s (MS.rd S 7 0 256)).toArray 5 (0, 0)) ∧ Below W.heap.size W w' :=
  GaC.read_calls h.l.g.m 7 (by rw [h.s.n]; omega) 0 256 (by omega)
/-- Does the part fit? -/
def fitB (at_ n L : Int) : Bool := decide (0 ≤ at_ ∧ 0 ≤ n ∧ at_ ≤ L ∧ n ≤ L - at_)
theorem fit_range {S : MS} (h : SR S o L) {a : BA} (hp : ∀ e, e < 3 → piB a (a.pb e) = piI a e) (h0 : 0 ≤ o) (h1 : o ≤ 255) (h2 : 1 ≤ L) (h3 : L ≤ 256) (h4 : o + L ≤ 256) (at_ n : Int) (wr : Bool) :
    (fitB at_ n L = true ∧ findR S (memG a.pb 3) (piB a) 2 (eR at_) n wr = ((7, o + at_), 0)) ∨ (fitB at_ n L = false ∧ (findR S (memG a.pb 3) (piB a) 2 (eR at_) n wr).2 ≠ 0) := by
  rw [find_range h hp h0 h1 h2 h3 h4 at_ n wr]
  by_cases hb : n < 0 ∨ at_ < 0
  · rw [if_pos hb]
    refine .inr ⟨?_, by simp⟩
    unfold fitB
    simp only [decide_eq_false_iff_not]
    omega
  · rw [if_neg hb]
    by_cases hi : inn at_ n L = false
    · rw [if_pos hi]
      refine .inr ⟨?_, by simp⟩
      unfold fitB
      simp [inn] at hi
      simp only [decide_eq_false_iff_not]
      omega
    · rw [if_neg hi]
      refine .inl ⟨?_, rfl⟩
      unfold fitB
      have hi2 : inn at_ n L = true := by simpa using hi
      simp [inn] at hi2
      simp only [decide_eq_true_eq]
      omega
/-- What Pull comes to in the law. -/
structure PuOk (at_ n L o : Int) (S : MS) (A : Option Addr) (l : Nat) (er : Int) (W' : World) : Prop where
  res : (fitB at_ n L = true ∧ er = 0 ∧ l = n.toNat ∧ Bytes W' A (MS.rd S 7 (o + at_).toNat n.toNat)) ∨ (fitB at_ n L = false ∧ er ≠ 0)
theorem rw_pull {vb db r : Nat} (h : Rw w W a S P Q g o L) (hV : V2 W vb db a.mb r) (hv : w.heap.size ≤ vb) (hr : r < 100) (h0 : 0 ≤ o) (h1 : o ≤ 255) (h2 : 1 ≤ L) (h3 : L ≤ 256) (h4 : o + L ≤ 256) (at_ n : Int) :
    Calls Try.prog 19 #[.pointer (some ⟨a.gb, 0, none⟩), .pointer (some ⟨vb, 0, none⟩), .int .i64 2, .agg #[.bool true, .int .i64 1, .int .i64 0, .int .i64 0, .int .i64 at_], .int .i64 n] W fun e w' =>
      ∃ (A : Option Addr) (l : Nat) (er : Int), e = .returned (.tuple #[.slice A l l, .int .i64 er]) ∧ PuOk at_ n L o S A l er w' ∧ Rw w w' a S P Q g o L ∧ ∃ r', r' < 200 ∧ Vw vb db a.mb W w' r' := by
  have hc := pull_any h.l.g hV (by omega) 2 n (eR at_) ⟨by show (-9223372036854775808 : Int) ≤ 1; omega, by show (1 : Int) ≤ 9223372036854775807; omega⟩
  have hl := fit_range h.s h.l.pi h0 h1 h2 h3 h4 at_ n false
  have hN := findN_le (memG a.pb 3) 2 (eR at_) n
  refine hc.mono ?_
  rintro e w' ⟨A, l, er, he, hpo, hvw⟩
  refine ⟨A, l, er, he, ⟨?_⟩, rw_vw h hV hv hvw, _, ?_, hvw⟩
  · rcases hl with ⟨hf, hq⟩ | ⟨hf, hq⟩
    · rw [hq] at hpo
      have hfit := hf
      unfold fitB at hfit
      simp only [decide_eq_true_eq] at hfit
      have hin : inR S 7 (o + at_) n := by unfold inR; rw [h.s.n]; omega
      rcases hpo with ⟨hx, _⟩ | ⟨_, N, _, hrd⟩
      · exact absurd rfl hx
      · rcases hrd.res with ⟨_, rfl, rfl, rfl, hb⟩ | ⟨hx, _⟩
        · exact .inl ⟨hf, rfl, rfl, .inr ⟨_, rfl, Holds.of_block hb⟩⟩
        · exact absurd hin hx
    · rcases hpo with ⟨hx, rfl, rfl, rfl⟩ | ⟨hx, _⟩
      · exact .inr ⟨hf, hx⟩
      · exact absurd hx hq
  · unfold pullN
    split <;> omega
/-- What the page holds behind Push. -/
def puS (S : MS) (at_ L o : Int) (zs : List UInt8) : MS := if fitB at_ zs.length L = true then MS.wr S 7 (o + at_).toNat zs else S
theorem rw_push {vb db r : Nat} (h : Rw w W a S P Q g o L) (hV : V2 W vb db a.mb r) (hv : w.heap.size ≤ vb) (hr : r < 1000) (h0 : 0 ≤ o) (h1 : o ≤ 255) (h2 : 1 ≤ L) (h3 : L ≤ 256) (h4 : o + L ≤ 256) (at_ : Int) (A : Option Addr) (c : Nat) (zs : List UInt8) (hz : Bytes W A zs) (hmax : zs.length ≤ 9223372036854775807) :
    Calls Try.prog 20 #[.pointer (some ⟨a.gb, 0, none⟩), .pointer (some ⟨vb, 0, none⟩), .int .i64 2, .agg #[.bool true, .int .i64 1, .int .i64 0, .int .i64 0, .int .i64 at_], .slice A zs.length c] W fun e w' =>
      ∃ er : Int, e = .returned (.int .i64 er) ∧ (er == 0) = fitB at_ zs.length L ∧ Rw w w' a (puS S at_ L o zs) P Q g o L ∧ Chg (fun x => x = vb ∨ x = a.fb) W w' := by
  have hc := push_any h.l.g hV (by omega) 2 (eR at_) ⟨by show (-9223372036854775808 : Int) ≤ 1; omega, by show (1 : Int) ≤ 9223372036854775807; omega⟩ A c zs hz hmax
  have hl := fit_range h.s h.l.pi h0 h1 h2 h3 h4 at_ zs.length true
  refine hc.mono ?_
  rintro e w' ⟨he, hg, hv2, hch⟩
  have hgk : w'.heap[g]? = some (.cells (cG o L) 53 (0, 0)) := hch.blk h.gk (by rintro (e1 | e1); exact bne hV.blk h.gk (by decide) e1.symm; exact h.gf e1)
  rcases hl with ⟨hf, hq⟩ | ⟨hf, hq⟩
  · rw [hq] at he hg
    have hfit := hf
    unfold fitB at hfit
    simp only [decide_eq_true_eq] at hfit
    have hown := h.s.own 7 (by omega)
    have hfv : frV S 7 = (S.fr 7, 0) := by unfold frV; rw [if_pos (by rw [h.s.n]; omega)]; rfl
    have hnt : ¬ isTab (frV S 7).1 := by unfold isTab; rw [hfv]; simp only; omega
    obtain ⟨q, hqn⟩ : ∃ q : Nat, o + at_ = q := ⟨(o + at_).toNat, by omega⟩
    have hw := wrS_ok (s := S) (k := 7) (off := q) (zs := zs) (by rw [h.s.n]; omega) (by omega) (by rw [hown.1]; omega)
    have e1 : pushE S ((7, o + at_), 0) zs.length = 0 := by unfold pushE; simp only [ne_eq, not_true, if_false]; rw [if_neg hnt, hqn]; exact hw.1
    have e2 : pushS S ((7, o + at_), 0) zs = puS S at_ L o zs := by
      unfold pushS puS
      simp only [ne_eq, not_true, if_false]
      rw [if_neg hnt, hqn, if_pos hf]
      exact hw.2
    rw [e1] at he
    rw [e2] at hg
    refine ⟨0, he, by rw [hf]; rfl, ⟨h.l.push hV hv hg hch, ?_, hgk, h.gg⟩, hch⟩
    unfold puS
    rw [if_pos hf]
    exact ⟨h.s.n, h.s.fr, fun j hj => by rw [wr_miss (by rintro ⟨h1, _⟩; exact absurd h1 (by decide))]; exact h.s.e j hj⟩
  · have e2 : pushS S (findR S (memG a.pb 3) (piB a) 2 (eR at_) zs.length true) zs = puS S at_ L o zs := by
      unfold pushS puS
      rw [if_pos hq, if_neg (by rw [hf]; simp)]
    have e1 : pushE S (findR S (memG a.pb 3) (piB a) 2 (eR at_) zs.length true) zs.length = (findR S (memG a.pb 3) (piB a) 2 (eR at_) zs.length true).2 := by
      unfold pushE
      rw [if_pos hq]
    rw [e1] at he
    rw [e2] at hg
    refine ⟨_, he, by rw [hf]; simpa using hq, ⟨h.l.push hV hv hg hch, ?_, hgk, h.gg⟩, hch⟩
    unfold puS
    rw [if_neg (by rw [hf]; simp)]
    exact h.s
/-- A part of what was read. -/
theorem slice_old {O : Nat} {S : MS} (hO : W.heap[O]? = some (.cells (u8s (MS.rd S 7 0 256)).toArray 5 (0, 0))) {lo t' n' : Nat} (hs : lo + t' + n' ≤ 256) (m : Nat) : (convert 42 9 (.slice (if 256 = lo + t' then some ⟨O, 0, none⟩ else some ⟨O, lo + t', none⟩) n' (256 - (lo + t')))).run Try.prog (W.drewN m) = .ok (.string ⟨(MS.rd S 7 (lo + t') n').toArray⟩) (W.drewN m) := by
  refine conv_bytes ?_ n' _ (by rw [rd_len])
  by_cases h0 : n' = 0
  · subst h0
    exact .inl rfl
  · refine .inr ⟨⟨O, lo + t', none⟩, by rw [if_neg (by omega)], ⟨blk_lt hO, fun j hj => ?_⟩⟩
    rw [rd_len] at hj
    rw [addB]
    have hc : (W.drewN m).cell? ⟨O, lo + t' + j, none⟩ = W.cell? ⟨O, lo + t' + j, none⟩ := rfl
    rw [hc, blk_cell hO]
    simp only [u8s, MS.rd, List.getElem?_toArray, List.getElem?_map, List.getElem_map, List.getElem_range]
    rw [List.getElem?_range (by omega)]
    simp
end
set_option maxHeartbeats 16000000 in
set_option maxRecDepth 100000 in
theorem law_calls (w : World) (o sz at_ n : Int) (o0 : 0 ≤ o) (o1 : o < 256) (s0 : 0 ≤ sz) (s1 : sz < 256) (hat : okI at_) (hn : okI n) (A : Option Addr) (l c : Nat) (zs : List UInt8) (hl : l = zs.length) (hz : Bytes w A zs) (hmax : zs.length ≤ 9223372036854775807) :
    Calls Try.prog 4 #[.int .u8 o, .int .u8 sz, .int .i64 at_, .int .i64 n, .slice A l c] w fun e w' => e = .returned (.bool true) ∧ Below w.heap.size w w' := by
  obtain ⟨L, hL⟩ : ∃ L, L = 1 + sz := ⟨_, rfl⟩
  have hpb := fun (h : packBad (gR o (1 + sz))) W => pack_bad (gR o (1 + sz)) h W
  have hpg := fun (h : ¬ packBad (gR o (1 + sz))) W => pack_good (gR o (1 + sz)) h W
  unfold gR at hpb hpg
  simp only at hpb hpg
  have hbeg := begin_nil w
  by_cases hbad : 256 < o + (1 + sz)
  · have hpk := hpb (by unfold packBad; simp only; omega)
    have hgp := fun W => gpack_bad o (1 + sz) o0 (by omega) (by omega) (by omega) hbad W
    clear hpb hpg hL hz
    go_enter Try.func4, Try.ntmps4
    go_wp2_with (first
      | (go_at_call 8; refine hbeg.mono ?_; rintro z w1 ⟨a, P, Q, rfl, hxb, hbd⟩; have E1 := Base.Aside.mk (And.intro hxb hbd); clear hxb hbd)
      | (go_at_call 16; (with_reducible refine (hpk _).mono ?_); rintro z w2 ⟨rfl, hB2⟩; have hk2 := blk_below (blk_new w1 _) (blk_lt (blk_new w1 _)) hB2; have C2 := (fun i => blk_cell hk2 i); have L2 := blk_lt hk2; have E2 := Base.Aside.mk hB2; clear hB2)
      | (go_at_call 17; (with_reducible refine (hgp _).mono ?_); rintro z w3 ⟨rfl, hB3⟩; have E3 := Base.Aside.mk hB3; clear hB3)
      | go_in)
    go_ret
    refine ⟨by first | rfl | (simp; done), ?_⟩
    have b1 := E1.out.2.bel
    have b2 := below_step (below_alloc b1 (.cells #[.int .i64 1, .bool false, .bool true, .int .i64 2, .int .i64 3, .int .i64 o, .int .i64 (1 + sz)] 53)) E2.out
    exact below_step b2 E3.out
  · have hpk := hpg (by unfold packBad; simp only; omega)
    have HZ := Base.Aside.mk (And.intro hz hbad)
    clear hpb hpg hz hbad
    go_enter Try.func4, Try.ntmps4
    go_wp2_with (first
      | (go_at_call 8; refine hbeg.mono ?_; rintro z w1 ⟨a, P, Q, rfl, hxb, hbd⟩; have hlw := bd_lw hbd hxb rfl; have E1 := Base.Aside.mk hlw; clear hxb hbd hlw)
      | (go_at_call 16; (with_reducible refine (hpk _).mono ?_); rintro z w2 ⟨N, hN, rfl, hbk, hB2⟩; have hk2 := blk_below (blk_new w1 _) (blk_lt (blk_new w1 _)) hB2; have hl2 := (E1.out.below (below_alloc (Below.refl _ _) _)).below hB2; have C2 := (fun i => blk_cell hl2.x i); have L2 := blk_lt hl2.x; have hws := rw_start hl2 hk2 E1.out.bel.size hbk; clear hB2 hk2 hl2 hbk)
      | (go_at_call 18; refine hws.mono ?_; rintro z w3 ⟨⟨x3, rfl⟩, S3, h3⟩; have E3 := Base.Aside.mk h3; clear h3)
      | go_in)
    obtain ⟨g, hg⟩ : ∃ g, g = w1.heap.size := ⟨_, rfl⟩
    rw [← hg] at E3
    have H3 := Base.Aside.mk (⟨S3, E3.out⟩ : ∃ S, Rw w w3 a S P Q g o (1 + sz))
    rw [← hg]
    clear E1 E3 C2 L2 hws hbeg hpk hg
    go_loopw [18] (fun v wr => ∃ (k : Nat) (W2 : World), k ≤ 256 ∧ v = .int .i64 k ∧ wr = W2 ∧ Base.Aside (∃ S, Rw w W2 a S P Q g o (1 + sz))) (fun v _ => 256 - (intOf v).toNat)
    case atStart => exact ⟨0, w3, by omega, rfl, rfl, H3⟩
    case round =>
      obtain ⟨k, W2, hk, rfl, hwr, hA⟩ := hrel
      obtain rfl := hwr.symm
      obtain ⟨S, hS⟩ := hA.out
      have C3 := fun i => blk_cell hS.l.x i
      have L3 := blk_lt hS.l.x
      by_cases hlt : k < 256
      · have hby := rw_byte hS k ((k : Int) * 7 % 256) (by omega) (by omega)
        clear hS
        go_wp2_with (first
          | (go_at_call 18; refine hby.mono ?_; rintro z w4 ⟨⟨x4, rfl⟩, S4, h4⟩; have E4 := Base.Aside.mk (⟨S4, h4⟩ : ∃ S, Rw w w4 a S P Q g o (1 + sz)); clear h4)
          | go_in)
        exact ⟨⟨k + 1, w4, by omega, by simp, rfl, E4⟩, by simp [intOf]; omega⟩
      · obtain rfl : k = 256 := by omega
        have hr7 := rd7 hS
        have HS := Base.Aside.mk hS
        clear hS hA
        go_upto_region 17 with (first
          | (go_at_call 12; refine hr7.mono ?_; rintro z w4 ⟨rfl, hO, hB4⟩; have h4 := HS.out.below hB4; have C4 := (fun i => blk_cell h4.l.x i); have L4 := blk_lt h4.l.x; have hvn := GvA.new_calls h4.l.g.m (Nat.lt_of_lt_of_eq (by omega : 0 < 13) h4.s.n.symm); have E4 := Base.Aside.mk (And.intro h4 hO); clear h4 hO hB4)
          | (go_at_call 10; refine hvn.mono ?_; rintro z w5 ⟨vb, db, rfl, hv1, hv2, hV, hB5⟩; have h5 := E4.out.1.below hB5; have C5 := (fun i => blk_cell h5.l.x i); have L5 := blk_lt h5.l.x; have hO5 := blk_below E4.out.2 (blk_lt E4.out.2) hB5; have hvw := Nat.le_trans E4.out.1.l.bel.size hv1; have hpl := rw_pull h5 hV hvw (by omega) o0 (by omega) (by omega) (by omega) HZ.out.2 at_ n; have E5 := Base.Aside.mk (And.intro hO5 (And.intro hV hvw)); clear h5 hO5 hV hv1 hv2 hB5 hvw)
          | (go_at_call 19; refine hpl.mono ?_; rintro z w6 ⟨A2, l2, er2, rfl, hok, h6, r6, hr6, hv6⟩; have hO6 := hv6.blk E5.out.1 (fun e => bne E5.out.2.1.blk E5.out.1 (by decide) e.symm); have C6 := (fun i => blk_cell h6.l.x i); have L6 := blk_lt h6.l.x; have D6 : (∀ i, w6.cell? ⟨g, i, none⟩ = (#[.int .i64 1, .bool false, .bool true, .int .i64 2, .int .i64 3, .int .i64 o, .int .i64 (1 + sz)] : Array Value)[i]?) := (fun i => blk_cell h6.gk i); have M6 := blk_lt h6.gk; have E6 := Base.Aside.mk (And.intro h6 (And.intro hO6 (And.intro hok (And.intro hv6.v hr6)))); clear h6 hO6 hok hv6 hr6)
          | go_in)
        obtain ⟨ha0, ha1⟩ := hat
        obtain ⟨hn0, hn1⟩ := hn
        go_cut [25] from 106 to 125 (fun v wx => v = .bool (fitB at_ n (1 + sz)) ∧ wx = w6)
        case first =>
          by_cases q0 : 0 ≤ at_
          · have p0 : decide (0 ≤ at_) = true := decide_eq_true q0
            by_cases q1 : 0 ≤ n
            · have p1 : decide (0 ≤ n) = true := decide_eq_true q1
              by_cases q2 : at_ ≤ 1 + sz
              · have p2 : decide (at_ ≤ 1 + sz) = true := decide_eq_true q2
                have hf : fitB at_ n (1 + sz) = decide (n ≤ 1 + sz - at_) := by unfold fitB; simp [q0, q1, q2]
                have HF := Base.Aside.mk hf
                clear hf
                go_wp2
                go_meet
                case rel => exact ⟨by have hh := HF.out; simp [hh], rfl⟩
              · have p2 : decide (at_ ≤ 1 + sz) = false := decide_eq_false q2
                have hf : fitB at_ n (1 + sz) = false := by unfold fitB; simp; omega
                have HF := Base.Aside.mk hf
                clear hf q2
                go_wp2
                go_meet
                case rel => exact ⟨by have hh := HF.out; simp [hh], rfl⟩
            · have p1 : decide (0 ≤ n) = false := decide_eq_false q1
              have hf : fitB at_ n (1 + sz) = false := by unfold fitB; simp; omega
              have HF := Base.Aside.mk hf
              clear hf q1
              go_wp2
              go_meet
              case rel => exact ⟨by have hh := HF.out; simp [hh], rfl⟩
          · have p0 : decide (0 ≤ at_) = false := decide_eq_false q0
            have hf : fitB at_ n (1 + sz) = false := by unfold fitB; simp; omega
            have HF := Base.Aside.mk hf
            clear hf q0
            go_wp2
            go_meet
            case rel => exact ⟨by have hh := HF.out; simp [hh], rfl⟩
        case rest =>
          obtain ⟨rfl, hwc⟩ := hcut
          obtain rfl := hwc.symm
          go_upto_region 18 with fail
          go_cut [25, 150] from 126 to 150 (fun _ v wx => v = .bool false ∧ ∃ m, wx = w6.drewN m)
          case first =>
            rcases E6.out.2.2.1.res with ⟨hf, he, hl2, hby⟩ | ⟨hf, he⟩
            · subst he
              obtain ⟨o', ho'⟩ : ∃ o' : Nat, o = o' := ⟨o.toNat, by omega⟩
              subst ho'
              subst hl2
              have hfit := hf
              unfold fitB at hfit
              simp only [decide_eq_true_eq] at hfit
              obtain ⟨t', ht'⟩ : ∃ t' : Nat, at_ = t' := ⟨at_.toNat, by omega⟩
              subst ht'
              obtain ⟨n', hn'⟩ : ∃ n' : Nat, n = n' := ⟨n.toNat, by omega⟩
              subst hn'
              rw [hf]
              have h256 := HZ.out.2
              have hs0 : o' + t' + n' ≤ 256 := by omega
              have hby2 : Bytes w6 A2 (MS.rd S 7 (o' + t') n') := by
                have h9 := hby
                rwa [show ((o' : Int) + t').toNat = o' + t' by omega, Int.toNat_natCast] at h9
              have hcv1 : ∀ m, (convert 42 9 (.slice A2 n' n')).run Try.prog (w6.drewN m) = .ok (.string ⟨(MS.rd S 7 (o' + t') n').toArray⟩) (w6.drewN m) := fun m => conv_bytes (hby2.below (below_drewN (Below.refl _ _) m)) n' n' (by rw [rd_len])
              have hcv2 := slice_old E6.out.2.1 hs0
              have hs1 : (0 : Int) ≤ (o' : Int) + t' := by omega
              have hs2 : (o' : Int) + t' ≤ (o' : Int) + t' + n' := by omega
              have hs3 : (o' : Int) + t' + n' ≤ 256 := by omega
              clear hf hby hby2 hfit
              go_quiet (fail)
              generalize (if 256 = o' + t' then (some (⟨W2.heap.size, 0, none⟩ : Addr)) else some ⟨W2.heap.size, o' + t', none⟩) = A3
              clear hcv2
              go_wp2
              go_meet
              case rel => exact ⟨by first | rfl | (simp; done), _, rfl⟩
            · have he1 : (er2 == 0) = false := by simp [he]
              rw [hf]
              clear hf he
              go_quiet (fail)
              go_wp2
              go_meet
              case rel => exact ⟨by first | rfl | (simp; done), _, rfl⟩
          case rest =>
            obtain ⟨rfl, m, hwc⟩ := hcut
            have h7 := E6.out.1.below (below_drewN (Below.refl w6.heap.size w6) m)
            have hv7 := E6.out.2.2.2.1.below (below_drewN (Below.refl w6.heap.size w6) m)
            have hO7 := blk_below E6.out.2.1 (blk_lt E6.out.2.1) (below_drewN (Below.refl w6.heap.size w6) m)
            rw [← hwc] at h7 hv7 hO7
            have C7 := fun i => blk_cell h7.l.x i
            have L7 := blk_lt h7.l.x
            have hz7 := HZ.out.1.below h7.l.bel
            have hps := rw_push h7 hv7 E5.out.2.2 (by have := E6.out.2.2.2.2; omega) o0 (by omega) (by omega) (by omega) HZ.out.2 at_ A c zs hz7 hmax
            have E7 := Base.Aside.mk (And.intro hO7 hv7)
            clear h7 hv7 hO7 hz7 hwc C6 L6 D6 M6 C3 L3 C4 L4 C5 L5
            go_upto_region 21 with (first
              | (go_at_call 20; refine hps.mono ?_; rintro z w8 ⟨er8, rfl, hfe, h8, hc8⟩; have hO8 := hc8.blk E7.out.1 (by rintro (e1 | e1); exact bne E7.out.2.blk E7.out.1 (by decide) e1.symm; (obtain ⟨cs, g1, _⟩ := h8.l.g.m.lst; exact bne (hc8.blk E7.out.1 (by rintro (e2 | e2); exact bne E7.out.2.blk E7.out.1 (by decide) e2.symm; (obtain ⟨cs7, g7, _⟩ := E6.out.1.l.g.m.lst; exact bne E6.out.2.1 g7 (by decide) e2))) g1 (by decide) e1)); have C8 := (fun i => blk_cell h8.l.x i); have L8 := blk_lt h8.l.x; have D8 : (∀ i, w8.cell? ⟨g, i, none⟩ = (#[.int .i64 1, .bool false, .bool true, .int .i64 2, .int .i64 3, .int .i64 o, .int .i64 (1 + sz)] : Array Value)[i]?) := (fun i => blk_cell h8.gk i); have M8 := blk_lt h8.gk; have hr8 := rd7 h8; have E8 := Base.Aside.mk (And.intro h8 (And.intro hO8 hfe)); clear h8 hO8 hfe hc8)
              | go_in)
            go_cut [27] from 160 to 176 (fun v wx => v = .bool (fitB at_ zs.length (1 + sz)) ∧ wx = w8)
            case first =>
              have hlen : (0 : Int) ≤ (zs.length : Int) := Int.natCast_nonneg _
              by_cases q0 : 0 ≤ at_
              · have p0 : decide (0 ≤ at_) = true := decide_eq_true q0
                by_cases q2 : at_ ≤ 1 + sz
                · have p2 : decide (at_ ≤ 1 + sz) = true := decide_eq_true q2
                  have hf : fitB at_ zs.length (1 + sz) = decide ((zs.length : Int) ≤ 1 + sz - at_) := by unfold fitB; simp [q0, q2]
                  have HF := Base.Aside.mk hf
                  clear hf
                  go_wp2
                  go_meet
                  case rel => exact ⟨by have hh := HF.out; simp [hh], rfl⟩
                · have p2 : decide (at_ ≤ 1 + sz) = false := decide_eq_false q2
                  have hf : fitB at_ zs.length (1 + sz) = false := by unfold fitB; simp; omega
                  have HF := Base.Aside.mk hf
                  clear hf q2
                  go_wp2
                  go_meet
                  case rel => exact ⟨by have hh := HF.out; simp [hh], rfl⟩
              · have p0 : decide (0 ≤ at_) = false := decide_eq_false q0
                have hf : fitB at_ zs.length (1 + sz) = false := by unfold fitB; simp; omega
                have HF := Base.Aside.mk hf
                clear hf q0
                go_wp2
                go_meet
                case rel => exact ⟨by have hh := HF.out; simp [hh], rfl⟩
            case rest =>
              obtain ⟨rfl, hwc8⟩ := hcut
              obtain rfl := hwc8.symm
              have hfe8 := E8.out.2.2
              go_wp2_with (first
                | (go_at_call 12; refine hr8.mono ?_; rintro z w9 ⟨rfl, hN9, hB9⟩; have h9 := E8.out.1.below hB9; have hO9 := blk_below E8.out.2.1 (blk_lt E8.out.2.1) hB9; have D9 : (∀ i, w9.cell? ⟨g, i, none⟩ = (#[.int .i64 1, .bool false, .bool true, .int .i64 2, .int .i64 3, .int .i64 o, .int .i64 (1 + sz)] : Array Value)[i]?) := (fun i => blk_cell h9.gk i); have M9 := blk_lt h9.gk; have E9 := Base.Aside.mk (And.intro h9 (And.intro hO9 hN9)); clear h9 hO9 hN9 hB9)
                | go_in)
              generalize hfb : fitB at_ zs.length (1 + sz) = fb
              clear hfe8
              have HFB := Base.Aside.mk hfb
              clear hfb
              have hcO : ∀ k, k < 256 → w9.cell? ⟨W2.heap.size, k, none⟩ = some (.int .u8 ((S.byt 7 k).toNat : Int)) := fun k hk => by
                rw [blk_cell E9.out.2.1]
                simp only [u8s, MS.rd, List.getElem?_toArray, List.getElem?_map]
                rw [List.getElem?_range hk]
                simp
              have hcN : ∀ k, k < 256 → w9.cell? ⟨w8.heap.size, k, none⟩ = some (.int .u8 (((puS S at_ (1 + sz) o zs).byt 7 k).toNat : Int)) := fun k hk => by
                rw [blk_cell E9.out.2.2]
                simp only [u8s, MS.rd, List.getElem?_toArray, List.getElem?_map]
                rw [List.getElem?_range hk]
                simp
              have LO := blk_lt E9.out.2.1
              have LN := blk_lt E9.out.2.2
              clear C8 L8 D8 M8 hr8
              cases fb
              · have hpu : puS S at_ (1 + sz) o zs = S := by unfold puS; rw [HFB.out]; simp
                rw [hpu] at hcN
                clear hpu
                go_loopw [30] (fun v wr => ∃ k : Nat, k ≤ 256 ∧ v = .int .i64 k ∧ wr = w9) (fun v _ => 256 - (intOf v).toNat)
                case atStart => exact ⟨0, by omega, rfl, rfl⟩
                case round =>
                  obtain ⟨k, hk9, rfl, hwr9⟩ := hrel
                  obtain rfl := hwr9.symm
                  by_cases hk : k < 256
                  · have c1 := hcO k hk
                    have c2 := hcN k hk
                    go_wp2
                    exact ⟨⟨k + 1, by omega, by simp, trivial⟩, by simp [intOf]; omega⟩
                  · obtain rfl : k = 256 := by omega
                    go_wp2
                    go_ret
                    exact ⟨by first | rfl | (simp; done), E9.out.1.l.bel⟩
              · have hfit := HFB.out
                unfold fitB at hfit
                simp only [decide_eq_true_eq] at hfit
                obtain ⟨o', ho'⟩ : ∃ o' : Nat, o = o' := ⟨o.toNat, by omega⟩
                subst ho'
                obtain ⟨t', ht'⟩ : ∃ t' : Nat, at_ = t' := ⟨at_.toNat, by omega⟩
                subst ht'
                have h256 := HZ.out.2
                have hs0 : o' + t' + zs.length ≤ 256 := by omega
                have hpu : puS S t' (1 + sz) o' zs = MS.wr S 7 (o' + t') zs := by
                  unfold puS
                  rw [HFB.out, if_pos rfl, show ((o' : Int) + t').toNat = o' + t' by omega]
                rw [hpu] at hcN
                have hz9 := HZ.out.1.below E9.out.1.l.bel
                clear hpu hfit
                go_loopw [30] (fun v wr => ∃ k : Nat, k ≤ 256 ∧ v = .int .i64 k ∧ wr = w9) (fun v _ => 256 - (intOf v).toNat)
                case atStart => exact ⟨0, by omega, rfl, rfl⟩
                case round =>
                  obtain ⟨k, hk9, rfl, hwr9⟩ := hrel
                  obtain rfl := hwr9.symm
                  by_cases hk : k < 256
                  · have c1 := hcO k hk
                    have c2 := hcN k hk
                    by_cases hit : o' + t' ≤ k ∧ k < o' + t' + zs.length
                    · obtain ⟨j, rfl⟩ : ∃ j, k = o' + t' + j := ⟨k - (o' + t'), by omega⟩
                      have hj : j < zs.length := by omega
                      rw [wr_hit (by omega) (by omega), show o' + t' + j - (o' + t') = j by omega] at c2
                      rcases hz9 with hz0 | ⟨x, rfl, hx9⟩
                      · exact absurd hj (by rw [hz0]; simp)
                      · have c3 := hx9.cell j hj
                        have ez : zs.getD j 0 = zs[j] := by rw [List.getD_eq_getElem?_getD, List.getElem?_eq_getElem hj]; rfl
                        rw [ez] at c2
                        generalize zs[j] = zj at c2 c3
                        rw [← show o' + t' + j - o' - t' = j by omega] at c3
                        have d1 : decide ((o' : Int) + t' ≤ ((o' + t' + j : Nat) : Int)) = true := decide_eq_true (by omega)
                        clear hcO hcN ez hx9
                        go_wp2
                        exact ⟨⟨o' + t' + j + 1, by omega, by simp, trivial⟩, by simp [intOf]; omega⟩
                    · rw [wr_miss (by omega)] at c2
                      by_cases hlo : o' + t' ≤ k
                      · have d1 : decide ((o' : Int) + t' ≤ (k : Int)) = true := decide_eq_true (by omega)
                        have d2 : decide ((k : Int) - o' - t' < (zs.length : Int)) = false := decide_eq_false (by omega)
                        clear hcO hcN hz9
                        go_wp2
                        exact ⟨⟨k + 1, by omega, by simp, trivial⟩, by simp [intOf]; omega⟩
                      · have d1 : decide ((o' : Int) + t' ≤ (k : Int)) = false := decide_eq_false (by omega)
                        clear hcO hcN hz9
                        go_wp2
                        exact ⟨⟨k + 1, by omega, by simp, trivial⟩, by simp [intOf]; omega⟩
                  · obtain rfl : k = 256 := by omega
                    go_wp2
                    go_ret
                    exact ⟨by first | rfl | (simp; done), E9.out.1.l.bel⟩
end Go.Proofs.Ytjeobbhaoahdcaa.GrB
