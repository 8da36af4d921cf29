/- Proved: what was told, as text, on both sides (contracts for the law ScriptTolds). -/
import Derived.Test.YtmfllgneeeinkaaDoorTdC
import Derived.Lib.ItoaMem
import Derived.Lib.AppendIntMem
namespace Go.Proofs.YtmfllgneeeinkaaDoor.TdD
open Go.RowKit Go.Shelf Go.Proofs.YtmfllgneeeinkaaDoor.Base Go.Proofs.YtmfllgneeeinkaaDoor.TdA Go.Proofs.YtmfllgneeeinkaaDoor.TdB Go.Proofs.YtmfllgneeeinkaaDoor.TdC
set_option linter.unusedVariables false
set_option linter.unusedSimpArgs false

theorem tab_below {P : Program} {w w' : World} {name : String} {k : IntKind} {zs : List Int} (h : Lib.TabIs P w name k zs) (hb : Below w.heap.size w w') : Lib.TabIs P w' name k zs := by
  unfold Lib.TabIs World.var? at *
  cases hg : P.globalNamed name with
  | none => simp [hg] at h
  | some g =>
    simp only [hg, Option.bind_some] at h ⊢
    have hlt : g < w.heap.size := by
      rcases Nat.lt_or_ge g w.heap.size with h' | h'
      · exact h'
      · rw [Array.getElem?_eq_none h'] at h; simp at h
    rw [hb.block g hlt]
    exact h
def Pow (w : World) : Prop := Lib.TabIs Tryd.prog w "internal/strconv.uint64pow10" .u64 Lib.pow10Tab
theorem itoa_calls (n : Int) (h0 : -9223372036854775808 ≤ n) (h1 : n ≤ 9223372036854775807) (w : World) (ht : Pow w) :
    Calls Tryd.prog 7 #[.int .i64 n] w fun e w' => e = .returned (.string ⟨(Lib.itoa n).toArray⟩) ∧ Below w.heap.size w w' := by
  refine (Tryd.strconv_Itoa n h0 h1 w ht).mono ?_
  rintro e w' ⟨rfl, k, os, rfl⟩
  exact ⟨rfl, Lib.below_grow _ _ (Nat.le_refl _) _ _⟩
/-- An argument that holds bytes. -/
def Data (w : World) (A : Option Addr) (zs : List UInt8) : Prop := zs = [] ∨ ∃ x, A = some x ∧ Holds w x zs
theorem Data.below {w w' : World} {A : Option Addr} {zs : List UInt8} (h : Data w A zs) (hb : Below w.heap.size w w') : Data w' A zs := by
  rcases h with h | ⟨x, h1, h2⟩
  · exact .inl h
  · exact .inr ⟨x, h1, h2.below h2.lt hb⟩
theorem hex_any (w : World) (A : Option Addr) (l c : Nat) (zs : List UInt8) (hz : l = zs.length) (hl : l ≤ 1048576) (hd : Data w A zs) (hne : 0 < l) :
    Calls Tryd.prog 8 #[.slice A l c] w fun e w' => e = .returned (.string ⟨(hexs zs).toArray⟩) ∧ Below w.heap.size w w' := by
  subst hz
  rcases hd with rfl | ⟨x, rfl, h2⟩
  · exact absurd hne (Nat.lt_irrefl _)
  · exact hex_calls w x c zs hl h2
theorem digits_any (w : World) (A : Option Addr) (l c : Nat) (zs : List UInt8) (hz : l = zs.length) (hl : l ≤ 1048576) (hd : Data w A zs) (hne : 0 < l) :
    Calls Tryd.prog 10 #[.slice A l c] w fun e w' => e = .returned (.string ⟨(hexs zs).toArray⟩) ∧ Below w.heap.size w w' := by
  subst hz
  rcases hd with rfl | ⟨x, rfl, h2⟩
  · exact absurd hne (Nat.lt_irrefl _)
  · exact digits_calls w x c zs hl h2
def toldA (why : Int) : List UInt8 := if why = 0 then [111, 107] else [101, 114, 114, 111, 114, 32] ++ Lib.itoa why
def toldN (n : Int) : List UInt8 := if n = 0 then [] else [32] ++ Lib.itoa n
def toldH (zs : List UInt8) : List UInt8 := if zs.length = 0 then [] else [32, 61] ++ hexs zs
def toldB (why n : Int) (zs : List UInt8) : List UInt8 := toldA why ++ toldN n ++ toldH zs
theorem cat_arr (a b : Array UInt8) : (⟨a⟩ : ByteArray) ++ ⟨b⟩ = ⟨a ++ b⟩ := by
  apply ByteArray.ext
  simp [ByteArray.data_append]
/-- What Told holds in memory. -/
structure Env (w W : World) (why n : Int) (A : Option Addr) (l c : Nat) (zs : List UInt8) : Prop where
  data : Data W A zs
  pow : Pow W
  bel : Below w.heap.size w W
  blk : W.heap[w.heap.size]? = some (.cells #[.int .i64 why, .int .i64 n, .slice A l c] 25 (0, 0))
theorem Env.step {w W W' : World} {why n : Int} {A : Option Addr} {l c : Nat} {zs : List UInt8} (E : Env w W why n A l c zs) (h : Below W.heap.size W W') : Env w W' why n A l c zs :=
  ⟨E.data.below h, tab_below E.pow h, below_step E.bel h, blk_below E.blk (blk_lt E.blk) h⟩
set_option maxHeartbeats 4000000 in
set_option maxRecDepth 100000 in
theorem told_prog (w : World) (why n : Int) (A : Option Addr) (l c : Nat) (zs : List UInt8) (hz : Base.Aside (l = zs.length)) (hw0 : -9223372036854775808 ≤ why) (hw1 : why ≤ 9223372036854775807) (hn0 : -9223372036854775808 ≤ n) (hn1 : n ≤ 9223372036854775807) (hl : l ≤ 1048576) (hd : Data w A zs) (hp : Pow w) :
    Calls Tryd.prog 4 #[.agg #[.int .i64 why, .int .i64 n, .slice A l c]] w fun e w' => e = .returned (.string ⟨(toldB why n zs).toArray⟩) ∧ Below w.heap.size w w' := by
  have hb0 := below_alloc (Below.refl w.heap.size w) (.cells #[.int .i64 why, .int .i64 n, .slice A l c] 25)
  have E0' : Env w (w.alloc (.cells #[.int .i64 why, .int .i64 n, .slice A l c] 25)) why n A l c zs := ⟨hd.below hb0, tab_below hp hb0, hb0, blk_new _ _⟩
  have C0 := fun i => blk_cell E0'.blk i
  have E0 := Base.Aside.mk E0'
  have l1 := Lib.itoa_length_le why hw0 hw1
  have l2 := Lib.itoa_length_le n hn0 hn1
  have l3 : (hexs zs).length ≤ 2097152 := by rw [hexs_len, ← hz.out]; omega
  clear hb0 E0' hd hp
  by_cases hw' : why = 0
  · have hw := Base.Aside.mk hw'
    have d1 : (why == 0) = true := by simp [hw']
    clear hw'
    by_cases hn' : n = 0
    · have hn := Base.Aside.mk hn'
      have d2 : (n == 0) = true := by simp [hn']
      clear hn'
      by_cases h0' : l = 0
      · have h0 := Base.Aside.mk h0'
        have d3 : ¬ (0 < l) := by omega
        clear h0'
        go_enter Tryd.func4, Tryd.ntmps4
        go_wp2
        all_goals first
          | (exfalso; rename_i hbad; simp at hbad; omega)
          | (exfalso; rename_i hbad _; simp at hbad; omega)
          | (exfalso; rename_i hbad _ _; simp at hbad; omega)
          | skip
        go_ret
        refine ⟨?_, E0.out.bel⟩
        have z0 := hz.out
        simp [toldB, toldA, toldN, toldH, cat_arr, hw.out, hn.out, z0.symm.trans h0.out]
      · have h0 := Base.Aside.mk h0'
        have d3 : decide ((0 : Int) < (l : Int)) = true := decide_eq_true (by omega)
        have hne : 0 < l := by omega
        clear h0'
        go_enter Tryd.func4, Tryd.ntmps4
        go_wp2_with (first
          | (go_at_call 8; (with_reducible refine (hex_any _ A l c zs hz.out hl E0.out.data hne).mono ?_); rintro z w1 ⟨rfl, hB1⟩; have E1 := Base.Aside.mk (E0.out.step hB1); clear hB1 C0 E0; have E0 := E1; clear E1; have C0 := fun i => blk_cell E0.out.blk i)
          | go_in)
        all_goals first
          | (exfalso; rename_i hbad; simp at hbad; omega)
          | (exfalso; rename_i hbad _; simp at hbad; omega)
          | (exfalso; rename_i hbad _ _; simp at hbad; omega)
          | skip
        go_ret
        refine ⟨?_, E0.out.bel⟩
        have z0 := hz.out
        have hzn : zs ≠ [] := by
          rintro rfl
          simp at z0
          omega
        simp [toldB, toldA, toldN, toldH, cat_arr, hw.out, hn.out, hzn]
    · have hn := Base.Aside.mk hn'
      have d2 : (n == 0) = false := by simp [hn']
      clear hn'
      by_cases h0' : l = 0
      · have h0 := Base.Aside.mk h0'
        have d3 : ¬ (0 < l) := by omega
        clear h0'
        go_enter Tryd.func4, Tryd.ntmps4
        go_wp2_with (first
          | (go_at_call 7; (with_reducible refine (itoa_calls n hn0 hn1 _ E0.out.pow).mono ?_); rintro z w1 ⟨rfl, hB1⟩; have E1 := Base.Aside.mk (E0.out.step hB1); clear hB1 C0 E0; have E0 := E1; clear E1; have C0 := fun i => blk_cell E0.out.blk i)
          | go_in)
        all_goals first
          | (exfalso; rename_i hbad; simp at hbad; omega)
          | (exfalso; rename_i hbad _; simp at hbad; omega)
          | (exfalso; rename_i hbad _ _; simp at hbad; omega)
          | skip
        go_ret
        refine ⟨?_, E0.out.bel⟩
        have z0 := hz.out
        simp [toldB, toldA, toldN, toldH, cat_arr, hw.out, hn.out, z0.symm.trans h0.out]
      · have h0 := Base.Aside.mk h0'
        have d3 : decide ((0 : Int) < (l : Int)) = true := decide_eq_true (by omega)
        have hne : 0 < l := by omega
        clear h0'
        go_enter Tryd.func4, Tryd.ntmps4
        go_wp2_with (first
          | (go_at_call 7; (with_reducible refine (itoa_calls n hn0 hn1 _ E0.out.pow).mono ?_); rintro z w1 ⟨rfl, hB1⟩; have E1 := Base.Aside.mk (E0.out.step hB1); clear hB1 C0 E0; have E0 := E1; clear E1; have C0 := fun i => blk_cell E0.out.blk i)
          | (go_at_call 8; (with_reducible refine (hex_any _ A l c zs hz.out hl E0.out.data hne).mono ?_); rintro z w1 ⟨rfl, hB1⟩; have E1 := Base.Aside.mk (E0.out.step hB1); clear hB1 C0 E0; have E0 := E1; clear E1; have C0 := fun i => blk_cell E0.out.blk i)
          | go_in)
        all_goals first
          | (exfalso; rename_i hbad; simp at hbad; omega)
          | (exfalso; rename_i hbad _; simp at hbad; omega)
          | (exfalso; rename_i hbad _ _; simp at hbad; omega)
          | skip
        go_ret
        refine ⟨?_, E0.out.bel⟩
        have z0 := hz.out
        have hzn : zs ≠ [] := by
          rintro rfl
          simp at z0
          omega
        simp [toldB, toldA, toldN, toldH, cat_arr, hw.out, hn.out, hzn]
  · have hw := Base.Aside.mk hw'
    have d1 : (why == 0) = false := by simp [hw']
    clear hw'
    by_cases hn' : n = 0
    · have hn := Base.Aside.mk hn'
      have d2 : (n == 0) = true := by simp [hn']
      clear hn'
      by_cases h0' : l = 0
      · have h0 := Base.Aside.mk h0'
        have d3 : ¬ (0 < l) := by omega
        clear h0'
        go_enter Tryd.func4, Tryd.ntmps4
        go_wp2_with (first
          | (go_at_call 7; (with_reducible refine (itoa_calls why hw0 hw1 _ E0.out.pow).mono ?_); rintro z w1 ⟨rfl, hB1⟩; have E1 := Base.Aside.mk (E0.out.step hB1); clear hB1 C0 E0; have E0 := E1; clear E1; have C0 := fun i => blk_cell E0.out.blk i)
          | go_in)
        all_goals first
          | (exfalso; rename_i hbad; simp at hbad; omega)
          | (exfalso; rename_i hbad _; simp at hbad; omega)
          | (exfalso; rename_i hbad _ _; simp at hbad; omega)
          | skip
        go_ret
        refine ⟨?_, E0.out.bel⟩
        have z0 := hz.out
        simp [toldB, toldA, toldN, toldH, cat_arr, hw.out, hn.out, z0.symm.trans h0.out]
      · have h0 := Base.Aside.mk h0'
        have d3 : decide ((0 : Int) < (l : Int)) = true := decide_eq_true (by omega)
        have hne : 0 < l := by omega
        clear h0'
        go_enter Tryd.func4, Tryd.ntmps4
        go_wp2_with (first
          | (go_at_call 7; (with_reducible refine (itoa_calls why hw0 hw1 _ E0.out.pow).mono ?_); rintro z w1 ⟨rfl, hB1⟩; have E1 := Base.Aside.mk (E0.out.step hB1); clear hB1 C0 E0; have E0 := E1; clear E1; have C0 := fun i => blk_cell E0.out.blk i)
          | (go_at_call 8; (with_reducible refine (hex_any _ A l c zs hz.out hl E0.out.data hne).mono ?_); rintro z w1 ⟨rfl, hB1⟩; have E1 := Base.Aside.mk (E0.out.step hB1); clear hB1 C0 E0; have E0 := E1; clear E1; have C0 := fun i => blk_cell E0.out.blk i)
          | go_in)
        all_goals first
          | (exfalso; rename_i hbad; simp at hbad; omega)
          | (exfalso; rename_i hbad _; simp at hbad; omega)
          | (exfalso; rename_i hbad _ _; simp at hbad; omega)
          | skip
        go_ret
        refine ⟨?_, E0.out.bel⟩
        have z0 := hz.out
        have hzn : zs ≠ [] := by
          rintro rfl
          simp at z0
          omega
        simp [toldB, toldA, toldN, toldH, cat_arr, hw.out, hn.out, hzn]
    · have hn := Base.Aside.mk hn'
      have d2 : (n == 0) = false := by simp [hn']
      clear hn'
      by_cases h0' : l = 0
      · have h0 := Base.Aside.mk h0'
        have d3 : ¬ (0 < l) := by omega
        clear h0'
        go_enter Tryd.func4, Tryd.ntmps4
        go_wp2_with (first
          | (go_at_call 7; (with_reducible refine (itoa_calls why hw0 hw1 _ E0.out.pow).mono ?_); rintro z w1 ⟨rfl, hB1⟩; have E1 := Base.Aside.mk (E0.out.step hB1); clear hB1 C0 E0; have E0 := E1; clear E1; have C0 := fun i => blk_cell E0.out.blk i)
          | (go_at_call 7; (with_reducible refine (itoa_calls n hn0 hn1 _ E0.out.pow).mono ?_); rintro z w1 ⟨rfl, hB1⟩; have E1 := Base.Aside.mk (E0.out.step hB1); clear hB1 C0 E0; have E0 := E1; clear E1; have C0 := fun i => blk_cell E0.out.blk i)
          | go_in)
        all_goals first
          | (exfalso; rename_i hbad; simp at hbad; omega)
          | (exfalso; rename_i hbad _; simp at hbad; omega)
          | (exfalso; rename_i hbad _ _; simp at hbad; omega)
          | skip
        go_ret
        refine ⟨?_, E0.out.bel⟩
        have z0 := hz.out
        simp [toldB, toldA, toldN, toldH, cat_arr, hw.out, hn.out, z0.symm.trans h0.out]
      · have h0 := Base.Aside.mk h0'
        have d3 : decide ((0 : Int) < (l : Int)) = true := decide_eq_true (by omega)
        have hne : 0 < l := by omega
        clear h0'
        go_enter Tryd.func4, Tryd.ntmps4
        go_wp2_with (first
          | (go_at_call 7; (with_reducible refine (itoa_calls why hw0 hw1 _ E0.out.pow).mono ?_); rintro z w1 ⟨rfl, hB1⟩; have E1 := Base.Aside.mk (E0.out.step hB1); clear hB1 C0 E0; have E0 := E1; clear E1; have C0 := fun i => blk_cell E0.out.blk i)
          | (go_at_call 7; (with_reducible refine (itoa_calls n hn0 hn1 _ E0.out.pow).mono ?_); rintro z w1 ⟨rfl, hB1⟩; have E1 := Base.Aside.mk (E0.out.step hB1); clear hB1 C0 E0; have E0 := E1; clear E1; have C0 := fun i => blk_cell E0.out.blk i)
          | (go_at_call 8; (with_reducible refine (hex_any _ A l c zs hz.out hl E0.out.data hne).mono ?_); rintro z w1 ⟨rfl, hB1⟩; have E1 := Base.Aside.mk (E0.out.step hB1); clear hB1 C0 E0; have E0 := E1; clear E1; have C0 := fun i => blk_cell E0.out.blk i)
          | go_in)
        all_goals first
          | (exfalso; rename_i hbad; simp at hbad; omega)
          | (exfalso; rename_i hbad _; simp at hbad; omega)
          | (exfalso; rename_i hbad _ _; simp at hbad; omega)
          | skip
        go_ret
        refine ⟨?_, E0.out.bel⟩
        have z0 := hz.out
        have hzn : zs ≠ [] := by
          rintro rfl
          simp at z0
          omega
        simp [toldB, toldA, toldN, toldH, cat_arr, hw.out, hn.out, hzn]
set_option maxHeartbeats 4000000 in
set_option maxRecDepth 100000 in
theorem told_ref (w : World) (why n : Int) (A : Option Addr) (l c : Nat) (zs : List UInt8) (hz : Base.Aside (l = zs.length)) (hw0 : -9223372036854775808 ≤ why) (hw1 : why ≤ 9223372036854775807) (hn0 : -9223372036854775808 ≤ n) (hn1 : n ≤ 9223372036854775807) (hl : l ≤ 1048576) (hd : Data w A zs) (hp : Pow w) :
    Calls Tryd.prog 5 #[.agg #[.int .i64 why, .int .i64 n, .slice A l c]] w fun e w' => e = .returned (.string ⟨(toldB why n zs).toArray⟩) ∧ Below w.heap.size w w' := by
  have hb0 := below_alloc (Below.refl w.heap.size w) (.cells #[.int .i64 why, .int .i64 n, .slice A l c] 25)
  have E0' : Env w (w.alloc (.cells #[.int .i64 why, .int .i64 n, .slice A l c] 25)) why n A l c zs := ⟨hd.below hb0, tab_below hp hb0, hb0, blk_new _ _⟩
  have C0 := fun i => blk_cell E0'.blk i
  have E0 := Base.Aside.mk E0'
  have l1 := Lib.itoa_length_le why hw0 hw1
  have l2 := Lib.itoa_length_le n hn0 hn1
  have l3 : (hexs zs).length ≤ 2097152 := by rw [hexs_len, ← hz.out]; omega
  clear hb0 E0' hd hp
  by_cases hw' : why = 0
  · have hw := Base.Aside.mk hw'
    have d1 : (why == 0) = true := by simp [hw']
    clear hw'
    by_cases hn' : n = 0
    · have hn := Base.Aside.mk hn'
      have d2 : (n == 0) = true := by simp [hn']
      clear hn'
      by_cases h0' : l = 0
      · have h0 := Base.Aside.mk h0'
        have d3 : ¬ (0 < l) := by omega
        clear h0'
        go_enter Tryd.func5, Tryd.ntmps5
        go_wp2
        all_goals first
          | (exfalso; rename_i hbad; simp at hbad; omega)
          | (exfalso; rename_i hbad _; simp at hbad; omega)
          | (exfalso; rename_i hbad _ _; simp at hbad; omega)
          | skip
        go_ret
        refine ⟨?_, E0.out.bel⟩
        have z0 := hz.out
        simp [toldB, toldA, toldN, toldH, cat_arr, hw.out, hn.out, z0.symm.trans h0.out]
      · have h0 := Base.Aside.mk h0'
        have d3 : decide ((0 : Int) < (l : Int)) = true := decide_eq_true (by omega)
        have hne : 0 < l := by omega
        clear h0'
        go_enter Tryd.func5, Tryd.ntmps5
        go_wp2_with (first
          | (go_at_call 10; (with_reducible refine (digits_any _ A l c zs hz.out hl E0.out.data hne).mono ?_); rintro z w1 ⟨rfl, hB1⟩; have E1 := Base.Aside.mk (E0.out.step hB1); clear hB1 C0 E0; have E0 := E1; clear E1; have C0 := fun i => blk_cell E0.out.blk i)
          | go_in)
        all_goals first
          | (exfalso; rename_i hbad; simp at hbad; omega)
          | (exfalso; rename_i hbad _; simp at hbad; omega)
          | (exfalso; rename_i hbad _ _; simp at hbad; omega)
          | skip
        go_ret
        refine ⟨?_, E0.out.bel⟩
        have z0 := hz.out
        have hzn : zs ≠ [] := by
          rintro rfl
          simp at z0
          omega
        simp [toldB, toldA, toldN, toldH, cat_arr, hw.out, hn.out, hzn]
    · have hn := Base.Aside.mk hn'
      have d2 : (n == 0) = false := by simp [hn']
      clear hn'
      by_cases h0' : l = 0
      · have h0 := Base.Aside.mk h0'
        have d3 : ¬ (0 < l) := by omega
        clear h0'
        go_enter Tryd.func5, Tryd.ntmps5
        go_wp2_with (first
          | (go_at_call 9; (with_reducible refine (signed_calls n hn0 hn1 _).mono ?_); rintro z w1 ⟨rfl, hB1⟩; have E1 := Base.Aside.mk (E0.out.step hB1); clear hB1 C0 E0; have E0 := E1; clear E1; have C0 := fun i => blk_cell E0.out.blk i)
          | go_in)
        all_goals first
          | (exfalso; rename_i hbad; simp at hbad; omega)
          | (exfalso; rename_i hbad _; simp at hbad; omega)
          | (exfalso; rename_i hbad _ _; simp at hbad; omega)
          | skip
        go_ret
        refine ⟨?_, E0.out.bel⟩
        have z0 := hz.out
        simp [toldB, toldA, toldN, toldH, cat_arr, hw.out, hn.out, z0.symm.trans h0.out]
      · have h0 := Base.Aside.mk h0'
        have d3 : decide ((0 : Int) < (l : Int)) = true := decide_eq_true (by omega)
        have hne : 0 < l := by omega
        clear h0'
        go_enter Tryd.func5, Tryd.ntmps5
        go_wp2_with (first
          | (go_at_call 9; (with_reducible refine (signed_calls n hn0 hn1 _).mono ?_); rintro z w1 ⟨rfl, hB1⟩; have E1 := Base.Aside.mk (E0.out.step hB1); clear hB1 C0 E0; have E0 := E1; clear E1; have C0 := fun i => blk_cell E0.out.blk i)
          | (go_at_call 10; (with_reducible refine (digits_any _ A l c zs hz.out hl E0.out.data hne).mono ?_); rintro z w1 ⟨rfl, hB1⟩; have E1 := Base.Aside.mk (E0.out.step hB1); clear hB1 C0 E0; have E0 := E1; clear E1; have C0 := fun i => blk_cell E0.out.blk i)
          | go_in)
        all_goals first
          | (exfalso; rename_i hbad; simp at hbad; omega)
          | (exfalso; rename_i hbad _; simp at hbad; omega)
          | (exfalso; rename_i hbad _ _; simp at hbad; omega)
          | skip
        go_ret
        refine ⟨?_, E0.out.bel⟩
        have z0 := hz.out
        have hzn : zs ≠ [] := by
          rintro rfl
          simp at z0
          omega
        simp [toldB, toldA, toldN, toldH, cat_arr, hw.out, hn.out, hzn]
  · have hw := Base.Aside.mk hw'
    have d1 : (why == 0) = false := by simp [hw']
    clear hw'
    by_cases hn' : n = 0
    · have hn := Base.Aside.mk hn'
      have d2 : (n == 0) = true := by simp [hn']
      clear hn'
      by_cases h0' : l = 0
      · have h0 := Base.Aside.mk h0'
        have d3 : ¬ (0 < l) := by omega
        clear h0'
        go_enter Tryd.func5, Tryd.ntmps5
        go_wp2_with (first
          | (go_at_call 9; (with_reducible refine (signed_calls why hw0 hw1 _).mono ?_); rintro z w1 ⟨rfl, hB1⟩; have E1 := Base.Aside.mk (E0.out.step hB1); clear hB1 C0 E0; have E0 := E1; clear E1; have C0 := fun i => blk_cell E0.out.blk i)
          | go_in)
        all_goals first
          | (exfalso; rename_i hbad; simp at hbad; omega)
          | (exfalso; rename_i hbad _; simp at hbad; omega)
          | (exfalso; rename_i hbad _ _; simp at hbad; omega)
          | skip
        go_ret
        refine ⟨?_, E0.out.bel⟩
        have z0 := hz.out
        simp [toldB, toldA, toldN, toldH, cat_arr, hw.out, hn.out, z0.symm.trans h0.out]
      · have h0 := Base.Aside.mk h0'
        have d3 : decide ((0 : Int) < (l : Int)) = true := decide_eq_true (by omega)
        have hne : 0 < l := by omega
        clear h0'
        go_enter Tryd.func5, Tryd.ntmps5
        go_wp2_with (first
          | (go_at_call 9; (with_reducible refine (signed_calls why hw0 hw1 _).mono ?_); rintro z w1 ⟨rfl, hB1⟩; have E1 := Base.Aside.mk (E0.out.step hB1); clear hB1 C0 E0; have E0 := E1; clear E1; have C0 := fun i => blk_cell E0.out.blk i)
          | (go_at_call 10; (with_reducible refine (digits_any _ A l c zs hz.out hl E0.out.data hne).mono ?_); rintro z w1 ⟨rfl, hB1⟩; have E1 := Base.Aside.mk (E0.out.step hB1); clear hB1 C0 E0; have E0 := E1; clear E1; have C0 := fun i => blk_cell E0.out.blk i)
          | go_in)
        all_goals first
          | (exfalso; rename_i hbad; simp at hbad; omega)
          | (exfalso; rename_i hbad _; simp at hbad; omega)
          | (exfalso; rename_i hbad _ _; simp at hbad; omega)
          | skip
        go_ret
        refine ⟨?_, E0.out.bel⟩
        have z0 := hz.out
        have hzn : zs ≠ [] := by
          rintro rfl
          simp at z0
          omega
        simp [toldB, toldA, toldN, toldH, cat_arr, hw.out, hn.out, hzn]
    · have hn := Base.Aside.mk hn'
      have d2 : (n == 0) = false := by simp [hn']
      clear hn'
      by_cases h0' : l = 0
      · have h0 := Base.Aside.mk h0'
        have d3 : ¬ (0 < l) := by omega
        clear h0'
        go_enter Tryd.func5, Tryd.ntmps5
        go_wp2_with (first
          | (go_at_call 9; (with_reducible refine (signed_calls why hw0 hw1 _).mono ?_); rintro z w1 ⟨rfl, hB1⟩; have E1 := Base.Aside.mk (E0.out.step hB1); clear hB1 C0 E0; have E0 := E1; clear E1; have C0 := fun i => blk_cell E0.out.blk i)
          | (go_at_call 9; (with_reducible refine (signed_calls n hn0 hn1 _).mono ?_); rintro z w1 ⟨rfl, hB1⟩; have E1 := Base.Aside.mk (E0.out.step hB1); clear hB1 C0 E0; have E0 := E1; clear E1; have C0 := fun i => blk_cell E0.out.blk i)
          | go_in)
        all_goals first
          | (exfalso; rename_i hbad; simp at hbad; omega)
          | (exfalso; rename_i hbad _; simp at hbad; omega)
          | (exfalso; rename_i hbad _ _; simp at hbad; omega)
          | skip
        go_ret
        refine ⟨?_, E0.out.bel⟩
        have z0 := hz.out
        simp [toldB, toldA, toldN, toldH, cat_arr, hw.out, hn.out, z0.symm.trans h0.out]
      · have h0 := Base.Aside.mk h0'
        have d3 : decide ((0 : Int) < (l : Int)) = true := decide_eq_true (by omega)
        have hne : 0 < l := by omega
        clear h0'
        go_enter Tryd.func5, Tryd.ntmps5
        go_wp2_with (first
          | (go_at_call 9; (with_reducible refine (signed_calls why hw0 hw1 _).mono ?_); rintro z w1 ⟨rfl, hB1⟩; have E1 := Base.Aside.mk (E0.out.step hB1); clear hB1 C0 E0; have E0 := E1; clear E1; have C0 := fun i => blk_cell E0.out.blk i)
          | (go_at_call 9; (with_reducible refine (signed_calls n hn0 hn1 _).mono ?_); rintro z w1 ⟨rfl, hB1⟩; have E1 := Base.Aside.mk (E0.out.step hB1); clear hB1 C0 E0; have E0 := E1; clear E1; have C0 := fun i => blk_cell E0.out.blk i)
          | (go_at_call 10; (with_reducible refine (digits_any _ A l c zs hz.out hl E0.out.data hne).mono ?_); rintro z w1 ⟨rfl, hB1⟩; have E1 := Base.Aside.mk (E0.out.step hB1); clear hB1 C0 E0; have E0 := E1; clear E1; have C0 := fun i => blk_cell E0.out.blk i)
          | go_in)
        all_goals first
          | (exfalso; rename_i hbad; simp at hbad; omega)
          | (exfalso; rename_i hbad _; simp at hbad; omega)
          | (exfalso; rename_i hbad _ _; simp at hbad; omega)
          | skip
        go_ret
        refine ⟨?_, E0.out.bel⟩
        have z0 := hz.out
        have hzn : zs ≠ [] := by
          rintro rfl
          simp at z0
          omega
        simp [toldB, toldA, toldN, toldH, cat_arr, hw.out, hn.out, hzn]
end Go.Proofs.YtmfllgneeeinkaaDoor.TdD
