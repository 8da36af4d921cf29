/- Proved: the walk of the law ScriptTolds. -/
import Derived.Test.YtmfllgneeeinkaaDoorTdF
namespace Go.Proofs.YtmfllgneeeinkaaDoor.TdG
open Go.RowKit Go.Shelf Go.Proofs.YtmfllgneeeinkaaDoor.Base Go.Proofs.YtmfllgneeeinkaaDoor.TdA Go.Proofs.YtmfllgneeeinkaaDoor.TdB Go.Proofs.YtmfllgneeeinkaaDoor.TdC Go.Proofs.YtmfllgneeeinkaaDoor.TdD Go.Proofs.YtmfllgneeeinkaaDoor.TdE Go.Proofs.YtmfllgneeeinkaaDoor.TdF
set_option linter.unusedVariables false
set_option linter.unusedSimpArgs false

/-- What the law holds in memory. -/
structure LEnv (w W : World) (why n : Int) (A : Option Addr) (l c : Nat) (zs : List UInt8) : Prop where
  env : Env w W why n A l c zs
  asc : Asc W
theorem LEnv.step {w W W' : World} {why n : Int} {A : Option Addr} {l c : Nat} {zs : List UInt8} (E : LEnv w W why n A l c zs) (h : Below W.heap.size W W') : LEnv w W' why n A l c zs :=
  ⟨E.env.step h, tab_below E.asc h⟩
set_option maxHeartbeats 8000000 in
set_option maxRecDepth 100000 in
theorem law (w : World) (why n : Int) (A : Option Addr) (l c : Nat) (zs : List UInt8) (hz : l = zs.length) (hw0 : -9223372036854775808 ≤ why) (hw1 : why ≤ 9223372036854775807) (hn0 : -9223372036854775808 ≤ n) (hn1 : n ≤ 9223372036854775807) (hl : l ≤ 1048576) (hd : TdD.Data w A zs) (hp : Pow w) (ha : Asc w) :
    Calls Tryd.prog 3 #[.agg #[.int .i64 why, .int .i64 n, .slice A l c]] w fun e w' => e = .returned (.bool true) ∧ Below w.heap.size w w' := by
  have hb0 := (below_alloc (Below.refl w.heap.size w) (.cells #[.int .i64 why, .int .i64 n, .slice A l c] 25)).drew
  have E0' : LEnv w (w.alloc (.cells #[.int .i64 why, .int .i64 n, .slice A l c] 25)).drew why n A l c zs := ⟨⟨hd.below hb0, tab_below hp hb0, hb0, blk_new _ _⟩, tab_below ha hb0⟩
  have E0 := Base.Aside.mk E0'
  have hz1 := Base.Aside.mk hz
  have c1 := told_prog _ why n A l c zs hz1 hw0 hw1 hn0 hn1 hl E0'.env.data E0'.env.pow
  have C0 := fun i => blk_cell E0'.env.blk i
  clear hb0 E0' hd hp ha hz
  go_enter Tryd.func3, Tryd.ntmps3
  go_wp2
  go_region_with (first
    | (go_at_call 4; refine c1.mono ?_; rintro z w2 ⟨rfl, hB2⟩; have E2 := Base.Aside.mk (E0.out.step hB2); have C2 := fun i => blk_cell E2.out.env.blk i; have c2 := told_ref w2 why n A l c zs hz1 hw0 hw1 hn0 hn1 hl E2.out.env.data E2.out.env.pow; clear hB2)
    | (go_at_call 5; refine c2.mono ?_; rintro z w3 ⟨rfl, hB3⟩; have E3 := Base.Aside.mk (E2.out.step hB3); have C3 := fun i => blk_cell E3.out.env.blk i; have c3 := awake_calls w3 E3.out.asc; clear hB3)
    | (go_at_call 6; refine c3.mono ?_; rintro z w4 ⟨rfl, hB4⟩; have E4 := Base.Aside.mk (below_step E3.out.env.bel hB4); clear hB4))
  all_goals
    go_wp2
    go_ret
    exact ⟨by first | rfl | (simp; done), E4.out⟩
end Go.Proofs.YtmfllgneeeinkaaDoor.TdG
