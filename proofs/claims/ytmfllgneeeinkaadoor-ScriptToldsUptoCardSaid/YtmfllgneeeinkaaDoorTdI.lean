/- Proved: what the row's list of laid variables gives: the two tables that the walk reads. -/
import Derived.Test.YtmfllgneeeinkaaDoorTdH
import Derived.Lib.LaidTab
namespace Go.Proofs.YtmfllgneeeinkaaDoor.TdI
open Go.RowKit Go.Shelf
set_option linter.unusedVariables false

theorem laidMet_tail {P : Program} {w : World} {x : String × DataW Unit} {l : List (String × DataW Unit)} (h : laidMet P (x :: l) w) : laidMet P l w := by
  obtain ⟨ps, ⟨g, t, cs, fuel, p, q, h1, h2, h3, h4, h5, rfl⟩, hn, hc⟩ := h
  exact ⟨q, h5, (List.nodup_append.1 hn).2.1, fun b off hm => hc b off (List.mem_append_right _ hm)⟩
set_option maxRecDepth 100000 in
theorem pow_of {W : World} (h : laidMetH Tryd.prog Rows.scriptToldsUptoRow.laid W) : TdD.Pow W := by
  have h1 : laidMet Tryd.prog Rows.scriptToldsUptoRow.laid W := h
  have h3 := laidMet_tail (laidMet_tail h1)
  exact Lib.tabIs_of_head (t := 71) (e := 59) (n := 20) (k := .u64) (zs := Lib.pow10Tab) (show Tryd.prog.globalNamed "internal/strconv.uint64pow10" = some 1 by kernel_rfl) (by kernel_rfl) Tryd.underlying71 Tryd.underlying59 (by kernel_rfl) (by kernel_rfl) h3
set_option maxRecDepth 100000 in
theorem asc_of {W : World} (h : laidMetH Tryd.prog Rows.scriptToldsUptoRow.laid W) : TdE.Asc W := by
  have h1 : laidMet Tryd.prog Rows.scriptToldsUptoRow.laid W := h
  have h3 := laidMet_tail (laidMet_tail (laidMet_tail (laidMet_tail h1)))
  exact Lib.tabIs_of_head (t := 66) (e := 5) (n := 256) (k := .u8) (zs := Lib.asciiSpaceTab) (show Tryd.prog.globalNamed "strings.asciiSpace" = some 0 by kernel_rfl) (by kernel_rfl) Tryd.underlying66 Tryd.underlying5 (by kernel_rfl) (by kernel_rfl) h3
end Go.Proofs.YtmfllgneeeinkaaDoor.TdI
