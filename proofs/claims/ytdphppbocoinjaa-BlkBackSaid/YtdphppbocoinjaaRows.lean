/-
  No cell of these rows narrows 'for every input' (looked for: loops, veiled, ifaces, maps, wideKeys, modest, calm, conditions, laid).
  DERIVED. THE GIVEN ROWS OF THIS SEAT. 12 by the template 'for every input the law returns true; each argument reads behind the call as it read before'; 0 by the template 'total and deterministic' (their statements: YtdphppbocoinjaaTotals.lean).
  GIVEN WITH THE SEED: the statements are not yours to turn. If you find one false, say at which input.
  Laid BY PROGRAM, IN A SANDBOX (cutbox-rows.mjs): the forced cells as the released guide's own fill.sh prints them over the translation 0c0a4f1db5f9ee26… (all of the seat's roots in one cut). By AI agents, Wed Nov 11 2026. No macro, syntax, notation, axiom, sorry.
-/
import Derived.Test.YtdphppbocoinjaaChecked
import GoSem.Claim
import GoSem.ClaimJoined
import GoSem.ClaimMapViews
import Derived.JoinedTies
import Derived.KernelRfl
namespace Go.Proofs.Ytdphppbocoinjaa
/- THE CELL 'sum', in the pinned program and in every row, IS THE sha256 OF THE DUMP (.gsa) THAT YtdphppbocoinjaaProg.lean LOADS. Nothing in Lean hashes anything: it is a label: what it is worth is what the hold of that sum in a sandbox is worth. -/
noncomputable def Try.pinned : Pinned := { name := "ytdphppbocoinjaa", sum := "0c0a4f1db5f9ee2688e288858d32e575720e3b7434b4b1eb99e349f991cb9aa9", checked := Try.checked }
namespace Rows
def none {H : Type} : Left H := { results := [], args := [] }

/-- 'tenementlaw11.BusStates': WHATEVER THE INPUT: true; the input reads as it did. -/
def busStatesSpec : ChangeSpec := { name := "busStates", fn := fun _ => fun
  | [d] => { results := [.lit (.bool true)], args := [d] }
  | _ => none }
def busStatesRow : OpenClaim := { program := "ytdphppbocoinjaa", sum := "0c0a4f1db5f9ee2688e288858d32e575720e3b7434b4b1eb99e349f991cb9aa9", func := "tenement/tenementlaw11.BusStates", spec := "busStates", apart := false }
def BusStatesSaid : Prop := busStatesRow.holds Try.pinned (OpenSpec.ofChange busStatesSpec)

/-- ITS FALSE NEIGHBOUR: 'it returns false'. Refute it at one input. -/
def busStatesWrong : ChangeSpec := { name := "busStates", fn := fun _ => fun
  | [d] => { results := [.lit (.bool false)], args := [d] }
  | _ => none }
def BusStatesWrongFalsely : Prop := busStatesRow.holds Try.pinned (OpenSpec.ofChange busStatesWrong)

/-- 'tenementlaw15.NetPackets': WHATEVER THE INPUT: true; the input reads as it did. -/
def netPacketsSpec : ChangeSpec := { name := "netPackets", fn := fun _ => fun
  | [d1, d2, d3, d4] => { results := [.lit (.bool true)], args := [d1, d2, d3, d4] }
  | _ => none }
def netPacketsRow : OpenClaim := { program := "ytdphppbocoinjaa", sum := "0c0a4f1db5f9ee2688e288858d32e575720e3b7434b4b1eb99e349f991cb9aa9", func := "tenement/tenementlaw15.NetPackets", spec := "netPackets", apart := false }
def NetPacketsSaid : Prop := netPacketsRow.holds Try.pinned (OpenSpec.ofChange netPacketsSpec)

/-- ITS FALSE NEIGHBOUR: 'it returns false'. Refute it at one input. -/
def netPacketsWrong : ChangeSpec := { name := "netPackets", fn := fun _ => fun
  | [d1, d2, d3, d4] => { results := [.lit (.bool false)], args := [d1, d2, d3, d4] }
  | _ => none }
def NetPacketsWrongFalsely : Prop := netPacketsRow.holds Try.pinned (OpenSpec.ofChange netPacketsWrong)

/-- 'tenementlaw13.BlkReplies': WHATEVER THE INPUT: true; the input reads as it did. -/
def blkRepliesSpec : ChangeSpec := { name := "blkReplies", fn := fun _ => fun
  | [d1, d2] => { results := [.lit (.bool true)], args := [d1, d2] }
  | _ => none }
def blkRepliesRow : OpenClaim := { program := "ytdphppbocoinjaa", sum := "0c0a4f1db5f9ee2688e288858d32e575720e3b7434b4b1eb99e349f991cb9aa9", func := "tenement/tenementlaw13.BlkReplies", spec := "blkReplies", apart := false }
def BlkRepliesSaid : Prop := blkRepliesRow.holds Try.pinned (OpenSpec.ofChange blkRepliesSpec)

/-- ITS FALSE NEIGHBOUR: 'it returns false'. Refute it at one input. -/
def blkRepliesWrong : ChangeSpec := { name := "blkReplies", fn := fun _ => fun
  | [d1, d2] => { results := [.lit (.bool false)], args := [d1, d2] }
  | _ => none }
def BlkRepliesWrongFalsely : Prop := blkRepliesRow.holds Try.pinned (OpenSpec.ofChange blkRepliesWrong)

/-- 'tenementlaw06.GrantUnpacks': WHATEVER THE INPUT: true; the input reads as it did. -/
def grantUnpacksSpec : ChangeSpec := { name := "grantUnpacks", fn := fun _ => fun
  | [d] => { results := [.lit (.bool true)], args := [d] }
  | _ => none }
def grantUnpacksRow : OpenClaim := { program := "ytdphppbocoinjaa", sum := "0c0a4f1db5f9ee2688e288858d32e575720e3b7434b4b1eb99e349f991cb9aa9", func := "tenement/tenementlaw06.GrantUnpacks", spec := "grantUnpacks", unfollowed := true, recurses := true, apart := false }
def GrantUnpacksSaid : Prop := grantUnpacksRow.holds Try.pinned (OpenSpec.ofChange grantUnpacksSpec)

/-- ITS FALSE NEIGHBOUR: 'it returns false'. Refute it at one input. -/
def grantUnpacksWrong : ChangeSpec := { name := "grantUnpacks", fn := fun _ => fun
  | [d] => { results := [.lit (.bool false)], args := [d] }
  | _ => none }
def GrantUnpacksWrongFalsely : Prop := grantUnpacksRow.holds Try.pinned (OpenSpec.ofChange grantUnpacksWrong)

/-- 'tenementlaw15.NetReplies': WHATEVER THE INPUT: true; the input reads as it did. -/
def netRepliesSpec : ChangeSpec := { name := "netReplies", fn := fun _ => fun
  | [d] => { results := [.lit (.bool true)], args := [d] }
  | _ => none }
def netRepliesRow : OpenClaim := { program := "ytdphppbocoinjaa", sum := "0c0a4f1db5f9ee2688e288858d32e575720e3b7434b4b1eb99e349f991cb9aa9", func := "tenement/tenementlaw15.NetReplies", spec := "netReplies", apart := false }
def NetRepliesSaid : Prop := netRepliesRow.holds Try.pinned (OpenSpec.ofChange netRepliesSpec)

/-- ITS FALSE NEIGHBOUR: 'it returns false'. Refute it at one input. -/
def netRepliesWrong : ChangeSpec := { name := "netReplies", fn := fun _ => fun
  | [d] => { results := [.lit (.bool false)], args := [d] }
  | _ => none }
def NetRepliesWrongFalsely : Prop := netRepliesRow.holds Try.pinned (OpenSpec.ofChange netRepliesWrong)

/-- 'tenementlaw13.BlkSegments': WHATEVER THE INPUT: true; the input reads as it did. -/
def blkSegmentsSpec : ChangeSpec := { name := "blkSegments", fn := fun _ => fun
  | [d] => { results := [.lit (.bool true)], args := [d] }
  | _ => none }
def blkSegmentsRow : OpenClaim := { program := "ytdphppbocoinjaa", sum := "0c0a4f1db5f9ee2688e288858d32e575720e3b7434b4b1eb99e349f991cb9aa9", func := "tenement/tenementlaw13.BlkSegments", spec := "blkSegments", apart := false }
def BlkSegmentsSaid : Prop := blkSegmentsRow.holds Try.pinned (OpenSpec.ofChange blkSegmentsSpec)

/-- ITS FALSE NEIGHBOUR: 'it returns false'. Refute it at one input. -/
def blkSegmentsWrong : ChangeSpec := { name := "blkSegments", fn := fun _ => fun
  | [d] => { results := [.lit (.bool false)], args := [d] }
  | _ => none }
def BlkSegmentsWrongFalsely : Prop := blkSegmentsRow.holds Try.pinned (OpenSpec.ofChange blkSegmentsWrong)

/-- 'tenementlaw06.GrantWords': WHATEVER THE INPUT: true; the input reads as it did. -/
def grantWordsSpec : ChangeSpec := { name := "grantWords", fn := fun _ => fun
  | [d1, d2] => { results := [.lit (.bool true)], args := [d1, d2] }
  | _ => none }
def grantWordsRow : OpenClaim := { program := "ytdphppbocoinjaa", sum := "0c0a4f1db5f9ee2688e288858d32e575720e3b7434b4b1eb99e349f991cb9aa9", func := "tenement/tenementlaw06.GrantWords", spec := "grantWords", unfollowed := true, recurses := true, apart := false }
def GrantWordsSaid : Prop := grantWordsRow.holds Try.pinned (OpenSpec.ofChange grantWordsSpec)

/-- ITS FALSE NEIGHBOUR: 'it returns false'. Refute it at one input. -/
def grantWordsWrong : ChangeSpec := { name := "grantWords", fn := fun _ => fun
  | [d1, d2] => { results := [.lit (.bool false)], args := [d1, d2] }
  | _ => none }
def GrantWordsWrongFalsely : Prop := grantWordsRow.holds Try.pinned (OpenSpec.ofChange grantWordsWrong)

/-- 'tenementlaw11.BusAllows': WHATEVER THE INPUT: true; the input reads as it did. -/
def busAllowsSpec : ChangeSpec := { name := "busAllows", fn := fun _ => fun
  | [d1, d2, d3] => { results := [.lit (.bool true)], args := [d1, d2, d3] }
  | _ => none }
def busAllowsRow : OpenClaim := { program := "ytdphppbocoinjaa", sum := "0c0a4f1db5f9ee2688e288858d32e575720e3b7434b4b1eb99e349f991cb9aa9", func := "tenement/tenementlaw11.BusAllows", spec := "busAllows", apart := false }
def BusAllowsSaid : Prop := busAllowsRow.holds Try.pinned (OpenSpec.ofChange busAllowsSpec)

/-- ITS FALSE NEIGHBOUR: 'it returns false'. Refute it at one input. -/
def busAllowsWrong : ChangeSpec := { name := "busAllows", fn := fun _ => fun
  | [d1, d2, d3] => { results := [.lit (.bool false)], args := [d1, d2, d3] }
  | _ => none }
def BusAllowsWrongFalsely : Prop := busAllowsRow.holds Try.pinned (OpenSpec.ofChange busAllowsWrong)

/-- 'tenementlaw11.BusNexts': WHATEVER THE INPUT: true; the input reads as it did. -/
def busNextsSpec : ChangeSpec := { name := "busNexts", fn := fun _ => fun
  | [d1, d2] => { results := [.lit (.bool true)], args := [d1, d2] }
  | _ => none }
def busNextsRow : OpenClaim := { program := "ytdphppbocoinjaa", sum := "0c0a4f1db5f9ee2688e288858d32e575720e3b7434b4b1eb99e349f991cb9aa9", func := "tenement/tenementlaw11.BusNexts", spec := "busNexts", apart := false }
def BusNextsSaid : Prop := busNextsRow.holds Try.pinned (OpenSpec.ofChange busNextsSpec)

/-- ITS FALSE NEIGHBOUR: 'it returns false'. Refute it at one input. -/
def busNextsWrong : ChangeSpec := { name := "busNexts", fn := fun _ => fun
  | [d1, d2] => { results := [.lit (.bool false)], args := [d1, d2] }
  | _ => none }
def BusNextsWrongFalsely : Prop := busNextsRow.holds Try.pinned (OpenSpec.ofChange busNextsWrong)

/-- 'tenementlaw13.BlkUnpacks': WHATEVER THE INPUT: true; the input reads as it did. -/
def blkUnpacksSpec : ChangeSpec := { name := "blkUnpacks", fn := fun _ => fun
  | [d] => { results := [.lit (.bool true)], args := [d] }
  | _ => none }
def blkUnpacksRow : OpenClaim := { program := "ytdphppbocoinjaa", sum := "0c0a4f1db5f9ee2688e288858d32e575720e3b7434b4b1eb99e349f991cb9aa9", func := "tenement/tenementlaw13.BlkUnpacks", spec := "blkUnpacks", apart := false }
def BlkUnpacksSaid : Prop := blkUnpacksRow.holds Try.pinned (OpenSpec.ofChange blkUnpacksSpec)

/-- ITS FALSE NEIGHBOUR: 'it returns false'. Refute it at one input. -/
def blkUnpacksWrong : ChangeSpec := { name := "blkUnpacks", fn := fun _ => fun
  | [d] => { results := [.lit (.bool false)], args := [d] }
  | _ => none }
def BlkUnpacksWrongFalsely : Prop := blkUnpacksRow.holds Try.pinned (OpenSpec.ofChange blkUnpacksWrong)

/-- 'tenementlaw13.BlkPacks': WHATEVER THE INPUT: true; the input reads as it did. -/
def blkPacksSpec : ChangeSpec := { name := "blkPacks", fn := fun _ => fun
  | [d1, d2] => { results := [.lit (.bool true)], args := [d1, d2] }
  | _ => none }
def blkPacksRow : OpenClaim := { program := "ytdphppbocoinjaa", sum := "0c0a4f1db5f9ee2688e288858d32e575720e3b7434b4b1eb99e349f991cb9aa9", func := "tenement/tenementlaw13.BlkPacks", spec := "blkPacks", apart := false }
def BlkPacksSaid : Prop := blkPacksRow.holds Try.pinned (OpenSpec.ofChange blkPacksSpec)

/-- ITS FALSE NEIGHBOUR: 'it returns false'. Refute it at one input. -/
def blkPacksWrong : ChangeSpec := { name := "blkPacks", fn := fun _ => fun
  | [d1, d2] => { results := [.lit (.bool false)], args := [d1, d2] }
  | _ => none }
def BlkPacksWrongFalsely : Prop := blkPacksRow.holds Try.pinned (OpenSpec.ofChange blkPacksWrong)

/-- 'tenementlaw13.BlkBack': WHATEVER THE INPUT: true; the input reads as it did. -/
def blkBackSpec : ChangeSpec := { name := "blkBack", fn := fun _ => fun
  | [d1, d2] => { results := [.lit (.bool true)], args := [d1, d2] }
  | _ => none }
def blkBackRow : OpenClaim := { program := "ytdphppbocoinjaa", sum := "0c0a4f1db5f9ee2688e288858d32e575720e3b7434b4b1eb99e349f991cb9aa9", func := "tenement/tenementlaw13.BlkBack", spec := "blkBack", apart := false }
def BlkBackSaid : Prop := blkBackRow.holds Try.pinned (OpenSpec.ofChange blkBackSpec)

/-- ITS FALSE NEIGHBOUR: 'it returns false'. Refute it at one input. -/
def blkBackWrong : ChangeSpec := { name := "blkBack", fn := fun _ => fun
  | [d1, d2] => { results := [.lit (.bool false)], args := [d1, d2] }
  | _ => none }
def BlkBackWrongFalsely : Prop := blkBackRow.holds Try.pinned (OpenSpec.ofChange blkBackWrong)

/- THE SECOND FORM. 'bulk': how many values and letters a reading holds, each counted each time it is reached (what is shared counts as often as it is met; a slice's spare places count too). A statement '..UptoSaid' is the law's where the arguments, and the package variables that the reading takes, are together of bulk at most 1048576: NARROWER than '..Said'. Prove '..Said' where nothing that the law and all that it calls make is longer than what came in: it says more and counts as full. Else prove '..UptoSaid'. A law counts once. -/
mutual
def uptoBulk {H : Type} : DataW H → Nat
  | .lit (.string bytes) => bytes.length + 1
  | .lit _ => 1
  | .nil => 1
  | .ptr d => uptoBulk d + 1
  | .slice elems spare => uptoBulkAll elems + uptoBulkAll spare + 1
  | .agg parts => uptoBulkAll parts + 1
  | .iface _ d => uptoBulk d + 1
  | .map entries => uptoBulkEntries entries + 1
  | .held _ => 1
def uptoBulkAll {H : Type} : List (DataW H) → Nat
  | [] => 0
  | d :: r => uptoBulk d + uptoBulkAll r
def uptoBulkEntries {H : Type} : List (Lit × DataW H) → Nat
  | [] => 0
  | x :: r => uptoBulkEntry x + uptoBulkEntries r
def uptoBulkEntry {H : Type} : Lit × DataW H → Nat
  | (.string bytes, d) => bytes.length + uptoBulk d + 1
  | (_, d) => uptoBulk d + 1
 end
def uptoSmall : (H : Type) → List (DataW H) → Bool := fun _ ds => decide (uptoBulkAll ds ≤ 1048576)
def OpenSpec.upto (s : _root_.Go.ChangeSpec) : _root_.Go.OpenSpec := { _root_.Go.OpenSpec.ofChange s with cond := some uptoSmall }

/-- 'tenementlaw11.BusStates', WHERE WHAT IT READS IS OF BULK AT MOST 1048576: true; the input reads as it did. -/
def busStatesUptoRow : OpenClaim := { program := "ytdphppbocoinjaa", sum := "0c0a4f1db5f9ee2688e288858d32e575720e3b7434b4b1eb99e349f991cb9aa9", func := "tenement/tenementlaw11.BusStates", spec := "busStates", apart := false, narrowed := true }
def BusStatesUptoSaid : Prop := busStatesUptoRow.holds Try.pinned (OpenSpec.upto busStatesSpec)

/-- 'tenementlaw15.NetPackets', WHERE WHAT IT READS IS OF BULK AT MOST 1048576: true; the input reads as it did. -/
def netPacketsUptoRow : OpenClaim := { program := "ytdphppbocoinjaa", sum := "0c0a4f1db5f9ee2688e288858d32e575720e3b7434b4b1eb99e349f991cb9aa9", func := "tenement/tenementlaw15.NetPackets", spec := "netPackets", apart := false, narrowed := true }
def NetPacketsUptoSaid : Prop := netPacketsUptoRow.holds Try.pinned (OpenSpec.upto netPacketsSpec)

/-- 'tenementlaw13.BlkReplies', WHERE WHAT IT READS IS OF BULK AT MOST 1048576: true; the input reads as it did. -/
def blkRepliesUptoRow : OpenClaim := { program := "ytdphppbocoinjaa", sum := "0c0a4f1db5f9ee2688e288858d32e575720e3b7434b4b1eb99e349f991cb9aa9", func := "tenement/tenementlaw13.BlkReplies", spec := "blkReplies", apart := false, narrowed := true }
def BlkRepliesUptoSaid : Prop := blkRepliesUptoRow.holds Try.pinned (OpenSpec.upto blkRepliesSpec)

/-- 'tenementlaw06.GrantUnpacks', WHERE WHAT IT READS IS OF BULK AT MOST 1048576: true; the input reads as it did. -/
def grantUnpacksUptoRow : OpenClaim := { program := "ytdphppbocoinjaa", sum := "0c0a4f1db5f9ee2688e288858d32e575720e3b7434b4b1eb99e349f991cb9aa9", func := "tenement/tenementlaw06.GrantUnpacks", spec := "grantUnpacks", unfollowed := true, recurses := true, apart := false, narrowed := true }
def GrantUnpacksUptoSaid : Prop := grantUnpacksUptoRow.holds Try.pinned (OpenSpec.upto grantUnpacksSpec)

/-- 'tenementlaw15.NetReplies', WHERE WHAT IT READS IS OF BULK AT MOST 1048576: true; the input reads as it did. -/
def netRepliesUptoRow : OpenClaim := { program := "ytdphppbocoinjaa", sum := "0c0a4f1db5f9ee2688e288858d32e575720e3b7434b4b1eb99e349f991cb9aa9", func := "tenement/tenementlaw15.NetReplies", spec := "netReplies", apart := false, narrowed := true }
def NetRepliesUptoSaid : Prop := netRepliesUptoRow.holds Try.pinned (OpenSpec.upto netRepliesSpec)

/-- 'tenementlaw13.BlkSegments', WHERE WHAT IT READS IS OF BULK AT MOST 1048576: true; the input reads as it did. -/
def blkSegmentsUptoRow : OpenClaim := { program := "ytdphppbocoinjaa", sum := "0c0a4f1db5f9ee2688e288858d32e575720e3b7434b4b1eb99e349f991cb9aa9", func := "tenement/tenementlaw13.BlkSegments", spec := "blkSegments", apart := false, narrowed := true }
def BlkSegmentsUptoSaid : Prop := blkSegmentsUptoRow.holds Try.pinned (OpenSpec.upto blkSegmentsSpec)

/-- 'tenementlaw06.GrantWords', WHERE WHAT IT READS IS OF BULK AT MOST 1048576: true; the input reads as it did. -/
def grantWordsUptoRow : OpenClaim := { program := "ytdphppbocoinjaa", sum := "0c0a4f1db5f9ee2688e288858d32e575720e3b7434b4b1eb99e349f991cb9aa9", func := "tenement/tenementlaw06.GrantWords", spec := "grantWords", unfollowed := true, recurses := true, apart := false, narrowed := true }
def GrantWordsUptoSaid : Prop := grantWordsUptoRow.holds Try.pinned (OpenSpec.upto grantWordsSpec)

/-- 'tenementlaw11.BusAllows', WHERE WHAT IT READS IS OF BULK AT MOST 1048576: true; the input reads as it did. -/
def busAllowsUptoRow : OpenClaim := { program := "ytdphppbocoinjaa", sum := "0c0a4f1db5f9ee2688e288858d32e575720e3b7434b4b1eb99e349f991cb9aa9", func := "tenement/tenementlaw11.BusAllows", spec := "busAllows", apart := false, narrowed := true }
def BusAllowsUptoSaid : Prop := busAllowsUptoRow.holds Try.pinned (OpenSpec.upto busAllowsSpec)

/-- 'tenementlaw11.BusNexts', WHERE WHAT IT READS IS OF BULK AT MOST 1048576: true; the input reads as it did. -/
def busNextsUptoRow : OpenClaim := { program := "ytdphppbocoinjaa", sum := "0c0a4f1db5f9ee2688e288858d32e575720e3b7434b4b1eb99e349f991cb9aa9", func := "tenement/tenementlaw11.BusNexts", spec := "busNexts", apart := false, narrowed := true }
def BusNextsUptoSaid : Prop := busNextsUptoRow.holds Try.pinned (OpenSpec.upto busNextsSpec)

/-- 'tenementlaw13.BlkUnpacks', WHERE WHAT IT READS IS OF BULK AT MOST 1048576: true; the input reads as it did. -/
def blkUnpacksUptoRow : OpenClaim := { program := "ytdphppbocoinjaa", sum := "0c0a4f1db5f9ee2688e288858d32e575720e3b7434b4b1eb99e349f991cb9aa9", func := "tenement/tenementlaw13.BlkUnpacks", spec := "blkUnpacks", apart := false, narrowed := true }
def BlkUnpacksUptoSaid : Prop := blkUnpacksUptoRow.holds Try.pinned (OpenSpec.upto blkUnpacksSpec)

/-- 'tenementlaw13.BlkPacks', WHERE WHAT IT READS IS OF BULK AT MOST 1048576: true; the input reads as it did. -/
def blkPacksUptoRow : OpenClaim := { program := "ytdphppbocoinjaa", sum := "0c0a4f1db5f9ee2688e288858d32e575720e3b7434b4b1eb99e349f991cb9aa9", func := "tenement/tenementlaw13.BlkPacks", spec := "blkPacks", apart := false, narrowed := true }
def BlkPacksUptoSaid : Prop := blkPacksUptoRow.holds Try.pinned (OpenSpec.upto blkPacksSpec)

/-- 'tenementlaw13.BlkBack', WHERE WHAT IT READS IS OF BULK AT MOST 1048576: true; the input reads as it did. -/
def blkBackUptoRow : OpenClaim := { program := "ytdphppbocoinjaa", sum := "0c0a4f1db5f9ee2688e288858d32e575720e3b7434b4b1eb99e349f991cb9aa9", func := "tenement/tenementlaw13.BlkBack", spec := "blkBack", apart := false, narrowed := true }
def BlkBackUptoSaid : Prop := blkBackUptoRow.holds Try.pinned (OpenSpec.upto blkBackSpec)

end Rows
end Go.Proofs.Ytdphppbocoinjaa
