/-
  No cell of these rows narrows 'for every input' (looked for: loops, veiled, ifaces, maps, wideKeys, modest, calm, conditions, laid).
  DERIVED. THE GIVEN ROWS OF THIS SEAT. 5 by the template 'for every input the law returns true; each argument reads behind the call as it read before'; 0 by the template 'total and deterministic' (their statements: YtjeobbhaoahdcaaTotals.lean).
  GIVEN WITH THE SEED: the statements are not yours to turn. If you find one false, say at which input.
  Laid BY PROGRAM, IN A SANDBOX (cutbox-rows.mjs): the forced cells as the released guide's own fill.sh prints them over the translation 86e66c1ed70f6500… (all of the seat's roots in one cut). By AI agents, Wed Nov 11 2026. No macro, syntax, notation, axiom, sorry.
-/
import Derived.Test.YtjeobbhaoahdcaaChecked
import GoSem.Claim
import GoSem.ClaimJoined
import GoSem.ClaimMapViews
import Derived.JoinedTies
import Derived.KernelRfl
namespace Go.Proofs.Ytjeobbhaoahdcaa
/- THE CELL 'sum', in the pinned program and in every row, IS THE sha256 OF THE DUMP (.gsa) THAT YtjeobbhaoahdcaaProg.lean LOADS. Nothing in Lean hashes anything: it is a label: what it is worth is what the hold of that sum in a sandbox is worth. -/
noncomputable def Try.pinned : Pinned := { name := "ytjeobbhaoahdcaa", sum := "86e66c1ed70f6500ee4095c61db2a94496869cfe37a6b82cb4ad23f71fd75838", checked := Try.checked }
namespace Rows
def none {H : Type} : Left H := { results := [], args := [] }

/-- 'tenementlaw06.GrantApart': WHATEVER THE INPUT: true; the input reads as it did. -/
def grantApartSpec : ChangeSpec := { name := "grantApart", fn := fun _ => fun
  | [d1, d2, d3, d4, d5] => { results := [.lit (.bool true)], args := [d1, d2, d3, d4, d5] }
  | _ => none }
def grantApartRow : OpenClaim := { program := "ytjeobbhaoahdcaa", sum := "86e66c1ed70f6500ee4095c61db2a94496869cfe37a6b82cb4ad23f71fd75838", func := "tenement/tenementlaw06.GrantApart", spec := "grantApart", unfollowed := true, recurses := true, plainKeys := false, apart := false }
def GrantApartSaid : Prop := grantApartRow.holds Try.pinned (OpenSpec.ofChange grantApartSpec)

/-- ITS FALSE NEIGHBOUR: 'it returns false'. Refute it at one input. -/
def grantApartWrong : ChangeSpec := { name := "grantApart", fn := fun _ => fun
  | [d1, d2, d3, d4, d5] => { results := [.lit (.bool false)], args := [d1, d2, d3, d4, d5] }
  | _ => none }
def GrantApartWrongFalsely : Prop := grantApartRow.holds Try.pinned (OpenSpec.ofChange grantApartWrong)

/-- 'tenementlaw06.GrantRange': WHATEVER THE INPUT: true; the input reads as it did. -/
def grantRangeSpec : ChangeSpec := { name := "grantRange", fn := fun _ => fun
  | [d1, d2, d3, d4, d5] => { results := [.lit (.bool true)], args := [d1, d2, d3, d4, d5] }
  | _ => none }
def grantRangeRow : OpenClaim := { program := "ytjeobbhaoahdcaa", sum := "86e66c1ed70f6500ee4095c61db2a94496869cfe37a6b82cb4ad23f71fd75838", func := "tenement/tenementlaw06.GrantRange", spec := "grantRange", unfollowed := true, recurses := true, plainKeys := false, apart := false }
def GrantRangeSaid : Prop := grantRangeRow.holds Try.pinned (OpenSpec.ofChange grantRangeSpec)

/-- ITS FALSE NEIGHBOUR: 'it returns false'. Refute it at one input. -/
def grantRangeWrong : ChangeSpec := { name := "grantRange", fn := fun _ => fun
  | [d1, d2, d3, d4, d5] => { results := [.lit (.bool false)], args := [d1, d2, d3, d4, d5] }
  | _ => none }
def GrantRangeWrongFalsely : Prop := grantRangeRow.holds Try.pinned (OpenSpec.ofChange grantRangeWrong)

/-- 'tenementlaw06.GrantHandles': WHATEVER THE INPUT: true; the input reads as it did. -/
def grantHandlesSpec : ChangeSpec := { name := "grantHandles", fn := fun _ => fun
  | [d] => { results := [.lit (.bool true)], args := [d] }
  | _ => none }
def grantHandlesRow : OpenClaim := { program := "ytjeobbhaoahdcaa", sum := "86e66c1ed70f6500ee4095c61db2a94496869cfe37a6b82cb4ad23f71fd75838", func := "tenement/tenementlaw06.GrantHandles", spec := "grantHandles", unfollowed := true, recurses := true, plainKeys := false, apart := false }
def GrantHandlesSaid : Prop := grantHandlesRow.holds Try.pinned (OpenSpec.ofChange grantHandlesSpec)

/-- ITS FALSE NEIGHBOUR: 'it returns false'. Refute it at one input. -/
def grantHandlesWrong : ChangeSpec := { name := "grantHandles", fn := fun _ => fun
  | [d] => { results := [.lit (.bool false)], args := [d] }
  | _ => none }
def GrantHandlesWrongFalsely : Prop := grantHandlesRow.holds Try.pinned (OpenSpec.ofChange grantHandlesWrong)

/-- 'tenementlaw06.GrantLive': WHATEVER THE INPUT: true; the input reads as it did. -/
def grantLiveSpec : ChangeSpec := { name := "grantLive", fn := fun _ => fun
  | [d1, d2, d3, d4] => { results := [.lit (.bool true)], args := [d1, d2, d3, d4] }
  | _ => none }
def grantLiveRow : OpenClaim := { program := "ytjeobbhaoahdcaa", sum := "86e66c1ed70f6500ee4095c61db2a94496869cfe37a6b82cb4ad23f71fd75838", func := "tenement/tenementlaw06.GrantLive", spec := "grantLive", unfollowed := true, recurses := true, plainKeys := false, apart := false }
def GrantLiveSaid : Prop := grantLiveRow.holds Try.pinned (OpenSpec.ofChange grantLiveSpec)

/-- ITS FALSE NEIGHBOUR: 'it returns false'. Refute it at one input. -/
def grantLiveWrong : ChangeSpec := { name := "grantLive", fn := fun _ => fun
  | [d1, d2, d3, d4] => { results := [.lit (.bool false)], args := [d1, d2, d3, d4] }
  | _ => none }
def GrantLiveWrongFalsely : Prop := grantLiveRow.holds Try.pinned (OpenSpec.ofChange grantLiveWrong)

/-- 'tenementlaw06.GrantZero': WHATEVER THE INPUT: true; the input reads as it did. -/
def grantZeroSpec : ChangeSpec := { name := "grantZero", fn := fun _ => fun
  | [d1, d2, d3] => { results := [.lit (.bool true)], args := [d1, d2, d3] }
  | _ => none }
def grantZeroRow : OpenClaim := { program := "ytjeobbhaoahdcaa", sum := "86e66c1ed70f6500ee4095c61db2a94496869cfe37a6b82cb4ad23f71fd75838", func := "tenement/tenementlaw06.GrantZero", spec := "grantZero", unfollowed := true, recurses := true, plainKeys := false, apart := false }
def GrantZeroSaid : Prop := grantZeroRow.holds Try.pinned (OpenSpec.ofChange grantZeroSpec)

/-- ITS FALSE NEIGHBOUR: 'it returns false'. Refute it at one input. -/
def grantZeroWrong : ChangeSpec := { name := "grantZero", fn := fun _ => fun
  | [d1, d2, d3] => { results := [.lit (.bool false)], args := [d1, d2, d3] }
  | _ => none }
def GrantZeroWrongFalsely : Prop := grantZeroRow.holds Try.pinned (OpenSpec.ofChange grantZeroWrong)

/- THE SECOND FORM. 'bulk': how many values and letters a reading holds, each counted each time it is reached (what is shared counts as often as it is met; a slice's spare places count too). A statement '..UptoSaid' is the law's where the arguments, and the package variables that the reading takes, are together of bulk at most 1048576: NARROWER than '..Said'. Prove '..Said' where nothing that the law and all that it calls make is longer than what came in: it says more and counts as full. Else prove '..UptoSaid'. A law counts once. -/
mutual
def uptoBulk {H : Type} : DataW H → Nat
  | .lit (.string bytes) => bytes.length + 1
  | .lit _ => 1
  | .nil => 1
  | .ptr d => uptoBulk d + 1
  | .slice elems spare => uptoBulkAll elems + uptoBulkAll spare + 1
  | .agg parts => uptoBulkAll parts + 1
  | .iface _ d => uptoBulk d + 1
  | .map entries => uptoBulkEntries entries + 1
  | .held _ => 1
def uptoBulkAll {H : Type} : List (DataW H) → Nat
  | [] => 0
  | d :: r => uptoBulk d + uptoBulkAll r
def uptoBulkEntries {H : Type} : List (Lit × DataW H) → Nat
  | [] => 0
  | x :: r => uptoBulkEntry x + uptoBulkEntries r
def uptoBulkEntry {H : Type} : Lit × DataW H → Nat
  | (.string bytes, d) => bytes.length + uptoBulk d + 1
  | (_, d) => uptoBulk d + 1
 end
def uptoSmall : (H : Type) → List (DataW H) → Bool := fun _ ds => decide (uptoBulkAll ds ≤ 1048576)
def OpenSpec.upto (s : _root_.Go.ChangeSpec) : _root_.Go.OpenSpec := { _root_.Go.OpenSpec.ofChange s with cond := some uptoSmall }

/-- 'tenementlaw06.GrantApart', WHERE WHAT IT READS IS OF BULK AT MOST 1048576: true; the input reads as it did. -/
def grantApartUptoRow : OpenClaim := { program := "ytjeobbhaoahdcaa", sum := "86e66c1ed70f6500ee4095c61db2a94496869cfe37a6b82cb4ad23f71fd75838", func := "tenement/tenementlaw06.GrantApart", spec := "grantApart", unfollowed := true, recurses := true, plainKeys := false, apart := false, narrowed := true }
def GrantApartUptoSaid : Prop := grantApartUptoRow.holds Try.pinned (OpenSpec.upto grantApartSpec)

/-- 'tenementlaw06.GrantRange', WHERE WHAT IT READS IS OF BULK AT MOST 1048576: true; the input reads as it did. -/
def grantRangeUptoRow : OpenClaim := { program := "ytjeobbhaoahdcaa", sum := "86e66c1ed70f6500ee4095c61db2a94496869cfe37a6b82cb4ad23f71fd75838", func := "tenement/tenementlaw06.GrantRange", spec := "grantRange", unfollowed := true, recurses := true, plainKeys := false, apart := false, narrowed := true }
def GrantRangeUptoSaid : Prop := grantRangeUptoRow.holds Try.pinned (OpenSpec.upto grantRangeSpec)

/-- 'tenementlaw06.GrantHandles', WHERE WHAT IT READS IS OF BULK AT MOST 1048576: true; the input reads as it did. -/
def grantHandlesUptoRow : OpenClaim := { program := "ytjeobbhaoahdcaa", sum := "86e66c1ed70f6500ee4095c61db2a94496869cfe37a6b82cb4ad23f71fd75838", func := "tenement/tenementlaw06.GrantHandles", spec := "grantHandles", unfollowed := true, recurses := true, plainKeys := false, apart := false, narrowed := true }
def GrantHandlesUptoSaid : Prop := grantHandlesUptoRow.holds Try.pinned (OpenSpec.upto grantHandlesSpec)

/-- 'tenementlaw06.GrantLive', WHERE WHAT IT READS IS OF BULK AT MOST 1048576: true; the input reads as it did. -/
def grantLiveUptoRow : OpenClaim := { program := "ytjeobbhaoahdcaa", sum := "86e66c1ed70f6500ee4095c61db2a94496869cfe37a6b82cb4ad23f71fd75838", func := "tenement/tenementlaw06.GrantLive", spec := "grantLive", unfollowed := true, recurses := true, plainKeys := false, apart := false, narrowed := true }
def GrantLiveUptoSaid : Prop := grantLiveUptoRow.holds Try.pinned (OpenSpec.upto grantLiveSpec)

/-- 'tenementlaw06.GrantZero', WHERE WHAT IT READS IS OF BULK AT MOST 1048576: true; the input reads as it did. -/
def grantZeroUptoRow : OpenClaim := { program := "ytjeobbhaoahdcaa", sum := "86e66c1ed70f6500ee4095c61db2a94496869cfe37a6b82cb4ad23f71fd75838", func := "tenement/tenementlaw06.GrantZero", spec := "grantZero", unfollowed := true, recurses := true, plainKeys := false, apart := false, narrowed := true }
def GrantZeroUptoSaid : Prop := grantZeroUptoRow.holds Try.pinned (OpenSpec.upto grantZeroSpec)

end Rows
end Go.Proofs.Ytjeobbhaoahdcaa
