/-
  No cell of these rows narrows 'for every input' (looked for: loops, veiled, ifaces, maps, wideKeys, modest, calm, conditions, laid).
  DERIVED. THE GIVEN ROWS OF THIS SEAT. 5 by the template 'for every input the law returns true; each argument reads behind the call as it read before'; 0 by the template 'total and deterministic' (their statements: YtpdelhipfleniaaTotals.lean).
  GIVEN WITH THE SEED: the statements are not yours to turn. If you find one false, say at which input.
  Laid BY PROGRAM, IN A SANDBOX (cutbox-rows.mjs): the forced cells as the released guide's own fill.sh prints them over the translation 34ee7a37e23b64cd… (all of the seat's roots in one cut). By AI agents, Wed Nov 11 2026. No macro, syntax, notation, axiom, sorry.
-/
import Derived.Test.YtpdelhipfleniaaChecked
import GoSem.Claim
import GoSem.ClaimJoined
import GoSem.ClaimMapViews
import Derived.JoinedTies
import Derived.KernelRfl
namespace Go.Proofs.Ytpdelhipfleniaa
/- THE CELL 'sum', in the pinned program and in every row, IS THE sha256 OF THE DUMP (.gsa) THAT YtpdelhipfleniaaProg.lean LOADS. Nothing in Lean hashes anything: it is a label: what it is worth is what the hold of that sum in a sandbox is worth. -/
noncomputable def Try.pinned : Pinned := { name := "ytpdelhipfleniaa", sum := "34ee7a37e23b64cd98206211ba69f405d47992fb40bcba1468e62e0fc0140cdf", checked := Try.checked }
namespace Rows
def none {H : Type} : Left H := { results := [], args := [] }

/-- 'tenementlaw18.SchedTurns': WHATEVER THE INPUT: true; the input reads as it did. -/
def schedTurnsSpec : ChangeSpec := { name := "schedTurns", fn := fun _ => fun
  | [d1, d2] => { results := [.lit (.bool true)], args := [d1, d2] }
  | _ => none }
def schedTurnsRow : OpenClaim := { program := "ytpdelhipfleniaa", sum := "34ee7a37e23b64cd98206211ba69f405d47992fb40bcba1468e62e0fc0140cdf", func := "tenement/tenementlaw18.SchedTurns", spec := "schedTurns", unfollowed := true, recurses := true, apart := false }
def SchedTurnsSaid : Prop := schedTurnsRow.holds Try.pinned (OpenSpec.ofChange schedTurnsSpec)

/-- ITS FALSE NEIGHBOUR: 'it returns false'. Refute it at one input. -/
def schedTurnsWrong : ChangeSpec := { name := "schedTurns", fn := fun _ => fun
  | [d1, d2] => { results := [.lit (.bool false)], args := [d1, d2] }
  | _ => none }
def SchedTurnsWrongFalsely : Prop := schedTurnsRow.holds Try.pinned (OpenSpec.ofChange schedTurnsWrong)

/-- 'tenementlaw18.SchedShares': WHATEVER THE INPUT: true; the input reads as it did. -/
def schedSharesSpec : ChangeSpec := { name := "schedShares", fn := fun _ => fun
  | [d1, d2] => { results := [.lit (.bool true)], args := [d1, d2] }
  | _ => none }
def schedSharesRow : OpenClaim := { program := "ytpdelhipfleniaa", sum := "34ee7a37e23b64cd98206211ba69f405d47992fb40bcba1468e62e0fc0140cdf", func := "tenement/tenementlaw18.SchedShares", spec := "schedShares", unfollowed := true, recurses := true, apart := false }
def SchedSharesSaid : Prop := schedSharesRow.holds Try.pinned (OpenSpec.ofChange schedSharesSpec)

/-- ITS FALSE NEIGHBOUR: 'it returns false'. Refute it at one input. -/
def schedSharesWrong : ChangeSpec := { name := "schedShares", fn := fun _ => fun
  | [d1, d2] => { results := [.lit (.bool false)], args := [d1, d2] }
  | _ => none }
def SchedSharesWrongFalsely : Prop := schedSharesRow.holds Try.pinned (OpenSpec.ofChange schedSharesWrong)

/-- 'tenementlaw18.SchedZero': WHATEVER THE INPUT: true; the input reads as it did. -/
def schedZeroSpec : ChangeSpec := { name := "schedZero", fn := fun _ => fun
  | [d1, d2, d3] => { results := [.lit (.bool true)], args := [d1, d2, d3] }
  | _ => none }
def schedZeroRow : OpenClaim := { program := "ytpdelhipfleniaa", sum := "34ee7a37e23b64cd98206211ba69f405d47992fb40bcba1468e62e0fc0140cdf", func := "tenement/tenementlaw18.SchedZero", spec := "schedZero", unfollowed := true, recurses := true, apart := false }
def SchedZeroSaid : Prop := schedZeroRow.holds Try.pinned (OpenSpec.ofChange schedZeroSpec)

/-- ITS FALSE NEIGHBOUR: 'it returns false'. Refute it at one input. -/
def schedZeroWrong : ChangeSpec := { name := "schedZero", fn := fun _ => fun
  | [d1, d2, d3] => { results := [.lit (.bool false)], args := [d1, d2, d3] }
  | _ => none }
def SchedZeroWrongFalsely : Prop := schedZeroRow.holds Try.pinned (OpenSpec.ofChange schedZeroWrong)

/-- 'tenementlaw18.SchedPlays': WHATEVER THE INPUT: true; the input reads as it did. -/
def schedPlaysSpec : ChangeSpec := { name := "schedPlays", fn := fun _ => fun
  | [d] => { results := [.lit (.bool true)], args := [d] }
  | _ => none }
def schedPlaysRow : OpenClaim := { program := "ytpdelhipfleniaa", sum := "34ee7a37e23b64cd98206211ba69f405d47992fb40bcba1468e62e0fc0140cdf", func := "tenement/tenementlaw18.SchedPlays", spec := "schedPlays", unfollowed := true, recurses := true, apart := false }
def SchedPlaysSaid : Prop := schedPlaysRow.holds Try.pinned (OpenSpec.ofChange schedPlaysSpec)

/-- ITS FALSE NEIGHBOUR: 'it returns false'. Refute it at one input. -/
def schedPlaysWrong : ChangeSpec := { name := "schedPlays", fn := fun _ => fun
  | [d] => { results := [.lit (.bool false)], args := [d] }
  | _ => none }
def SchedPlaysWrongFalsely : Prop := schedPlaysRow.holds Try.pinned (OpenSpec.ofChange schedPlaysWrong)

/-- 'tenementlaw18.SchedFair': WHATEVER THE INPUT: true; the input reads as it did. -/
def schedFairSpec : ChangeSpec := { name := "schedFair", fn := fun _ => fun
  | [d] => { results := [.lit (.bool true)], args := [d] }
  | _ => none }
def schedFairRow : OpenClaim := { program := "ytpdelhipfleniaa", sum := "34ee7a37e23b64cd98206211ba69f405d47992fb40bcba1468e62e0fc0140cdf", func := "tenement/tenementlaw18.SchedFair", spec := "schedFair", unfollowed := true, recurses := true, apart := false }
def SchedFairSaid : Prop := schedFairRow.holds Try.pinned (OpenSpec.ofChange schedFairSpec)

/-- ITS FALSE NEIGHBOUR: 'it returns false'. Refute it at one input. -/
def schedFairWrong : ChangeSpec := { name := "schedFair", fn := fun _ => fun
  | [d] => { results := [.lit (.bool false)], args := [d] }
  | _ => none }
def SchedFairWrongFalsely : Prop := schedFairRow.holds Try.pinned (OpenSpec.ofChange schedFairWrong)

/- THE SECOND FORM. 'bulk': how many values and letters a reading holds, each counted each time it is reached (what is shared counts as often as it is met; a slice's spare places count too). A statement '..UptoSaid' is the law's where the arguments, and the package variables that the reading takes, are together of bulk at most 1048576: NARROWER than '..Said'. Prove '..Said' where nothing that the law and all that it calls make is longer than what came in: it says more and counts as full. Else prove '..UptoSaid'. A law counts once. -/
mutual
def uptoBulk {H : Type} : DataW H → Nat
  | .lit (.string bytes) => bytes.length + 1
  | .lit _ => 1
  | .nil => 1
  | .ptr d => uptoBulk d + 1
  | .slice elems spare => uptoBulkAll elems + uptoBulkAll spare + 1
  | .agg parts => uptoBulkAll parts + 1
  | .iface _ d => uptoBulk d + 1
  | .map entries => uptoBulkEntries entries + 1
  | .held _ => 1
def uptoBulkAll {H : Type} : List (DataW H) → Nat
  | [] => 0
  | d :: r => uptoBulk d + uptoBulkAll r
def uptoBulkEntries {H : Type} : List (Lit × DataW H) → Nat
  | [] => 0
  | x :: r => uptoBulkEntry x + uptoBulkEntries r
def uptoBulkEntry {H : Type} : Lit × DataW H → Nat
  | (.string bytes, d) => bytes.length + uptoBulk d + 1
  | (_, d) => uptoBulk d + 1
 end
def uptoSmall : (H : Type) → List (DataW H) → Bool := fun _ ds => decide (uptoBulkAll ds ≤ 1048576)
def OpenSpec.upto (s : _root_.Go.ChangeSpec) : _root_.Go.OpenSpec := { _root_.Go.OpenSpec.ofChange s with cond := some uptoSmall }

/-- 'tenementlaw18.SchedTurns', WHERE WHAT IT READS IS OF BULK AT MOST 1048576: true; the input reads as it did. -/
def schedTurnsUptoRow : OpenClaim := { program := "ytpdelhipfleniaa", sum := "34ee7a37e23b64cd98206211ba69f405d47992fb40bcba1468e62e0fc0140cdf", func := "tenement/tenementlaw18.SchedTurns", spec := "schedTurns", unfollowed := true, recurses := true, apart := false, narrowed := true }
def SchedTurnsUptoSaid : Prop := schedTurnsUptoRow.holds Try.pinned (OpenSpec.upto schedTurnsSpec)

/-- 'tenementlaw18.SchedShares', WHERE WHAT IT READS IS OF BULK AT MOST 1048576: true; the input reads as it did. -/
def schedSharesUptoRow : OpenClaim := { program := "ytpdelhipfleniaa", sum := "34ee7a37e23b64cd98206211ba69f405d47992fb40bcba1468e62e0fc0140cdf", func := "tenement/tenementlaw18.SchedShares", spec := "schedShares", unfollowed := true, recurses := true, apart := false, narrowed := true }
def SchedSharesUptoSaid : Prop := schedSharesUptoRow.holds Try.pinned (OpenSpec.upto schedSharesSpec)

/-- 'tenementlaw18.SchedZero', WHERE WHAT IT READS IS OF BULK AT MOST 1048576: true; the input reads as it did. -/
def schedZeroUptoRow : OpenClaim := { program := "ytpdelhipfleniaa", sum := "34ee7a37e23b64cd98206211ba69f405d47992fb40bcba1468e62e0fc0140cdf", func := "tenement/tenementlaw18.SchedZero", spec := "schedZero", unfollowed := true, recurses := true, apart := false, narrowed := true }
def SchedZeroUptoSaid : Prop := schedZeroUptoRow.holds Try.pinned (OpenSpec.upto schedZeroSpec)

/-- 'tenementlaw18.SchedPlays', WHERE WHAT IT READS IS OF BULK AT MOST 1048576: true; the input reads as it did. -/
def schedPlaysUptoRow : OpenClaim := { program := "ytpdelhipfleniaa", sum := "34ee7a37e23b64cd98206211ba69f405d47992fb40bcba1468e62e0fc0140cdf", func := "tenement/tenementlaw18.SchedPlays", spec := "schedPlays", unfollowed := true, recurses := true, apart := false, narrowed := true }
def SchedPlaysUptoSaid : Prop := schedPlaysUptoRow.holds Try.pinned (OpenSpec.upto schedPlaysSpec)

/-- 'tenementlaw18.SchedFair', WHERE WHAT IT READS IS OF BULK AT MOST 1048576: true; the input reads as it did. -/
def schedFairUptoRow : OpenClaim := { program := "ytpdelhipfleniaa", sum := "34ee7a37e23b64cd98206211ba69f405d47992fb40bcba1468e62e0fc0140cdf", func := "tenement/tenementlaw18.SchedFair", spec := "schedFair", unfollowed := true, recurses := true, apart := false, narrowed := true }
def SchedFairUptoSaid : Prop := schedFairUptoRow.holds Try.pinned (OpenSpec.upto schedFairSpec)

end Rows
end Go.Proofs.Ytpdelhipfleniaa
