/-
  No cell of these rows narrows 'for every input' (looked for: loops, veiled, ifaces, maps, wideKeys, modest, calm, conditions, laid).
  DERIVED. THE GIVEN ROWS OF THIS SEAT. 5 by the template 'for every input the law returns true; each argument reads behind the call as it read before'; 0 by the template 'total and deterministic' (their statements: YthpombmecbgchaaTotals.lean).
  GIVEN WITH THE SEED: the statements are not yours to turn. If you find one false, say at which input.
  Laid BY PROGRAM, IN A SANDBOX (cutbox-rows.mjs): the forced cells as the released guide's own fill.sh prints them over the translation 13884e94e8c492ba… (all of the seat's roots in one cut). By AI agents, Wed Nov 11 2026. No macro, syntax, notation, axiom, sorry.
-/
import Derived.Test.YthpombmecbgchaaChecked
import GoSem.Claim
import GoSem.ClaimJoined
import GoSem.ClaimMapViews
import Derived.JoinedTies
import Derived.KernelRfl
namespace Go.Proofs.Ythpombmecbgchaa
/- THE CELL 'sum', in the pinned program and in every row, IS THE sha256 OF THE DUMP (.gsa) THAT YthpombmecbgchaaProg.lean LOADS. Nothing in Lean hashes anything: it is a label: what it is worth is what the hold of that sum in a sandbox is worth. -/
noncomputable def Try.pinned : Pinned := { name := "ythpombmecbgchaa", sum := "13884e94e8c492bad3e51fccc16b1384250552e5d5f45c21c6d042b6f08c5bdb", checked := Try.checked }
namespace Rows
def none {H : Type} : Left H := { results := [], args := [] }

/-- 'interlocklaw16.FoldWays': WHATEVER THE INPUT: true; the input reads as it did. -/
def foldWaysSpec : ChangeSpec := { name := "foldWays", fn := fun _ => fun
  | [d1, d2] => { results := [.lit (.bool true)], args := [d1, d2] }
  | _ => none }
def foldWaysRow : OpenClaim := { program := "ythpombmecbgchaa", sum := "13884e94e8c492bad3e51fccc16b1384250552e5d5f45c21c6d042b6f08c5bdb", func := "interlock/interlocklaw16.FoldWays", spec := "foldWays", unfollowed := true, recurses := true, apart := false }
def FoldWaysSaid : Prop := foldWaysRow.holds Try.pinned (OpenSpec.ofChange foldWaysSpec)

/-- ITS FALSE NEIGHBOUR: 'it returns false'. Refute it at one input. -/
def foldWaysWrong : ChangeSpec := { name := "foldWays", fn := fun _ => fun
  | [d1, d2] => { results := [.lit (.bool false)], args := [d1, d2] }
  | _ => none }
def FoldWaysWrongFalsely : Prop := foldWaysRow.holds Try.pinned (OpenSpec.ofChange foldWaysWrong)

/-- 'interlocklaw16.FoldSound': WHATEVER THE INPUT: true; the input reads as it did. -/
def foldSoundSpec : ChangeSpec := { name := "foldSound", fn := fun _ => fun
  | [d] => { results := [.lit (.bool true)], args := [d] }
  | _ => none }
def foldSoundRow : OpenClaim := { program := "ythpombmecbgchaa", sum := "13884e94e8c492bad3e51fccc16b1384250552e5d5f45c21c6d042b6f08c5bdb", func := "interlock/interlocklaw16.FoldSound", spec := "foldSound", unfollowed := true, recurses := true, apart := false }
def FoldSoundSaid : Prop := foldSoundRow.holds Try.pinned (OpenSpec.ofChange foldSoundSpec)

/-- ITS FALSE NEIGHBOUR: 'it returns false'. Refute it at one input. -/
def foldSoundWrong : ChangeSpec := { name := "foldSound", fn := fun _ => fun
  | [d] => { results := [.lit (.bool false)], args := [d] }
  | _ => none }
def FoldSoundWrongFalsely : Prop := foldSoundRow.holds Try.pinned (OpenSpec.ofChange foldSoundWrong)

/-- 'interlocklaw16.FoldCode': WHATEVER THE INPUT: true; the input reads as it did. -/
def foldCodeSpec : ChangeSpec := { name := "foldCode", fn := fun _ => fun
  | [d1, d2, d3] => { results := [.lit (.bool true)], args := [d1, d2, d3] }
  | _ => none }
def foldCodeRow : OpenClaim := { program := "ythpombmecbgchaa", sum := "13884e94e8c492bad3e51fccc16b1384250552e5d5f45c21c6d042b6f08c5bdb", func := "interlock/interlocklaw16.FoldCode", spec := "foldCode", unfollowed := true, recurses := true, apart := false }
def FoldCodeSaid : Prop := foldCodeRow.holds Try.pinned (OpenSpec.ofChange foldCodeSpec)

/-- ITS FALSE NEIGHBOUR: 'it returns false'. Refute it at one input. -/
def foldCodeWrong : ChangeSpec := { name := "foldCode", fn := fun _ => fun
  | [d1, d2, d3] => { results := [.lit (.bool false)], args := [d1, d2, d3] }
  | _ => none }
def FoldCodeWrongFalsely : Prop := foldCodeRow.holds Try.pinned (OpenSpec.ofChange foldCodeWrong)

/-- 'interlocklaw16.FoldTouches': WHATEVER THE INPUT: true; the input reads as it did. -/
def foldTouchesSpec : ChangeSpec := { name := "foldTouches", fn := fun _ => fun
  | [d] => { results := [.lit (.bool true)], args := [d] }
  | _ => none }
def foldTouchesRow : OpenClaim := { program := "ythpombmecbgchaa", sum := "13884e94e8c492bad3e51fccc16b1384250552e5d5f45c21c6d042b6f08c5bdb", func := "interlock/interlocklaw16.FoldTouches", spec := "foldTouches", unfollowed := true, recurses := true, apart := false }
def FoldTouchesSaid : Prop := foldTouchesRow.holds Try.pinned (OpenSpec.ofChange foldTouchesSpec)

/-- ITS FALSE NEIGHBOUR: 'it returns false'. Refute it at one input. -/
def foldTouchesWrong : ChangeSpec := { name := "foldTouches", fn := fun _ => fun
  | [d] => { results := [.lit (.bool false)], args := [d] }
  | _ => none }
def FoldTouchesWrongFalsely : Prop := foldTouchesRow.holds Try.pinned (OpenSpec.ofChange foldTouchesWrong)

/-- 'interlocklaw16.FoldTwice': WHATEVER THE INPUT: true; the input reads as it did. -/
def foldTwiceSpec : ChangeSpec := { name := "foldTwice", fn := fun _ => fun
  | [d] => { results := [.lit (.bool true)], args := [d] }
  | _ => none }
def foldTwiceRow : OpenClaim := { program := "ythpombmecbgchaa", sum := "13884e94e8c492bad3e51fccc16b1384250552e5d5f45c21c6d042b6f08c5bdb", func := "interlock/interlocklaw16.FoldTwice", spec := "foldTwice", unfollowed := true, recurses := true, apart := false }
def FoldTwiceSaid : Prop := foldTwiceRow.holds Try.pinned (OpenSpec.ofChange foldTwiceSpec)

/-- ITS FALSE NEIGHBOUR: 'it returns false'. Refute it at one input. -/
def foldTwiceWrong : ChangeSpec := { name := "foldTwice", fn := fun _ => fun
  | [d] => { results := [.lit (.bool false)], args := [d] }
  | _ => none }
def FoldTwiceWrongFalsely : Prop := foldTwiceRow.holds Try.pinned (OpenSpec.ofChange foldTwiceWrong)

/- THE SECOND FORM. 'bulk': how many values and letters a reading holds, each counted each time it is reached (what is shared counts as often as it is met; a slice's spare places count too). A statement '..UptoSaid' is the law's where the arguments, and the package variables that the reading takes, are together of bulk at most 1048576: NARROWER than '..Said'. Prove '..Said' where nothing that the law and all that it calls make is longer than what came in: it says more and counts as full. Else prove '..UptoSaid'. A law counts once. -/
mutual
def uptoBulk {H : Type} : DataW H → Nat
  | .lit (.string bytes) => bytes.length + 1
  | .lit _ => 1
  | .nil => 1
  | .ptr d => uptoBulk d + 1
  | .slice elems spare => uptoBulkAll elems + uptoBulkAll spare + 1
  | .agg parts => uptoBulkAll parts + 1
  | .iface _ d => uptoBulk d + 1
  | .map entries => uptoBulkEntries entries + 1
  | .held _ => 1
def uptoBulkAll {H : Type} : List (DataW H) → Nat
  | [] => 0
  | d :: r => uptoBulk d + uptoBulkAll r
def uptoBulkEntries {H : Type} : List (Lit × DataW H) → Nat
  | [] => 0
  | x :: r => uptoBulkEntry x + uptoBulkEntries r
def uptoBulkEntry {H : Type} : Lit × DataW H → Nat
  | (.string bytes, d) => bytes.length + uptoBulk d + 1
  | (_, d) => uptoBulk d + 1
 end
def uptoSmall : (H : Type) → List (DataW H) → Bool := fun _ ds => decide (uptoBulkAll ds ≤ 1048576)
def OpenSpec.upto (s : _root_.Go.ChangeSpec) : _root_.Go.OpenSpec := { _root_.Go.OpenSpec.ofChange s with cond := some uptoSmall }

/-- 'interlocklaw16.FoldWays', WHERE WHAT IT READS IS OF BULK AT MOST 1048576: true; the input reads as it did. -/
def foldWaysUptoRow : OpenClaim := { program := "ythpombmecbgchaa", sum := "13884e94e8c492bad3e51fccc16b1384250552e5d5f45c21c6d042b6f08c5bdb", func := "interlock/interlocklaw16.FoldWays", spec := "foldWays", unfollowed := true, recurses := true, apart := false, narrowed := true }
def FoldWaysUptoSaid : Prop := foldWaysUptoRow.holds Try.pinned (OpenSpec.upto foldWaysSpec)

/-- 'interlocklaw16.FoldSound', WHERE WHAT IT READS IS OF BULK AT MOST 1048576: true; the input reads as it did. -/
def foldSoundUptoRow : OpenClaim := { program := "ythpombmecbgchaa", sum := "13884e94e8c492bad3e51fccc16b1384250552e5d5f45c21c6d042b6f08c5bdb", func := "interlock/interlocklaw16.FoldSound", spec := "foldSound", unfollowed := true, recurses := true, apart := false, narrowed := true }
def FoldSoundUptoSaid : Prop := foldSoundUptoRow.holds Try.pinned (OpenSpec.upto foldSoundSpec)

/-- 'interlocklaw16.FoldCode', WHERE WHAT IT READS IS OF BULK AT MOST 1048576: true; the input reads as it did. -/
def foldCodeUptoRow : OpenClaim := { program := "ythpombmecbgchaa", sum := "13884e94e8c492bad3e51fccc16b1384250552e5d5f45c21c6d042b6f08c5bdb", func := "interlock/interlocklaw16.FoldCode", spec := "foldCode", unfollowed := true, recurses := true, apart := false, narrowed := true }
def FoldCodeUptoSaid : Prop := foldCodeUptoRow.holds Try.pinned (OpenSpec.upto foldCodeSpec)

/-- 'interlocklaw16.FoldTouches', WHERE WHAT IT READS IS OF BULK AT MOST 1048576: true; the input reads as it did. -/
def foldTouchesUptoRow : OpenClaim := { program := "ythpombmecbgchaa", sum := "13884e94e8c492bad3e51fccc16b1384250552e5d5f45c21c6d042b6f08c5bdb", func := "interlock/interlocklaw16.FoldTouches", spec := "foldTouches", unfollowed := true, recurses := true, apart := false, narrowed := true }
def FoldTouchesUptoSaid : Prop := foldTouchesUptoRow.holds Try.pinned (OpenSpec.upto foldTouchesSpec)

/-- 'interlocklaw16.FoldTwice', WHERE WHAT IT READS IS OF BULK AT MOST 1048576: true; the input reads as it did. -/
def foldTwiceUptoRow : OpenClaim := { program := "ythpombmecbgchaa", sum := "13884e94e8c492bad3e51fccc16b1384250552e5d5f45c21c6d042b6f08c5bdb", func := "interlock/interlocklaw16.FoldTwice", spec := "foldTwice", unfollowed := true, recurses := true, apart := false, narrowed := true }
def FoldTwiceUptoSaid : Prop := foldTwiceUptoRow.holds Try.pinned (OpenSpec.upto foldTwiceSpec)

end Rows
end Go.Proofs.Ythpombmecbgchaa
