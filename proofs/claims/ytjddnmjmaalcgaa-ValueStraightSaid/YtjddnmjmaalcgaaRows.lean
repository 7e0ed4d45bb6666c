/-
  No cell of these rows narrows 'for every input' (looked for: loops, veiled, ifaces, maps, wideKeys, modest, calm, conditions, laid).
  DERIVED. THE GIVEN ROWS OF THIS SEAT. 11 by the template 'for every input the law returns true; each argument reads behind the call as it read before'; 0 by the template 'total and deterministic' (their statements: YtjddnmjmaalcgaaTotals.lean).
  GIVEN WITH THE SEED: the statements are not yours to turn. If you find one false, say at which input.
  Laid BY PROGRAM, IN A SANDBOX (cutbox-rows.mjs): the forced cells as the released guide's own fill.sh prints them over the translation 3d258e15b7f05b1b… (all of the seat's roots in one cut). By AI agents, Wed Nov 11 2026. No macro, syntax, notation, axiom, sorry.
-/
import Derived.Test.YtjddnmjmaalcgaaChecked
import GoSem.Claim
import GoSem.ClaimJoined
import GoSem.ClaimMapViews
import Derived.JoinedTies
import Derived.KernelRfl
namespace Go.Proofs.Ytjddnmjmaalcgaa
/- THE CELL 'sum', in the pinned program and in every row, IS THE sha256 OF THE DUMP (.gsa) THAT YtjddnmjmaalcgaaProg.lean LOADS. Nothing in Lean hashes anything: it is a label: what it is worth is what the hold of that sum in a sandbox is worth. -/
noncomputable def Try.pinned : Pinned := { name := "ytjddnmjmaalcgaa", sum := "3d258e15b7f05b1b735b5b888306dfd6018d4faa2cb73ebffbdc3982c121979a", checked := Try.checked }
namespace Rows
def none {H : Type} : Left H := { results := [], args := [] }

/-- 'interlocklaw10.CfgOn': WHATEVER THE INPUT: true; the input reads as it did. -/
def cfgOnSpec : ChangeSpec := { name := "cfgOn", fn := fun _ => fun
  | [d1, d2] => { results := [.lit (.bool true)], args := [d1, d2] }
  | _ => none }
def cfgOnRow : OpenClaim := { program := "ytjddnmjmaalcgaa", sum := "3d258e15b7f05b1b735b5b888306dfd6018d4faa2cb73ebffbdc3982c121979a", func := "interlock/interlocklaw10.CfgOn", spec := "cfgOn", recurses := true, apart := false }
def CfgOnSaid : Prop := cfgOnRow.holds Try.pinned (OpenSpec.ofChange cfgOnSpec)

/-- ITS FALSE NEIGHBOUR: 'it returns false'. Refute it at one input. -/
def cfgOnWrong : ChangeSpec := { name := "cfgOn", fn := fun _ => fun
  | [d1, d2] => { results := [.lit (.bool false)], args := [d1, d2] }
  | _ => none }
def CfgOnWrongFalsely : Prop := cfgOnRow.holds Try.pinned (OpenSpec.ofChange cfgOnWrong)

/-- 'interlocklaw10.CfgCode': WHATEVER THE INPUT: true; the input reads as it did. -/
def cfgCodeSpec : ChangeSpec := { name := "cfgCode", fn := fun _ => fun
  | [d1, d2] => { results := [.lit (.bool true)], args := [d1, d2] }
  | _ => none }
def cfgCodeRow : OpenClaim := { program := "ytjddnmjmaalcgaa", sum := "3d258e15b7f05b1b735b5b888306dfd6018d4faa2cb73ebffbdc3982c121979a", func := "interlock/interlocklaw10.CfgCode", spec := "cfgCode", recurses := true, apart := false }
def CfgCodeSaid : Prop := cfgCodeRow.holds Try.pinned (OpenSpec.ofChange cfgCodeSpec)

/-- ITS FALSE NEIGHBOUR: 'it returns false'. Refute it at one input. -/
def cfgCodeWrong : ChangeSpec := { name := "cfgCode", fn := fun _ => fun
  | [d1, d2] => { results := [.lit (.bool false)], args := [d1, d2] }
  | _ => none }
def CfgCodeWrongFalsely : Prop := cfgCodeRow.holds Try.pinned (OpenSpec.ofChange cfgCodeWrong)

/-- 'interlocklaw10.CfgGraphs': WHATEVER THE INPUT: true; the input reads as it did. -/
def cfgGraphsSpec : ChangeSpec := { name := "cfgGraphs", fn := fun _ => fun
  | [d1, d2, d3, d4] => { results := [.lit (.bool true)], args := [d1, d2, d3, d4] }
  | _ => none }
def cfgGraphsRow : OpenClaim := { program := "ytjddnmjmaalcgaa", sum := "3d258e15b7f05b1b735b5b888306dfd6018d4faa2cb73ebffbdc3982c121979a", func := "interlock/interlocklaw10.CfgGraphs", spec := "cfgGraphs", recurses := true, apart := false }
def CfgGraphsSaid : Prop := cfgGraphsRow.holds Try.pinned (OpenSpec.ofChange cfgGraphsSpec)

/-- ITS FALSE NEIGHBOUR: 'it returns false'. Refute it at one input. -/
def cfgGraphsWrong : ChangeSpec := { name := "cfgGraphs", fn := fun _ => fun
  | [d1, d2, d3, d4] => { results := [.lit (.bool false)], args := [d1, d2, d3, d4] }
  | _ => none }
def CfgGraphsWrongFalsely : Prop := cfgGraphsRow.holds Try.pinned (OpenSpec.ofChange cfgGraphsWrong)

/-- 'interlocklaw10.CfgWays': WHATEVER THE INPUT: true; the input reads as it did. -/
def cfgWaysSpec : ChangeSpec := { name := "cfgWays", fn := fun _ => fun
  | [d1, d2, d3, d4] => { results := [.lit (.bool true)], args := [d1, d2, d3, d4] }
  | _ => none }
def cfgWaysRow : OpenClaim := { program := "ytjddnmjmaalcgaa", sum := "3d258e15b7f05b1b735b5b888306dfd6018d4faa2cb73ebffbdc3982c121979a", func := "interlock/interlocklaw10.CfgWays", spec := "cfgWays", recurses := true, apart := false }
def CfgWaysSaid : Prop := cfgWaysRow.holds Try.pinned (OpenSpec.ofChange cfgWaysSpec)

/-- ITS FALSE NEIGHBOUR: 'it returns false'. Refute it at one input. -/
def cfgWaysWrong : ChangeSpec := { name := "cfgWays", fn := fun _ => fun
  | [d1, d2, d3, d4] => { results := [.lit (.bool false)], args := [d1, d2, d3, d4] }
  | _ => none }
def CfgWaysWrongFalsely : Prop := cfgWaysRow.holds Try.pinned (OpenSpec.ofChange cfgWaysWrong)

/-- 'interlocklaw10.CfgDoms': WHATEVER THE INPUT: true; the input reads as it did. -/
def cfgDomsSpec : ChangeSpec := { name := "cfgDoms", fn := fun _ => fun
  | [d1, d2, d3, d4, d5] => { results := [.lit (.bool true)], args := [d1, d2, d3, d4, d5] }
  | _ => none }
def cfgDomsRow : OpenClaim := { program := "ytjddnmjmaalcgaa", sum := "3d258e15b7f05b1b735b5b888306dfd6018d4faa2cb73ebffbdc3982c121979a", func := "interlock/interlocklaw10.CfgDoms", spec := "cfgDoms", recurses := true, apart := false }
def CfgDomsSaid : Prop := cfgDomsRow.holds Try.pinned (OpenSpec.ofChange cfgDomsSpec)

/-- ITS FALSE NEIGHBOUR: 'it returns false'. Refute it at one input. -/
def cfgDomsWrong : ChangeSpec := { name := "cfgDoms", fn := fun _ => fun
  | [d1, d2, d3, d4, d5] => { results := [.lit (.bool false)], args := [d1, d2, d3, d4, d5] }
  | _ => none }
def CfgDomsWrongFalsely : Prop := cfgDomsRow.holds Try.pinned (OpenSpec.ofChange cfgDomsWrong)

/-- 'interlocklaw10.CfgBack': WHATEVER THE INPUT: true; the input reads as it did. -/
def cfgBackSpec : ChangeSpec := { name := "cfgBack", fn := fun _ => fun
  | [d1, d2, d3, d4] => { results := [.lit (.bool true)], args := [d1, d2, d3, d4] }
  | _ => none }
def cfgBackRow : OpenClaim := { program := "ytjddnmjmaalcgaa", sum := "3d258e15b7f05b1b735b5b888306dfd6018d4faa2cb73ebffbdc3982c121979a", func := "interlock/interlocklaw10.CfgBack", spec := "cfgBack", recurses := true, apart := false }
def CfgBackSaid : Prop := cfgBackRow.holds Try.pinned (OpenSpec.ofChange cfgBackSpec)

/-- ITS FALSE NEIGHBOUR: 'it returns false'. Refute it at one input. -/
def cfgBackWrong : ChangeSpec := { name := "cfgBack", fn := fun _ => fun
  | [d1, d2, d3, d4] => { results := [.lit (.bool false)], args := [d1, d2, d3, d4] }
  | _ => none }
def CfgBackWrongFalsely : Prop := cfgBackRow.holds Try.pinned (OpenSpec.ofChange cfgBackWrong)

/-- 'interlocklaw14.ValueStraight': WHATEVER THE INPUT: true; the input reads as it did. -/
def valueStraightSpec : ChangeSpec := { name := "valueStraight", fn := fun _ => fun
  | [d] => { results := [.lit (.bool true)], args := [d] }
  | _ => none }
def valueStraightRow : OpenClaim := { program := "ytjddnmjmaalcgaa", sum := "3d258e15b7f05b1b735b5b888306dfd6018d4faa2cb73ebffbdc3982c121979a", func := "interlock/interlocklaw14.ValueStraight", spec := "valueStraight", unfollowed := true, recurses := true, apart := false }
def ValueStraightSaid : Prop := valueStraightRow.holds Try.pinned (OpenSpec.ofChange valueStraightSpec)

/-- ITS FALSE NEIGHBOUR: 'it returns false'. Refute it at one input. -/
def valueStraightWrong : ChangeSpec := { name := "valueStraight", fn := fun _ => fun
  | [d] => { results := [.lit (.bool false)], args := [d] }
  | _ => none }
def ValueStraightWrongFalsely : Prop := valueStraightRow.holds Try.pinned (OpenSpec.ofChange valueStraightWrong)

/-- 'interlocklaw14.ValueOf': WHATEVER THE INPUT: true; the input reads as it did. -/
def valueOfSpec : ChangeSpec := { name := "valueOf", fn := fun _ => fun
  | [d1, d2, d3] => { results := [.lit (.bool true)], args := [d1, d2, d3] }
  | _ => none }
def valueOfRow : OpenClaim := { program := "ytjddnmjmaalcgaa", sum := "3d258e15b7f05b1b735b5b888306dfd6018d4faa2cb73ebffbdc3982c121979a", func := "interlock/interlocklaw14.ValueOf", spec := "valueOf", unfollowed := true, recurses := true, apart := false }
def ValueOfSaid : Prop := valueOfRow.holds Try.pinned (OpenSpec.ofChange valueOfSpec)

/-- ITS FALSE NEIGHBOUR: 'it returns false'. Refute it at one input. -/
def valueOfWrong : ChangeSpec := { name := "valueOf", fn := fun _ => fun
  | [d1, d2, d3] => { results := [.lit (.bool false)], args := [d1, d2, d3] }
  | _ => none }
def ValueOfWrongFalsely : Prop := valueOfRow.holds Try.pinned (OpenSpec.ofChange valueOfWrong)

/-- 'interlocklaw14.ValueRuns': WHATEVER THE INPUT: true; the input reads as it did. -/
def valueRunsSpec : ChangeSpec := { name := "valueRuns", fn := fun _ => fun
  | [d1, d2] => { results := [.lit (.bool true)], args := [d1, d2] }
  | _ => none }
def valueRunsRow : OpenClaim := { program := "ytjddnmjmaalcgaa", sum := "3d258e15b7f05b1b735b5b888306dfd6018d4faa2cb73ebffbdc3982c121979a", func := "interlock/interlocklaw14.ValueRuns", spec := "valueRuns", unfollowed := true, recurses := true, apart := false }
def ValueRunsSaid : Prop := valueRunsRow.holds Try.pinned (OpenSpec.ofChange valueRunsSpec)

/-- ITS FALSE NEIGHBOUR: 'it returns false'. Refute it at one input. -/
def valueRunsWrong : ChangeSpec := { name := "valueRuns", fn := fun _ => fun
  | [d1, d2] => { results := [.lit (.bool false)], args := [d1, d2] }
  | _ => none }
def ValueRunsWrongFalsely : Prop := valueRunsRow.holds Try.pinned (OpenSpec.ofChange valueRunsWrong)

/-- 'interlocklaw14.ValueMeets': WHATEVER THE INPUT: true; the input reads as it did. -/
def valueMeetsSpec : ChangeSpec := { name := "valueMeets", fn := fun _ => fun
  | [d1, d2, d3, d4] => { results := [.lit (.bool true)], args := [d1, d2, d3, d4] }
  | _ => none }
def valueMeetsRow : OpenClaim := { program := "ytjddnmjmaalcgaa", sum := "3d258e15b7f05b1b735b5b888306dfd6018d4faa2cb73ebffbdc3982c121979a", func := "interlock/interlocklaw14.ValueMeets", spec := "valueMeets", unfollowed := true, recurses := true, apart := false }
def ValueMeetsSaid : Prop := valueMeetsRow.holds Try.pinned (OpenSpec.ofChange valueMeetsSpec)

/-- ITS FALSE NEIGHBOUR: 'it returns false'. Refute it at one input. -/
def valueMeetsWrong : ChangeSpec := { name := "valueMeets", fn := fun _ => fun
  | [d1, d2, d3, d4] => { results := [.lit (.bool false)], args := [d1, d2, d3, d4] }
  | _ => none }
def ValueMeetsWrongFalsely : Prop := valueMeetsRow.holds Try.pinned (OpenSpec.ofChange valueMeetsWrong)

/-- 'interlocklaw14.ValueReach': WHATEVER THE INPUT: true; the input reads as it did. -/
def valueReachSpec : ChangeSpec := { name := "valueReach", fn := fun _ => fun
  | [d] => { results := [.lit (.bool true)], args := [d] }
  | _ => none }
def valueReachRow : OpenClaim := { program := "ytjddnmjmaalcgaa", sum := "3d258e15b7f05b1b735b5b888306dfd6018d4faa2cb73ebffbdc3982c121979a", func := "interlock/interlocklaw14.ValueReach", spec := "valueReach", unfollowed := true, recurses := true, apart := false }
def ValueReachSaid : Prop := valueReachRow.holds Try.pinned (OpenSpec.ofChange valueReachSpec)

/-- ITS FALSE NEIGHBOUR: 'it returns false'. Refute it at one input. -/
def valueReachWrong : ChangeSpec := { name := "valueReach", fn := fun _ => fun
  | [d] => { results := [.lit (.bool false)], args := [d] }
  | _ => none }
def ValueReachWrongFalsely : Prop := valueReachRow.holds Try.pinned (OpenSpec.ofChange valueReachWrong)

/- THE SECOND FORM. 'bulk': how many values and letters a reading holds, each counted each time it is reached (what is shared counts as often as it is met; a slice's spare places count too). A statement '..UptoSaid' is the law's where the arguments, and the package variables that the reading takes, are together of bulk at most 1048576: NARROWER than '..Said'. Prove '..Said' where nothing that the law and all that it calls make is longer than what came in: it says more and counts as full. Else prove '..UptoSaid'. A law counts once. -/
mutual
def uptoBulk {H : Type} : DataW H → Nat
  | .lit (.string bytes) => bytes.length + 1
  | .lit _ => 1
  | .nil => 1
  | .ptr d => uptoBulk d + 1
  | .slice elems spare => uptoBulkAll elems + uptoBulkAll spare + 1
  | .agg parts => uptoBulkAll parts + 1
  | .iface _ d => uptoBulk d + 1
  | .map entries => uptoBulkEntries entries + 1
  | .held _ => 1
def uptoBulkAll {H : Type} : List (DataW H) → Nat
  | [] => 0
  | d :: r => uptoBulk d + uptoBulkAll r
def uptoBulkEntries {H : Type} : List (Lit × DataW H) → Nat
  | [] => 0
  | x :: r => uptoBulkEntry x + uptoBulkEntries r
def uptoBulkEntry {H : Type} : Lit × DataW H → Nat
  | (.string bytes, d) => bytes.length + uptoBulk d + 1
  | (_, d) => uptoBulk d + 1
 end
def uptoSmall : (H : Type) → List (DataW H) → Bool := fun _ ds => decide (uptoBulkAll ds ≤ 1048576)
def OpenSpec.upto (s : _root_.Go.ChangeSpec) : _root_.Go.OpenSpec := { _root_.Go.OpenSpec.ofChange s with cond := some uptoSmall }

/-- 'interlocklaw10.CfgOn', WHERE WHAT IT READS IS OF BULK AT MOST 1048576: true; the input reads as it did. -/
def cfgOnUptoRow : OpenClaim := { program := "ytjddnmjmaalcgaa", sum := "3d258e15b7f05b1b735b5b888306dfd6018d4faa2cb73ebffbdc3982c121979a", func := "interlock/interlocklaw10.CfgOn", spec := "cfgOn", recurses := true, apart := false, narrowed := true }
def CfgOnUptoSaid : Prop := cfgOnUptoRow.holds Try.pinned (OpenSpec.upto cfgOnSpec)

/-- 'interlocklaw10.CfgCode', WHERE WHAT IT READS IS OF BULK AT MOST 1048576: true; the input reads as it did. -/
def cfgCodeUptoRow : OpenClaim := { program := "ytjddnmjmaalcgaa", sum := "3d258e15b7f05b1b735b5b888306dfd6018d4faa2cb73ebffbdc3982c121979a", func := "interlock/interlocklaw10.CfgCode", spec := "cfgCode", recurses := true, apart := false, narrowed := true }
def CfgCodeUptoSaid : Prop := cfgCodeUptoRow.holds Try.pinned (OpenSpec.upto cfgCodeSpec)

/-- 'interlocklaw10.CfgGraphs', WHERE WHAT IT READS IS OF BULK AT MOST 1048576: true; the input reads as it did. -/
def cfgGraphsUptoRow : OpenClaim := { program := "ytjddnmjmaalcgaa", sum := "3d258e15b7f05b1b735b5b888306dfd6018d4faa2cb73ebffbdc3982c121979a", func := "interlock/interlocklaw10.CfgGraphs", spec := "cfgGraphs", recurses := true, apart := false, narrowed := true }
def CfgGraphsUptoSaid : Prop := cfgGraphsUptoRow.holds Try.pinned (OpenSpec.upto cfgGraphsSpec)

/-- 'interlocklaw10.CfgWays', WHERE WHAT IT READS IS OF BULK AT MOST 1048576: true; the input reads as it did. -/
def cfgWaysUptoRow : OpenClaim := { program := "ytjddnmjmaalcgaa", sum := "3d258e15b7f05b1b735b5b888306dfd6018d4faa2cb73ebffbdc3982c121979a", func := "interlock/interlocklaw10.CfgWays", spec := "cfgWays", recurses := true, apart := false, narrowed := true }
def CfgWaysUptoSaid : Prop := cfgWaysUptoRow.holds Try.pinned (OpenSpec.upto cfgWaysSpec)

/-- 'interlocklaw10.CfgDoms', WHERE WHAT IT READS IS OF BULK AT MOST 1048576: true; the input reads as it did. -/
def cfgDomsUptoRow : OpenClaim := { program := "ytjddnmjmaalcgaa", sum := "3d258e15b7f05b1b735b5b888306dfd6018d4faa2cb73ebffbdc3982c121979a", func := "interlock/interlocklaw10.CfgDoms", spec := "cfgDoms", recurses := true, apart := false, narrowed := true }
def CfgDomsUptoSaid : Prop := cfgDomsUptoRow.holds Try.pinned (OpenSpec.upto cfgDomsSpec)

/-- 'interlocklaw10.CfgBack', WHERE WHAT IT READS IS OF BULK AT MOST 1048576: true; the input reads as it did. -/
def cfgBackUptoRow : OpenClaim := { program := "ytjddnmjmaalcgaa", sum := "3d258e15b7f05b1b735b5b888306dfd6018d4faa2cb73ebffbdc3982c121979a", func := "interlock/interlocklaw10.CfgBack", spec := "cfgBack", recurses := true, apart := false, narrowed := true }
def CfgBackUptoSaid : Prop := cfgBackUptoRow.holds Try.pinned (OpenSpec.upto cfgBackSpec)

/-- 'interlocklaw14.ValueStraight', WHERE WHAT IT READS IS OF BULK AT MOST 1048576: true; the input reads as it did. -/
def valueStraightUptoRow : OpenClaim := { program := "ytjddnmjmaalcgaa", sum := "3d258e15b7f05b1b735b5b888306dfd6018d4faa2cb73ebffbdc3982c121979a", func := "interlock/interlocklaw14.ValueStraight", spec := "valueStraight", unfollowed := true, recurses := true, apart := false, narrowed := true }
def ValueStraightUptoSaid : Prop := valueStraightUptoRow.holds Try.pinned (OpenSpec.upto valueStraightSpec)

/-- 'interlocklaw14.ValueOf', WHERE WHAT IT READS IS OF BULK AT MOST 1048576: true; the input reads as it did. -/
def valueOfUptoRow : OpenClaim := { program := "ytjddnmjmaalcgaa", sum := "3d258e15b7f05b1b735b5b888306dfd6018d4faa2cb73ebffbdc3982c121979a", func := "interlock/interlocklaw14.ValueOf", spec := "valueOf", unfollowed := true, recurses := true, apart := false, narrowed := true }
def ValueOfUptoSaid : Prop := valueOfUptoRow.holds Try.pinned (OpenSpec.upto valueOfSpec)

/-- 'interlocklaw14.ValueRuns', WHERE WHAT IT READS IS OF BULK AT MOST 1048576: true; the input reads as it did. -/
def valueRunsUptoRow : OpenClaim := { program := "ytjddnmjmaalcgaa", sum := "3d258e15b7f05b1b735b5b888306dfd6018d4faa2cb73ebffbdc3982c121979a", func := "interlock/interlocklaw14.ValueRuns", spec := "valueRuns", unfollowed := true, recurses := true, apart := false, narrowed := true }
def ValueRunsUptoSaid : Prop := valueRunsUptoRow.holds Try.pinned (OpenSpec.upto valueRunsSpec)

/-- 'interlocklaw14.ValueMeets', WHERE WHAT IT READS IS OF BULK AT MOST 1048576: true; the input reads as it did. -/
def valueMeetsUptoRow : OpenClaim := { program := "ytjddnmjmaalcgaa", sum := "3d258e15b7f05b1b735b5b888306dfd6018d4faa2cb73ebffbdc3982c121979a", func := "interlock/interlocklaw14.ValueMeets", spec := "valueMeets", unfollowed := true, recurses := true, apart := false, narrowed := true }
def ValueMeetsUptoSaid : Prop := valueMeetsUptoRow.holds Try.pinned (OpenSpec.upto valueMeetsSpec)

/-- 'interlocklaw14.ValueReach', WHERE WHAT IT READS IS OF BULK AT MOST 1048576: true; the input reads as it did. -/
def valueReachUptoRow : OpenClaim := { program := "ytjddnmjmaalcgaa", sum := "3d258e15b7f05b1b735b5b888306dfd6018d4faa2cb73ebffbdc3982c121979a", func := "interlock/interlocklaw14.ValueReach", spec := "valueReach", unfollowed := true, recurses := true, apart := false, narrowed := true }
def ValueReachUptoSaid : Prop := valueReachUptoRow.holds Try.pinned (OpenSpec.upto valueReachSpec)

end Rows
end Go.Proofs.Ytjddnmjmaalcgaa
