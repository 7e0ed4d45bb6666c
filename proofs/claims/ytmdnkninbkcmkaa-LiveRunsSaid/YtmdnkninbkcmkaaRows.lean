/-
  No cell of these rows narrows 'for every input' (looked for: loops, veiled, ifaces, maps, wideKeys, modest, calm, conditions, laid).
  DERIVED. THE GIVEN ROWS OF THIS SEAT. 6 by the template 'for every input the law returns true; each argument reads behind the call as it read before'; 0 by the template 'total and deterministic' (their statements: YtmdnkninbkcmkaaTotals.lean).
  GIVEN WITH THE SEED: the statements are not yours to turn. If you find one false, say at which input.
  Laid BY PROGRAM, IN A SANDBOX (cutbox-rows.mjs): the forced cells as the released guide's own fill.sh prints them over the translation 5e0ca62cb66b3c44… (all of the seat's roots in one cut). By AI agents, Wed Nov 11 2026. No macro, syntax, notation, axiom, sorry.
-/
import Derived.Test.YtmdnkninbkcmkaaChecked
import GoSem.Claim
import GoSem.ClaimJoined
import GoSem.ClaimMapViews
import Derived.JoinedTies
import Derived.KernelRfl
namespace Go.Proofs.Ytmdnkninbkcmkaa
/- THE CELL 'sum', in the pinned program and in every row, IS THE sha256 OF THE DUMP (.gsa) THAT YtmdnkninbkcmkaaProg.lean LOADS. Nothing in Lean hashes anything: it is a label: what it is worth is what the hold of that sum in a sandbox is worth. -/
noncomputable def Try.pinned : Pinned := { name := "ytmdnkninbkcmkaa", sum := "5e0ca62cb66b3c4424e62a39d372ed24597a22ac2eadc9a27b64b5108d5cb090", checked := Try.checked }
namespace Rows
def none {H : Type} : Left H := { results := [], args := [] }

/-- 'interlocklaw10.CfgGraphs': WHATEVER THE INPUT: true; the input reads as it did. -/
def cfgGraphsSpec : ChangeSpec := { name := "cfgGraphs", fn := fun _ => fun
  | [d1, d2, d3, d4] => { results := [.lit (.bool true)], args := [d1, d2, d3, d4] }
  | _ => none }
def cfgGraphsRow : OpenClaim := { program := "ytmdnkninbkcmkaa", sum := "5e0ca62cb66b3c4424e62a39d372ed24597a22ac2eadc9a27b64b5108d5cb090", func := "interlock/interlocklaw10.CfgGraphs", spec := "cfgGraphs", recurses := true, apart := false }
def CfgGraphsSaid : Prop := cfgGraphsRow.holds Try.pinned (OpenSpec.ofChange cfgGraphsSpec)

/-- ITS FALSE NEIGHBOUR: 'it returns false'. Refute it at one input. -/
def cfgGraphsWrong : ChangeSpec := { name := "cfgGraphs", fn := fun _ => fun
  | [d1, d2, d3, d4] => { results := [.lit (.bool false)], args := [d1, d2, d3, d4] }
  | _ => none }
def CfgGraphsWrongFalsely : Prop := cfgGraphsRow.holds Try.pinned (OpenSpec.ofChange cfgGraphsWrong)

/-- 'interlocklaw14.ValueRuns': WHATEVER THE INPUT: true; the input reads as it did. -/
def valueRunsSpec : ChangeSpec := { name := "valueRuns", fn := fun _ => fun
  | [d1, d2] => { results := [.lit (.bool true)], args := [d1, d2] }
  | _ => none }
def valueRunsRow : OpenClaim := { program := "ytmdnkninbkcmkaa", sum := "5e0ca62cb66b3c4424e62a39d372ed24597a22ac2eadc9a27b64b5108d5cb090", func := "interlock/interlocklaw14.ValueRuns", spec := "valueRuns", unfollowed := true, recurses := true, apart := false }
def ValueRunsSaid : Prop := valueRunsRow.holds Try.pinned (OpenSpec.ofChange valueRunsSpec)

/-- ITS FALSE NEIGHBOUR: 'it returns false'. Refute it at one input. -/
def valueRunsWrong : ChangeSpec := { name := "valueRuns", fn := fun _ => fun
  | [d1, d2] => { results := [.lit (.bool false)], args := [d1, d2] }
  | _ => none }
def ValueRunsWrongFalsely : Prop := valueRunsRow.holds Try.pinned (OpenSpec.ofChange valueRunsWrong)

/-- 'interlocklaw15.LiveRuns': WHATEVER THE INPUT: true; the input reads as it did. -/
def liveRunsSpec : ChangeSpec := { name := "liveRuns", fn := fun _ => fun
  | [d1, d2, d3, d4, d5, d6] => { results := [.lit (.bool true)], args := [d1, d2, d3, d4, d5, d6] }
  | _ => none }
def liveRunsRow : OpenClaim := { program := "ytmdnkninbkcmkaa", sum := "5e0ca62cb66b3c4424e62a39d372ed24597a22ac2eadc9a27b64b5108d5cb090", func := "interlock/interlocklaw15.LiveRuns", spec := "liveRuns", unfollowed := true, recurses := true, apart := false }
def LiveRunsSaid : Prop := liveRunsRow.holds Try.pinned (OpenSpec.ofChange liveRunsSpec)

/-- ITS FALSE NEIGHBOUR: 'it returns false'. Refute it at one input. -/
def liveRunsWrong : ChangeSpec := { name := "liveRuns", fn := fun _ => fun
  | [d1, d2, d3, d4, d5, d6] => { results := [.lit (.bool false)], args := [d1, d2, d3, d4, d5, d6] }
  | _ => none }
def LiveRunsWrongFalsely : Prop := liveRunsRow.holds Try.pinned (OpenSpec.ofChange liveRunsWrong)

/-- 'interlocklaw18.StoresRuns': WHATEVER THE INPUT: true; the input reads as it did. -/
def storesRunsSpec : ChangeSpec := { name := "storesRuns", fn := fun _ => fun
  | [d1, d2] => { results := [.lit (.bool true)], args := [d1, d2] }
  | _ => none }
def storesRunsRow : OpenClaim := { program := "ytmdnkninbkcmkaa", sum := "5e0ca62cb66b3c4424e62a39d372ed24597a22ac2eadc9a27b64b5108d5cb090", func := "interlock/interlocklaw18.StoresRuns", spec := "storesRuns", unfollowed := true, recurses := true, apart := false }
def StoresRunsSaid : Prop := storesRunsRow.holds Try.pinned (OpenSpec.ofChange storesRunsSpec)

/-- ITS FALSE NEIGHBOUR: 'it returns false'. Refute it at one input. -/
def storesRunsWrong : ChangeSpec := { name := "storesRuns", fn := fun _ => fun
  | [d1, d2] => { results := [.lit (.bool false)], args := [d1, d2] }
  | _ => none }
def StoresRunsWrongFalsely : Prop := storesRunsRow.holds Try.pinned (OpenSpec.ofChange storesRunsWrong)

/-- 'interlocklaw18.StoresRaces': WHATEVER THE INPUT: true; the input reads as it did. -/
def storesRacesSpec : ChangeSpec := { name := "storesRaces", fn := fun _ => fun
  | [d1, d2] => { results := [.lit (.bool true)], args := [d1, d2] }
  | _ => none }
def storesRacesRow : OpenClaim := { program := "ytmdnkninbkcmkaa", sum := "5e0ca62cb66b3c4424e62a39d372ed24597a22ac2eadc9a27b64b5108d5cb090", func := "interlock/interlocklaw18.StoresRaces", spec := "storesRaces", unfollowed := true, recurses := true, apart := false }
def StoresRacesSaid : Prop := storesRacesRow.holds Try.pinned (OpenSpec.ofChange storesRacesSpec)

/-- ITS FALSE NEIGHBOUR: 'it returns false'. Refute it at one input. -/
def storesRacesWrong : ChangeSpec := { name := "storesRaces", fn := fun _ => fun
  | [d1, d2] => { results := [.lit (.bool false)], args := [d1, d2] }
  | _ => none }
def StoresRacesWrongFalsely : Prop := storesRacesRow.holds Try.pinned (OpenSpec.ofChange storesRacesWrong)

/-- 'interlocklaw16.FoldRuns': WHATEVER THE INPUT: true; the input reads as it did. -/
def foldRunsSpec : ChangeSpec := { name := "foldRuns", fn := fun _ => fun
  | [d1, d2] => { results := [.lit (.bool true)], args := [d1, d2] }
  | _ => none }
def foldRunsRow : OpenClaim := { program := "ytmdnkninbkcmkaa", sum := "5e0ca62cb66b3c4424e62a39d372ed24597a22ac2eadc9a27b64b5108d5cb090", func := "interlock/interlocklaw16.FoldRuns", spec := "foldRuns", unfollowed := true, recurses := true, apart := false }
def FoldRunsSaid : Prop := foldRunsRow.holds Try.pinned (OpenSpec.ofChange foldRunsSpec)

/-- ITS FALSE NEIGHBOUR: 'it returns false'. Refute it at one input. -/
def foldRunsWrong : ChangeSpec := { name := "foldRuns", fn := fun _ => fun
  | [d1, d2] => { results := [.lit (.bool false)], args := [d1, d2] }
  | _ => none }
def FoldRunsWrongFalsely : Prop := foldRunsRow.holds Try.pinned (OpenSpec.ofChange foldRunsWrong)

/- THE SECOND FORM. 'bulk': how many values and letters a reading holds, each counted each time it is reached (what is shared counts as often as it is met; a slice's spare places count too). A statement '..UptoSaid' is the law's where the arguments, and the package variables that the reading takes, are together of bulk at most 1048576: NARROWER than '..Said'. Prove '..Said' where nothing that the law and all that it calls make is longer than what came in: it says more and counts as full. Else prove '..UptoSaid'. A law counts once. -/
mutual
def uptoBulk {H : Type} : DataW H → Nat
  | .lit (.string bytes) => bytes.length + 1
  | .lit _ => 1
  | .nil => 1
  | .ptr d => uptoBulk d + 1
  | .slice elems spare => uptoBulkAll elems + uptoBulkAll spare + 1
  | .agg parts => uptoBulkAll parts + 1
  | .iface _ d => uptoBulk d + 1
  | .map entries => uptoBulkEntries entries + 1
  | .held _ => 1
def uptoBulkAll {H : Type} : List (DataW H) → Nat
  | [] => 0
  | d :: r => uptoBulk d + uptoBulkAll r
def uptoBulkEntries {H : Type} : List (Lit × DataW H) → Nat
  | [] => 0
  | x :: r => uptoBulkEntry x + uptoBulkEntries r
def uptoBulkEntry {H : Type} : Lit × DataW H → Nat
  | (.string bytes, d) => bytes.length + uptoBulk d + 1
  | (_, d) => uptoBulk d + 1
 end
def uptoSmall : (H : Type) → List (DataW H) → Bool := fun _ ds => decide (uptoBulkAll ds ≤ 1048576)
def OpenSpec.upto (s : _root_.Go.ChangeSpec) : _root_.Go.OpenSpec := { _root_.Go.OpenSpec.ofChange s with cond := some uptoSmall }

/-- 'interlocklaw10.CfgGraphs', WHERE WHAT IT READS IS OF BULK AT MOST 1048576: true; the input reads as it did. -/
def cfgGraphsUptoRow : OpenClaim := { program := "ytmdnkninbkcmkaa", sum := "5e0ca62cb66b3c4424e62a39d372ed24597a22ac2eadc9a27b64b5108d5cb090", func := "interlock/interlocklaw10.CfgGraphs", spec := "cfgGraphs", recurses := true, apart := false, narrowed := true }
def CfgGraphsUptoSaid : Prop := cfgGraphsUptoRow.holds Try.pinned (OpenSpec.upto cfgGraphsSpec)

/-- 'interlocklaw14.ValueRuns', WHERE WHAT IT READS IS OF BULK AT MOST 1048576: true; the input reads as it did. -/
def valueRunsUptoRow : OpenClaim := { program := "ytmdnkninbkcmkaa", sum := "5e0ca62cb66b3c4424e62a39d372ed24597a22ac2eadc9a27b64b5108d5cb090", func := "interlock/interlocklaw14.ValueRuns", spec := "valueRuns", unfollowed := true, recurses := true, apart := false, narrowed := true }
def ValueRunsUptoSaid : Prop := valueRunsUptoRow.holds Try.pinned (OpenSpec.upto valueRunsSpec)

/-- 'interlocklaw15.LiveRuns', WHERE WHAT IT READS IS OF BULK AT MOST 1048576: true; the input reads as it did. -/
def liveRunsUptoRow : OpenClaim := { program := "ytmdnkninbkcmkaa", sum := "5e0ca62cb66b3c4424e62a39d372ed24597a22ac2eadc9a27b64b5108d5cb090", func := "interlock/interlocklaw15.LiveRuns", spec := "liveRuns", unfollowed := true, recurses := true, apart := false, narrowed := true }
def LiveRunsUptoSaid : Prop := liveRunsUptoRow.holds Try.pinned (OpenSpec.upto liveRunsSpec)

/-- 'interlocklaw18.StoresRuns', WHERE WHAT IT READS IS OF BULK AT MOST 1048576: true; the input reads as it did. -/
def storesRunsUptoRow : OpenClaim := { program := "ytmdnkninbkcmkaa", sum := "5e0ca62cb66b3c4424e62a39d372ed24597a22ac2eadc9a27b64b5108d5cb090", func := "interlock/interlocklaw18.StoresRuns", spec := "storesRuns", unfollowed := true, recurses := true, apart := false, narrowed := true }
def StoresRunsUptoSaid : Prop := storesRunsUptoRow.holds Try.pinned (OpenSpec.upto storesRunsSpec)

/-- 'interlocklaw18.StoresRaces', WHERE WHAT IT READS IS OF BULK AT MOST 1048576: true; the input reads as it did. -/
def storesRacesUptoRow : OpenClaim := { program := "ytmdnkninbkcmkaa", sum := "5e0ca62cb66b3c4424e62a39d372ed24597a22ac2eadc9a27b64b5108d5cb090", func := "interlock/interlocklaw18.StoresRaces", spec := "storesRaces", unfollowed := true, recurses := true, apart := false, narrowed := true }
def StoresRacesUptoSaid : Prop := storesRacesUptoRow.holds Try.pinned (OpenSpec.upto storesRacesSpec)

/-- 'interlocklaw16.FoldRuns', WHERE WHAT IT READS IS OF BULK AT MOST 1048576: true; the input reads as it did. -/
def foldRunsUptoRow : OpenClaim := { program := "ytmdnkninbkcmkaa", sum := "5e0ca62cb66b3c4424e62a39d372ed24597a22ac2eadc9a27b64b5108d5cb090", func := "interlock/interlocklaw16.FoldRuns", spec := "foldRuns", unfollowed := true, recurses := true, apart := false, narrowed := true }
def FoldRunsUptoSaid : Prop := foldRunsUptoRow.holds Try.pinned (OpenSpec.upto foldRunsSpec)

end Rows
end Go.Proofs.Ytmdnkninbkcmkaa
