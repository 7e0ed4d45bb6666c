/-
  No cell of these rows narrows 'for every input' (looked for: loops, veiled, ifaces, maps, wideKeys, modest, calm, conditions, laid).
  DERIVED. THE GIVEN ROWS OF THIS SEAT. 12 by the template 'for every input the law returns true; each argument reads behind the call as it read before'; 0 by the template 'total and deterministic' (their statements: YtdohgmnflhjgjaaTotals.lean).
  GIVEN WITH THE SEED: the statements are not yours to turn. If you find one false, say at which input.
  Laid BY PROGRAM, IN A SANDBOX (cutbox-rows.mjs): the forced cells as the released guide's own fill.sh prints them over the translation fac4770abb6cacb3… (all of the seat's roots in one cut). By AI agents, Wed Nov 11 2026. No macro, syntax, notation, axiom, sorry.
-/
import Derived.Test.YtdohgmnflhjgjaaChecked
import GoSem.Claim
import GoSem.ClaimJoined
import GoSem.ClaimMapViews
import Derived.JoinedTies
import Derived.KernelRfl
namespace Go.Proofs.Ytdohgmnflhjgjaa
/- THE CELL 'sum', in the pinned program and in every row, IS THE sha256 OF THE DUMP (.gsa) THAT YtdohgmnflhjgjaaProg.lean LOADS. Nothing in Lean hashes anything: it is a label: what it is worth is what the hold of that sum in a sandbox is worth. -/
noncomputable def Try.pinned : Pinned := { name := "ytdohgmnflhjgjaa", sum := "fac4770abb6cacb3ee8d71752a48c6056862c882a42aff48d4726fa8af8bbc4d", checked := Try.checked }
namespace Rows
def none {H : Type} : Left H := { results := [], args := [] }

/-- 'interlocklaw10.CfgGraphs': WHATEVER THE INPUT: true; the input reads as it did. -/
def cfgGraphsSpec : ChangeSpec := { name := "cfgGraphs", fn := fun _ => fun
  | [d1, d2, d3, d4] => { results := [.lit (.bool true)], args := [d1, d2, d3, d4] }
  | _ => none }
def cfgGraphsRow : OpenClaim := { program := "ytdohgmnflhjgjaa", sum := "fac4770abb6cacb3ee8d71752a48c6056862c882a42aff48d4726fa8af8bbc4d", func := "interlock/interlocklaw10.CfgGraphs", spec := "cfgGraphs", recurses := true, apart := false }
def CfgGraphsSaid : Prop := cfgGraphsRow.holds Try.pinned (OpenSpec.ofChange cfgGraphsSpec)

/-- ITS FALSE NEIGHBOUR: 'it returns false'. Refute it at one input. -/
def cfgGraphsWrong : ChangeSpec := { name := "cfgGraphs", fn := fun _ => fun
  | [d1, d2, d3, d4] => { results := [.lit (.bool false)], args := [d1, d2, d3, d4] }
  | _ => none }
def CfgGraphsWrongFalsely : Prop := cfgGraphsRow.holds Try.pinned (OpenSpec.ofChange cfgGraphsWrong)

/-- 'interlocklaw14.ValueRuns': WHATEVER THE INPUT: true; the input reads as it did. -/
def valueRunsSpec : ChangeSpec := { name := "valueRuns", fn := fun _ => fun
  | [d1, d2] => { results := [.lit (.bool true)], args := [d1, d2] }
  | _ => none }
def valueRunsRow : OpenClaim := { program := "ytdohgmnflhjgjaa", sum := "fac4770abb6cacb3ee8d71752a48c6056862c882a42aff48d4726fa8af8bbc4d", func := "interlock/interlocklaw14.ValueRuns", spec := "valueRuns", unfollowed := true, recurses := true, apart := false }
def ValueRunsSaid : Prop := valueRunsRow.holds Try.pinned (OpenSpec.ofChange valueRunsSpec)

/-- ITS FALSE NEIGHBOUR: 'it returns false'. Refute it at one input. -/
def valueRunsWrong : ChangeSpec := { name := "valueRuns", fn := fun _ => fun
  | [d1, d2] => { results := [.lit (.bool false)], args := [d1, d2] }
  | _ => none }
def ValueRunsWrongFalsely : Prop := valueRunsRow.holds Try.pinned (OpenSpec.ofChange valueRunsWrong)

/-- 'interlocklaw15.LiveNone': WHATEVER THE INPUT: true; the input reads as it did. -/
def liveNoneSpec : ChangeSpec := { name := "liveNone", fn := fun _ => fun
  | [d1, d2] => { results := [.lit (.bool true)], args := [d1, d2] }
  | _ => none }
def liveNoneRow : OpenClaim := { program := "ytdohgmnflhjgjaa", sum := "fac4770abb6cacb3ee8d71752a48c6056862c882a42aff48d4726fa8af8bbc4d", func := "interlock/interlocklaw15.LiveNone", spec := "liveNone", unfollowed := true, recurses := true, apart := false }
def LiveNoneSaid : Prop := liveNoneRow.holds Try.pinned (OpenSpec.ofChange liveNoneSpec)

/-- ITS FALSE NEIGHBOUR: 'it returns false'. Refute it at one input. -/
def liveNoneWrong : ChangeSpec := { name := "liveNone", fn := fun _ => fun
  | [d1, d2] => { results := [.lit (.bool false)], args := [d1, d2] }
  | _ => none }
def LiveNoneWrongFalsely : Prop := liveNoneRow.holds Try.pinned (OpenSpec.ofChange liveNoneWrong)

/-- 'interlocklaw15.LiveTells': WHATEVER THE INPUT: true; the input reads as it did. -/
def liveTellsSpec : ChangeSpec := { name := "liveTells", fn := fun _ => fun
  | [d1, d2, d3] => { results := [.lit (.bool true)], args := [d1, d2, d3] }
  | _ => none }
def liveTellsRow : OpenClaim := { program := "ytdohgmnflhjgjaa", sum := "fac4770abb6cacb3ee8d71752a48c6056862c882a42aff48d4726fa8af8bbc4d", func := "interlock/interlocklaw15.LiveTells", spec := "liveTells", unfollowed := true, recurses := true, apart := false }
def LiveTellsSaid : Prop := liveTellsRow.holds Try.pinned (OpenSpec.ofChange liveTellsSpec)

/-- ITS FALSE NEIGHBOUR: 'it returns false'. Refute it at one input. -/
def liveTellsWrong : ChangeSpec := { name := "liveTells", fn := fun _ => fun
  | [d1, d2, d3] => { results := [.lit (.bool false)], args := [d1, d2, d3] }
  | _ => none }
def LiveTellsWrongFalsely : Prop := liveTellsRow.holds Try.pinned (OpenSpec.ofChange liveTellsWrong)

/-- 'interlocklaw15.LiveRuns': WHATEVER THE INPUT: true; the input reads as it did. -/
def liveRunsSpec : ChangeSpec := { name := "liveRuns", fn := fun _ => fun
  | [d1, d2, d3, d4, d5, d6] => { results := [.lit (.bool true)], args := [d1, d2, d3, d4, d5, d6] }
  | _ => none }
def liveRunsRow : OpenClaim := { program := "ytdohgmnflhjgjaa", sum := "fac4770abb6cacb3ee8d71752a48c6056862c882a42aff48d4726fa8af8bbc4d", func := "interlock/interlocklaw15.LiveRuns", spec := "liveRuns", unfollowed := true, recurses := true, apart := false }
def LiveRunsSaid : Prop := liveRunsRow.holds Try.pinned (OpenSpec.ofChange liveRunsSpec)

/-- ITS FALSE NEIGHBOUR: 'it returns false'. Refute it at one input. -/
def liveRunsWrong : ChangeSpec := { name := "liveRuns", fn := fun _ => fun
  | [d1, d2, d3, d4, d5, d6] => { results := [.lit (.bool false)], args := [d1, d2, d3, d4, d5, d6] }
  | _ => none }
def LiveRunsWrongFalsely : Prop := liveRunsRow.holds Try.pinned (OpenSpec.ofChange liveRunsWrong)

/-- 'interlocklaw15.LiveSteps': WHATEVER THE INPUT: true; the input reads as it did. -/
def liveStepsSpec : ChangeSpec := { name := "liveSteps", fn := fun _ => fun
  | [d] => { results := [.lit (.bool true)], args := [d] }
  | _ => none }
def liveStepsRow : OpenClaim := { program := "ytdohgmnflhjgjaa", sum := "fac4770abb6cacb3ee8d71752a48c6056862c882a42aff48d4726fa8af8bbc4d", func := "interlock/interlocklaw15.LiveSteps", spec := "liveSteps", unfollowed := true, recurses := true, apart := false }
def LiveStepsSaid : Prop := liveStepsRow.holds Try.pinned (OpenSpec.ofChange liveStepsSpec)

/-- ITS FALSE NEIGHBOUR: 'it returns false'. Refute it at one input. -/
def liveStepsWrong : ChangeSpec := { name := "liveSteps", fn := fun _ => fun
  | [d] => { results := [.lit (.bool false)], args := [d] }
  | _ => none }
def LiveStepsWrongFalsely : Prop := liveStepsRow.holds Try.pinned (OpenSpec.ofChange liveStepsWrong)

/-- 'interlocklaw18.StoresKept': WHATEVER THE INPUT: true; the input reads as it did. -/
def storesKeptSpec : ChangeSpec := { name := "storesKept", fn := fun _ => fun
  | [d1, d2] => { results := [.lit (.bool true)], args := [d1, d2] }
  | _ => none }
def storesKeptRow : OpenClaim := { program := "ytdohgmnflhjgjaa", sum := "fac4770abb6cacb3ee8d71752a48c6056862c882a42aff48d4726fa8af8bbc4d", func := "interlock/interlocklaw18.StoresKept", spec := "storesKept", unfollowed := true, recurses := true, apart := false }
def StoresKeptSaid : Prop := storesKeptRow.holds Try.pinned (OpenSpec.ofChange storesKeptSpec)

/-- ITS FALSE NEIGHBOUR: 'it returns false'. Refute it at one input. -/
def storesKeptWrong : ChangeSpec := { name := "storesKept", fn := fun _ => fun
  | [d1, d2] => { results := [.lit (.bool false)], args := [d1, d2] }
  | _ => none }
def StoresKeptWrongFalsely : Prop := storesKeptRow.holds Try.pinned (OpenSpec.ofChange storesKeptWrong)

/-- 'interlocklaw18.StoresCode': WHATEVER THE INPUT: true; the input reads as it did. -/
def storesCodeSpec : ChangeSpec := { name := "storesCode", fn := fun _ => fun
  | [d1, d2, d3] => { results := [.lit (.bool true)], args := [d1, d2, d3] }
  | _ => none }
def storesCodeRow : OpenClaim := { program := "ytdohgmnflhjgjaa", sum := "fac4770abb6cacb3ee8d71752a48c6056862c882a42aff48d4726fa8af8bbc4d", func := "interlock/interlocklaw18.StoresCode", spec := "storesCode", unfollowed := true, recurses := true, apart := false }
def StoresCodeSaid : Prop := storesCodeRow.holds Try.pinned (OpenSpec.ofChange storesCodeSpec)

/-- ITS FALSE NEIGHBOUR: 'it returns false'. Refute it at one input. -/
def storesCodeWrong : ChangeSpec := { name := "storesCode", fn := fun _ => fun
  | [d1, d2, d3] => { results := [.lit (.bool false)], args := [d1, d2, d3] }
  | _ => none }
def StoresCodeWrongFalsely : Prop := storesCodeRow.holds Try.pinned (OpenSpec.ofChange storesCodeWrong)

/-- 'interlocklaw18.StoresRuns': WHATEVER THE INPUT: true; the input reads as it did. -/
def storesRunsSpec : ChangeSpec := { name := "storesRuns", fn := fun _ => fun
  | [d1, d2] => { results := [.lit (.bool true)], args := [d1, d2] }
  | _ => none }
def storesRunsRow : OpenClaim := { program := "ytdohgmnflhjgjaa", sum := "fac4770abb6cacb3ee8d71752a48c6056862c882a42aff48d4726fa8af8bbc4d", func := "interlock/interlocklaw18.StoresRuns", spec := "storesRuns", unfollowed := true, recurses := true, apart := false }
def StoresRunsSaid : Prop := storesRunsRow.holds Try.pinned (OpenSpec.ofChange storesRunsSpec)

/-- ITS FALSE NEIGHBOUR: 'it returns false'. Refute it at one input. -/
def storesRunsWrong : ChangeSpec := { name := "storesRuns", fn := fun _ => fun
  | [d1, d2] => { results := [.lit (.bool false)], args := [d1, d2] }
  | _ => none }
def StoresRunsWrongFalsely : Prop := storesRunsRow.holds Try.pinned (OpenSpec.ofChange storesRunsWrong)

/-- 'interlocklaw18.StoresRaces': WHATEVER THE INPUT: true; the input reads as it did. -/
def storesRacesSpec : ChangeSpec := { name := "storesRaces", fn := fun _ => fun
  | [d1, d2] => { results := [.lit (.bool true)], args := [d1, d2] }
  | _ => none }
def storesRacesRow : OpenClaim := { program := "ytdohgmnflhjgjaa", sum := "fac4770abb6cacb3ee8d71752a48c6056862c882a42aff48d4726fa8af8bbc4d", func := "interlock/interlocklaw18.StoresRaces", spec := "storesRaces", unfollowed := true, recurses := true, apart := false }
def StoresRacesSaid : Prop := storesRacesRow.holds Try.pinned (OpenSpec.ofChange storesRacesSpec)

/-- ITS FALSE NEIGHBOUR: 'it returns false'. Refute it at one input. -/
def storesRacesWrong : ChangeSpec := { name := "storesRaces", fn := fun _ => fun
  | [d1, d2] => { results := [.lit (.bool false)], args := [d1, d2] }
  | _ => none }
def StoresRacesWrongFalsely : Prop := storesRacesRow.holds Try.pinned (OpenSpec.ofChange storesRacesWrong)

/-- 'interlocklaw18.StoresOnly': WHATEVER THE INPUT: true; the input reads as it did. -/
def storesOnlySpec : ChangeSpec := { name := "storesOnly", fn := fun _ => fun
  | [d] => { results := [.lit (.bool true)], args := [d] }
  | _ => none }
def storesOnlyRow : OpenClaim := { program := "ytdohgmnflhjgjaa", sum := "fac4770abb6cacb3ee8d71752a48c6056862c882a42aff48d4726fa8af8bbc4d", func := "interlock/interlocklaw18.StoresOnly", spec := "storesOnly", unfollowed := true, recurses := true, apart := false }
def StoresOnlySaid : Prop := storesOnlyRow.holds Try.pinned (OpenSpec.ofChange storesOnlySpec)

/-- ITS FALSE NEIGHBOUR: 'it returns false'. Refute it at one input. -/
def storesOnlyWrong : ChangeSpec := { name := "storesOnly", fn := fun _ => fun
  | [d] => { results := [.lit (.bool false)], args := [d] }
  | _ => none }
def StoresOnlyWrongFalsely : Prop := storesOnlyRow.holds Try.pinned (OpenSpec.ofChange storesOnlyWrong)

/-- 'interlocklaw18.StoresChain': WHATEVER THE INPUT: true; the input reads as it did. -/
def storesChainSpec : ChangeSpec := { name := "storesChain", fn := fun _ => fun
  | [d] => { results := [.lit (.bool true)], args := [d] }
  | _ => none }
def storesChainRow : OpenClaim := { program := "ytdohgmnflhjgjaa", sum := "fac4770abb6cacb3ee8d71752a48c6056862c882a42aff48d4726fa8af8bbc4d", func := "interlock/interlocklaw18.StoresChain", spec := "storesChain", unfollowed := true, recurses := true, apart := false }
def StoresChainSaid : Prop := storesChainRow.holds Try.pinned (OpenSpec.ofChange storesChainSpec)

/-- ITS FALSE NEIGHBOUR: 'it returns false'. Refute it at one input. -/
def storesChainWrong : ChangeSpec := { name := "storesChain", fn := fun _ => fun
  | [d] => { results := [.lit (.bool false)], args := [d] }
  | _ => none }
def StoresChainWrongFalsely : Prop := storesChainRow.holds Try.pinned (OpenSpec.ofChange storesChainWrong)

/- THE SECOND FORM. 'bulk': how many values and letters a reading holds, each counted each time it is reached (what is shared counts as often as it is met; a slice's spare places count too). A statement '..UptoSaid' is the law's where the arguments, and the package variables that the reading takes, are together of bulk at most 1048576: NARROWER than '..Said'. Prove '..Said' where nothing that the law and all that it calls make is longer than what came in: it says more and counts as full. Else prove '..UptoSaid'. A law counts once. -/
mutual
def uptoBulk {H : Type} : DataW H → Nat
  | .lit (.string bytes) => bytes.length + 1
  | .lit _ => 1
  | .nil => 1
  | .ptr d => uptoBulk d + 1
  | .slice elems spare => uptoBulkAll elems + uptoBulkAll spare + 1
  | .agg parts => uptoBulkAll parts + 1
  | .iface _ d => uptoBulk d + 1
  | .map entries => uptoBulkEntries entries + 1
  | .held _ => 1
def uptoBulkAll {H : Type} : List (DataW H) → Nat
  | [] => 0
  | d :: r => uptoBulk d + uptoBulkAll r
def uptoBulkEntries {H : Type} : List (Lit × DataW H) → Nat
  | [] => 0
  | x :: r => uptoBulkEntry x + uptoBulkEntries r
def uptoBulkEntry {H : Type} : Lit × DataW H → Nat
  | (.string bytes, d) => bytes.length + uptoBulk d + 1
  | (_, d) => uptoBulk d + 1
 end
def uptoSmall : (H : Type) → List (DataW H) → Bool := fun _ ds => decide (uptoBulkAll ds ≤ 1048576)
def OpenSpec.upto (s : _root_.Go.ChangeSpec) : _root_.Go.OpenSpec := { _root_.Go.OpenSpec.ofChange s with cond := some uptoSmall }

/-- 'interlocklaw10.CfgGraphs', WHERE WHAT IT READS IS OF BULK AT MOST 1048576: true; the input reads as it did. -/
def cfgGraphsUptoRow : OpenClaim := { program := "ytdohgmnflhjgjaa", sum := "fac4770abb6cacb3ee8d71752a48c6056862c882a42aff48d4726fa8af8bbc4d", func := "interlock/interlocklaw10.CfgGraphs", spec := "cfgGraphs", recurses := true, apart := false, narrowed := true }
def CfgGraphsUptoSaid : Prop := cfgGraphsUptoRow.holds Try.pinned (OpenSpec.upto cfgGraphsSpec)

/-- 'interlocklaw14.ValueRuns', WHERE WHAT IT READS IS OF BULK AT MOST 1048576: true; the input reads as it did. -/
def valueRunsUptoRow : OpenClaim := { program := "ytdohgmnflhjgjaa", sum := "fac4770abb6cacb3ee8d71752a48c6056862c882a42aff48d4726fa8af8bbc4d", func := "interlock/interlocklaw14.ValueRuns", spec := "valueRuns", unfollowed := true, recurses := true, apart := false, narrowed := true }
def ValueRunsUptoSaid : Prop := valueRunsUptoRow.holds Try.pinned (OpenSpec.upto valueRunsSpec)

/-- 'interlocklaw15.LiveNone', WHERE WHAT IT READS IS OF BULK AT MOST 1048576: true; the input reads as it did. -/
def liveNoneUptoRow : OpenClaim := { program := "ytdohgmnflhjgjaa", sum := "fac4770abb6cacb3ee8d71752a48c6056862c882a42aff48d4726fa8af8bbc4d", func := "interlock/interlocklaw15.LiveNone", spec := "liveNone", unfollowed := true, recurses := true, apart := false, narrowed := true }
def LiveNoneUptoSaid : Prop := liveNoneUptoRow.holds Try.pinned (OpenSpec.upto liveNoneSpec)

/-- 'interlocklaw15.LiveTells', WHERE WHAT IT READS IS OF BULK AT MOST 1048576: true; the input reads as it did. -/
def liveTellsUptoRow : OpenClaim := { program := "ytdohgmnflhjgjaa", sum := "fac4770abb6cacb3ee8d71752a48c6056862c882a42aff48d4726fa8af8bbc4d", func := "interlock/interlocklaw15.LiveTells", spec := "liveTells", unfollowed := true, recurses := true, apart := false, narrowed := true }
def LiveTellsUptoSaid : Prop := liveTellsUptoRow.holds Try.pinned (OpenSpec.upto liveTellsSpec)

/-- 'interlocklaw15.LiveRuns', WHERE WHAT IT READS IS OF BULK AT MOST 1048576: true; the input reads as it did. -/
def liveRunsUptoRow : OpenClaim := { program := "ytdohgmnflhjgjaa", sum := "fac4770abb6cacb3ee8d71752a48c6056862c882a42aff48d4726fa8af8bbc4d", func := "interlock/interlocklaw15.LiveRuns", spec := "liveRuns", unfollowed := true, recurses := true, apart := false, narrowed := true }
def LiveRunsUptoSaid : Prop := liveRunsUptoRow.holds Try.pinned (OpenSpec.upto liveRunsSpec)

/-- 'interlocklaw15.LiveSteps', WHERE WHAT IT READS IS OF BULK AT MOST 1048576: true; the input reads as it did. -/
def liveStepsUptoRow : OpenClaim := { program := "ytdohgmnflhjgjaa", sum := "fac4770abb6cacb3ee8d71752a48c6056862c882a42aff48d4726fa8af8bbc4d", func := "interlock/interlocklaw15.LiveSteps", spec := "liveSteps", unfollowed := true, recurses := true, apart := false, narrowed := true }
def LiveStepsUptoSaid : Prop := liveStepsUptoRow.holds Try.pinned (OpenSpec.upto liveStepsSpec)

/-- 'interlocklaw18.StoresKept', WHERE WHAT IT READS IS OF BULK AT MOST 1048576: true; the input reads as it did. -/
def storesKeptUptoRow : OpenClaim := { program := "ytdohgmnflhjgjaa", sum := "fac4770abb6cacb3ee8d71752a48c6056862c882a42aff48d4726fa8af8bbc4d", func := "interlock/interlocklaw18.StoresKept", spec := "storesKept", unfollowed := true, recurses := true, apart := false, narrowed := true }
def StoresKeptUptoSaid : Prop := storesKeptUptoRow.holds Try.pinned (OpenSpec.upto storesKeptSpec)

/-- 'interlocklaw18.StoresCode', WHERE WHAT IT READS IS OF BULK AT MOST 1048576: true; the input reads as it did. -/
def storesCodeUptoRow : OpenClaim := { program := "ytdohgmnflhjgjaa", sum := "fac4770abb6cacb3ee8d71752a48c6056862c882a42aff48d4726fa8af8bbc4d", func := "interlock/interlocklaw18.StoresCode", spec := "storesCode", unfollowed := true, recurses := true, apart := false, narrowed := true }
def StoresCodeUptoSaid : Prop := storesCodeUptoRow.holds Try.pinned (OpenSpec.upto storesCodeSpec)

/-- 'interlocklaw18.StoresRuns', WHERE WHAT IT READS IS OF BULK AT MOST 1048576: true; the input reads as it did. -/
def storesRunsUptoRow : OpenClaim := { program := "ytdohgmnflhjgjaa", sum := "fac4770abb6cacb3ee8d71752a48c6056862c882a42aff48d4726fa8af8bbc4d", func := "interlock/interlocklaw18.StoresRuns", spec := "storesRuns", unfollowed := true, recurses := true, apart := false, narrowed := true }
def StoresRunsUptoSaid : Prop := storesRunsUptoRow.holds Try.pinned (OpenSpec.upto storesRunsSpec)

/-- 'interlocklaw18.StoresRaces', WHERE WHAT IT READS IS OF BULK AT MOST 1048576: true; the input reads as it did. -/
def storesRacesUptoRow : OpenClaim := { program := "ytdohgmnflhjgjaa", sum := "fac4770abb6cacb3ee8d71752a48c6056862c882a42aff48d4726fa8af8bbc4d", func := "interlock/interlocklaw18.StoresRaces", spec := "storesRaces", unfollowed := true, recurses := true, apart := false, narrowed := true }
def StoresRacesUptoSaid : Prop := storesRacesUptoRow.holds Try.pinned (OpenSpec.upto storesRacesSpec)

/-- 'interlocklaw18.StoresOnly', WHERE WHAT IT READS IS OF BULK AT MOST 1048576: true; the input reads as it did. -/
def storesOnlyUptoRow : OpenClaim := { program := "ytdohgmnflhjgjaa", sum := "fac4770abb6cacb3ee8d71752a48c6056862c882a42aff48d4726fa8af8bbc4d", func := "interlock/interlocklaw18.StoresOnly", spec := "storesOnly", unfollowed := true, recurses := true, apart := false, narrowed := true }
def StoresOnlyUptoSaid : Prop := storesOnlyUptoRow.holds Try.pinned (OpenSpec.upto storesOnlySpec)

/-- 'interlocklaw18.StoresChain', WHERE WHAT IT READS IS OF BULK AT MOST 1048576: true; the input reads as it did. -/
def storesChainUptoRow : OpenClaim := { program := "ytdohgmnflhjgjaa", sum := "fac4770abb6cacb3ee8d71752a48c6056862c882a42aff48d4726fa8af8bbc4d", func := "interlock/interlocklaw18.StoresChain", spec := "storesChain", unfollowed := true, recurses := true, apart := false, narrowed := true }
def StoresChainUptoSaid : Prop := storesChainUptoRow.holds Try.pinned (OpenSpec.upto storesChainSpec)

end Rows
end Go.Proofs.Ytdohgmnflhjgjaa
