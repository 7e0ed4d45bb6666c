/-
  DERIVED. GIVEN WITH THE SEED: THE CARDS: each row of YtmdnkninbkcmkaaDoorRows.lean that lists a variable, with what it lists TIED to the program's text (the seventh form; the later family's looks); each row that meets fmt, with fmt's text TOLD by the authors' own Lean function (tested against real Go, not proved from fmt's source: count such statements apart). THE CARD IS WHAT COUNTS. Prove the row's statement (the work); the ties are given (YtmdnkninbkcmkaaDoorTie.lean); close each card by the builder's one call (the guide's Derived/Test/ToyasCard.lean, 'card_holds'). Laid BY PROGRAM, IN A SANDBOX (cutbox-door.mjs). By AI agents, Wed Nov 11 2026. No macro, syntax, notation, axiom, sorry.
-/
import Derived.Test.YtmdnkninbkcmkaaDoorRows
import GoSem.ClaimSeven
namespace Go.Proofs.YtmdnkninbkcmkaaDoor
namespace Rows

/-- THE TIED CARD OF 'interlocklaw17.LoadsRuns'. -/
def loadsRunsCard : Claim7 := { stood := { row := loadsRunsRow, standIns := [], harness := (true, "c6890b9e62554d2a912eab3654b7dfde52ec70f444cc5894b5d955906b943e53"), looks := false }, kinds := [], alts := [], laidByText := true, laidKinds := [.data], laidTests := true, laidLooks := .later }
def LoadsRunsCardSaid : Prop := Claim7.holds Tryd.pinned (.plain (OpenSpec.ofChange loadsRunsSpec)) loadsRunsCard

/-- THE TIED CARD OF 'interlocklaw17.LoadsRaces'. -/
def loadsRacesCard : Claim7 := { stood := { row := loadsRacesRow, standIns := [], harness := (true, "c6890b9e62554d2a912eab3654b7dfde52ec70f444cc5894b5d955906b943e53"), looks := false }, kinds := [], alts := [], laidByText := true, laidKinds := [.data], laidTests := true, laidLooks := .later }
def LoadsRacesCardSaid : Prop := Claim7.holds Tryd.pinned (.plain (OpenSpec.ofChange loadsRacesSpec)) loadsRacesCard

/-- THE SECOND FORM's CARD OF 'interlocklaw17.LoadsRuns'. -/
def loadsRunsUptoCard : Claim7 := { stood := { row := loadsRunsUptoRow, standIns := [], harness := (true, "c6890b9e62554d2a912eab3654b7dfde52ec70f444cc5894b5d955906b943e53"), looks := false }, kinds := [], alts := [], laidByText := true, laidKinds := [.data], laidTests := true, laidLooks := .later }
def LoadsRunsUptoCardSaid : Prop := Claim7.holds Tryd.pinned (.plain (OpenSpec.upto loadsRunsSpec)) loadsRunsUptoCard

/-- THE SECOND FORM's CARD OF 'interlocklaw17.LoadsRaces'. -/
def loadsRacesUptoCard : Claim7 := { stood := { row := loadsRacesUptoRow, standIns := [], harness := (true, "c6890b9e62554d2a912eab3654b7dfde52ec70f444cc5894b5d955906b943e53"), looks := false }, kinds := [], alts := [], laidByText := true, laidKinds := [.data], laidTests := true, laidLooks := .later }
def LoadsRacesUptoCardSaid : Prop := Claim7.holds Tryd.pinned (.plain (OpenSpec.upto loadsRacesSpec)) loadsRacesUptoCard
end Rows
end Go.Proofs.YtmdnkninbkcmkaaDoor
