/-
  DERIVED. GIVEN WITH THE SEED: THE CARDS: each row of YthpombmecbgchaaDoorRows.lean that lists a variable, with what it lists TIED to the program's text (the seventh form; the later family's looks); each row that meets fmt, with fmt's text TOLD by the authors' own Lean function (tested against real Go, not proved from fmt's source: count such statements apart). THE CARD IS WHAT COUNTS. Prove the row's statement (the work); the ties are given (YthpombmecbgchaaDoorTie.lean); close each card by the builder's one call (the guide's Derived/Test/ToyasCard.lean, 'card_holds'). Laid BY PROGRAM, IN A SANDBOX (cutbox-door.mjs). By AI agents, Wed Nov 11 2026. No macro, syntax, notation, axiom, sorry.
-/
import Derived.Test.YthpombmecbgchaaDoorRows
import GoSem.ClaimSeven
namespace Go.Proofs.YthpombmecbgchaaDoor
namespace Rows

/-- THE TIED CARD OF 'interlocklaw17.LoadsKept'. -/
def loadsKeptCard : Claim7 := { stood := { row := loadsKeptRow, standIns := [], harness := (true, "43c9d07e7bcc4ad3a007667fc0183f1c87a95346a3d0f787997da71e55551edb"), looks := false }, kinds := [], alts := [], laidByText := true, laidKinds := [.data], laidTests := true, laidLooks := .later }
def LoadsKeptCardSaid : Prop := Claim7.holds Tryd.pinned (.plain (OpenSpec.ofChange loadsKeptSpec)) loadsKeptCard

/-- THE TIED CARD OF 'interlocklaw17.LoadsOnly'. -/
def loadsOnlyCard : Claim7 := { stood := { row := loadsOnlyRow, standIns := [], harness := (true, "43c9d07e7bcc4ad3a007667fc0183f1c87a95346a3d0f787997da71e55551edb"), looks := false }, kinds := [], alts := [], laidByText := true, laidKinds := [.data], laidTests := true, laidLooks := .later }
def LoadsOnlyCardSaid : Prop := Claim7.holds Tryd.pinned (.plain (OpenSpec.ofChange loadsOnlySpec)) loadsOnlyCard

/-- THE TIED CARD OF 'interlocklaw17.LoadsChain'. -/
def loadsChainCard : Claim7 := { stood := { row := loadsChainRow, standIns := [], harness := (true, "43c9d07e7bcc4ad3a007667fc0183f1c87a95346a3d0f787997da71e55551edb"), looks := false }, kinds := [], alts := [], laidByText := true, laidKinds := [.data], laidTests := true, laidLooks := .later }
def LoadsChainCardSaid : Prop := Claim7.holds Tryd.pinned (.plain (OpenSpec.ofChange loadsChainSpec)) loadsChainCard

/-- THE TIED CARD OF 'interlocklaw20.LiftKept'. -/
def liftKeptCard : Claim7 := { stood := { row := liftKeptRow, standIns := [], harness := (true, "43c9d07e7bcc4ad3a007667fc0183f1c87a95346a3d0f787997da71e55551edb"), looks := false }, kinds := [], alts := [], laidByText := true, laidKinds := [.data], laidTests := true, laidLooks := .later }
def LiftKeptCardSaid : Prop := Claim7.holds Tryd.pinned (.plain (OpenSpec.ofChange liftKeptSpec)) liftKeptCard

/-- THE TIED CARD OF 'interlocklaw20.LiftOne'. -/
def liftOneCard : Claim7 := { stood := { row := liftOneRow, standIns := [], harness := (true, "43c9d07e7bcc4ad3a007667fc0183f1c87a95346a3d0f787997da71e55551edb"), looks := false }, kinds := [], alts := [], laidByText := true, laidKinds := [.data], laidTests := true, laidLooks := .later }
def LiftOneCardSaid : Prop := Claim7.holds Tryd.pinned (.plain (OpenSpec.ofChange liftOneSpec)) liftOneCard

/-- THE TIED CARD OF 'interlocklaw20.LiftGoes'. -/
def liftGoesCard : Claim7 := { stood := { row := liftGoesRow, standIns := [], harness := (true, "43c9d07e7bcc4ad3a007667fc0183f1c87a95346a3d0f787997da71e55551edb"), looks := false }, kinds := [], alts := [], laidByText := true, laidKinds := [.data], laidTests := true, laidLooks := .later }
def LiftGoesCardSaid : Prop := Claim7.holds Tryd.pinned (.plain (OpenSpec.ofChange liftGoesSpec)) liftGoesCard

/-- THE SECOND FORM's CARD OF 'interlocklaw17.LoadsKept'. -/
def loadsKeptUptoCard : Claim7 := { stood := { row := loadsKeptUptoRow, standIns := [], harness := (true, "43c9d07e7bcc4ad3a007667fc0183f1c87a95346a3d0f787997da71e55551edb"), looks := false }, kinds := [], alts := [], laidByText := true, laidKinds := [.data], laidTests := true, laidLooks := .later }
def LoadsKeptUptoCardSaid : Prop := Claim7.holds Tryd.pinned (.plain (OpenSpec.upto loadsKeptSpec)) loadsKeptUptoCard

/-- THE SECOND FORM's CARD OF 'interlocklaw17.LoadsOnly'. -/
def loadsOnlyUptoCard : Claim7 := { stood := { row := loadsOnlyUptoRow, standIns := [], harness := (true, "43c9d07e7bcc4ad3a007667fc0183f1c87a95346a3d0f787997da71e55551edb"), looks := false }, kinds := [], alts := [], laidByText := true, laidKinds := [.data], laidTests := true, laidLooks := .later }
def LoadsOnlyUptoCardSaid : Prop := Claim7.holds Tryd.pinned (.plain (OpenSpec.upto loadsOnlySpec)) loadsOnlyUptoCard

/-- THE SECOND FORM's CARD OF 'interlocklaw17.LoadsChain'. -/
def loadsChainUptoCard : Claim7 := { stood := { row := loadsChainUptoRow, standIns := [], harness := (true, "43c9d07e7bcc4ad3a007667fc0183f1c87a95346a3d0f787997da71e55551edb"), looks := false }, kinds := [], alts := [], laidByText := true, laidKinds := [.data], laidTests := true, laidLooks := .later }
def LoadsChainUptoCardSaid : Prop := Claim7.holds Tryd.pinned (.plain (OpenSpec.upto loadsChainSpec)) loadsChainUptoCard

/-- THE SECOND FORM's CARD OF 'interlocklaw20.LiftKept'. -/
def liftKeptUptoCard : Claim7 := { stood := { row := liftKeptUptoRow, standIns := [], harness := (true, "43c9d07e7bcc4ad3a007667fc0183f1c87a95346a3d0f787997da71e55551edb"), looks := false }, kinds := [], alts := [], laidByText := true, laidKinds := [.data], laidTests := true, laidLooks := .later }
def LiftKeptUptoCardSaid : Prop := Claim7.holds Tryd.pinned (.plain (OpenSpec.upto liftKeptSpec)) liftKeptUptoCard

/-- THE SECOND FORM's CARD OF 'interlocklaw20.LiftOne'. -/
def liftOneUptoCard : Claim7 := { stood := { row := liftOneUptoRow, standIns := [], harness := (true, "43c9d07e7bcc4ad3a007667fc0183f1c87a95346a3d0f787997da71e55551edb"), looks := false }, kinds := [], alts := [], laidByText := true, laidKinds := [.data], laidTests := true, laidLooks := .later }
def LiftOneUptoCardSaid : Prop := Claim7.holds Tryd.pinned (.plain (OpenSpec.upto liftOneSpec)) liftOneUptoCard

/-- THE SECOND FORM's CARD OF 'interlocklaw20.LiftGoes'. -/
def liftGoesUptoCard : Claim7 := { stood := { row := liftGoesUptoRow, standIns := [], harness := (true, "43c9d07e7bcc4ad3a007667fc0183f1c87a95346a3d0f787997da71e55551edb"), looks := false }, kinds := [], alts := [], laidByText := true, laidKinds := [.data], laidTests := true, laidLooks := .later }
def LiftGoesUptoCardSaid : Prop := Claim7.holds Tryd.pinned (.plain (OpenSpec.upto liftGoesSpec)) liftGoesUptoCard
end Rows
end Go.Proofs.YthpombmecbgchaaDoor
