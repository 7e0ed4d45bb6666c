/-
  DERIVED. GIVEN WITH THE SEED: THE CARDS: each row of YtdiggaadgjkgkaaDoorRows.lean that lists a variable, with what it lists TIED to the program's text (the seventh form; the later family's looks); each row that meets fmt, with fmt's text TOLD by the authors' own Lean function (tested against real Go, not proved from fmt's source: count such statements apart). THE CARD IS WHAT COUNTS. Prove the row's statement (the work); the ties are given (YtdiggaadgjkgkaaDoorTie.lean); close each card by the builder's one call (the guide's Derived/Test/ToyasCard.lean, 'card_holds'). Laid BY PROGRAM, IN A SANDBOX (cutbox-door.mjs). By AI agents, Wed Nov 11 2026. No macro, syntax, notation, axiom, sorry.
-/
import Derived.Test.YtdiggaadgjkgkaaDoorRows
import GoSem.ClaimSeven
namespace Go.Proofs.YtdiggaadgjkgkaaDoor
namespace Rows

/-- THE TIED CARD OF 'interlocklaw20.LiftKept'. -/
def liftKeptCard : Claim7 := { stood := { row := liftKeptRow, standIns := [], harness := (true, "42fda1ac1093734a197d0fc540dadc41b8094bc8423182390e89b7c5a4efec0d"), looks := false }, kinds := [], alts := [], laidByText := true, laidKinds := [.data], laidTests := true, laidLooks := .later }
def LiftKeptCardSaid : Prop := Claim7.holds Tryd.pinned (.plain (OpenSpec.ofChange liftKeptSpec)) liftKeptCard

/-- THE TIED CARD OF 'interlocklaw20.LiftOne'. -/
def liftOneCard : Claim7 := { stood := { row := liftOneRow, standIns := [], harness := (true, "42fda1ac1093734a197d0fc540dadc41b8094bc8423182390e89b7c5a4efec0d"), looks := false }, kinds := [], alts := [], laidByText := true, laidKinds := [.data], laidTests := true, laidLooks := .later }
def LiftOneCardSaid : Prop := Claim7.holds Tryd.pinned (.plain (OpenSpec.ofChange liftOneSpec)) liftOneCard

/-- THE TIED CARD OF 'interlocklaw20.LiftGoes'. -/
def liftGoesCard : Claim7 := { stood := { row := liftGoesRow, standIns := [], harness := (true, "42fda1ac1093734a197d0fc540dadc41b8094bc8423182390e89b7c5a4efec0d"), looks := false }, kinds := [], alts := [], laidByText := true, laidKinds := [.data], laidTests := true, laidLooks := .later }
def LiftGoesCardSaid : Prop := Claim7.holds Tryd.pinned (.plain (OpenSpec.ofChange liftGoesSpec)) liftGoesCard

/-- THE SECOND FORM's CARD OF 'interlocklaw20.LiftKept'. -/
def liftKeptUptoCard : Claim7 := { stood := { row := liftKeptUptoRow, standIns := [], harness := (true, "42fda1ac1093734a197d0fc540dadc41b8094bc8423182390e89b7c5a4efec0d"), looks := false }, kinds := [], alts := [], laidByText := true, laidKinds := [.data], laidTests := true, laidLooks := .later }
def LiftKeptUptoCardSaid : Prop := Claim7.holds Tryd.pinned (.plain (OpenSpec.upto liftKeptSpec)) liftKeptUptoCard

/-- THE SECOND FORM's CARD OF 'interlocklaw20.LiftOne'. -/
def liftOneUptoCard : Claim7 := { stood := { row := liftOneUptoRow, standIns := [], harness := (true, "42fda1ac1093734a197d0fc540dadc41b8094bc8423182390e89b7c5a4efec0d"), looks := false }, kinds := [], alts := [], laidByText := true, laidKinds := [.data], laidTests := true, laidLooks := .later }
def LiftOneUptoCardSaid : Prop := Claim7.holds Tryd.pinned (.plain (OpenSpec.upto liftOneSpec)) liftOneUptoCard

/-- THE SECOND FORM's CARD OF 'interlocklaw20.LiftGoes'. -/
def liftGoesUptoCard : Claim7 := { stood := { row := liftGoesUptoRow, standIns := [], harness := (true, "42fda1ac1093734a197d0fc540dadc41b8094bc8423182390e89b7c5a4efec0d"), looks := false }, kinds := [], alts := [], laidByText := true, laidKinds := [.data], laidTests := true, laidLooks := .later }
def LiftGoesUptoCardSaid : Prop := Claim7.holds Tryd.pinned (.plain (OpenSpec.upto liftGoesSpec)) liftGoesUptoCard
end Rows
end Go.Proofs.YtdiggaadgjkgkaaDoor
