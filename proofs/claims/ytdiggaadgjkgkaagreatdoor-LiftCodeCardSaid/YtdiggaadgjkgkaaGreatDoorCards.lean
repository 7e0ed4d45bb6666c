/-
  DERIVED. GIVEN WITH THE SEED: THE CARDS: each row of YtdiggaadgjkgkaaGreatDoorRows.lean that lists a variable, with what it lists TIED to the program's text (the seventh form; the later family's looks); each row that meets fmt, with fmt's text TOLD by the authors' own Lean function (tested against real Go, not proved from fmt's source: count such statements apart). THE CARD IS WHAT COUNTS. Prove the row's statement (the work); the ties are given (YtdiggaadgjkgkaaGreatDoorTie.lean); close each card by the builder's one call (the guide's Derived/Test/ToyasCard.lean, 'card_holds'). Laid BY PROGRAM, IN A SANDBOX (cutbox-door.mjs). By AI agents, Wed Nov 11 2026. No macro, syntax, notation, axiom, sorry.
-/
import Derived.Test.YtdiggaadgjkgkaaGreatDoorRows
import GoSem.ClaimSeven
namespace Go.Proofs.YtdiggaadgjkgkaaGreatDoor
namespace Rows

/-- THE TIED CARD OF 'interlocklaw20.LiftCode'. -/
def liftCodeCard : Claim7 := { stood := { row := liftCodeRow, standIns := [], harness := (true, "16ec6d5af3e597b2d02472ae348e19f6ba6bb0dd4f0ef4c3e9f7d29ed8834a8e"), looks := false }, kinds := [], alts := [], laidByText := true, laidKinds := [.data], laidTests := true, laidLooks := .later }
def LiftCodeCardSaid : Prop := Claim7.holds Tryz.pinned (.plain (OpenSpec.ofChange liftCodeSpec)) liftCodeCard

/-- THE TIED CARD OF 'interlocklaw20.LiftAlone'. -/
def liftAloneCard : Claim7 := { stood := { row := liftAloneRow, standIns := [], harness := (true, "16ec6d5af3e597b2d02472ae348e19f6ba6bb0dd4f0ef4c3e9f7d29ed8834a8e"), looks := false }, kinds := [], alts := [], laidByText := true, laidKinds := [.data], laidTests := true, laidLooks := .later }
def LiftAloneCardSaid : Prop := Claim7.holds Tryz.pinned (.plain (OpenSpec.ofChange liftAloneSpec)) liftAloneCard

/-- THE SECOND FORM's CARD OF 'interlocklaw20.LiftCode'. -/
def liftCodeUptoCard : Claim7 := { stood := { row := liftCodeUptoRow, standIns := [], harness := (true, "16ec6d5af3e597b2d02472ae348e19f6ba6bb0dd4f0ef4c3e9f7d29ed8834a8e"), looks := false }, kinds := [], alts := [], laidByText := true, laidKinds := [.data], laidTests := true, laidLooks := .later }
def LiftCodeUptoCardSaid : Prop := Claim7.holds Tryz.pinned (.plain (OpenSpec.upto liftCodeSpec)) liftCodeUptoCard

/-- THE SECOND FORM's CARD OF 'interlocklaw20.LiftAlone'. -/
def liftAloneUptoCard : Claim7 := { stood := { row := liftAloneUptoRow, standIns := [], harness := (true, "16ec6d5af3e597b2d02472ae348e19f6ba6bb0dd4f0ef4c3e9f7d29ed8834a8e"), looks := false }, kinds := [], alts := [], laidByText := true, laidKinds := [.data], laidTests := true, laidLooks := .later }
def LiftAloneUptoCardSaid : Prop := Claim7.holds Tryz.pinned (.plain (OpenSpec.upto liftAloneSpec)) liftAloneUptoCard
end Rows
end Go.Proofs.YtdiggaadgjkgkaaGreatDoor
