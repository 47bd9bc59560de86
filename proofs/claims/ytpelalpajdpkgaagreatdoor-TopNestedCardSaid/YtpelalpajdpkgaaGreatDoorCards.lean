/-
  DERIVED. GIVEN WITH THE SEED: THE CARDS: each row of YtpelalpajdpkgaaGreatDoorRows.lean that lists a variable, with what it lists TIED to the program's text (the seventh form; the later family's looks); each row that meets fmt, with fmt's text TOLD by the authors' own Lean function (tested against real Go, not proved from fmt's source: count such statements apart). THE CARD IS WHAT COUNTS. Prove the row's statement (the work); the ties are given (YtpelalpajdpkgaaGreatDoorTie.lean); close each card by the builder's one call (the guide's Derived/Test/ToyasCard.lean, 'card_holds'). Laid BY PROGRAM, IN A SANDBOX (cutbox-door.mjs). By AI agents, Wed Nov 11 2026. No macro, syntax, notation, axiom, sorry.
-/
import Derived.Test.YtpelalpajdpkgaaGreatDoorRows
import GoSem.ClaimSeven
namespace Go.Proofs.YtpelalpajdpkgaaGreatDoor
namespace Rows

/-- THE TIED CARD OF 'cubbyholetop.TopNested'. -/
def topNestedCard : Claim7 := { stood := { row := topNestedRow, standIns := [], harness := (true, "e4ca989a8f3ce60c7031276960c7ec00e2c6dd2f0e4480b077afb3e40735cac9"), looks := false }, kinds := [], alts := [], laidByText := true, laidKinds := [.data, .widerDeep], laidTests := true, laidLooks := .later }
def TopNestedCardSaid : Prop := Claim7.holds Tryz.pinned (.plain (OpenSpec.ofChange topNestedSpec)) topNestedCard

/-- THE SECOND FORM's CARD OF 'cubbyholetop.TopNested'. -/
def topNestedUptoCard : Claim7 := { stood := { row := topNestedUptoRow, standIns := [], harness := (true, "e4ca989a8f3ce60c7031276960c7ec00e2c6dd2f0e4480b077afb3e40735cac9"), looks := false }, kinds := [], alts := [], laidByText := true, laidKinds := [.data, .widerDeep], laidTests := true, laidLooks := .later }
def TopNestedUptoCardSaid : Prop := Claim7.holds Tryz.pinned (.plain (OpenSpec.upto topNestedSpec)) topNestedUptoCard
end Rows
end Go.Proofs.YtpelalpajdpkgaaGreatDoor
