/-
  DERIVED. GIVEN WITH THE SEED: THE CARDS: each row of YtbnkomlknlpmmaaGreatDoorRows.lean that lists a variable, with what it lists TIED to the program's text (the seventh form; the later family's looks); each row that meets fmt, with fmt's text TOLD by the authors' own Lean function (tested against real Go, not proved from fmt's source: count such statements apart). THE CARD IS WHAT COUNTS. Prove the row's statement (the work); the ties are given (YtbnkomlknlpmmaaGreatDoorTie.lean); close each card by the builder's one call (the guide's Derived/Test/ToyasCard.lean, 'card_holds'). Laid BY PROGRAM, IN A SANDBOX (cutbox-door.mjs). By AI agents, Wed Nov 11 2026. No macro, syntax, notation, axiom, sorry.
-/
import Derived.Test.YtbnkomlknlpmmaaGreatDoorRows
import GoSem.ClaimSeven
namespace Go.Proofs.YtbnkomlknlpmmaaGreatDoor
namespace Rows

/-- THE TIED CARD OF 'jobberlaw29.SpecNobody'. -/
def specNobodyCard : Claim7 := { stood := { row := specNobodyRow, standIns := [], harness := (true, "631f9859bcb78eec2b6ac8ff17b857a643b56f8a86047b71d0f8664f3e298e9e"), looks := true }, kinds := [], alts := [], laidByText := true, laidKinds := [.handle], laidTests := true, laidLooks := .later }
def SpecNobodyCardSaid : Prop := Claim7.holds Tryz.pinned (.plain (OpenSpec.ofChange specNobodySpec)) specNobodyCard

/-- THE SECOND FORM's CARD OF 'jobberlaw29.SpecNobody'. -/
def specNobodyUptoCard : Claim7 := { stood := { row := specNobodyUptoRow, standIns := [], harness := (true, "631f9859bcb78eec2b6ac8ff17b857a643b56f8a86047b71d0f8664f3e298e9e"), looks := true }, kinds := [], alts := [], laidByText := true, laidKinds := [.handle], laidTests := true, laidLooks := .later }
def SpecNobodyUptoCardSaid : Prop := Claim7.holds Tryz.pinned (.plain (OpenSpec.upto specNobodySpec)) specNobodyUptoCard
end Rows
end Go.Proofs.YtbnkomlknlpmmaaGreatDoor
