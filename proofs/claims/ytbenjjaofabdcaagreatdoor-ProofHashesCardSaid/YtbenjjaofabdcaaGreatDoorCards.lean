/-
  DERIVED. GIVEN WITH THE SEED: THE CARDS: each row of YtbenjjaofabdcaaGreatDoorRows.lean that lists a variable, with what it lists TIED to the program's text (the seventh form; the later family's looks); each row that meets fmt, with fmt's text TOLD by the authors' own Lean function (tested against real Go, not proved from fmt's source: count such statements apart). THE CARD IS WHAT COUNTS. Prove the row's statement (the work); the ties are given (YtbenjjaofabdcaaGreatDoorTie.lean); close each card by the builder's one call (the guide's Derived/Test/ToyasCard.lean, 'card_holds'). Laid BY PROGRAM, IN A SANDBOX (cutbox-door.mjs). By AI agents, Wed Nov 11 2026. No macro, syntax, notation, axiom, sorry.
-/
import Derived.Test.YtbenjjaofabdcaaGreatDoorRows
import GoSem.ClaimSeven
namespace Go.Proofs.YtbenjjaofabdcaaGreatDoor
namespace Rows

/-- THE TIED CARD OF 'paciolilaw13.ProofHashes'. -/
def proofHashesCard : Claim7 := { stood := { row := proofHashesRow, standIns := [], harness := (true, "d859fe80d42964deaee6557939d4bea3f281a6f9247a8d12e994d09fd77d704b"), looks := false }, kinds := [], alts := [], laidByText := true, laidKinds := [.data, .data, .widerDeep, .widerDeep, .widerDeep, .widerDeep, .widerDeep], laidTests := true, laidLooks := .later }
def ProofHashesCardSaid : Prop := Claim7.holds Tryz.pinned (.plain (OpenSpec.ofChange proofHashesSpec)) proofHashesCard

/-- THE TIED CARD OF 'paciolilaw14.ClientClash'. -/
def clientClashCard : Claim7 := { stood := { row := clientClashRow, standIns := [], harness := (true, "d859fe80d42964deaee6557939d4bea3f281a6f9247a8d12e994d09fd77d704b"), looks := false }, kinds := [], alts := [], laidByText := true, laidKinds := [.data, .data, .widerDeep, .widerDeep, .widerDeep, .widerDeep, .widerDeep, .widerDeep], laidTests := true, laidLooks := .later }
def ClientClashCardSaid : Prop := Claim7.holds Tryz.pinned (.plain (OpenSpec.ofChange clientClashSpec)) clientClashCard

/-- THE SECOND FORM's CARD OF 'paciolilaw13.ProofHashes'. -/
def proofHashesUptoCard : Claim7 := { stood := { row := proofHashesUptoRow, standIns := [], harness := (true, "d859fe80d42964deaee6557939d4bea3f281a6f9247a8d12e994d09fd77d704b"), looks := false }, kinds := [], alts := [], laidByText := true, laidKinds := [.data, .data, .widerDeep, .widerDeep, .widerDeep, .widerDeep, .widerDeep], laidTests := true, laidLooks := .later }
def ProofHashesUptoCardSaid : Prop := Claim7.holds Tryz.pinned (.plain (OpenSpec.upto proofHashesSpec)) proofHashesUptoCard

/-- THE SECOND FORM's CARD OF 'paciolilaw14.ClientClash'. -/
def clientClashUptoCard : Claim7 := { stood := { row := clientClashUptoRow, standIns := [], harness := (true, "d859fe80d42964deaee6557939d4bea3f281a6f9247a8d12e994d09fd77d704b"), looks := false }, kinds := [], alts := [], laidByText := true, laidKinds := [.data, .data, .widerDeep, .widerDeep, .widerDeep, .widerDeep, .widerDeep, .widerDeep], laidTests := true, laidLooks := .later }
def ClientClashUptoCardSaid : Prop := Claim7.holds Tryz.pinned (.plain (OpenSpec.upto clientClashSpec)) clientClashUptoCard
end Rows
end Go.Proofs.YtbenjjaofabdcaaGreatDoor
