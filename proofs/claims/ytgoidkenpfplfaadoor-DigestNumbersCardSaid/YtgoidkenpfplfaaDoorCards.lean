/-
  DERIVED. GIVEN WITH THE SEED: THE CARDS: each row of YtgoidkenpfplfaaDoorRows.lean that lists a variable, with what it lists TIED to the program's text (the seventh form; the later family's looks); each row that meets fmt, with fmt's text TOLD by the authors' own Lean function (tested against real Go, not proved from fmt's source: count such statements apart). THE CARD IS WHAT COUNTS. Prove the row's statement (the work); the ties are given (YtgoidkenpfplfaaDoorTie.lean); close each card by the builder's one call (the guide's Derived/Test/ToyasCard.lean, 'card_holds'). Laid BY PROGRAM, IN A SANDBOX (cutbox-door.mjs). By AI agents, Wed Nov 11 2026. No macro, syntax, notation, axiom, sorry.
-/
import Derived.Test.YtgoidkenpfplfaaDoorRows
import GoSem.ClaimSeven
namespace Go.Proofs.YtgoidkenpfplfaaDoor
namespace Rows

/-- THE TIED CARD OF 'paciolilaw12.DigestNumbers'. -/
def digestNumbersCard : Claim7 := { stood := { row := digestNumbersRow, standIns := [], harness := (true, "a87d138593e58d7f145cedd53c348e456e06c5b1682bc87ad3ff24656547f9d4"), looks := false }, kinds := [], alts := [], laidByText := true, laidKinds := [.data, .data, .widerDeep, .widerDeep, .widerDeep, .widerDeep, .widerDeep], laidTests := true, laidLooks := .later }
def DigestNumbersCardSaid : Prop := Claim7.holds Tryd.pinned (.plain (OpenSpec.ofChange digestNumbersSpec)) digestNumbersCard

/-- THE TIED CARD OF 'paciolilaw12.DigestChains'. -/
def digestChainsCard : Claim7 := { stood := { row := digestChainsRow, standIns := [], harness := (true, "a87d138593e58d7f145cedd53c348e456e06c5b1682bc87ad3ff24656547f9d4"), looks := false }, kinds := [], alts := [], laidByText := true, laidKinds := [.data, .data, .widerDeep, .widerDeep, .widerDeep, .widerDeep, .widerDeep, .widerDeep], laidTests := true, laidLooks := .later }
def DigestChainsCardSaid : Prop := Claim7.holds Tryd.pinned (.plain (OpenSpec.ofChange digestChainsSpec)) digestChainsCard

/-- THE TIED CARD OF 'paciolilaw12.DigestUnlike'. -/
def digestUnlikeCard : Claim7 := { stood := { row := digestUnlikeRow, standIns := [], harness := (true, "a87d138593e58d7f145cedd53c348e456e06c5b1682bc87ad3ff24656547f9d4"), looks := false }, kinds := [], alts := [], laidByText := true, laidKinds := [.data, .data, .widerDeep, .widerDeep, .widerDeep, .widerDeep, .widerDeep, .widerDeep], laidTests := true, laidLooks := .later }
def DigestUnlikeCardSaid : Prop := Claim7.holds Tryd.pinned (.plain (OpenSpec.ofChange digestUnlikeSpec)) digestUnlikeCard

/-- THE TIED CARD OF 'paciolilaw12.DigestKeeps'. -/
def digestKeepsCard : Claim7 := { stood := { row := digestKeepsRow, standIns := [], harness := (true, "a87d138593e58d7f145cedd53c348e456e06c5b1682bc87ad3ff24656547f9d4"), looks := false }, kinds := [], alts := [], laidByText := true, laidKinds := [.data, .data, .widerDeep, .widerDeep, .widerDeep, .widerDeep, .widerDeep, .widerDeep], laidTests := true, laidLooks := .later }
def DigestKeepsCardSaid : Prop := Claim7.holds Tryd.pinned (.plain (OpenSpec.ofChange digestKeepsSpec)) digestKeepsCard

/-- THE TIED CARD OF 'paciolilaw12.DigestTapes'. -/
def digestTapesCard : Claim7 := { stood := { row := digestTapesRow, standIns := [], harness := (true, "a87d138593e58d7f145cedd53c348e456e06c5b1682bc87ad3ff24656547f9d4"), looks := false }, kinds := [], alts := [], laidByText := true, laidKinds := [.data, .data, .widerDeep, .widerDeep, .widerDeep, .widerDeep, .widerDeep, .widerDeep], laidTests := true, laidLooks := .later }
def DigestTapesCardSaid : Prop := Claim7.holds Tryd.pinned (.plain (OpenSpec.ofChange digestTapesSpec)) digestTapesCard

/-- THE SECOND FORM's CARD OF 'paciolilaw12.DigestNumbers'. -/
def digestNumbersUptoCard : Claim7 := { stood := { row := digestNumbersUptoRow, standIns := [], harness := (true, "a87d138593e58d7f145cedd53c348e456e06c5b1682bc87ad3ff24656547f9d4"), looks := false }, kinds := [], alts := [], laidByText := true, laidKinds := [.data, .data, .widerDeep, .widerDeep, .widerDeep, .widerDeep, .widerDeep], laidTests := true, laidLooks := .later }
def DigestNumbersUptoCardSaid : Prop := Claim7.holds Tryd.pinned (.plain (OpenSpec.upto digestNumbersSpec)) digestNumbersUptoCard

/-- THE SECOND FORM's CARD OF 'paciolilaw12.DigestChains'. -/
def digestChainsUptoCard : Claim7 := { stood := { row := digestChainsUptoRow, standIns := [], harness := (true, "a87d138593e58d7f145cedd53c348e456e06c5b1682bc87ad3ff24656547f9d4"), looks := false }, kinds := [], alts := [], laidByText := true, laidKinds := [.data, .data, .widerDeep, .widerDeep, .widerDeep, .widerDeep, .widerDeep, .widerDeep], laidTests := true, laidLooks := .later }
def DigestChainsUptoCardSaid : Prop := Claim7.holds Tryd.pinned (.plain (OpenSpec.upto digestChainsSpec)) digestChainsUptoCard

/-- THE SECOND FORM's CARD OF 'paciolilaw12.DigestUnlike'. -/
def digestUnlikeUptoCard : Claim7 := { stood := { row := digestUnlikeUptoRow, standIns := [], harness := (true, "a87d138593e58d7f145cedd53c348e456e06c5b1682bc87ad3ff24656547f9d4"), looks := false }, kinds := [], alts := [], laidByText := true, laidKinds := [.data, .data, .widerDeep, .widerDeep, .widerDeep, .widerDeep, .widerDeep, .widerDeep], laidTests := true, laidLooks := .later }
def DigestUnlikeUptoCardSaid : Prop := Claim7.holds Tryd.pinned (.plain (OpenSpec.upto digestUnlikeSpec)) digestUnlikeUptoCard

/-- THE SECOND FORM's CARD OF 'paciolilaw12.DigestKeeps'. -/
def digestKeepsUptoCard : Claim7 := { stood := { row := digestKeepsUptoRow, standIns := [], harness := (true, "a87d138593e58d7f145cedd53c348e456e06c5b1682bc87ad3ff24656547f9d4"), looks := false }, kinds := [], alts := [], laidByText := true, laidKinds := [.data, .data, .widerDeep, .widerDeep, .widerDeep, .widerDeep, .widerDeep, .widerDeep], laidTests := true, laidLooks := .later }
def DigestKeepsUptoCardSaid : Prop := Claim7.holds Tryd.pinned (.plain (OpenSpec.upto digestKeepsSpec)) digestKeepsUptoCard

/-- THE SECOND FORM's CARD OF 'paciolilaw12.DigestTapes'. -/
def digestTapesUptoCard : Claim7 := { stood := { row := digestTapesUptoRow, standIns := [], harness := (true, "a87d138593e58d7f145cedd53c348e456e06c5b1682bc87ad3ff24656547f9d4"), looks := false }, kinds := [], alts := [], laidByText := true, laidKinds := [.data, .data, .widerDeep, .widerDeep, .widerDeep, .widerDeep, .widerDeep, .widerDeep], laidTests := true, laidLooks := .later }
def DigestTapesUptoCardSaid : Prop := Claim7.holds Tryd.pinned (.plain (OpenSpec.upto digestTapesSpec)) digestTapesUptoCard
end Rows
end Go.Proofs.YtgoidkenpfplfaaDoor
