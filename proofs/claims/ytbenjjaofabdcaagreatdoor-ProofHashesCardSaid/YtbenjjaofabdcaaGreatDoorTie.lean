/-
  DERIVED. GIVEN WITH THE SEED: THE PROGRAM's TIES (one call each: nine closed facts by the kernel) AND EACH ROW's TIE, after the 31st guide's Derived/Test/Toyas{Tie, Card}.lean. No idea stands in it: it is a product of the set-up. Laid BY PROGRAM, IN A SANDBOX (cutbox-door.mjs). By AI agents, Wed Nov 11 2026. No macro, syntax, notation, axiom, sorry.
-/
import Derived.Test.YtbenjjaofabdcaaGreatDoorRows
import Derived.LaidByTextLater
import Derived.SevenTiedAt
import Derived.LaidSub
import Derived.LaidOnce
namespace Go.Proofs.YtbenjjaofabdcaaGreatDoor
open Go
set_option maxRecDepth 100000
theorem seatTie1 : Tryz.prog.laidByTextLater [("pacioli/sha.rounds", Rows.laid_pacioli_sha_rounds), ("pacioli/sha.start", Rows.laid_pacioli_sha_start), ("pacioli/history.leafMark", Rows.laid_pacioli_history_leafMark), ("pacioli/history.nodeMark", Rows.laid_pacioli_history_nodeMark), ("pacioli/state.leafMark", Rows.laid_pacioli_state_leafMark), ("pacioli/state.forkMark", Rows.laid_pacioli_state_forkMark), ("pacioli/state.noneMark", Rows.laid_pacioli_state_noneMark), ("pacioli/digest.mark", Rows.laid_pacioli_digest_mark)] [.data, .data, .widerDeep, .widerDeep, .widerDeep, .widerDeep, .widerDeep, .widerDeep] true :=
  Program.laidByTextLater_by_one 49 8 65 (by kernel_rfl) (by kernel_rfl) (by kernel_rfl) (by kernel_rfl) (by kernel_rfl) (by kernel_rfl) (fun _ _ => by kernel_rfl)
theorem noOwnUnsafe : Tryz.pinned.checked.prog.headLifts.contains "ownunsafe" = false := by kernel_rfl
theorem tie : Tryz.prog.laidByTextLater [("pacioli/sha.rounds", Rows.laid_pacioli_sha_rounds), ("pacioli/sha.start", Rows.laid_pacioli_sha_start), ("pacioli/history.leafMark", Rows.laid_pacioli_history_leafMark), ("pacioli/history.nodeMark", Rows.laid_pacioli_history_nodeMark), ("pacioli/state.leafMark", Rows.laid_pacioli_state_leafMark), ("pacioli/state.forkMark", Rows.laid_pacioli_state_forkMark), ("pacioli/state.noneMark", Rows.laid_pacioli_state_noneMark)] [.data, .data, .widerDeep, .widerDeep, .widerDeep, .widerDeep, .widerDeep] true :=
  Program.laidByTextLater.sub seatTie1 ["pacioli/sha.rounds", "pacioli/sha.start", "pacioli/history.leafMark", "pacioli/history.nodeMark", "pacioli/state.leafMark", "pacioli/state.forkMark", "pacioli/state.noneMark"] (by kernel_rfl) (by kernel_rfl)
theorem proofHashes_row_tie : Rows.proofHashesRow.laidByTextAt .later Tryz.pinned [.data, .data, .widerDeep, .widerDeep, .widerDeep, .widerDeep, .widerDeep] true :=
  OpenClaim.laidByTextAt_later rfl rfl tie noOwnUnsafe
theorem tie2 : Tryz.prog.laidByTextLater [("pacioli/sha.rounds", Rows.laid_pacioli_sha_rounds), ("pacioli/sha.start", Rows.laid_pacioli_sha_start), ("pacioli/history.leafMark", Rows.laid_pacioli_history_leafMark), ("pacioli/history.nodeMark", Rows.laid_pacioli_history_nodeMark), ("pacioli/state.leafMark", Rows.laid_pacioli_state_leafMark), ("pacioli/state.forkMark", Rows.laid_pacioli_state_forkMark), ("pacioli/state.noneMark", Rows.laid_pacioli_state_noneMark), ("pacioli/digest.mark", Rows.laid_pacioli_digest_mark)] [.data, .data, .widerDeep, .widerDeep, .widerDeep, .widerDeep, .widerDeep, .widerDeep] true :=
  Program.laidByTextLater.sub seatTie1 ["pacioli/sha.rounds", "pacioli/sha.start", "pacioli/history.leafMark", "pacioli/history.nodeMark", "pacioli/state.leafMark", "pacioli/state.forkMark", "pacioli/state.noneMark", "pacioli/digest.mark"] (by kernel_rfl) (by kernel_rfl)
theorem clientClash_row_tie : Rows.clientClashRow.laidByTextAt .later Tryz.pinned [.data, .data, .widerDeep, .widerDeep, .widerDeep, .widerDeep, .widerDeep, .widerDeep] true :=
  OpenClaim.laidByTextAt_later rfl rfl tie2 noOwnUnsafe
theorem proofHashesUpto_row_tie : Rows.proofHashesUptoRow.laidByTextAt .later Tryz.pinned [.data, .data, .widerDeep, .widerDeep, .widerDeep, .widerDeep, .widerDeep] true :=
  OpenClaim.laidByTextAt_later rfl rfl tie noOwnUnsafe
theorem clientClashUpto_row_tie : Rows.clientClashUptoRow.laidByTextAt .later Tryz.pinned [.data, .data, .widerDeep, .widerDeep, .widerDeep, .widerDeep, .widerDeep, .widerDeep] true :=
  OpenClaim.laidByTextAt_later rfl rfl tie2 noOwnUnsafe
end Go.Proofs.YtbenjjaofabdcaaGreatDoor
