/-
  DERIVED. GIVEN WITH THE SEED: THE PROGRAM's TIES (one call each: nine closed facts by the kernel) AND EACH ROW's TIE, after the 31st guide's Derived/Test/Toyas{Tie, Card}.lean. No idea stands in it: it is a product of the set-up. Laid BY PROGRAM, IN A SANDBOX (cutbox-door.mjs). By AI agents, Wed Nov 11 2026. No macro, syntax, notation, axiom, sorry.
-/
import Derived.Test.YtbjofbhhnmehgaaGreatDoorRows
import Derived.LaidByTextLater
import Derived.SevenTiedAt
import Derived.LaidSub
import Derived.LaidOnce
namespace Go.Proofs.YtbjofbhhnmehgaaGreatDoor
open Go
set_option maxRecDepth 100000
theorem seatTie1 : Tryz.prog.laidByTextLater [("halyard/octet.table", Rows.laid_halyard_octet_table), ("halyard/seglog.generation", Rows.laid_halyard_seglog_generation), ("halyard/seglog.headEpoch", Rows.laid_halyard_seglog_headEpoch), ("halyard/seglog.firstField", Rows.laid_halyard_seglog_firstField), ("halyard/seglog.leastField", Rows.laid_halyard_seglog_leastField), ("halyard/seglog.sizeField", Rows.laid_halyard_seglog_sizeField), ("halyard/seglog.number", Rows.laid_halyard_seglog_number), ("halyard/seglog.pieceEpoch", Rows.laid_halyard_seglog_pieceEpoch), ("halyard/seglog.bytesField", Rows.laid_halyard_seglog_bytesField), ("halyard/seglog.index", Rows.laid_halyard_seglog_index)] [.data, .wider, .wider, .wider, .wider, .wider, .wider, .wider, .wider, .wider] true :=
  Program.laidByTextLater_by_one 59 8 17 (by kernel_rfl) (by kernel_rfl) (by kernel_rfl) (by kernel_rfl) (by kernel_rfl) (by kernel_rfl) (fun _ _ => by kernel_rfl)
theorem noOwnUnsafe : Tryz.pinned.checked.prog.headLifts.contains "ownunsafe" = false := by kernel_rfl
theorem tie : Tryz.prog.laidByTextLater [("halyard/octet.table", Rows.laid_halyard_octet_table), ("halyard/seglog.generation", Rows.laid_halyard_seglog_generation), ("halyard/seglog.headEpoch", Rows.laid_halyard_seglog_headEpoch), ("halyard/seglog.firstField", Rows.laid_halyard_seglog_firstField), ("halyard/seglog.leastField", Rows.laid_halyard_seglog_leastField), ("halyard/seglog.sizeField", Rows.laid_halyard_seglog_sizeField), ("halyard/seglog.number", Rows.laid_halyard_seglog_number), ("halyard/seglog.pieceEpoch", Rows.laid_halyard_seglog_pieceEpoch), ("halyard/seglog.bytesField", Rows.laid_halyard_seglog_bytesField), ("halyard/seglog.index", Rows.laid_halyard_seglog_index)] [.data, .wider, .wider, .wider, .wider, .wider, .wider, .wider, .wider, .wider] true :=
  Program.laidByTextLater.sub seatTie1 ["halyard/octet.table", "halyard/seglog.generation", "halyard/seglog.headEpoch", "halyard/seglog.firstField", "halyard/seglog.leastField", "halyard/seglog.sizeField", "halyard/seglog.number", "halyard/seglog.pieceEpoch", "halyard/seglog.bytesField", "halyard/seglog.index"] (by kernel_rfl) (by kernel_rfl)
theorem tableNames_row_tie : Rows.tableNamesRow.laidByTextAt .later Tryz.pinned [.data, .wider, .wider, .wider, .wider, .wider, .wider, .wider, .wider, .wider] true :=
  OpenClaim.laidByTextAt_later rfl rfl tie noOwnUnsafe
theorem tableApart_row_tie : Rows.tableApartRow.laidByTextAt .later Tryz.pinned [.data, .wider, .wider, .wider, .wider, .wider, .wider, .wider, .wider, .wider] true :=
  OpenClaim.laidByTextAt_later rfl rfl tie noOwnUnsafe
theorem tableRoom_row_tie : Rows.tableRoomRow.laidByTextAt .later Tryz.pinned [.data, .wider, .wider, .wider, .wider, .wider, .wider, .wider, .wider, .wider] true :=
  OpenClaim.laidByTextAt_later rfl rfl tie noOwnUnsafe
theorem tableWalks_row_tie : Rows.tableWalksRow.laidByTextAt .later Tryz.pinned [.data, .wider, .wider, .wider, .wider, .wider, .wider, .wider, .wider, .wider] true :=
  OpenClaim.laidByTextAt_later rfl rfl tie noOwnUnsafe
theorem tableSame_row_tie : Rows.tableSameRow.laidByTextAt .later Tryz.pinned [.data, .wider, .wider, .wider, .wider, .wider, .wider, .wider, .wider, .wider] true :=
  OpenClaim.laidByTextAt_later rfl rfl tie noOwnUnsafe
theorem tableOwn_row_tie : Rows.tableOwnRow.laidByTextAt .later Tryz.pinned [.data, .wider, .wider, .wider, .wider, .wider, .wider, .wider, .wider, .wider] true :=
  OpenClaim.laidByTextAt_later rfl rfl tie noOwnUnsafe
theorem tableNil_row_tie : Rows.tableNilRow.laidByTextAt .later Tryz.pinned [.data, .wider, .wider, .wider, .wider, .wider, .wider, .wider, .wider, .wider] true :=
  OpenClaim.laidByTextAt_later rfl rfl tie noOwnUnsafe
theorem tableWhole_row_tie : Rows.tableWholeRow.laidByTextAt .later Tryz.pinned [.data, .wider, .wider, .wider, .wider, .wider, .wider, .wider, .wider, .wider] true :=
  OpenClaim.laidByTextAt_later rfl rfl tie noOwnUnsafe
theorem tableBroken_row_tie : Rows.tableBrokenRow.laidByTextAt .later Tryz.pinned [.data, .wider, .wider, .wider, .wider, .wider, .wider, .wider, .wider, .wider] true :=
  OpenClaim.laidByTextAt_later rfl rfl tie noOwnUnsafe
theorem tableNamesUpto_row_tie : Rows.tableNamesUptoRow.laidByTextAt .later Tryz.pinned [.data, .wider, .wider, .wider, .wider, .wider, .wider, .wider, .wider, .wider] true :=
  OpenClaim.laidByTextAt_later rfl rfl tie noOwnUnsafe
theorem tableApartUpto_row_tie : Rows.tableApartUptoRow.laidByTextAt .later Tryz.pinned [.data, .wider, .wider, .wider, .wider, .wider, .wider, .wider, .wider, .wider] true :=
  OpenClaim.laidByTextAt_later rfl rfl tie noOwnUnsafe
theorem tableRoomUpto_row_tie : Rows.tableRoomUptoRow.laidByTextAt .later Tryz.pinned [.data, .wider, .wider, .wider, .wider, .wider, .wider, .wider, .wider, .wider] true :=
  OpenClaim.laidByTextAt_later rfl rfl tie noOwnUnsafe
theorem tableWalksUpto_row_tie : Rows.tableWalksUptoRow.laidByTextAt .later Tryz.pinned [.data, .wider, .wider, .wider, .wider, .wider, .wider, .wider, .wider, .wider] true :=
  OpenClaim.laidByTextAt_later rfl rfl tie noOwnUnsafe
theorem tableSameUpto_row_tie : Rows.tableSameUptoRow.laidByTextAt .later Tryz.pinned [.data, .wider, .wider, .wider, .wider, .wider, .wider, .wider, .wider, .wider] true :=
  OpenClaim.laidByTextAt_later rfl rfl tie noOwnUnsafe
theorem tableOwnUpto_row_tie : Rows.tableOwnUptoRow.laidByTextAt .later Tryz.pinned [.data, .wider, .wider, .wider, .wider, .wider, .wider, .wider, .wider, .wider] true :=
  OpenClaim.laidByTextAt_later rfl rfl tie noOwnUnsafe
theorem tableNilUpto_row_tie : Rows.tableNilUptoRow.laidByTextAt .later Tryz.pinned [.data, .wider, .wider, .wider, .wider, .wider, .wider, .wider, .wider, .wider] true :=
  OpenClaim.laidByTextAt_later rfl rfl tie noOwnUnsafe
theorem tableWholeUpto_row_tie : Rows.tableWholeUptoRow.laidByTextAt .later Tryz.pinned [.data, .wider, .wider, .wider, .wider, .wider, .wider, .wider, .wider, .wider] true :=
  OpenClaim.laidByTextAt_later rfl rfl tie noOwnUnsafe
theorem tableBrokenUpto_row_tie : Rows.tableBrokenUptoRow.laidByTextAt .later Tryz.pinned [.data, .wider, .wider, .wider, .wider, .wider, .wider, .wider, .wider, .wider] true :=
  OpenClaim.laidByTextAt_later rfl rfl tie noOwnUnsafe
end Go.Proofs.YtbjofbhhnmehgaaGreatDoor
