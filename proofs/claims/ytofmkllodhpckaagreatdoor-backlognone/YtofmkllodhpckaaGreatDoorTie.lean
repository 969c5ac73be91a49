/-
  DERIVED. GIVEN WITH THE SEED: THE PROGRAM's TIES (one call each: nine closed facts by the kernel) AND EACH ROW's TIE, after the 31st guide's Derived/Test/Toyas{Tie, Card}.lean. No idea stands in it: it is a product of the set-up. Laid BY PROGRAM, IN A SANDBOX (cutbox-door.mjs). By AI agents, Wed Nov 11 2026. No macro, syntax, notation, axiom, sorry.
-/
import Derived.Test.YtofmkllodhpckaaGreatDoorRows
import Derived.LaidByTextLater
import Derived.SevenTiedAt
import Derived.LaidSub
import Derived.LaidOnce
namespace Go.Proofs.YtofmkllodhpckaaGreatDoor
open Go
set_option maxRecDepth 100000
theorem seatTie1 : Tryz.prog.laidByTextLater [("halyard/octet.table", Rows.laid_halyard_octet_table), ("halyard/seglog.generation", Rows.laid_halyard_seglog_generation), ("halyard/seglog.headEpoch", Rows.laid_halyard_seglog_headEpoch), ("halyard/seglog.firstField", Rows.laid_halyard_seglog_firstField), ("halyard/seglog.leastField", Rows.laid_halyard_seglog_leastField), ("halyard/seglog.sizeField", Rows.laid_halyard_seglog_sizeField), ("halyard/seglog.number", Rows.laid_halyard_seglog_number), ("halyard/seglog.pieceEpoch", Rows.laid_halyard_seglog_pieceEpoch), ("halyard/seglog.bytesField", Rows.laid_halyard_seglog_bytesField), ("halyard/seglog.index", Rows.laid_halyard_seglog_index)] [.data, .wider, .wider, .wider, .wider, .wider, .wider, .wider, .wider, .wider] true :=
  Program.laidByTextLater_by_one 59 8 17 (by kernel_rfl) (by kernel_rfl) (by kernel_rfl) (by kernel_rfl) (by kernel_rfl) (by kernel_rfl) (fun _ _ => by kernel_rfl)
theorem noOwnUnsafe : Tryz.pinned.checked.prog.headLifts.contains "ownunsafe" = false := by kernel_rfl
theorem tie : Tryz.prog.laidByTextLater [("halyard/octet.table", Rows.laid_halyard_octet_table), ("halyard/seglog.generation", Rows.laid_halyard_seglog_generation), ("halyard/seglog.headEpoch", Rows.laid_halyard_seglog_headEpoch), ("halyard/seglog.firstField", Rows.laid_halyard_seglog_firstField), ("halyard/seglog.leastField", Rows.laid_halyard_seglog_leastField), ("halyard/seglog.sizeField", Rows.laid_halyard_seglog_sizeField), ("halyard/seglog.number", Rows.laid_halyard_seglog_number), ("halyard/seglog.pieceEpoch", Rows.laid_halyard_seglog_pieceEpoch), ("halyard/seglog.bytesField", Rows.laid_halyard_seglog_bytesField), ("halyard/seglog.index", Rows.laid_halyard_seglog_index)] [.data, .wider, .wider, .wider, .wider, .wider, .wider, .wider, .wider, .wider] true :=
  Program.laidByTextLater.sub seatTie1 ["halyard/octet.table", "halyard/seglog.generation", "halyard/seglog.headEpoch", "halyard/seglog.firstField", "halyard/seglog.leastField", "halyard/seglog.sizeField", "halyard/seglog.number", "halyard/seglog.pieceEpoch", "halyard/seglog.bytesField", "halyard/seglog.index"] (by kernel_rfl) (by kernel_rfl)
theorem backlogNone_row_tie : Rows.backlogNoneRow.laidByTextAt .later Tryz.pinned [.data, .wider, .wider, .wider, .wider, .wider, .wider, .wider, .wider, .wider] true :=
  OpenClaim.laidByTextAt_later rfl rfl tie noOwnUnsafe
theorem backlogNoneUpto_row_tie : Rows.backlogNoneUptoRow.laidByTextAt .later Tryz.pinned [.data, .wider, .wider, .wider, .wider, .wider, .wider, .wider, .wider, .wider] true :=
  OpenClaim.laidByTextAt_later rfl rfl tie noOwnUnsafe
end Go.Proofs.YtofmkllodhpckaaGreatDoor
