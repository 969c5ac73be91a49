/-
  NARROWER THAN 'FOR EVERY INPUT', by the rows' own cells (each row's printed sentence says how): TableNames: laid · TableApart: laid · TableRoom: laid · TableWalks: laid · TableSame: laid · TableOwn: laid · TableNil: laid · TableWhole: laid · TableBroken: laid.
  DERIVED. THE GIVEN ROWS OF THIS SEAT. 9 by the template 'for every input the law returns true; each argument reads behind the call as it read before'; 0 by the template 'total and deterministic' (their statements: YtbjofbhhnmehgaaGreatDoorTotals.lean).
  GIVEN WITH THE SEED: the statements are not yours to turn. If you find one false, say at which input.
  Laid BY PROGRAM, IN A SANDBOX (cutbox-rows.mjs): the forced cells as the released guide's own fill.sh prints them over the translation c9da8e195381493c… (all of the seat's roots in one cut). By AI agents, Wed Nov 11 2026. No macro, syntax, notation, axiom, sorry.
-/
import Derived.Test.YtbjofbhhnmehgaaGreatDoorChecked
import GoSem.Claim
import GoSem.ClaimJoined
import GoSem.ClaimMapViews
import Derived.JoinedTies
import Derived.KernelRfl
namespace Go.Proofs.YtbjofbhhnmehgaaGreatDoor
/- THE CELL 'sum', in the pinned program and in every row, IS THE sha256 OF THE DUMP (.gsa) THAT YtbjofbhhnmehgaaGreatDoorProg.lean LOADS. Nothing in Lean hashes anything: it is a label: what it is worth is what the hold of that sum in a sandbox is worth. -/
noncomputable def Tryz.pinned : Pinned := { name := "ytbjofbhhnmehgaagreatdoor", sum := "c9da8e195381493ce07df242a9eefdd9aeb70583336491c678ba01c4323cf23f", checked := Tryz.checked }
namespace Rows
def none {H : Type} : Left H := { results := [], args := [] }

/- WHAT THE LISTED PACKAGE-LEVEL VARIABLES READ AS WHEN THE CALL BEGINS. Each datum BY PROGRAM (the guide's laid-datum.mjs) off the statement by which the dump's own 'gosem.cut.vars' lays the variable. In a bare row this is a premise. The card (YtbjofbhhnmehgaaGreatDoorCards.lean) ties it to the program's text. -/
def laid_halyard_octet_table {H : Type} : DataW H := .agg [.lit (.int .u32 0), .lit (.int .u32 498536548), .lit (.int .u32 997073096), .lit (.int .u32 651767980), .lit (.int .u32 1994146192), .lit (.int .u32 1802195444), .lit (.int .u32 1303535960), .lit (.int .u32 1342533948), .lit (.int .u32 3988292384), .lit (.int .u32 4027552580), .lit (.int .u32 3604390888), .lit (.int .u32 3412177804), .lit (.int .u32 2607071920), .lit (.int .u32 2262029012), .lit (.int .u32 2685067896), .lit (.int .u32 3183342108)]
def laid_halyard_seglog_generation {H : Type} : DataW H := .agg [.lit (.int .i64 4), .lit (.int .i64 6)]
def laid_halyard_seglog_headEpoch {H : Type} : DataW H := .agg [.lit (.int .i64 10), .lit (.int .i64 6)]
def laid_halyard_seglog_firstField {H : Type} : DataW H := .agg [.lit (.int .i64 16), .lit (.int .i64 6)]
def laid_halyard_seglog_leastField {H : Type} : DataW H := .agg [.lit (.int .i64 22), .lit (.int .i64 6)]
def laid_halyard_seglog_sizeField {H : Type} : DataW H := .agg [.lit (.int .i64 28), .lit (.int .i64 4)]
def laid_halyard_seglog_number {H : Type} : DataW H := .agg [.lit (.int .i64 4), .lit (.int .i64 6)]
def laid_halyard_seglog_pieceEpoch {H : Type} : DataW H := .agg [.lit (.int .i64 10), .lit (.int .i64 6)]
def laid_halyard_seglog_bytesField {H : Type} : DataW H := .agg [.lit (.int .i64 16), .lit (.int .i64 2)]
def laid_halyard_seglog_index {H : Type} : DataW H := .agg [.lit (.int .i64 18), .lit (.int .i64 2)]

/-- 'halyardlaw06.TableNames': WHATEVER THE INPUT: true; the input reads as it did. -/
def tableNamesSpec : ChangeSpec := { name := "tableNames", fn := fun _ => fun
  | [] => { results := [.lit (.bool true)], args := [] }
  | _ => none }
def tableNamesRow : OpenClaim := { program := "ytbjofbhhnmehgaagreatdoor", sum := "c9da8e195381493ce07df242a9eefdd9aeb70583336491c678ba01c4323cf23f", func := "halyard/halyardlaw06.TableNames", spec := "tableNames", inPlace := ["slices.overlaps[string]"], unfollowed := true, recurses := true, named := ["halyard/seglog.sizeField", "halyard/seglog.generation", "halyard/seglog.headEpoch", "halyard/seglog.firstField", "halyard/seglog.leastField", "halyard/octet.table", "halyard/seglog.number", "halyard/seglog.pieceEpoch", "halyard/seglog.bytesField", "halyard/seglog.index"], apart := false, laid := [("halyard/octet.table", laid_halyard_octet_table), ("halyard/seglog.generation", laid_halyard_seglog_generation), ("halyard/seglog.headEpoch", laid_halyard_seglog_headEpoch), ("halyard/seglog.firstField", laid_halyard_seglog_firstField), ("halyard/seglog.leastField", laid_halyard_seglog_leastField), ("halyard/seglog.sizeField", laid_halyard_seglog_sizeField), ("halyard/seglog.number", laid_halyard_seglog_number), ("halyard/seglog.pieceEpoch", laid_halyard_seglog_pieceEpoch), ("halyard/seglog.bytesField", laid_halyard_seglog_bytesField), ("halyard/seglog.index", laid_halyard_seglog_index)] }
def TableNamesSaid : Prop := tableNamesRow.holds Tryz.pinned (OpenSpec.ofChange tableNamesSpec)

/-- ITS FALSE NEIGHBOUR: 'it returns false'. Refute it at one input. -/
def tableNamesWrong : ChangeSpec := { name := "tableNames", fn := fun _ => fun
  | [] => { results := [.lit (.bool false)], args := [] }
  | _ => none }
def TableNamesWrongFalsely : Prop := tableNamesRow.holds Tryz.pinned (OpenSpec.ofChange tableNamesWrong)

/-- 'halyardlaw06.TableApart': WHATEVER THE INPUT: true; the input reads as it did. -/
def tableApartSpec : ChangeSpec := { name := "tableApart", fn := fun _ => fun
  | [d1, d2, d3, d4] => { results := [.lit (.bool true)], args := [d1, d2, d3, d4] }
  | _ => none }
def tableApartRow : OpenClaim := { program := "ytbjofbhhnmehgaagreatdoor", sum := "c9da8e195381493ce07df242a9eefdd9aeb70583336491c678ba01c4323cf23f", func := "halyard/halyardlaw06.TableApart", spec := "tableApart", inPlace := ["slices.overlaps[string]"], unfollowed := true, recurses := true, named := ["halyard/seglog.sizeField", "halyard/seglog.generation", "halyard/seglog.headEpoch", "halyard/seglog.firstField", "halyard/seglog.leastField", "halyard/octet.table", "halyard/seglog.number", "halyard/seglog.pieceEpoch", "halyard/seglog.bytesField", "halyard/seglog.index"], apart := false, laid := [("halyard/octet.table", laid_halyard_octet_table), ("halyard/seglog.generation", laid_halyard_seglog_generation), ("halyard/seglog.headEpoch", laid_halyard_seglog_headEpoch), ("halyard/seglog.firstField", laid_halyard_seglog_firstField), ("halyard/seglog.leastField", laid_halyard_seglog_leastField), ("halyard/seglog.sizeField", laid_halyard_seglog_sizeField), ("halyard/seglog.number", laid_halyard_seglog_number), ("halyard/seglog.pieceEpoch", laid_halyard_seglog_pieceEpoch), ("halyard/seglog.bytesField", laid_halyard_seglog_bytesField), ("halyard/seglog.index", laid_halyard_seglog_index)] }
def TableApartSaid : Prop := tableApartRow.holds Tryz.pinned (OpenSpec.ofChange tableApartSpec)

/-- ITS FALSE NEIGHBOUR: 'it returns false'. Refute it at one input. -/
def tableApartWrong : ChangeSpec := { name := "tableApart", fn := fun _ => fun
  | [d1, d2, d3, d4] => { results := [.lit (.bool false)], args := [d1, d2, d3, d4] }
  | _ => none }
def TableApartWrongFalsely : Prop := tableApartRow.holds Tryz.pinned (OpenSpec.ofChange tableApartWrong)

/-- 'halyardlaw06.TableRoom': WHATEVER THE INPUT: true; the input reads as it did. -/
def tableRoomSpec : ChangeSpec := { name := "tableRoom", fn := fun _ => fun
  | [d1, d2] => { results := [.lit (.bool true)], args := [d1, d2] }
  | _ => none }
def tableRoomRow : OpenClaim := { program := "ytbjofbhhnmehgaagreatdoor", sum := "c9da8e195381493ce07df242a9eefdd9aeb70583336491c678ba01c4323cf23f", func := "halyard/halyardlaw06.TableRoom", spec := "tableRoom", inPlace := ["slices.overlaps[string]"], unfollowed := true, recurses := true, named := ["halyard/seglog.sizeField", "halyard/seglog.generation", "halyard/seglog.headEpoch", "halyard/seglog.firstField", "halyard/seglog.leastField", "halyard/octet.table", "halyard/seglog.number", "halyard/seglog.pieceEpoch", "halyard/seglog.bytesField", "halyard/seglog.index"], apart := false, laid := [("halyard/octet.table", laid_halyard_octet_table), ("halyard/seglog.generation", laid_halyard_seglog_generation), ("halyard/seglog.headEpoch", laid_halyard_seglog_headEpoch), ("halyard/seglog.firstField", laid_halyard_seglog_firstField), ("halyard/seglog.leastField", laid_halyard_seglog_leastField), ("halyard/seglog.sizeField", laid_halyard_seglog_sizeField), ("halyard/seglog.number", laid_halyard_seglog_number), ("halyard/seglog.pieceEpoch", laid_halyard_seglog_pieceEpoch), ("halyard/seglog.bytesField", laid_halyard_seglog_bytesField), ("halyard/seglog.index", laid_halyard_seglog_index)] }
def TableRoomSaid : Prop := tableRoomRow.holds Tryz.pinned (OpenSpec.ofChange tableRoomSpec)

/-- ITS FALSE NEIGHBOUR: 'it returns false'. Refute it at one input. -/
def tableRoomWrong : ChangeSpec := { name := "tableRoom", fn := fun _ => fun
  | [d1, d2] => { results := [.lit (.bool false)], args := [d1, d2] }
  | _ => none }
def TableRoomWrongFalsely : Prop := tableRoomRow.holds Tryz.pinned (OpenSpec.ofChange tableRoomWrong)

/-- 'halyardlaw06.TableWalks': WHATEVER THE INPUT: true; the input reads as it did. -/
def tableWalksSpec : ChangeSpec := { name := "tableWalks", fn := fun _ => fun
  | [d1, d2, d3, d4, d5, d6] => { results := [.lit (.bool true)], args := [d1, d2, d3, d4, d5, d6] }
  | _ => none }
def tableWalksRow : OpenClaim := { program := "ytbjofbhhnmehgaagreatdoor", sum := "c9da8e195381493ce07df242a9eefdd9aeb70583336491c678ba01c4323cf23f", func := "halyard/halyardlaw06.TableWalks", spec := "tableWalks", inPlace := ["slices.overlaps[string]"], unfollowed := true, recurses := true, named := ["halyard/seglog.sizeField", "halyard/seglog.generation", "halyard/seglog.headEpoch", "halyard/seglog.firstField", "halyard/seglog.leastField", "halyard/octet.table", "halyard/seglog.number", "halyard/seglog.pieceEpoch", "halyard/seglog.bytesField", "halyard/seglog.index"], apart := false, laid := [("halyard/octet.table", laid_halyard_octet_table), ("halyard/seglog.generation", laid_halyard_seglog_generation), ("halyard/seglog.headEpoch", laid_halyard_seglog_headEpoch), ("halyard/seglog.firstField", laid_halyard_seglog_firstField), ("halyard/seglog.leastField", laid_halyard_seglog_leastField), ("halyard/seglog.sizeField", laid_halyard_seglog_sizeField), ("halyard/seglog.number", laid_halyard_seglog_number), ("halyard/seglog.pieceEpoch", laid_halyard_seglog_pieceEpoch), ("halyard/seglog.bytesField", laid_halyard_seglog_bytesField), ("halyard/seglog.index", laid_halyard_seglog_index)] }
def TableWalksSaid : Prop := tableWalksRow.holds Tryz.pinned (OpenSpec.ofChange tableWalksSpec)

/-- ITS FALSE NEIGHBOUR: 'it returns false'. Refute it at one input. -/
def tableWalksWrong : ChangeSpec := { name := "tableWalks", fn := fun _ => fun
  | [d1, d2, d3, d4, d5, d6] => { results := [.lit (.bool false)], args := [d1, d2, d3, d4, d5, d6] }
  | _ => none }
def TableWalksWrongFalsely : Prop := tableWalksRow.holds Tryz.pinned (OpenSpec.ofChange tableWalksWrong)

/-- 'halyardlaw06.TableSame': WHATEVER THE INPUT: true; the input reads as it did. -/
def tableSameSpec : ChangeSpec := { name := "tableSame", fn := fun _ => fun
  | [d1, d2, d3] => { results := [.lit (.bool true)], args := [d1, d2, d3] }
  | _ => none }
def tableSameRow : OpenClaim := { program := "ytbjofbhhnmehgaagreatdoor", sum := "c9da8e195381493ce07df242a9eefdd9aeb70583336491c678ba01c4323cf23f", func := "halyard/halyardlaw06.TableSame", spec := "tableSame", inPlace := ["slices.overlaps[string]"], unfollowed := true, recurses := true, named := ["halyard/seglog.sizeField", "halyard/seglog.generation", "halyard/seglog.headEpoch", "halyard/seglog.firstField", "halyard/seglog.leastField", "halyard/octet.table", "halyard/seglog.number", "halyard/seglog.pieceEpoch", "halyard/seglog.bytesField", "halyard/seglog.index"], apart := false, laid := [("halyard/octet.table", laid_halyard_octet_table), ("halyard/seglog.generation", laid_halyard_seglog_generation), ("halyard/seglog.headEpoch", laid_halyard_seglog_headEpoch), ("halyard/seglog.firstField", laid_halyard_seglog_firstField), ("halyard/seglog.leastField", laid_halyard_seglog_leastField), ("halyard/seglog.sizeField", laid_halyard_seglog_sizeField), ("halyard/seglog.number", laid_halyard_seglog_number), ("halyard/seglog.pieceEpoch", laid_halyard_seglog_pieceEpoch), ("halyard/seglog.bytesField", laid_halyard_seglog_bytesField), ("halyard/seglog.index", laid_halyard_seglog_index)] }
def TableSameSaid : Prop := tableSameRow.holds Tryz.pinned (OpenSpec.ofChange tableSameSpec)

/-- ITS FALSE NEIGHBOUR: 'it returns false'. Refute it at one input. -/
def tableSameWrong : ChangeSpec := { name := "tableSame", fn := fun _ => fun
  | [d1, d2, d3] => { results := [.lit (.bool false)], args := [d1, d2, d3] }
  | _ => none }
def TableSameWrongFalsely : Prop := tableSameRow.holds Tryz.pinned (OpenSpec.ofChange tableSameWrong)

/-- 'halyardlaw06.TableOwn': WHATEVER THE INPUT: true; the input reads as it did. -/
def tableOwnSpec : ChangeSpec := { name := "tableOwn", fn := fun _ => fun
  | [d1, d2, d3] => { results := [.lit (.bool true)], args := [d1, d2, d3] }
  | _ => none }
def tableOwnRow : OpenClaim := { program := "ytbjofbhhnmehgaagreatdoor", sum := "c9da8e195381493ce07df242a9eefdd9aeb70583336491c678ba01c4323cf23f", func := "halyard/halyardlaw06.TableOwn", spec := "tableOwn", inPlace := ["slices.overlaps[string]"], unfollowed := true, recurses := true, named := ["halyard/seglog.sizeField", "halyard/seglog.generation", "halyard/seglog.headEpoch", "halyard/seglog.firstField", "halyard/seglog.leastField", "halyard/octet.table", "halyard/seglog.number", "halyard/seglog.pieceEpoch", "halyard/seglog.bytesField", "halyard/seglog.index"], apart := false, laid := [("halyard/octet.table", laid_halyard_octet_table), ("halyard/seglog.generation", laid_halyard_seglog_generation), ("halyard/seglog.headEpoch", laid_halyard_seglog_headEpoch), ("halyard/seglog.firstField", laid_halyard_seglog_firstField), ("halyard/seglog.leastField", laid_halyard_seglog_leastField), ("halyard/seglog.sizeField", laid_halyard_seglog_sizeField), ("halyard/seglog.number", laid_halyard_seglog_number), ("halyard/seglog.pieceEpoch", laid_halyard_seglog_pieceEpoch), ("halyard/seglog.bytesField", laid_halyard_seglog_bytesField), ("halyard/seglog.index", laid_halyard_seglog_index)] }
def TableOwnSaid : Prop := tableOwnRow.holds Tryz.pinned (OpenSpec.ofChange tableOwnSpec)

/-- ITS FALSE NEIGHBOUR: 'it returns false'. Refute it at one input. -/
def tableOwnWrong : ChangeSpec := { name := "tableOwn", fn := fun _ => fun
  | [d1, d2, d3] => { results := [.lit (.bool false)], args := [d1, d2, d3] }
  | _ => none }
def TableOwnWrongFalsely : Prop := tableOwnRow.holds Tryz.pinned (OpenSpec.ofChange tableOwnWrong)

/-- 'halyardlaw06.TableNil': WHATEVER THE INPUT: true; the input reads as it did. -/
def tableNilSpec : ChangeSpec := { name := "tableNil", fn := fun _ => fun
  | [] => { results := [.lit (.bool true)], args := [] }
  | _ => none }
def tableNilRow : OpenClaim := { program := "ytbjofbhhnmehgaagreatdoor", sum := "c9da8e195381493ce07df242a9eefdd9aeb70583336491c678ba01c4323cf23f", func := "halyard/halyardlaw06.TableNil", spec := "tableNil", inPlace := ["slices.overlaps[string]"], unfollowed := true, recurses := true, named := ["halyard/seglog.sizeField", "halyard/seglog.generation", "halyard/seglog.headEpoch", "halyard/seglog.firstField", "halyard/seglog.leastField", "halyard/octet.table", "halyard/seglog.number", "halyard/seglog.pieceEpoch", "halyard/seglog.bytesField", "halyard/seglog.index"], apart := false, laid := [("halyard/octet.table", laid_halyard_octet_table), ("halyard/seglog.generation", laid_halyard_seglog_generation), ("halyard/seglog.headEpoch", laid_halyard_seglog_headEpoch), ("halyard/seglog.firstField", laid_halyard_seglog_firstField), ("halyard/seglog.leastField", laid_halyard_seglog_leastField), ("halyard/seglog.sizeField", laid_halyard_seglog_sizeField), ("halyard/seglog.number", laid_halyard_seglog_number), ("halyard/seglog.pieceEpoch", laid_halyard_seglog_pieceEpoch), ("halyard/seglog.bytesField", laid_halyard_seglog_bytesField), ("halyard/seglog.index", laid_halyard_seglog_index)] }
def TableNilSaid : Prop := tableNilRow.holds Tryz.pinned (OpenSpec.ofChange tableNilSpec)

/-- ITS FALSE NEIGHBOUR: 'it returns false'. Refute it at one input. -/
def tableNilWrong : ChangeSpec := { name := "tableNil", fn := fun _ => fun
  | [] => { results := [.lit (.bool false)], args := [] }
  | _ => none }
def TableNilWrongFalsely : Prop := tableNilRow.holds Tryz.pinned (OpenSpec.ofChange tableNilWrong)

/-- 'halyardlaw06.TableWhole': WHATEVER THE INPUT: true; the input reads as it did. -/
def tableWholeSpec : ChangeSpec := { name := "tableWhole", fn := fun _ => fun
  | [d1, d2] => { results := [.lit (.bool true)], args := [d1, d2] }
  | _ => none }
def tableWholeRow : OpenClaim := { program := "ytbjofbhhnmehgaagreatdoor", sum := "c9da8e195381493ce07df242a9eefdd9aeb70583336491c678ba01c4323cf23f", func := "halyard/halyardlaw06.TableWhole", spec := "tableWhole", inPlace := ["slices.overlaps[string]"], unfollowed := true, recurses := true, named := ["halyard/seglog.sizeField", "halyard/seglog.generation", "halyard/seglog.headEpoch", "halyard/seglog.firstField", "halyard/seglog.leastField", "halyard/octet.table", "halyard/seglog.number", "halyard/seglog.pieceEpoch", "halyard/seglog.bytesField", "halyard/seglog.index"], apart := false, laid := [("halyard/octet.table", laid_halyard_octet_table), ("halyard/seglog.generation", laid_halyard_seglog_generation), ("halyard/seglog.headEpoch", laid_halyard_seglog_headEpoch), ("halyard/seglog.firstField", laid_halyard_seglog_firstField), ("halyard/seglog.leastField", laid_halyard_seglog_leastField), ("halyard/seglog.sizeField", laid_halyard_seglog_sizeField), ("halyard/seglog.number", laid_halyard_seglog_number), ("halyard/seglog.pieceEpoch", laid_halyard_seglog_pieceEpoch), ("halyard/seglog.bytesField", laid_halyard_seglog_bytesField), ("halyard/seglog.index", laid_halyard_seglog_index)] }
def TableWholeSaid : Prop := tableWholeRow.holds Tryz.pinned (OpenSpec.ofChange tableWholeSpec)

/-- ITS FALSE NEIGHBOUR: 'it returns false'. Refute it at one input. -/
def tableWholeWrong : ChangeSpec := { name := "tableWhole", fn := fun _ => fun
  | [d1, d2] => { results := [.lit (.bool false)], args := [d1, d2] }
  | _ => none }
def TableWholeWrongFalsely : Prop := tableWholeRow.holds Tryz.pinned (OpenSpec.ofChange tableWholeWrong)

/-- 'halyardlaw06.TableBroken': WHATEVER THE INPUT: true; the input reads as it did. -/
def tableBrokenSpec : ChangeSpec := { name := "tableBroken", fn := fun _ => fun
  | [d1, d2, d3, d4] => { results := [.lit (.bool true)], args := [d1, d2, d3, d4] }
  | _ => none }
def tableBrokenRow : OpenClaim := { program := "ytbjofbhhnmehgaagreatdoor", sum := "c9da8e195381493ce07df242a9eefdd9aeb70583336491c678ba01c4323cf23f", func := "halyard/halyardlaw06.TableBroken", spec := "tableBroken", inPlace := ["slices.overlaps[string]"], unfollowed := true, recurses := true, named := ["halyard/seglog.sizeField", "halyard/seglog.generation", "halyard/seglog.headEpoch", "halyard/seglog.firstField", "halyard/seglog.leastField", "halyard/octet.table", "halyard/seglog.number", "halyard/seglog.pieceEpoch", "halyard/seglog.bytesField", "halyard/seglog.index"], apart := false, laid := [("halyard/octet.table", laid_halyard_octet_table), ("halyard/seglog.generation", laid_halyard_seglog_generation), ("halyard/seglog.headEpoch", laid_halyard_seglog_headEpoch), ("halyard/seglog.firstField", laid_halyard_seglog_firstField), ("halyard/seglog.leastField", laid_halyard_seglog_leastField), ("halyard/seglog.sizeField", laid_halyard_seglog_sizeField), ("halyard/seglog.number", laid_halyard_seglog_number), ("halyard/seglog.pieceEpoch", laid_halyard_seglog_pieceEpoch), ("halyard/seglog.bytesField", laid_halyard_seglog_bytesField), ("halyard/seglog.index", laid_halyard_seglog_index)] }
def TableBrokenSaid : Prop := tableBrokenRow.holds Tryz.pinned (OpenSpec.ofChange tableBrokenSpec)

/-- ITS FALSE NEIGHBOUR: 'it returns false'. Refute it at one input. -/
def tableBrokenWrong : ChangeSpec := { name := "tableBroken", fn := fun _ => fun
  | [d1, d2, d3, d4] => { results := [.lit (.bool false)], args := [d1, d2, d3, d4] }
  | _ => none }
def TableBrokenWrongFalsely : Prop := tableBrokenRow.holds Tryz.pinned (OpenSpec.ofChange tableBrokenWrong)

/- THE SECOND FORM. 'bulk': how many values and letters a reading holds, each counted each time it is reached (what is shared counts as often as it is met; a slice's spare places count too). A statement '..UptoSaid' is the law's where the arguments, and the package variables that the reading takes, are together of bulk at most 1048576: NARROWER than '..Said'. Prove '..Said' where nothing that the law and all that it calls make is longer than what came in: it says more and counts as full. Else prove '..UptoSaid'. A law counts once. -/
mutual
def uptoBulk {H : Type} : DataW H → Nat
  | .lit (.string bytes) => bytes.length + 1
  | .lit _ => 1
  | .nil => 1
  | .ptr d => uptoBulk d + 1
  | .slice elems spare => uptoBulkAll elems + uptoBulkAll spare + 1
  | .agg parts => uptoBulkAll parts + 1
  | .iface _ d => uptoBulk d + 1
  | .map entries => uptoBulkEntries entries + 1
  | .held _ => 1
def uptoBulkAll {H : Type} : List (DataW H) → Nat
  | [] => 0
  | d :: r => uptoBulk d + uptoBulkAll r
def uptoBulkEntries {H : Type} : List (Lit × DataW H) → Nat
  | [] => 0
  | x :: r => uptoBulkEntry x + uptoBulkEntries r
def uptoBulkEntry {H : Type} : Lit × DataW H → Nat
  | (.string bytes, d) => bytes.length + uptoBulk d + 1
  | (_, d) => uptoBulk d + 1
 end
def uptoSmall : (H : Type) → List (DataW H) → Bool := fun _ ds => decide (uptoBulkAll ds ≤ 1048576)
def OpenSpec.upto (s : _root_.Go.ChangeSpec) : _root_.Go.OpenSpec := { _root_.Go.OpenSpec.ofChange s with cond := some uptoSmall }

/-- 'halyardlaw06.TableNames', WHERE WHAT IT READS IS OF BULK AT MOST 1048576: true; the input reads as it did. -/
def tableNamesUptoRow : OpenClaim := { program := "ytbjofbhhnmehgaagreatdoor", sum := "c9da8e195381493ce07df242a9eefdd9aeb70583336491c678ba01c4323cf23f", func := "halyard/halyardlaw06.TableNames", spec := "tableNames", inPlace := ["slices.overlaps[string]"], unfollowed := true, recurses := true, named := ["halyard/seglog.sizeField", "halyard/seglog.generation", "halyard/seglog.headEpoch", "halyard/seglog.firstField", "halyard/seglog.leastField", "halyard/octet.table", "halyard/seglog.number", "halyard/seglog.pieceEpoch", "halyard/seglog.bytesField", "halyard/seglog.index"], apart := false, laid := [("halyard/octet.table", laid_halyard_octet_table), ("halyard/seglog.generation", laid_halyard_seglog_generation), ("halyard/seglog.headEpoch", laid_halyard_seglog_headEpoch), ("halyard/seglog.firstField", laid_halyard_seglog_firstField), ("halyard/seglog.leastField", laid_halyard_seglog_leastField), ("halyard/seglog.sizeField", laid_halyard_seglog_sizeField), ("halyard/seglog.number", laid_halyard_seglog_number), ("halyard/seglog.pieceEpoch", laid_halyard_seglog_pieceEpoch), ("halyard/seglog.bytesField", laid_halyard_seglog_bytesField), ("halyard/seglog.index", laid_halyard_seglog_index)], narrowed := true }
def TableNamesUptoSaid : Prop := tableNamesUptoRow.holds Tryz.pinned (OpenSpec.upto tableNamesSpec)

/-- 'halyardlaw06.TableApart', WHERE WHAT IT READS IS OF BULK AT MOST 1048576: true; the input reads as it did. -/
def tableApartUptoRow : OpenClaim := { program := "ytbjofbhhnmehgaagreatdoor", sum := "c9da8e195381493ce07df242a9eefdd9aeb70583336491c678ba01c4323cf23f", func := "halyard/halyardlaw06.TableApart", spec := "tableApart", inPlace := ["slices.overlaps[string]"], unfollowed := true, recurses := true, named := ["halyard/seglog.sizeField", "halyard/seglog.generation", "halyard/seglog.headEpoch", "halyard/seglog.firstField", "halyard/seglog.leastField", "halyard/octet.table", "halyard/seglog.number", "halyard/seglog.pieceEpoch", "halyard/seglog.bytesField", "halyard/seglog.index"], apart := false, laid := [("halyard/octet.table", laid_halyard_octet_table), ("halyard/seglog.generation", laid_halyard_seglog_generation), ("halyard/seglog.headEpoch", laid_halyard_seglog_headEpoch), ("halyard/seglog.firstField", laid_halyard_seglog_firstField), ("halyard/seglog.leastField", laid_halyard_seglog_leastField), ("halyard/seglog.sizeField", laid_halyard_seglog_sizeField), ("halyard/seglog.number", laid_halyard_seglog_number), ("halyard/seglog.pieceEpoch", laid_halyard_seglog_pieceEpoch), ("halyard/seglog.bytesField", laid_halyard_seglog_bytesField), ("halyard/seglog.index", laid_halyard_seglog_index)], narrowed := true }
def TableApartUptoSaid : Prop := tableApartUptoRow.holds Tryz.pinned (OpenSpec.upto tableApartSpec)

/-- 'halyardlaw06.TableRoom', WHERE WHAT IT READS IS OF BULK AT MOST 1048576: true; the input reads as it did. -/
def tableRoomUptoRow : OpenClaim := { program := "ytbjofbhhnmehgaagreatdoor", sum := "c9da8e195381493ce07df242a9eefdd9aeb70583336491c678ba01c4323cf23f", func := "halyard/halyardlaw06.TableRoom", spec := "tableRoom", inPlace := ["slices.overlaps[string]"], unfollowed := true, recurses := true, named := ["halyard/seglog.sizeField", "halyard/seglog.generation", "halyard/seglog.headEpoch", "halyard/seglog.firstField", "halyard/seglog.leastField", "halyard/octet.table", "halyard/seglog.number", "halyard/seglog.pieceEpoch", "halyard/seglog.bytesField", "halyard/seglog.index"], apart := false, laid := [("halyard/octet.table", laid_halyard_octet_table), ("halyard/seglog.generation", laid_halyard_seglog_generation), ("halyard/seglog.headEpoch", laid_halyard_seglog_headEpoch), ("halyard/seglog.firstField", laid_halyard_seglog_firstField), ("halyard/seglog.leastField", laid_halyard_seglog_leastField), ("halyard/seglog.sizeField", laid_halyard_seglog_sizeField), ("halyard/seglog.number", laid_halyard_seglog_number), ("halyard/seglog.pieceEpoch", laid_halyard_seglog_pieceEpoch), ("halyard/seglog.bytesField", laid_halyard_seglog_bytesField), ("halyard/seglog.index", laid_halyard_seglog_index)], narrowed := true }
def TableRoomUptoSaid : Prop := tableRoomUptoRow.holds Tryz.pinned (OpenSpec.upto tableRoomSpec)

/-- 'halyardlaw06.TableWalks', WHERE WHAT IT READS IS OF BULK AT MOST 1048576: true; the input reads as it did. -/
def tableWalksUptoRow : OpenClaim := { program := "ytbjofbhhnmehgaagreatdoor", sum := "c9da8e195381493ce07df242a9eefdd9aeb70583336491c678ba01c4323cf23f", func := "halyard/halyardlaw06.TableWalks", spec := "tableWalks", inPlace := ["slices.overlaps[string]"], unfollowed := true, recurses := true, named := ["halyard/seglog.sizeField", "halyard/seglog.generation", "halyard/seglog.headEpoch", "halyard/seglog.firstField", "halyard/seglog.leastField", "halyard/octet.table", "halyard/seglog.number", "halyard/seglog.pieceEpoch", "halyard/seglog.bytesField", "halyard/seglog.index"], apart := false, laid := [("halyard/octet.table", laid_halyard_octet_table), ("halyard/seglog.generation", laid_halyard_seglog_generation), ("halyard/seglog.headEpoch", laid_halyard_seglog_headEpoch), ("halyard/seglog.firstField", laid_halyard_seglog_firstField), ("halyard/seglog.leastField", laid_halyard_seglog_leastField), ("halyard/seglog.sizeField", laid_halyard_seglog_sizeField), ("halyard/seglog.number", laid_halyard_seglog_number), ("halyard/seglog.pieceEpoch", laid_halyard_seglog_pieceEpoch), ("halyard/seglog.bytesField", laid_halyard_seglog_bytesField), ("halyard/seglog.index", laid_halyard_seglog_index)], narrowed := true }
def TableWalksUptoSaid : Prop := tableWalksUptoRow.holds Tryz.pinned (OpenSpec.upto tableWalksSpec)

/-- 'halyardlaw06.TableSame', WHERE WHAT IT READS IS OF BULK AT MOST 1048576: true; the input reads as it did. -/
def tableSameUptoRow : OpenClaim := { program := "ytbjofbhhnmehgaagreatdoor", sum := "c9da8e195381493ce07df242a9eefdd9aeb70583336491c678ba01c4323cf23f", func := "halyard/halyardlaw06.TableSame", spec := "tableSame", inPlace := ["slices.overlaps[string]"], unfollowed := true, recurses := true, named := ["halyard/seglog.sizeField", "halyard/seglog.generation", "halyard/seglog.headEpoch", "halyard/seglog.firstField", "halyard/seglog.leastField", "halyard/octet.table", "halyard/seglog.number", "halyard/seglog.pieceEpoch", "halyard/seglog.bytesField", "halyard/seglog.index"], apart := false, laid := [("halyard/octet.table", laid_halyard_octet_table), ("halyard/seglog.generation", laid_halyard_seglog_generation), ("halyard/seglog.headEpoch", laid_halyard_seglog_headEpoch), ("halyard/seglog.firstField", laid_halyard_seglog_firstField), ("halyard/seglog.leastField", laid_halyard_seglog_leastField), ("halyard/seglog.sizeField", laid_halyard_seglog_sizeField), ("halyard/seglog.number", laid_halyard_seglog_number), ("halyard/seglog.pieceEpoch", laid_halyard_seglog_pieceEpoch), ("halyard/seglog.bytesField", laid_halyard_seglog_bytesField), ("halyard/seglog.index", laid_halyard_seglog_index)], narrowed := true }
def TableSameUptoSaid : Prop := tableSameUptoRow.holds Tryz.pinned (OpenSpec.upto tableSameSpec)

/-- 'halyardlaw06.TableOwn', WHERE WHAT IT READS IS OF BULK AT MOST 1048576: true; the input reads as it did. -/
def tableOwnUptoRow : OpenClaim := { program := "ytbjofbhhnmehgaagreatdoor", sum := "c9da8e195381493ce07df242a9eefdd9aeb70583336491c678ba01c4323cf23f", func := "halyard/halyardlaw06.TableOwn", spec := "tableOwn", inPlace := ["slices.overlaps[string]"], unfollowed := true, recurses := true, named := ["halyard/seglog.sizeField", "halyard/seglog.generation", "halyard/seglog.headEpoch", "halyard/seglog.firstField", "halyard/seglog.leastField", "halyard/octet.table", "halyard/seglog.number", "halyard/seglog.pieceEpoch", "halyard/seglog.bytesField", "halyard/seglog.index"], apart := false, laid := [("halyard/octet.table", laid_halyard_octet_table), ("halyard/seglog.generation", laid_halyard_seglog_generation), ("halyard/seglog.headEpoch", laid_halyard_seglog_headEpoch), ("halyard/seglog.firstField", laid_halyard_seglog_firstField), ("halyard/seglog.leastField", laid_halyard_seglog_leastField), ("halyard/seglog.sizeField", laid_halyard_seglog_sizeField), ("halyard/seglog.number", laid_halyard_seglog_number), ("halyard/seglog.pieceEpoch", laid_halyard_seglog_pieceEpoch), ("halyard/seglog.bytesField", laid_halyard_seglog_bytesField), ("halyard/seglog.index", laid_halyard_seglog_index)], narrowed := true }
def TableOwnUptoSaid : Prop := tableOwnUptoRow.holds Tryz.pinned (OpenSpec.upto tableOwnSpec)

/-- 'halyardlaw06.TableNil', WHERE WHAT IT READS IS OF BULK AT MOST 1048576: true; the input reads as it did. -/
def tableNilUptoRow : OpenClaim := { program := "ytbjofbhhnmehgaagreatdoor", sum := "c9da8e195381493ce07df242a9eefdd9aeb70583336491c678ba01c4323cf23f", func := "halyard/halyardlaw06.TableNil", spec := "tableNil", inPlace := ["slices.overlaps[string]"], unfollowed := true, recurses := true, named := ["halyard/seglog.sizeField", "halyard/seglog.generation", "halyard/seglog.headEpoch", "halyard/seglog.firstField", "halyard/seglog.leastField", "halyard/octet.table", "halyard/seglog.number", "halyard/seglog.pieceEpoch", "halyard/seglog.bytesField", "halyard/seglog.index"], apart := false, laid := [("halyard/octet.table", laid_halyard_octet_table), ("halyard/seglog.generation", laid_halyard_seglog_generation), ("halyard/seglog.headEpoch", laid_halyard_seglog_headEpoch), ("halyard/seglog.firstField", laid_halyard_seglog_firstField), ("halyard/seglog.leastField", laid_halyard_seglog_leastField), ("halyard/seglog.sizeField", laid_halyard_seglog_sizeField), ("halyard/seglog.number", laid_halyard_seglog_number), ("halyard/seglog.pieceEpoch", laid_halyard_seglog_pieceEpoch), ("halyard/seglog.bytesField", laid_halyard_seglog_bytesField), ("halyard/seglog.index", laid_halyard_seglog_index)], narrowed := true }
def TableNilUptoSaid : Prop := tableNilUptoRow.holds Tryz.pinned (OpenSpec.upto tableNilSpec)

/-- 'halyardlaw06.TableWhole', WHERE WHAT IT READS IS OF BULK AT MOST 1048576: true; the input reads as it did. -/
def tableWholeUptoRow : OpenClaim := { program := "ytbjofbhhnmehgaagreatdoor", sum := "c9da8e195381493ce07df242a9eefdd9aeb70583336491c678ba01c4323cf23f", func := "halyard/halyardlaw06.TableWhole", spec := "tableWhole", inPlace := ["slices.overlaps[string]"], unfollowed := true, recurses := true, named := ["halyard/seglog.sizeField", "halyard/seglog.generation", "halyard/seglog.headEpoch", "halyard/seglog.firstField", "halyard/seglog.leastField", "halyard/octet.table", "halyard/seglog.number", "halyard/seglog.pieceEpoch", "halyard/seglog.bytesField", "halyard/seglog.index"], apart := false, laid := [("halyard/octet.table", laid_halyard_octet_table), ("halyard/seglog.generation", laid_halyard_seglog_generation), ("halyard/seglog.headEpoch", laid_halyard_seglog_headEpoch), ("halyard/seglog.firstField", laid_halyard_seglog_firstField), ("halyard/seglog.leastField", laid_halyard_seglog_leastField), ("halyard/seglog.sizeField", laid_halyard_seglog_sizeField), ("halyard/seglog.number", laid_halyard_seglog_number), ("halyard/seglog.pieceEpoch", laid_halyard_seglog_pieceEpoch), ("halyard/seglog.bytesField", laid_halyard_seglog_bytesField), ("halyard/seglog.index", laid_halyard_seglog_index)], narrowed := true }
def TableWholeUptoSaid : Prop := tableWholeUptoRow.holds Tryz.pinned (OpenSpec.upto tableWholeSpec)

/-- 'halyardlaw06.TableBroken', WHERE WHAT IT READS IS OF BULK AT MOST 1048576: true; the input reads as it did. -/
def tableBrokenUptoRow : OpenClaim := { program := "ytbjofbhhnmehgaagreatdoor", sum := "c9da8e195381493ce07df242a9eefdd9aeb70583336491c678ba01c4323cf23f", func := "halyard/halyardlaw06.TableBroken", spec := "tableBroken", inPlace := ["slices.overlaps[string]"], unfollowed := true, recurses := true, named := ["halyard/seglog.sizeField", "halyard/seglog.generation", "halyard/seglog.headEpoch", "halyard/seglog.firstField", "halyard/seglog.leastField", "halyard/octet.table", "halyard/seglog.number", "halyard/seglog.pieceEpoch", "halyard/seglog.bytesField", "halyard/seglog.index"], apart := false, laid := [("halyard/octet.table", laid_halyard_octet_table), ("halyard/seglog.generation", laid_halyard_seglog_generation), ("halyard/seglog.headEpoch", laid_halyard_seglog_headEpoch), ("halyard/seglog.firstField", laid_halyard_seglog_firstField), ("halyard/seglog.leastField", laid_halyard_seglog_leastField), ("halyard/seglog.sizeField", laid_halyard_seglog_sizeField), ("halyard/seglog.number", laid_halyard_seglog_number), ("halyard/seglog.pieceEpoch", laid_halyard_seglog_pieceEpoch), ("halyard/seglog.bytesField", laid_halyard_seglog_bytesField), ("halyard/seglog.index", laid_halyard_seglog_index)], narrowed := true }
def TableBrokenUptoSaid : Prop := tableBrokenUptoRow.holds Tryz.pinned (OpenSpec.upto tableBrokenSpec)

end Rows
end Go.Proofs.YtbjofbhhnmehgaaGreatDoor
