/-
  No cell of these rows narrows 'for every input' (looked for: loops, veiled, ifaces, maps, wideKeys, modest, calm, conditions, laid).
  DERIVED. THE GIVEN ROWS OF THIS SEAT. 14 by the template 'for every input the law returns true; each argument reads behind the call as it read before'; 0 by the template 'total and deterministic' (their statements: YtagcohpghgnalaaTotals.lean).
  GIVEN WITH THE SEED: the statements are not yours to turn. If you find one false, say at which input.
  Laid BY PROGRAM, IN A SANDBOX (cutbox-rows.mjs): the forced cells as the released guide's own fill.sh prints them over the translation 357995c7d8b1cdff… (all of the seat's roots in one cut). By AI agents, Wed Nov 11 2026. No macro, syntax, notation, axiom, sorry.
-/
import Derived.Test.YtagcohpghgnalaaChecked
import GoSem.Claim
import GoSem.ClaimJoined
import GoSem.ClaimMapViews
import Derived.JoinedTies
import Derived.KernelRfl
namespace Go.Proofs.Ytagcohpghgnalaa
/- THE CELL 'sum', in the pinned program and in every row, IS THE sha256 OF THE DUMP (.gsa) THAT YtagcohpghgnalaaProg.lean LOADS. Nothing in Lean hashes anything: it is a label: what it is worth is what the hold of that sum in a sandbox is worth. -/
noncomputable def Try.pinned : Pinned := { name := "ytagcohpghgnalaa", sum := "357995c7d8b1cdff9da2b6a1dbc01c472d88c11bb292092a15add12ee3db1aa9", checked := Try.checked }
namespace Rows
def none {H : Type} : Left H := { results := [], args := [] }

/-- 'halyardlaw07.PagesNames': WHATEVER THE INPUT: true; the input reads as it did. -/
def pagesNamesSpec : ChangeSpec := { name := "pagesNames", fn := fun _ => fun
  | [] => { results := [.lit (.bool true)], args := [] }
  | _ => none }
def pagesNamesRow : OpenClaim := { program := "ytagcohpghgnalaa", sum := "357995c7d8b1cdff9da2b6a1dbc01c472d88c11bb292092a15add12ee3db1aa9", func := "halyard/halyardlaw07.PagesNames", spec := "pagesNames", inPlace := ["slices.overlaps[halyard/pages.entry[uint64]]", "slices.overlaps[[]halyard/pages.entry[uint64]]"], unfollowed := true, recurses := true, apart := false }
def PagesNamesSaid : Prop := pagesNamesRow.holds Try.pinned (OpenSpec.ofChange pagesNamesSpec)

/-- ITS FALSE NEIGHBOUR: 'it returns false'. Refute it at one input. -/
def pagesNamesWrong : ChangeSpec := { name := "pagesNames", fn := fun _ => fun
  | [] => { results := [.lit (.bool false)], args := [] }
  | _ => none }
def PagesNamesWrongFalsely : Prop := pagesNamesRow.holds Try.pinned (OpenSpec.ofChange pagesNamesWrong)

/-- 'halyardlaw07.PagesMap': WHATEVER THE INPUT: true; the input reads as it did. -/
def pagesMapSpec : ChangeSpec := { name := "pagesMap", fn := fun _ => fun
  | [d1, d2, d3] => { results := [.lit (.bool true)], args := [d1, d2, d3] }
  | _ => none }
def pagesMapRow : OpenClaim := { program := "ytagcohpghgnalaa", sum := "357995c7d8b1cdff9da2b6a1dbc01c472d88c11bb292092a15add12ee3db1aa9", func := "halyard/halyardlaw07.PagesMap", spec := "pagesMap", inPlace := ["slices.overlaps[halyard/pages.entry[uint64]]", "slices.overlaps[[]halyard/pages.entry[uint64]]"], unfollowed := true, recurses := true, apart := false }
def PagesMapSaid : Prop := pagesMapRow.holds Try.pinned (OpenSpec.ofChange pagesMapSpec)

/-- ITS FALSE NEIGHBOUR: 'it returns false'. Refute it at one input. -/
def pagesMapWrong : ChangeSpec := { name := "pagesMap", fn := fun _ => fun
  | [d1, d2, d3] => { results := [.lit (.bool false)], args := [d1, d2, d3] }
  | _ => none }
def PagesMapWrongFalsely : Prop := pagesMapRow.holds Try.pinned (OpenSpec.ofChange pagesMapWrong)

/-- 'halyardlaw07.PagesBlind': WHATEVER THE INPUT: true; the input reads as it did. -/
def pagesBlindSpec : ChangeSpec := { name := "pagesBlind", fn := fun _ => fun
  | [d1, d2] => { results := [.lit (.bool true)], args := [d1, d2] }
  | _ => none }
def pagesBlindRow : OpenClaim := { program := "ytagcohpghgnalaa", sum := "357995c7d8b1cdff9da2b6a1dbc01c472d88c11bb292092a15add12ee3db1aa9", func := "halyard/halyardlaw07.PagesBlind", spec := "pagesBlind", inPlace := ["slices.overlaps[halyard/pages.entry[uint64]]", "slices.overlaps[[]halyard/pages.entry[uint64]]", "slices.overlaps[halyard/pages.entry[string]]", "slices.overlaps[[]halyard/pages.entry[string]]"], unfollowed := true, recurses := true, apart := false }
def PagesBlindSaid : Prop := pagesBlindRow.holds Try.pinned (OpenSpec.ofChange pagesBlindSpec)

/-- ITS FALSE NEIGHBOUR: 'it returns false'. Refute it at one input. -/
def pagesBlindWrong : ChangeSpec := { name := "pagesBlind", fn := fun _ => fun
  | [d1, d2] => { results := [.lit (.bool false)], args := [d1, d2] }
  | _ => none }
def PagesBlindWrongFalsely : Prop := pagesBlindRow.holds Try.pinned (OpenSpec.ofChange pagesBlindWrong)

/-- 'halyardlaw07.PagesWalks': WHATEVER THE INPUT: true; the input reads as it did. -/
def pagesWalksSpec : ChangeSpec := { name := "pagesWalks", fn := fun _ => fun
  | [d1, d2, d3, d4] => { results := [.lit (.bool true)], args := [d1, d2, d3, d4] }
  | _ => none }
def pagesWalksRow : OpenClaim := { program := "ytagcohpghgnalaa", sum := "357995c7d8b1cdff9da2b6a1dbc01c472d88c11bb292092a15add12ee3db1aa9", func := "halyard/halyardlaw07.PagesWalks", spec := "pagesWalks", inPlace := ["slices.overlaps[halyard/pages.entry[uint64]]", "slices.overlaps[[]halyard/pages.entry[uint64]]"], unfollowed := true, recurses := true, apart := false }
def PagesWalksSaid : Prop := pagesWalksRow.holds Try.pinned (OpenSpec.ofChange pagesWalksSpec)

/-- ITS FALSE NEIGHBOUR: 'it returns false'. Refute it at one input. -/
def pagesWalksWrong : ChangeSpec := { name := "pagesWalks", fn := fun _ => fun
  | [d1, d2, d3, d4] => { results := [.lit (.bool false)], args := [d1, d2, d3, d4] }
  | _ => none }
def PagesWalksWrongFalsely : Prop := pagesWalksRow.holds Try.pinned (OpenSpec.ofChange pagesWalksWrong)

/-- 'halyardlaw07.PagesTight': WHATEVER THE INPUT: true; the input reads as it did. -/
def pagesTightSpec : ChangeSpec := { name := "pagesTight", fn := fun _ => fun
  | [d1, d2] => { results := [.lit (.bool true)], args := [d1, d2] }
  | _ => none }
def pagesTightRow : OpenClaim := { program := "ytagcohpghgnalaa", sum := "357995c7d8b1cdff9da2b6a1dbc01c472d88c11bb292092a15add12ee3db1aa9", func := "halyard/halyardlaw07.PagesTight", spec := "pagesTight", inPlace := ["slices.overlaps[halyard/pages.entry[uint64]]", "slices.overlaps[[]halyard/pages.entry[uint64]]"], unfollowed := true, recurses := true, apart := false }
def PagesTightSaid : Prop := pagesTightRow.holds Try.pinned (OpenSpec.ofChange pagesTightSpec)

/-- ITS FALSE NEIGHBOUR: 'it returns false'. Refute it at one input. -/
def pagesTightWrong : ChangeSpec := { name := "pagesTight", fn := fun _ => fun
  | [d1, d2] => { results := [.lit (.bool false)], args := [d1, d2] }
  | _ => none }
def PagesTightWrongFalsely : Prop := pagesTightRow.holds Try.pinned (OpenSpec.ofChange pagesTightWrong)

/-- 'halyardlaw07.PagesSought': WHATEVER THE INPUT: true; the input reads as it did. -/
def pagesSoughtSpec : ChangeSpec := { name := "pagesSought", fn := fun _ => fun
  | [d1, d2, d3] => { results := [.lit (.bool true)], args := [d1, d2, d3] }
  | _ => none }
def pagesSoughtRow : OpenClaim := { program := "ytagcohpghgnalaa", sum := "357995c7d8b1cdff9da2b6a1dbc01c472d88c11bb292092a15add12ee3db1aa9", func := "halyard/halyardlaw07.PagesSought", spec := "pagesSought", inPlace := ["slices.overlaps[halyard/pages.entry[uint64]]", "slices.overlaps[[]halyard/pages.entry[uint64]]"], unfollowed := true, recurses := true, apart := false }
def PagesSoughtSaid : Prop := pagesSoughtRow.holds Try.pinned (OpenSpec.ofChange pagesSoughtSpec)

/-- ITS FALSE NEIGHBOUR: 'it returns false'. Refute it at one input. -/
def pagesSoughtWrong : ChangeSpec := { name := "pagesSought", fn := fun _ => fun
  | [d1, d2, d3] => { results := [.lit (.bool false)], args := [d1, d2, d3] }
  | _ => none }
def PagesSoughtWrongFalsely : Prop := pagesSoughtRow.holds Try.pinned (OpenSpec.ofChange pagesSoughtWrong)

/-- 'halyardlaw07.PagesPuts': WHATEVER THE INPUT: true; the input reads as it did. -/
def pagesPutsSpec : ChangeSpec := { name := "pagesPuts", fn := fun _ => fun
  | [d] => { results := [.lit (.bool true)], args := [d] }
  | _ => none }
def pagesPutsRow : OpenClaim := { program := "ytagcohpghgnalaa", sum := "357995c7d8b1cdff9da2b6a1dbc01c472d88c11bb292092a15add12ee3db1aa9", func := "halyard/halyardlaw07.PagesPuts", spec := "pagesPuts", inPlace := ["slices.overlaps[halyard/pages.entry[uint64]]", "slices.overlaps[[]halyard/pages.entry[uint64]]"], unfollowed := true, recurses := true, apart := false }
def PagesPutsSaid : Prop := pagesPutsRow.holds Try.pinned (OpenSpec.ofChange pagesPutsSpec)

/-- ITS FALSE NEIGHBOUR: 'it returns false'. Refute it at one input. -/
def pagesPutsWrong : ChangeSpec := { name := "pagesPuts", fn := fun _ => fun
  | [d] => { results := [.lit (.bool false)], args := [d] }
  | _ => none }
def PagesPutsWrongFalsely : Prop := pagesPutsRow.holds Try.pinned (OpenSpec.ofChange pagesPutsWrong)

/-- 'halyardlaw07.PagesShapes': WHATEVER THE INPUT: true; the input reads as it did. -/
def pagesShapesSpec : ChangeSpec := { name := "pagesShapes", fn := fun _ => fun
  | [d] => { results := [.lit (.bool true)], args := [d] }
  | _ => none }
def pagesShapesRow : OpenClaim := { program := "ytagcohpghgnalaa", sum := "357995c7d8b1cdff9da2b6a1dbc01c472d88c11bb292092a15add12ee3db1aa9", func := "halyard/halyardlaw07.PagesShapes", spec := "pagesShapes", inPlace := ["slices.overlaps[halyard/pages.entry[uint64]]", "slices.overlaps[[]halyard/pages.entry[uint64]]"], unfollowed := true, recurses := true, apart := false }
def PagesShapesSaid : Prop := pagesShapesRow.holds Try.pinned (OpenSpec.ofChange pagesShapesSpec)

/-- ITS FALSE NEIGHBOUR: 'it returns false'. Refute it at one input. -/
def pagesShapesWrong : ChangeSpec := { name := "pagesShapes", fn := fun _ => fun
  | [d] => { results := [.lit (.bool false)], args := [d] }
  | _ => none }
def PagesShapesWrongFalsely : Prop := pagesShapesRow.holds Try.pinned (OpenSpec.ofChange pagesShapesWrong)

/-- 'halyardlaw07.PagesLooks': WHATEVER THE INPUT: true; the input reads as it did. -/
def pagesLooksSpec : ChangeSpec := { name := "pagesLooks", fn := fun _ => fun
  | [d] => { results := [.lit (.bool true)], args := [d] }
  | _ => none }
def pagesLooksRow : OpenClaim := { program := "ytagcohpghgnalaa", sum := "357995c7d8b1cdff9da2b6a1dbc01c472d88c11bb292092a15add12ee3db1aa9", func := "halyard/halyardlaw07.PagesLooks", spec := "pagesLooks", inPlace := ["slices.overlaps[halyard/pages.entry[uint64]]", "slices.overlaps[[]halyard/pages.entry[uint64]]"], unfollowed := true, recurses := true, apart := false }
def PagesLooksSaid : Prop := pagesLooksRow.holds Try.pinned (OpenSpec.ofChange pagesLooksSpec)

/-- ITS FALSE NEIGHBOUR: 'it returns false'. Refute it at one input. -/
def pagesLooksWrong : ChangeSpec := { name := "pagesLooks", fn := fun _ => fun
  | [d] => { results := [.lit (.bool false)], args := [d] }
  | _ => none }
def PagesLooksWrongFalsely : Prop := pagesLooksRow.holds Try.pinned (OpenSpec.ofChange pagesLooksWrong)

/-- 'halyardlaw07.PagesGoes': WHATEVER THE INPUT: true; the input reads as it did. -/
def pagesGoesSpec : ChangeSpec := { name := "pagesGoes", fn := fun _ => fun
  | [d] => { results := [.lit (.bool true)], args := [d] }
  | _ => none }
def pagesGoesRow : OpenClaim := { program := "ytagcohpghgnalaa", sum := "357995c7d8b1cdff9da2b6a1dbc01c472d88c11bb292092a15add12ee3db1aa9", func := "halyard/halyardlaw07.PagesGoes", spec := "pagesGoes", inPlace := ["slices.overlaps[halyard/pages.entry[uint64]]", "slices.overlaps[[]halyard/pages.entry[uint64]]"], unfollowed := true, recurses := true, apart := false }
def PagesGoesSaid : Prop := pagesGoesRow.holds Try.pinned (OpenSpec.ofChange pagesGoesSpec)

/-- ITS FALSE NEIGHBOUR: 'it returns false'. Refute it at one input. -/
def pagesGoesWrong : ChangeSpec := { name := "pagesGoes", fn := fun _ => fun
  | [d] => { results := [.lit (.bool false)], args := [d] }
  | _ => none }
def PagesGoesWrongFalsely : Prop := pagesGoesRow.holds Try.pinned (OpenSpec.ofChange pagesGoesWrong)

/-- 'halyardlaw07.PagesPlays': WHATEVER THE INPUT: true; the input reads as it did. -/
def pagesPlaysSpec : ChangeSpec := { name := "pagesPlays", fn := fun _ => fun
  | [d] => { results := [.lit (.bool true)], args := [d] }
  | _ => none }
def pagesPlaysRow : OpenClaim := { program := "ytagcohpghgnalaa", sum := "357995c7d8b1cdff9da2b6a1dbc01c472d88c11bb292092a15add12ee3db1aa9", func := "halyard/halyardlaw07.PagesPlays", spec := "pagesPlays", inPlace := ["slices.overlaps[halyard/pages.entry[uint64]]", "slices.overlaps[[]halyard/pages.entry[uint64]]"], unfollowed := true, recurses := true, apart := false }
def PagesPlaysSaid : Prop := pagesPlaysRow.holds Try.pinned (OpenSpec.ofChange pagesPlaysSpec)

/-- ITS FALSE NEIGHBOUR: 'it returns false'. Refute it at one input. -/
def pagesPlaysWrong : ChangeSpec := { name := "pagesPlays", fn := fun _ => fun
  | [d] => { results := [.lit (.bool false)], args := [d] }
  | _ => none }
def PagesPlaysWrongFalsely : Prop := pagesPlaysRow.holds Try.pinned (OpenSpec.ofChange pagesPlaysWrong)

/-- 'halyardlaw07.PagesTwo': WHATEVER THE INPUT: true; the input reads as it did. -/
def pagesTwoSpec : ChangeSpec := { name := "pagesTwo", fn := fun _ => fun
  | [d1, d2] => { results := [.lit (.bool true)], args := [d1, d2] }
  | _ => none }
def pagesTwoRow : OpenClaim := { program := "ytagcohpghgnalaa", sum := "357995c7d8b1cdff9da2b6a1dbc01c472d88c11bb292092a15add12ee3db1aa9", func := "halyard/halyardlaw07.PagesTwo", spec := "pagesTwo", inPlace := ["slices.overlaps[halyard/pages.entry[uint64]]", "slices.overlaps[[]halyard/pages.entry[uint64]]"], unfollowed := true, recurses := true, apart := false }
def PagesTwoSaid : Prop := pagesTwoRow.holds Try.pinned (OpenSpec.ofChange pagesTwoSpec)

/-- ITS FALSE NEIGHBOUR: 'it returns false'. Refute it at one input. -/
def pagesTwoWrong : ChangeSpec := { name := "pagesTwo", fn := fun _ => fun
  | [d1, d2] => { results := [.lit (.bool false)], args := [d1, d2] }
  | _ => none }
def PagesTwoWrongFalsely : Prop := pagesTwoRow.holds Try.pinned (OpenSpec.ofChange pagesTwoWrong)

/-- 'halyardlaw07.PagesNil': WHATEVER THE INPUT: true; the input reads as it did. -/
def pagesNilSpec : ChangeSpec := { name := "pagesNil", fn := fun _ => fun
  | [d] => { results := [.lit (.bool true)], args := [d] }
  | _ => none }
def pagesNilRow : OpenClaim := { program := "ytagcohpghgnalaa", sum := "357995c7d8b1cdff9da2b6a1dbc01c472d88c11bb292092a15add12ee3db1aa9", func := "halyard/halyardlaw07.PagesNil", spec := "pagesNil", inPlace := ["slices.overlaps[halyard/pages.entry[uint64]]", "slices.overlaps[[]halyard/pages.entry[uint64]]"], unfollowed := true, recurses := true, apart := false }
def PagesNilSaid : Prop := pagesNilRow.holds Try.pinned (OpenSpec.ofChange pagesNilSpec)

/-- ITS FALSE NEIGHBOUR: 'it returns false'. Refute it at one input. -/
def pagesNilWrong : ChangeSpec := { name := "pagesNil", fn := fun _ => fun
  | [d] => { results := [.lit (.bool false)], args := [d] }
  | _ => none }
def PagesNilWrongFalsely : Prop := pagesNilRow.holds Try.pinned (OpenSpec.ofChange pagesNilWrong)

/-- 'halyardlaw07.PagesOwn': WHATEVER THE INPUT: true; the input reads as it did. -/
def pagesOwnSpec : ChangeSpec := { name := "pagesOwn", fn := fun _ => fun
  | [d] => { results := [.lit (.bool true)], args := [d] }
  | _ => none }
def pagesOwnRow : OpenClaim := { program := "ytagcohpghgnalaa", sum := "357995c7d8b1cdff9da2b6a1dbc01c472d88c11bb292092a15add12ee3db1aa9", func := "halyard/halyardlaw07.PagesOwn", spec := "pagesOwn", inPlace := ["slices.overlaps[halyard/pages.entry[uint64]]", "slices.overlaps[[]halyard/pages.entry[uint64]]"], unfollowed := true, recurses := true, apart := false }
def PagesOwnSaid : Prop := pagesOwnRow.holds Try.pinned (OpenSpec.ofChange pagesOwnSpec)

/-- ITS FALSE NEIGHBOUR: 'it returns false'. Refute it at one input. -/
def pagesOwnWrong : ChangeSpec := { name := "pagesOwn", fn := fun _ => fun
  | [d] => { results := [.lit (.bool false)], args := [d] }
  | _ => none }
def PagesOwnWrongFalsely : Prop := pagesOwnRow.holds Try.pinned (OpenSpec.ofChange pagesOwnWrong)

/- THE SECOND FORM. 'bulk': how many values and letters a reading holds, each counted each time it is reached (what is shared counts as often as it is met; a slice's spare places count too). A statement '..UptoSaid' is the law's where the arguments, and the package variables that the reading takes, are together of bulk at most 1048576: NARROWER than '..Said'. Prove '..Said' where nothing that the law and all that it calls make is longer than what came in: it says more and counts as full. Else prove '..UptoSaid'. A law counts once. -/
mutual
def uptoBulk {H : Type} : DataW H → Nat
  | .lit (.string bytes) => bytes.length + 1
  | .lit _ => 1
  | .nil => 1
  | .ptr d => uptoBulk d + 1
  | .slice elems spare => uptoBulkAll elems + uptoBulkAll spare + 1
  | .agg parts => uptoBulkAll parts + 1
  | .iface _ d => uptoBulk d + 1
  | .map entries => uptoBulkEntries entries + 1
  | .held _ => 1
def uptoBulkAll {H : Type} : List (DataW H) → Nat
  | [] => 0
  | d :: r => uptoBulk d + uptoBulkAll r
def uptoBulkEntries {H : Type} : List (Lit × DataW H) → Nat
  | [] => 0
  | x :: r => uptoBulkEntry x + uptoBulkEntries r
def uptoBulkEntry {H : Type} : Lit × DataW H → Nat
  | (.string bytes, d) => bytes.length + uptoBulk d + 1
  | (_, d) => uptoBulk d + 1
 end
def uptoSmall : (H : Type) → List (DataW H) → Bool := fun _ ds => decide (uptoBulkAll ds ≤ 1048576)
def OpenSpec.upto (s : _root_.Go.ChangeSpec) : _root_.Go.OpenSpec := { _root_.Go.OpenSpec.ofChange s with cond := some uptoSmall }

/-- 'halyardlaw07.PagesNames', WHERE WHAT IT READS IS OF BULK AT MOST 1048576: true; the input reads as it did. -/
def pagesNamesUptoRow : OpenClaim := { program := "ytagcohpghgnalaa", sum := "357995c7d8b1cdff9da2b6a1dbc01c472d88c11bb292092a15add12ee3db1aa9", func := "halyard/halyardlaw07.PagesNames", spec := "pagesNames", inPlace := ["slices.overlaps[halyard/pages.entry[uint64]]", "slices.overlaps[[]halyard/pages.entry[uint64]]"], unfollowed := true, recurses := true, apart := false, narrowed := true }
def PagesNamesUptoSaid : Prop := pagesNamesUptoRow.holds Try.pinned (OpenSpec.upto pagesNamesSpec)

/-- 'halyardlaw07.PagesMap', WHERE WHAT IT READS IS OF BULK AT MOST 1048576: true; the input reads as it did. -/
def pagesMapUptoRow : OpenClaim := { program := "ytagcohpghgnalaa", sum := "357995c7d8b1cdff9da2b6a1dbc01c472d88c11bb292092a15add12ee3db1aa9", func := "halyard/halyardlaw07.PagesMap", spec := "pagesMap", inPlace := ["slices.overlaps[halyard/pages.entry[uint64]]", "slices.overlaps[[]halyard/pages.entry[uint64]]"], unfollowed := true, recurses := true, apart := false, narrowed := true }
def PagesMapUptoSaid : Prop := pagesMapUptoRow.holds Try.pinned (OpenSpec.upto pagesMapSpec)

/-- 'halyardlaw07.PagesBlind', WHERE WHAT IT READS IS OF BULK AT MOST 1048576: true; the input reads as it did. -/
def pagesBlindUptoRow : OpenClaim := { program := "ytagcohpghgnalaa", sum := "357995c7d8b1cdff9da2b6a1dbc01c472d88c11bb292092a15add12ee3db1aa9", func := "halyard/halyardlaw07.PagesBlind", spec := "pagesBlind", inPlace := ["slices.overlaps[halyard/pages.entry[uint64]]", "slices.overlaps[[]halyard/pages.entry[uint64]]", "slices.overlaps[halyard/pages.entry[string]]", "slices.overlaps[[]halyard/pages.entry[string]]"], unfollowed := true, recurses := true, apart := false, narrowed := true }
def PagesBlindUptoSaid : Prop := pagesBlindUptoRow.holds Try.pinned (OpenSpec.upto pagesBlindSpec)

/-- 'halyardlaw07.PagesWalks', WHERE WHAT IT READS IS OF BULK AT MOST 1048576: true; the input reads as it did. -/
def pagesWalksUptoRow : OpenClaim := { program := "ytagcohpghgnalaa", sum := "357995c7d8b1cdff9da2b6a1dbc01c472d88c11bb292092a15add12ee3db1aa9", func := "halyard/halyardlaw07.PagesWalks", spec := "pagesWalks", inPlace := ["slices.overlaps[halyard/pages.entry[uint64]]", "slices.overlaps[[]halyard/pages.entry[uint64]]"], unfollowed := true, recurses := true, apart := false, narrowed := true }
def PagesWalksUptoSaid : Prop := pagesWalksUptoRow.holds Try.pinned (OpenSpec.upto pagesWalksSpec)

/-- 'halyardlaw07.PagesTight', WHERE WHAT IT READS IS OF BULK AT MOST 1048576: true; the input reads as it did. -/
def pagesTightUptoRow : OpenClaim := { program := "ytagcohpghgnalaa", sum := "357995c7d8b1cdff9da2b6a1dbc01c472d88c11bb292092a15add12ee3db1aa9", func := "halyard/halyardlaw07.PagesTight", spec := "pagesTight", inPlace := ["slices.overlaps[halyard/pages.entry[uint64]]", "slices.overlaps[[]halyard/pages.entry[uint64]]"], unfollowed := true, recurses := true, apart := false, narrowed := true }
def PagesTightUptoSaid : Prop := pagesTightUptoRow.holds Try.pinned (OpenSpec.upto pagesTightSpec)

/-- 'halyardlaw07.PagesSought', WHERE WHAT IT READS IS OF BULK AT MOST 1048576: true; the input reads as it did. -/
def pagesSoughtUptoRow : OpenClaim := { program := "ytagcohpghgnalaa", sum := "357995c7d8b1cdff9da2b6a1dbc01c472d88c11bb292092a15add12ee3db1aa9", func := "halyard/halyardlaw07.PagesSought", spec := "pagesSought", inPlace := ["slices.overlaps[halyard/pages.entry[uint64]]", "slices.overlaps[[]halyard/pages.entry[uint64]]"], unfollowed := true, recurses := true, apart := false, narrowed := true }
def PagesSoughtUptoSaid : Prop := pagesSoughtUptoRow.holds Try.pinned (OpenSpec.upto pagesSoughtSpec)

/-- 'halyardlaw07.PagesPuts', WHERE WHAT IT READS IS OF BULK AT MOST 1048576: true; the input reads as it did. -/
def pagesPutsUptoRow : OpenClaim := { program := "ytagcohpghgnalaa", sum := "357995c7d8b1cdff9da2b6a1dbc01c472d88c11bb292092a15add12ee3db1aa9", func := "halyard/halyardlaw07.PagesPuts", spec := "pagesPuts", inPlace := ["slices.overlaps[halyard/pages.entry[uint64]]", "slices.overlaps[[]halyard/pages.entry[uint64]]"], unfollowed := true, recurses := true, apart := false, narrowed := true }
def PagesPutsUptoSaid : Prop := pagesPutsUptoRow.holds Try.pinned (OpenSpec.upto pagesPutsSpec)

/-- 'halyardlaw07.PagesShapes', WHERE WHAT IT READS IS OF BULK AT MOST 1048576: true; the input reads as it did. -/
def pagesShapesUptoRow : OpenClaim := { program := "ytagcohpghgnalaa", sum := "357995c7d8b1cdff9da2b6a1dbc01c472d88c11bb292092a15add12ee3db1aa9", func := "halyard/halyardlaw07.PagesShapes", spec := "pagesShapes", inPlace := ["slices.overlaps[halyard/pages.entry[uint64]]", "slices.overlaps[[]halyard/pages.entry[uint64]]"], unfollowed := true, recurses := true, apart := false, narrowed := true }
def PagesShapesUptoSaid : Prop := pagesShapesUptoRow.holds Try.pinned (OpenSpec.upto pagesShapesSpec)

/-- 'halyardlaw07.PagesLooks', WHERE WHAT IT READS IS OF BULK AT MOST 1048576: true; the input reads as it did. -/
def pagesLooksUptoRow : OpenClaim := { program := "ytagcohpghgnalaa", sum := "357995c7d8b1cdff9da2b6a1dbc01c472d88c11bb292092a15add12ee3db1aa9", func := "halyard/halyardlaw07.PagesLooks", spec := "pagesLooks", inPlace := ["slices.overlaps[halyard/pages.entry[uint64]]", "slices.overlaps[[]halyard/pages.entry[uint64]]"], unfollowed := true, recurses := true, apart := false, narrowed := true }
def PagesLooksUptoSaid : Prop := pagesLooksUptoRow.holds Try.pinned (OpenSpec.upto pagesLooksSpec)

/-- 'halyardlaw07.PagesGoes', WHERE WHAT IT READS IS OF BULK AT MOST 1048576: true; the input reads as it did. -/
def pagesGoesUptoRow : OpenClaim := { program := "ytagcohpghgnalaa", sum := "357995c7d8b1cdff9da2b6a1dbc01c472d88c11bb292092a15add12ee3db1aa9", func := "halyard/halyardlaw07.PagesGoes", spec := "pagesGoes", inPlace := ["slices.overlaps[halyard/pages.entry[uint64]]", "slices.overlaps[[]halyard/pages.entry[uint64]]"], unfollowed := true, recurses := true, apart := false, narrowed := true }
def PagesGoesUptoSaid : Prop := pagesGoesUptoRow.holds Try.pinned (OpenSpec.upto pagesGoesSpec)

/-- 'halyardlaw07.PagesPlays', WHERE WHAT IT READS IS OF BULK AT MOST 1048576: true; the input reads as it did. -/
def pagesPlaysUptoRow : OpenClaim := { program := "ytagcohpghgnalaa", sum := "357995c7d8b1cdff9da2b6a1dbc01c472d88c11bb292092a15add12ee3db1aa9", func := "halyard/halyardlaw07.PagesPlays", spec := "pagesPlays", inPlace := ["slices.overlaps[halyard/pages.entry[uint64]]", "slices.overlaps[[]halyard/pages.entry[uint64]]"], unfollowed := true, recurses := true, apart := false, narrowed := true }
def PagesPlaysUptoSaid : Prop := pagesPlaysUptoRow.holds Try.pinned (OpenSpec.upto pagesPlaysSpec)

/-- 'halyardlaw07.PagesTwo', WHERE WHAT IT READS IS OF BULK AT MOST 1048576: true; the input reads as it did. -/
def pagesTwoUptoRow : OpenClaim := { program := "ytagcohpghgnalaa", sum := "357995c7d8b1cdff9da2b6a1dbc01c472d88c11bb292092a15add12ee3db1aa9", func := "halyard/halyardlaw07.PagesTwo", spec := "pagesTwo", inPlace := ["slices.overlaps[halyard/pages.entry[uint64]]", "slices.overlaps[[]halyard/pages.entry[uint64]]"], unfollowed := true, recurses := true, apart := false, narrowed := true }
def PagesTwoUptoSaid : Prop := pagesTwoUptoRow.holds Try.pinned (OpenSpec.upto pagesTwoSpec)

/-- 'halyardlaw07.PagesNil', WHERE WHAT IT READS IS OF BULK AT MOST 1048576: true; the input reads as it did. -/
def pagesNilUptoRow : OpenClaim := { program := "ytagcohpghgnalaa", sum := "357995c7d8b1cdff9da2b6a1dbc01c472d88c11bb292092a15add12ee3db1aa9", func := "halyard/halyardlaw07.PagesNil", spec := "pagesNil", inPlace := ["slices.overlaps[halyard/pages.entry[uint64]]", "slices.overlaps[[]halyard/pages.entry[uint64]]"], unfollowed := true, recurses := true, apart := false, narrowed := true }
def PagesNilUptoSaid : Prop := pagesNilUptoRow.holds Try.pinned (OpenSpec.upto pagesNilSpec)

/-- 'halyardlaw07.PagesOwn', WHERE WHAT IT READS IS OF BULK AT MOST 1048576: true; the input reads as it did. -/
def pagesOwnUptoRow : OpenClaim := { program := "ytagcohpghgnalaa", sum := "357995c7d8b1cdff9da2b6a1dbc01c472d88c11bb292092a15add12ee3db1aa9", func := "halyard/halyardlaw07.PagesOwn", spec := "pagesOwn", inPlace := ["slices.overlaps[halyard/pages.entry[uint64]]", "slices.overlaps[[]halyard/pages.entry[uint64]]"], unfollowed := true, recurses := true, apart := false, narrowed := true }
def PagesOwnUptoSaid : Prop := pagesOwnUptoRow.holds Try.pinned (OpenSpec.upto pagesOwnSpec)

end Rows
end Go.Proofs.Ytagcohpghgnalaa
