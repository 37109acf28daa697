/-
  No cell of these rows narrows 'for every input' (looked for: loops, veiled, ifaces, maps, wideKeys, modest, calm, conditions, laid).
  DERIVED. THE GIVEN ROWS OF THIS SEAT. 12 by the template 'for every input the law returns true; each argument reads behind the call as it read before'; 0 by the template 'total and deterministic' (their statements: YtfeicmpbfbhiiaaGreatTotals.lean).
  GIVEN WITH THE SEED: the statements are not yours to turn. If you find one false, say at which input.
  Laid BY PROGRAM, IN A SANDBOX (cutbox-rows.mjs): the forced cells as the released guide's own fill.sh prints them over the translation f99e942238e9b87f… (all of the seat's roots in one cut). By AI agents, Wed Nov 11 2026. No macro, syntax, notation, axiom, sorry.
-/
import Derived.Test.YtfeicmpbfbhiiaaGreatChecked
import GoSem.Claim
import GoSem.ClaimJoined
import GoSem.ClaimMapViews
import Derived.JoinedTies
import Derived.KernelRfl
namespace Go.Proofs.YtfeicmpbfbhiiaaGreat
/- THE CELL 'sum', in the pinned program and in every row, IS THE sha256 OF THE DUMP (.gsa) THAT YtfeicmpbfbhiiaaGreatProg.lean LOADS. Nothing in Lean hashes anything: it is a label: what it is worth is what the hold of that sum in a sandbox is worth. -/
noncomputable def Tryz.pinned : Pinned := { name := "ytfeicmpbfbhiiaagreat", sum := "f99e942238e9b87f1331030da1cb81ed55ba45e6a40f1b141e767e8fa3e3f1da", checked := Tryz.checked }
namespace Rows
def none {H : Type} : Left H := { results := [], args := [] }

/-- 'hoardlaw15.EngineFrom': WHATEVER THE INPUT: true; the input reads as it did. -/
def engineFromSpec : ChangeSpec := { name := "engineFrom", fn := fun _ => fun
  | [d1, d2, d3] => { results := [.lit (.bool true)], args := [d1, d2, d3] }
  | _ => none }
def engineFromRow : OpenClaim := { program := "ytfeicmpbfbhiiaagreat", sum := "f99e942238e9b87f1331030da1cb81ed55ba45e6a40f1b141e767e8fa3e3f1da", func := "hoard/hoardlaw15.EngineFrom", spec := "engineFrom", unfollowed := true, recurses := true, apart := false }
def EngineFromSaid : Prop := engineFromRow.holds Tryz.pinned (OpenSpec.ofChange engineFromSpec)

/-- ITS FALSE NEIGHBOUR: 'it returns false'. Refute it at one input. -/
def engineFromWrong : ChangeSpec := { name := "engineFrom", fn := fun _ => fun
  | [d1, d2, d3] => { results := [.lit (.bool false)], args := [d1, d2, d3] }
  | _ => none }
def EngineFromWrongFalsely : Prop := engineFromRow.holds Tryz.pinned (OpenSpec.ofChange engineFromWrong)

/-- 'hoardlaw18.PanelFolds': WHATEVER THE INPUT: true; the input reads as it did. -/
def panelFoldsSpec : ChangeSpec := { name := "panelFolds", fn := fun _ => fun
  | [d1, d2, d3] => { results := [.lit (.bool true)], args := [d1, d2, d3] }
  | _ => none }
def panelFoldsRow : OpenClaim := { program := "ytfeicmpbfbhiiaagreat", sum := "f99e942238e9b87f1331030da1cb81ed55ba45e6a40f1b141e767e8fa3e3f1da", func := "hoard/hoardlaw18.PanelFolds", spec := "panelFolds", unfollowed := true, recurses := true, apart := false }
def PanelFoldsSaid : Prop := panelFoldsRow.holds Tryz.pinned (OpenSpec.ofChange panelFoldsSpec)

/-- ITS FALSE NEIGHBOUR: 'it returns false'. Refute it at one input. -/
def panelFoldsWrong : ChangeSpec := { name := "panelFolds", fn := fun _ => fun
  | [d1, d2, d3] => { results := [.lit (.bool false)], args := [d1, d2, d3] }
  | _ => none }
def PanelFoldsWrongFalsely : Prop := panelFoldsRow.holds Tryz.pinned (OpenSpec.ofChange panelFoldsWrong)

/-- 'hoardlaw18.PanelPlays': WHATEVER THE INPUT: true; the input reads as it did. -/
def panelPlaysSpec : ChangeSpec := { name := "panelPlays", fn := fun _ => fun
  | [d1, d2, d3] => { results := [.lit (.bool true)], args := [d1, d2, d3] }
  | _ => none }
def panelPlaysRow : OpenClaim := { program := "ytfeicmpbfbhiiaagreat", sum := "f99e942238e9b87f1331030da1cb81ed55ba45e6a40f1b141e767e8fa3e3f1da", func := "hoard/hoardlaw18.PanelPlays", spec := "panelPlays", unfollowed := true, recurses := true, apart := false }
def PanelPlaysSaid : Prop := panelPlaysRow.holds Tryz.pinned (OpenSpec.ofChange panelPlaysSpec)

/-- ITS FALSE NEIGHBOUR: 'it returns false'. Refute it at one input. -/
def panelPlaysWrong : ChangeSpec := { name := "panelPlays", fn := fun _ => fun
  | [d1, d2, d3] => { results := [.lit (.bool false)], args := [d1, d2, d3] }
  | _ => none }
def PanelPlaysWrongFalsely : Prop := panelPlaysRow.holds Tryz.pinned (OpenSpec.ofChange panelPlaysWrong)

/-- 'hoardlaw15.EngineMoves': WHATEVER THE INPUT: true; the input reads as it did. -/
def engineMovesSpec : ChangeSpec := { name := "engineMoves", fn := fun _ => fun
  | [d1, d2, d3, d4] => { results := [.lit (.bool true)], args := [d1, d2, d3, d4] }
  | _ => none }
def engineMovesRow : OpenClaim := { program := "ytfeicmpbfbhiiaagreat", sum := "f99e942238e9b87f1331030da1cb81ed55ba45e6a40f1b141e767e8fa3e3f1da", func := "hoard/hoardlaw15.EngineMoves", spec := "engineMoves", unfollowed := true, recurses := true, apart := false }
def EngineMovesSaid : Prop := engineMovesRow.holds Tryz.pinned (OpenSpec.ofChange engineMovesSpec)

/-- ITS FALSE NEIGHBOUR: 'it returns false'. Refute it at one input. -/
def engineMovesWrong : ChangeSpec := { name := "engineMoves", fn := fun _ => fun
  | [d1, d2, d3, d4] => { results := [.lit (.bool false)], args := [d1, d2, d3, d4] }
  | _ => none }
def EngineMovesWrongFalsely : Prop := engineMovesRow.holds Tryz.pinned (OpenSpec.ofChange engineMovesWrong)

/-- 'hoardlaw23.MoverStays': WHATEVER THE INPUT: true; the input reads as it did. -/
def moverStaysSpec : ChangeSpec := { name := "moverStays", fn := fun _ => fun
  | [d1, d2, d3, d4, d5] => { results := [.lit (.bool true)], args := [d1, d2, d3, d4, d5] }
  | _ => none }
def moverStaysRow : OpenClaim := { program := "ytfeicmpbfbhiiaagreat", sum := "f99e942238e9b87f1331030da1cb81ed55ba45e6a40f1b141e767e8fa3e3f1da", func := "hoard/hoardlaw23.MoverStays", spec := "moverStays", unfollowed := true, recurses := true, apart := false }
def MoverStaysSaid : Prop := moverStaysRow.holds Tryz.pinned (OpenSpec.ofChange moverStaysSpec)

/-- ITS FALSE NEIGHBOUR: 'it returns false'. Refute it at one input. -/
def moverStaysWrong : ChangeSpec := { name := "moverStays", fn := fun _ => fun
  | [d1, d2, d3, d4, d5] => { results := [.lit (.bool false)], args := [d1, d2, d3, d4, d5] }
  | _ => none }
def MoverStaysWrongFalsely : Prop := moverStaysRow.holds Tryz.pinned (OpenSpec.ofChange moverStaysWrong)

/-- 'hoardlaw23.MoverBounds': WHATEVER THE INPUT: true; the input reads as it did. -/
def moverBoundsSpec : ChangeSpec := { name := "moverBounds", fn := fun _ => fun
  | [d1, d2, d3] => { results := [.lit (.bool true)], args := [d1, d2, d3] }
  | _ => none }
def moverBoundsRow : OpenClaim := { program := "ytfeicmpbfbhiiaagreat", sum := "f99e942238e9b87f1331030da1cb81ed55ba45e6a40f1b141e767e8fa3e3f1da", func := "hoard/hoardlaw23.MoverBounds", spec := "moverBounds", unfollowed := true, recurses := true, apart := false }
def MoverBoundsSaid : Prop := moverBoundsRow.holds Tryz.pinned (OpenSpec.ofChange moverBoundsSpec)

/-- ITS FALSE NEIGHBOUR: 'it returns false'. Refute it at one input. -/
def moverBoundsWrong : ChangeSpec := { name := "moverBounds", fn := fun _ => fun
  | [d1, d2, d3] => { results := [.lit (.bool false)], args := [d1, d2, d3] }
  | _ => none }
def MoverBoundsWrongFalsely : Prop := moverBoundsRow.holds Tryz.pinned (OpenSpec.ofChange moverBoundsWrong)

/-- 'hoardlaw23.MoverInserts': WHATEVER THE INPUT: true; the input reads as it did. -/
def moverInsertsSpec : ChangeSpec := { name := "moverInserts", fn := fun _ => fun
  | [d1, d2, d3, d4] => { results := [.lit (.bool true)], args := [d1, d2, d3, d4] }
  | _ => none }
def moverInsertsRow : OpenClaim := { program := "ytfeicmpbfbhiiaagreat", sum := "f99e942238e9b87f1331030da1cb81ed55ba45e6a40f1b141e767e8fa3e3f1da", func := "hoard/hoardlaw23.MoverInserts", spec := "moverInserts", unfollowed := true, recurses := true, apart := false }
def MoverInsertsSaid : Prop := moverInsertsRow.holds Tryz.pinned (OpenSpec.ofChange moverInsertsSpec)

/-- ITS FALSE NEIGHBOUR: 'it returns false'. Refute it at one input. -/
def moverInsertsWrong : ChangeSpec := { name := "moverInserts", fn := fun _ => fun
  | [d1, d2, d3, d4] => { results := [.lit (.bool false)], args := [d1, d2, d3, d4] }
  | _ => none }
def MoverInsertsWrongFalsely : Prop := moverInsertsRow.holds Tryz.pinned (OpenSpec.ofChange moverInsertsWrong)

/-- 'hoardlaw23.MoverRooms': WHATEVER THE INPUT: true; the input reads as it did. -/
def moverRoomsSpec : ChangeSpec := { name := "moverRooms", fn := fun _ => fun
  | [d1, d2, d3, d4] => { results := [.lit (.bool true)], args := [d1, d2, d3, d4] }
  | _ => none }
def moverRoomsRow : OpenClaim := { program := "ytfeicmpbfbhiiaagreat", sum := "f99e942238e9b87f1331030da1cb81ed55ba45e6a40f1b141e767e8fa3e3f1da", func := "hoard/hoardlaw23.MoverRooms", spec := "moverRooms", unfollowed := true, recurses := true, apart := false }
def MoverRoomsSaid : Prop := moverRoomsRow.holds Tryz.pinned (OpenSpec.ofChange moverRoomsSpec)

/-- ITS FALSE NEIGHBOUR: 'it returns false'. Refute it at one input. -/
def moverRoomsWrong : ChangeSpec := { name := "moverRooms", fn := fun _ => fun
  | [d1, d2, d3, d4] => { results := [.lit (.bool false)], args := [d1, d2, d3, d4] }
  | _ => none }
def MoverRoomsWrongFalsely : Prop := moverRoomsRow.holds Tryz.pinned (OpenSpec.ofChange moverRoomsWrong)

/-- 'hoardlaw23.MoverReads': WHATEVER THE INPUT: true; the input reads as it did. -/
def moverReadsSpec : ChangeSpec := { name := "moverReads", fn := fun _ => fun
  | [d1, d2, d3, d4] => { results := [.lit (.bool true)], args := [d1, d2, d3, d4] }
  | _ => none }
def moverReadsRow : OpenClaim := { program := "ytfeicmpbfbhiiaagreat", sum := "f99e942238e9b87f1331030da1cb81ed55ba45e6a40f1b141e767e8fa3e3f1da", func := "hoard/hoardlaw23.MoverReads", spec := "moverReads", unfollowed := true, recurses := true, apart := false }
def MoverReadsSaid : Prop := moverReadsRow.holds Tryz.pinned (OpenSpec.ofChange moverReadsSpec)

/-- ITS FALSE NEIGHBOUR: 'it returns false'. Refute it at one input. -/
def moverReadsWrong : ChangeSpec := { name := "moverReads", fn := fun _ => fun
  | [d1, d2, d3, d4] => { results := [.lit (.bool false)], args := [d1, d2, d3, d4] }
  | _ => none }
def MoverReadsWrongFalsely : Prop := moverReadsRow.holds Tryz.pinned (OpenSpec.ofChange moverReadsWrong)

/-- 'hoardlaw23.MoverRemoves': WHATEVER THE INPUT: true; the input reads as it did. -/
def moverRemovesSpec : ChangeSpec := { name := "moverRemoves", fn := fun _ => fun
  | [d1, d2, d3, d4] => { results := [.lit (.bool true)], args := [d1, d2, d3, d4] }
  | _ => none }
def moverRemovesRow : OpenClaim := { program := "ytfeicmpbfbhiiaagreat", sum := "f99e942238e9b87f1331030da1cb81ed55ba45e6a40f1b141e767e8fa3e3f1da", func := "hoard/hoardlaw23.MoverRemoves", spec := "moverRemoves", unfollowed := true, recurses := true, apart := false }
def MoverRemovesSaid : Prop := moverRemovesRow.holds Tryz.pinned (OpenSpec.ofChange moverRemovesSpec)

/-- ITS FALSE NEIGHBOUR: 'it returns false'. Refute it at one input. -/
def moverRemovesWrong : ChangeSpec := { name := "moverRemoves", fn := fun _ => fun
  | [d1, d2, d3, d4] => { results := [.lit (.bool false)], args := [d1, d2, d3, d4] }
  | _ => none }
def MoverRemovesWrongFalsely : Prop := moverRemovesRow.holds Tryz.pinned (OpenSpec.ofChange moverRemovesWrong)

/-- 'hoardlaw23.MoverEnds': WHATEVER THE INPUT: true; the input reads as it did. -/
def moverEndsSpec : ChangeSpec := { name := "moverEnds", fn := fun _ => fun
  | [d1, d2, d3, d4] => { results := [.lit (.bool true)], args := [d1, d2, d3, d4] }
  | _ => none }
def moverEndsRow : OpenClaim := { program := "ytfeicmpbfbhiiaagreat", sum := "f99e942238e9b87f1331030da1cb81ed55ba45e6a40f1b141e767e8fa3e3f1da", func := "hoard/hoardlaw23.MoverEnds", spec := "moverEnds", unfollowed := true, recurses := true, apart := false }
def MoverEndsSaid : Prop := moverEndsRow.holds Tryz.pinned (OpenSpec.ofChange moverEndsSpec)

/-- ITS FALSE NEIGHBOUR: 'it returns false'. Refute it at one input. -/
def moverEndsWrong : ChangeSpec := { name := "moverEnds", fn := fun _ => fun
  | [d1, d2, d3, d4] => { results := [.lit (.bool false)], args := [d1, d2, d3, d4] }
  | _ => none }
def MoverEndsWrongFalsely : Prop := moverEndsRow.holds Tryz.pinned (OpenSpec.ofChange moverEndsWrong)

/-- 'hoardlaw23.MoverErrors': WHATEVER THE INPUT: true; the input reads as it did. -/
def moverErrorsSpec : ChangeSpec := { name := "moverErrors", fn := fun _ => fun
  | [d1, d2, d3, d4] => { results := [.lit (.bool true)], args := [d1, d2, d3, d4] }
  | _ => none }
def moverErrorsRow : OpenClaim := { program := "ytfeicmpbfbhiiaagreat", sum := "f99e942238e9b87f1331030da1cb81ed55ba45e6a40f1b141e767e8fa3e3f1da", func := "hoard/hoardlaw23.MoverErrors", spec := "moverErrors", unfollowed := true, recurses := true, apart := false }
def MoverErrorsSaid : Prop := moverErrorsRow.holds Tryz.pinned (OpenSpec.ofChange moverErrorsSpec)

/-- ITS FALSE NEIGHBOUR: 'it returns false'. Refute it at one input. -/
def moverErrorsWrong : ChangeSpec := { name := "moverErrors", fn := fun _ => fun
  | [d1, d2, d3, d4] => { results := [.lit (.bool false)], args := [d1, d2, d3, d4] }
  | _ => none }
def MoverErrorsWrongFalsely : Prop := moverErrorsRow.holds Tryz.pinned (OpenSpec.ofChange moverErrorsWrong)

/- THE SECOND FORM. 'bulk': how many values and letters a reading holds, each counted each time it is reached (what is shared counts as often as it is met; a slice's spare places count too). A statement '..UptoSaid' is the law's where the arguments, and the package variables that the reading takes, are together of bulk at most 1048576: NARROWER than '..Said'. Prove '..Said' where nothing that the law and all that it calls make is longer than what came in: it says more and counts as full. Else prove '..UptoSaid'. A law counts once. -/
mutual
def uptoBulk {H : Type} : DataW H → Nat
  | .lit (.string bytes) => bytes.length + 1
  | .lit _ => 1
  | .nil => 1
  | .ptr d => uptoBulk d + 1
  | .slice elems spare => uptoBulkAll elems + uptoBulkAll spare + 1
  | .agg parts => uptoBulkAll parts + 1
  | .iface _ d => uptoBulk d + 1
  | .map entries => uptoBulkEntries entries + 1
  | .held _ => 1
def uptoBulkAll {H : Type} : List (DataW H) → Nat
  | [] => 0
  | d :: r => uptoBulk d + uptoBulkAll r
def uptoBulkEntries {H : Type} : List (Lit × DataW H) → Nat
  | [] => 0
  | x :: r => uptoBulkEntry x + uptoBulkEntries r
def uptoBulkEntry {H : Type} : Lit × DataW H → Nat
  | (.string bytes, d) => bytes.length + uptoBulk d + 1
  | (_, d) => uptoBulk d + 1
 end
def uptoSmall : (H : Type) → List (DataW H) → Bool := fun _ ds => decide (uptoBulkAll ds ≤ 1048576)
def OpenSpec.upto (s : _root_.Go.ChangeSpec) : _root_.Go.OpenSpec := { _root_.Go.OpenSpec.ofChange s with cond := some uptoSmall }

/-- 'hoardlaw15.EngineFrom', WHERE WHAT IT READS IS OF BULK AT MOST 1048576: true; the input reads as it did. -/
def engineFromUptoRow : OpenClaim := { program := "ytfeicmpbfbhiiaagreat", sum := "f99e942238e9b87f1331030da1cb81ed55ba45e6a40f1b141e767e8fa3e3f1da", func := "hoard/hoardlaw15.EngineFrom", spec := "engineFrom", unfollowed := true, recurses := true, apart := false, narrowed := true }
def EngineFromUptoSaid : Prop := engineFromUptoRow.holds Tryz.pinned (OpenSpec.upto engineFromSpec)

/-- 'hoardlaw18.PanelFolds', WHERE WHAT IT READS IS OF BULK AT MOST 1048576: true; the input reads as it did. -/
def panelFoldsUptoRow : OpenClaim := { program := "ytfeicmpbfbhiiaagreat", sum := "f99e942238e9b87f1331030da1cb81ed55ba45e6a40f1b141e767e8fa3e3f1da", func := "hoard/hoardlaw18.PanelFolds", spec := "panelFolds", unfollowed := true, recurses := true, apart := false, narrowed := true }
def PanelFoldsUptoSaid : Prop := panelFoldsUptoRow.holds Tryz.pinned (OpenSpec.upto panelFoldsSpec)

/-- 'hoardlaw18.PanelPlays', WHERE WHAT IT READS IS OF BULK AT MOST 1048576: true; the input reads as it did. -/
def panelPlaysUptoRow : OpenClaim := { program := "ytfeicmpbfbhiiaagreat", sum := "f99e942238e9b87f1331030da1cb81ed55ba45e6a40f1b141e767e8fa3e3f1da", func := "hoard/hoardlaw18.PanelPlays", spec := "panelPlays", unfollowed := true, recurses := true, apart := false, narrowed := true }
def PanelPlaysUptoSaid : Prop := panelPlaysUptoRow.holds Tryz.pinned (OpenSpec.upto panelPlaysSpec)

/-- 'hoardlaw15.EngineMoves', WHERE WHAT IT READS IS OF BULK AT MOST 1048576: true; the input reads as it did. -/
def engineMovesUptoRow : OpenClaim := { program := "ytfeicmpbfbhiiaagreat", sum := "f99e942238e9b87f1331030da1cb81ed55ba45e6a40f1b141e767e8fa3e3f1da", func := "hoard/hoardlaw15.EngineMoves", spec := "engineMoves", unfollowed := true, recurses := true, apart := false, narrowed := true }
def EngineMovesUptoSaid : Prop := engineMovesUptoRow.holds Tryz.pinned (OpenSpec.upto engineMovesSpec)

/-- 'hoardlaw23.MoverStays', WHERE WHAT IT READS IS OF BULK AT MOST 1048576: true; the input reads as it did. -/
def moverStaysUptoRow : OpenClaim := { program := "ytfeicmpbfbhiiaagreat", sum := "f99e942238e9b87f1331030da1cb81ed55ba45e6a40f1b141e767e8fa3e3f1da", func := "hoard/hoardlaw23.MoverStays", spec := "moverStays", unfollowed := true, recurses := true, apart := false, narrowed := true }
def MoverStaysUptoSaid : Prop := moverStaysUptoRow.holds Tryz.pinned (OpenSpec.upto moverStaysSpec)

/-- 'hoardlaw23.MoverBounds', WHERE WHAT IT READS IS OF BULK AT MOST 1048576: true; the input reads as it did. -/
def moverBoundsUptoRow : OpenClaim := { program := "ytfeicmpbfbhiiaagreat", sum := "f99e942238e9b87f1331030da1cb81ed55ba45e6a40f1b141e767e8fa3e3f1da", func := "hoard/hoardlaw23.MoverBounds", spec := "moverBounds", unfollowed := true, recurses := true, apart := false, narrowed := true }
def MoverBoundsUptoSaid : Prop := moverBoundsUptoRow.holds Tryz.pinned (OpenSpec.upto moverBoundsSpec)

/-- 'hoardlaw23.MoverInserts', WHERE WHAT IT READS IS OF BULK AT MOST 1048576: true; the input reads as it did. -/
def moverInsertsUptoRow : OpenClaim := { program := "ytfeicmpbfbhiiaagreat", sum := "f99e942238e9b87f1331030da1cb81ed55ba45e6a40f1b141e767e8fa3e3f1da", func := "hoard/hoardlaw23.MoverInserts", spec := "moverInserts", unfollowed := true, recurses := true, apart := false, narrowed := true }
def MoverInsertsUptoSaid : Prop := moverInsertsUptoRow.holds Tryz.pinned (OpenSpec.upto moverInsertsSpec)

/-- 'hoardlaw23.MoverRooms', WHERE WHAT IT READS IS OF BULK AT MOST 1048576: true; the input reads as it did. -/
def moverRoomsUptoRow : OpenClaim := { program := "ytfeicmpbfbhiiaagreat", sum := "f99e942238e9b87f1331030da1cb81ed55ba45e6a40f1b141e767e8fa3e3f1da", func := "hoard/hoardlaw23.MoverRooms", spec := "moverRooms", unfollowed := true, recurses := true, apart := false, narrowed := true }
def MoverRoomsUptoSaid : Prop := moverRoomsUptoRow.holds Tryz.pinned (OpenSpec.upto moverRoomsSpec)

/-- 'hoardlaw23.MoverReads', WHERE WHAT IT READS IS OF BULK AT MOST 1048576: true; the input reads as it did. -/
def moverReadsUptoRow : OpenClaim := { program := "ytfeicmpbfbhiiaagreat", sum := "f99e942238e9b87f1331030da1cb81ed55ba45e6a40f1b141e767e8fa3e3f1da", func := "hoard/hoardlaw23.MoverReads", spec := "moverReads", unfollowed := true, recurses := true, apart := false, narrowed := true }
def MoverReadsUptoSaid : Prop := moverReadsUptoRow.holds Tryz.pinned (OpenSpec.upto moverReadsSpec)

/-- 'hoardlaw23.MoverRemoves', WHERE WHAT IT READS IS OF BULK AT MOST 1048576: true; the input reads as it did. -/
def moverRemovesUptoRow : OpenClaim := { program := "ytfeicmpbfbhiiaagreat", sum := "f99e942238e9b87f1331030da1cb81ed55ba45e6a40f1b141e767e8fa3e3f1da", func := "hoard/hoardlaw23.MoverRemoves", spec := "moverRemoves", unfollowed := true, recurses := true, apart := false, narrowed := true }
def MoverRemovesUptoSaid : Prop := moverRemovesUptoRow.holds Tryz.pinned (OpenSpec.upto moverRemovesSpec)

/-- 'hoardlaw23.MoverEnds', WHERE WHAT IT READS IS OF BULK AT MOST 1048576: true; the input reads as it did. -/
def moverEndsUptoRow : OpenClaim := { program := "ytfeicmpbfbhiiaagreat", sum := "f99e942238e9b87f1331030da1cb81ed55ba45e6a40f1b141e767e8fa3e3f1da", func := "hoard/hoardlaw23.MoverEnds", spec := "moverEnds", unfollowed := true, recurses := true, apart := false, narrowed := true }
def MoverEndsUptoSaid : Prop := moverEndsUptoRow.holds Tryz.pinned (OpenSpec.upto moverEndsSpec)

/-- 'hoardlaw23.MoverErrors', WHERE WHAT IT READS IS OF BULK AT MOST 1048576: true; the input reads as it did. -/
def moverErrorsUptoRow : OpenClaim := { program := "ytfeicmpbfbhiiaagreat", sum := "f99e942238e9b87f1331030da1cb81ed55ba45e6a40f1b141e767e8fa3e3f1da", func := "hoard/hoardlaw23.MoverErrors", spec := "moverErrors", unfollowed := true, recurses := true, apart := false, narrowed := true }
def MoverErrorsUptoSaid : Prop := moverErrorsUptoRow.holds Tryz.pinned (OpenSpec.upto moverErrorsSpec)

end Rows
end Go.Proofs.YtfeicmpbfbhiiaaGreat
