/-
  No cell of these rows narrows 'for every input' (looked for: loops, veiled, ifaces, maps, wideKeys, modest, calm, conditions, laid).
  DERIVED. THE GIVEN ROWS OF THIS SEAT. 12 by the template 'for every input the law returns true; each argument reads behind the call as it read before'; 0 by the template 'total and deterministic' (their statements: YtphlancijlljcaaGreatTotals.lean).
  GIVEN WITH THE SEED: the statements are not yours to turn. If you find one false, say at which input.
  Laid BY PROGRAM, IN A SANDBOX (cutbox-rows.mjs): the forced cells as the released guide's own fill.sh prints them over the translation 595ed2cf44ac5423… (all of the seat's roots in one cut). By AI agents, Wed Nov 11 2026. No macro, syntax, notation, axiom, sorry.
-/
import Derived.Test.YtphlancijlljcaaGreatChecked
import GoSem.Claim
import GoSem.ClaimJoined
import GoSem.ClaimMapViews
import Derived.JoinedTies
import Derived.KernelRfl
namespace Go.Proofs.YtphlancijlljcaaGreat
/- THE CELL 'sum', in the pinned program and in every row, IS THE sha256 OF THE DUMP (.gsa) THAT YtphlancijlljcaaGreatProg.lean LOADS. Nothing in Lean hashes anything: it is a label: what it is worth is what the hold of that sum in a sandbox is worth. -/
noncomputable def Tryz.pinned : Pinned := { name := "ytphlancijlljcaagreat", sum := "595ed2cf44ac5423aee54685a3ebf5344164bd887de7f65efd44dec2d97d8f98", checked := Tryz.checked }
namespace Rows
def none {H : Type} : Left H := { results := [], args := [] }

/-- 'hoardlaw17.ShadowEpochs': WHATEVER THE INPUT: true; the input reads as it did. -/
def shadowEpochsSpec : ChangeSpec := { name := "shadowEpochs", fn := fun _ => fun
  | [d1, d2, d3, d4] => { results := [.lit (.bool true)], args := [d1, d2, d3, d4] }
  | _ => none }
def shadowEpochsRow : OpenClaim := { program := "ytphlancijlljcaagreat", sum := "595ed2cf44ac5423aee54685a3ebf5344164bd887de7f65efd44dec2d97d8f98", func := "hoard/hoardlaw17.ShadowEpochs", spec := "shadowEpochs", unfollowed := true, recurses := true, apart := false }
def ShadowEpochsSaid : Prop := shadowEpochsRow.holds Tryz.pinned (OpenSpec.ofChange shadowEpochsSpec)

/-- ITS FALSE NEIGHBOUR: 'it returns false'. Refute it at one input. -/
def shadowEpochsWrong : ChangeSpec := { name := "shadowEpochs", fn := fun _ => fun
  | [d1, d2, d3, d4] => { results := [.lit (.bool false)], args := [d1, d2, d3, d4] }
  | _ => none }
def ShadowEpochsWrongFalsely : Prop := shadowEpochsRow.holds Tryz.pinned (OpenSpec.ofChange shadowEpochsWrong)

/-- 'hoardlaw18.PanelCounts': WHATEVER THE INPUT: true; the input reads as it did. -/
def panelCountsSpec : ChangeSpec := { name := "panelCounts", fn := fun _ => fun
  | [d1, d2, d3] => { results := [.lit (.bool true)], args := [d1, d2, d3] }
  | _ => none }
def panelCountsRow : OpenClaim := { program := "ytphlancijlljcaagreat", sum := "595ed2cf44ac5423aee54685a3ebf5344164bd887de7f65efd44dec2d97d8f98", func := "hoard/hoardlaw18.PanelCounts", spec := "panelCounts", unfollowed := true, recurses := true, apart := false }
def PanelCountsSaid : Prop := panelCountsRow.holds Tryz.pinned (OpenSpec.ofChange panelCountsSpec)

/-- ITS FALSE NEIGHBOUR: 'it returns false'. Refute it at one input. -/
def panelCountsWrong : ChangeSpec := { name := "panelCounts", fn := fun _ => fun
  | [d1, d2, d3] => { results := [.lit (.bool false)], args := [d1, d2, d3] }
  | _ => none }
def PanelCountsWrongFalsely : Prop := panelCountsRow.holds Tryz.pinned (OpenSpec.ofChange panelCountsWrong)

/-- 'hoardlaw18.PanelOfNothing': WHATEVER THE INPUT: true; the input reads as it did. -/
def panelOfNothingSpec : ChangeSpec := { name := "panelOfNothing", fn := fun _ => fun
  | [d1, d2] => { results := [.lit (.bool true)], args := [d1, d2] }
  | _ => none }
def panelOfNothingRow : OpenClaim := { program := "ytphlancijlljcaagreat", sum := "595ed2cf44ac5423aee54685a3ebf5344164bd887de7f65efd44dec2d97d8f98", func := "hoard/hoardlaw18.PanelOfNothing", spec := "panelOfNothing", unfollowed := true, recurses := true, apart := false }
def PanelOfNothingSaid : Prop := panelOfNothingRow.holds Tryz.pinned (OpenSpec.ofChange panelOfNothingSpec)

/-- ITS FALSE NEIGHBOUR: 'it returns false'. Refute it at one input. -/
def panelOfNothingWrong : ChangeSpec := { name := "panelOfNothing", fn := fun _ => fun
  | [d1, d2] => { results := [.lit (.bool false)], args := [d1, d2] }
  | _ => none }
def PanelOfNothingWrongFalsely : Prop := panelOfNothingRow.holds Tryz.pinned (OpenSpec.ofChange panelOfNothingWrong)

/-- 'hoardlaw15.EngineFrom': WHATEVER THE INPUT: true; the input reads as it did. -/
def engineFromSpec : ChangeSpec := { name := "engineFrom", fn := fun _ => fun
  | [d1, d2, d3] => { results := [.lit (.bool true)], args := [d1, d2, d3] }
  | _ => none }
def engineFromRow : OpenClaim := { program := "ytphlancijlljcaagreat", sum := "595ed2cf44ac5423aee54685a3ebf5344164bd887de7f65efd44dec2d97d8f98", func := "hoard/hoardlaw15.EngineFrom", spec := "engineFrom", unfollowed := true, recurses := true, apart := false }
def EngineFromSaid : Prop := engineFromRow.holds Tryz.pinned (OpenSpec.ofChange engineFromSpec)

/-- ITS FALSE NEIGHBOUR: 'it returns false'. Refute it at one input. -/
def engineFromWrong : ChangeSpec := { name := "engineFrom", fn := fun _ => fun
  | [d1, d2, d3] => { results := [.lit (.bool false)], args := [d1, d2, d3] }
  | _ => none }
def EngineFromWrongFalsely : Prop := engineFromRow.holds Tryz.pinned (OpenSpec.ofChange engineFromWrong)

/-- 'hoardlaw17.ShadowOfNothing': WHATEVER THE INPUT: true; the input reads as it did. -/
def shadowOfNothingSpec : ChangeSpec := { name := "shadowOfNothing", fn := fun _ => fun
  | [d] => { results := [.lit (.bool true)], args := [d] }
  | _ => none }
def shadowOfNothingRow : OpenClaim := { program := "ytphlancijlljcaagreat", sum := "595ed2cf44ac5423aee54685a3ebf5344164bd887de7f65efd44dec2d97d8f98", func := "hoard/hoardlaw17.ShadowOfNothing", spec := "shadowOfNothing", unfollowed := true, recurses := true, apart := false }
def ShadowOfNothingSaid : Prop := shadowOfNothingRow.holds Tryz.pinned (OpenSpec.ofChange shadowOfNothingSpec)

/-- ITS FALSE NEIGHBOUR: 'it returns false'. Refute it at one input. -/
def shadowOfNothingWrong : ChangeSpec := { name := "shadowOfNothing", fn := fun _ => fun
  | [d] => { results := [.lit (.bool false)], args := [d] }
  | _ => none }
def ShadowOfNothingWrongFalsely : Prop := shadowOfNothingRow.holds Tryz.pinned (OpenSpec.ofChange shadowOfNothingWrong)

/-- 'hoardlaw18.PanelFolds': WHATEVER THE INPUT: true; the input reads as it did. -/
def panelFoldsSpec : ChangeSpec := { name := "panelFolds", fn := fun _ => fun
  | [d1, d2, d3] => { results := [.lit (.bool true)], args := [d1, d2, d3] }
  | _ => none }
def panelFoldsRow : OpenClaim := { program := "ytphlancijlljcaagreat", sum := "595ed2cf44ac5423aee54685a3ebf5344164bd887de7f65efd44dec2d97d8f98", func := "hoard/hoardlaw18.PanelFolds", spec := "panelFolds", unfollowed := true, recurses := true, apart := false }
def PanelFoldsSaid : Prop := panelFoldsRow.holds Tryz.pinned (OpenSpec.ofChange panelFoldsSpec)

/-- ITS FALSE NEIGHBOUR: 'it returns false'. Refute it at one input. -/
def panelFoldsWrong : ChangeSpec := { name := "panelFolds", fn := fun _ => fun
  | [d1, d2, d3] => { results := [.lit (.bool false)], args := [d1, d2, d3] }
  | _ => none }
def PanelFoldsWrongFalsely : Prop := panelFoldsRow.holds Tryz.pinned (OpenSpec.ofChange panelFoldsWrong)

/-- 'hoardlaw18.PanelPlays': WHATEVER THE INPUT: true; the input reads as it did. -/
def panelPlaysSpec : ChangeSpec := { name := "panelPlays", fn := fun _ => fun
  | [d1, d2, d3] => { results := [.lit (.bool true)], args := [d1, d2, d3] }
  | _ => none }
def panelPlaysRow : OpenClaim := { program := "ytphlancijlljcaagreat", sum := "595ed2cf44ac5423aee54685a3ebf5344164bd887de7f65efd44dec2d97d8f98", func := "hoard/hoardlaw18.PanelPlays", spec := "panelPlays", unfollowed := true, recurses := true, apart := false }
def PanelPlaysSaid : Prop := panelPlaysRow.holds Tryz.pinned (OpenSpec.ofChange panelPlaysSpec)

/-- ITS FALSE NEIGHBOUR: 'it returns false'. Refute it at one input. -/
def panelPlaysWrong : ChangeSpec := { name := "panelPlays", fn := fun _ => fun
  | [d1, d2, d3] => { results := [.lit (.bool false)], args := [d1, d2, d3] }
  | _ => none }
def PanelPlaysWrongFalsely : Prop := panelPlaysRow.holds Tryz.pinned (OpenSpec.ofChange panelPlaysWrong)

/-- 'hoardlaw15.EngineMoves': WHATEVER THE INPUT: true; the input reads as it did. -/
def engineMovesSpec : ChangeSpec := { name := "engineMoves", fn := fun _ => fun
  | [d1, d2, d3, d4] => { results := [.lit (.bool true)], args := [d1, d2, d3, d4] }
  | _ => none }
def engineMovesRow : OpenClaim := { program := "ytphlancijlljcaagreat", sum := "595ed2cf44ac5423aee54685a3ebf5344164bd887de7f65efd44dec2d97d8f98", func := "hoard/hoardlaw15.EngineMoves", spec := "engineMoves", unfollowed := true, recurses := true, apart := false }
def EngineMovesSaid : Prop := engineMovesRow.holds Tryz.pinned (OpenSpec.ofChange engineMovesSpec)

/-- ITS FALSE NEIGHBOUR: 'it returns false'. Refute it at one input. -/
def engineMovesWrong : ChangeSpec := { name := "engineMoves", fn := fun _ => fun
  | [d1, d2, d3, d4] => { results := [.lit (.bool false)], args := [d1, d2, d3, d4] }
  | _ => none }
def EngineMovesWrongFalsely : Prop := engineMovesRow.holds Tryz.pinned (OpenSpec.ofChange engineMovesWrong)

/-- 'hoardlaw23.MoverStays': WHATEVER THE INPUT: true; the input reads as it did. -/
def moverStaysSpec : ChangeSpec := { name := "moverStays", fn := fun _ => fun
  | [d1, d2, d3, d4, d5] => { results := [.lit (.bool true)], args := [d1, d2, d3, d4, d5] }
  | _ => none }
def moverStaysRow : OpenClaim := { program := "ytphlancijlljcaagreat", sum := "595ed2cf44ac5423aee54685a3ebf5344164bd887de7f65efd44dec2d97d8f98", func := "hoard/hoardlaw23.MoverStays", spec := "moverStays", unfollowed := true, recurses := true, apart := false }
def MoverStaysSaid : Prop := moverStaysRow.holds Tryz.pinned (OpenSpec.ofChange moverStaysSpec)

/-- ITS FALSE NEIGHBOUR: 'it returns false'. Refute it at one input. -/
def moverStaysWrong : ChangeSpec := { name := "moverStays", fn := fun _ => fun
  | [d1, d2, d3, d4, d5] => { results := [.lit (.bool false)], args := [d1, d2, d3, d4, d5] }
  | _ => none }
def MoverStaysWrongFalsely : Prop := moverStaysRow.holds Tryz.pinned (OpenSpec.ofChange moverStaysWrong)

/-- 'hoardlaw23.MoverBounds': WHATEVER THE INPUT: true; the input reads as it did. -/
def moverBoundsSpec : ChangeSpec := { name := "moverBounds", fn := fun _ => fun
  | [d1, d2, d3] => { results := [.lit (.bool true)], args := [d1, d2, d3] }
  | _ => none }
def moverBoundsRow : OpenClaim := { program := "ytphlancijlljcaagreat", sum := "595ed2cf44ac5423aee54685a3ebf5344164bd887de7f65efd44dec2d97d8f98", func := "hoard/hoardlaw23.MoverBounds", spec := "moverBounds", unfollowed := true, recurses := true, apart := false }
def MoverBoundsSaid : Prop := moverBoundsRow.holds Tryz.pinned (OpenSpec.ofChange moverBoundsSpec)

/-- ITS FALSE NEIGHBOUR: 'it returns false'. Refute it at one input. -/
def moverBoundsWrong : ChangeSpec := { name := "moverBounds", fn := fun _ => fun
  | [d1, d2, d3] => { results := [.lit (.bool false)], args := [d1, d2, d3] }
  | _ => none }
def MoverBoundsWrongFalsely : Prop := moverBoundsRow.holds Tryz.pinned (OpenSpec.ofChange moverBoundsWrong)

/-- 'hoardlaw23.MoverEnds': WHATEVER THE INPUT: true; the input reads as it did. -/
def moverEndsSpec : ChangeSpec := { name := "moverEnds", fn := fun _ => fun
  | [d1, d2, d3, d4] => { results := [.lit (.bool true)], args := [d1, d2, d3, d4] }
  | _ => none }
def moverEndsRow : OpenClaim := { program := "ytphlancijlljcaagreat", sum := "595ed2cf44ac5423aee54685a3ebf5344164bd887de7f65efd44dec2d97d8f98", func := "hoard/hoardlaw23.MoverEnds", spec := "moverEnds", unfollowed := true, recurses := true, apart := false }
def MoverEndsSaid : Prop := moverEndsRow.holds Tryz.pinned (OpenSpec.ofChange moverEndsSpec)

/-- ITS FALSE NEIGHBOUR: 'it returns false'. Refute it at one input. -/
def moverEndsWrong : ChangeSpec := { name := "moverEnds", fn := fun _ => fun
  | [d1, d2, d3, d4] => { results := [.lit (.bool false)], args := [d1, d2, d3, d4] }
  | _ => none }
def MoverEndsWrongFalsely : Prop := moverEndsRow.holds Tryz.pinned (OpenSpec.ofChange moverEndsWrong)

/-- 'hoardlaw23.MoverOfNothing': WHATEVER THE INPUT: true; the input reads as it did. -/
def moverOfNothingSpec : ChangeSpec := { name := "moverOfNothing", fn := fun _ => fun
  | [d1, d2] => { results := [.lit (.bool true)], args := [d1, d2] }
  | _ => none }
def moverOfNothingRow : OpenClaim := { program := "ytphlancijlljcaagreat", sum := "595ed2cf44ac5423aee54685a3ebf5344164bd887de7f65efd44dec2d97d8f98", func := "hoard/hoardlaw23.MoverOfNothing", spec := "moverOfNothing", unfollowed := true, recurses := true, apart := false }
def MoverOfNothingSaid : Prop := moverOfNothingRow.holds Tryz.pinned (OpenSpec.ofChange moverOfNothingSpec)

/-- ITS FALSE NEIGHBOUR: 'it returns false'. Refute it at one input. -/
def moverOfNothingWrong : ChangeSpec := { name := "moverOfNothing", fn := fun _ => fun
  | [d1, d2] => { results := [.lit (.bool false)], args := [d1, d2] }
  | _ => none }
def MoverOfNothingWrongFalsely : Prop := moverOfNothingRow.holds Tryz.pinned (OpenSpec.ofChange moverOfNothingWrong)

/- THE SECOND FORM. 'bulk': how many values and letters a reading holds, each counted each time it is reached (what is shared counts as often as it is met; a slice's spare places count too). A statement '..UptoSaid' is the law's where the arguments, and the package variables that the reading takes, are together of bulk at most 1048576: NARROWER than '..Said'. Prove '..Said' where nothing that the law and all that it calls make is longer than what came in: it says more and counts as full. Else prove '..UptoSaid'. A law counts once. -/
mutual
def uptoBulk {H : Type} : DataW H → Nat
  | .lit (.string bytes) => bytes.length + 1
  | .lit _ => 1
  | .nil => 1
  | .ptr d => uptoBulk d + 1
  | .slice elems spare => uptoBulkAll elems + uptoBulkAll spare + 1
  | .agg parts => uptoBulkAll parts + 1
  | .iface _ d => uptoBulk d + 1
  | .map entries => uptoBulkEntries entries + 1
  | .held _ => 1
def uptoBulkAll {H : Type} : List (DataW H) → Nat
  | [] => 0
  | d :: r => uptoBulk d + uptoBulkAll r
def uptoBulkEntries {H : Type} : List (Lit × DataW H) → Nat
  | [] => 0
  | x :: r => uptoBulkEntry x + uptoBulkEntries r
def uptoBulkEntry {H : Type} : Lit × DataW H → Nat
  | (.string bytes, d) => bytes.length + uptoBulk d + 1
  | (_, d) => uptoBulk d + 1
 end
def uptoSmall : (H : Type) → List (DataW H) → Bool := fun _ ds => decide (uptoBulkAll ds ≤ 1048576)
def OpenSpec.upto (s : _root_.Go.ChangeSpec) : _root_.Go.OpenSpec := { _root_.Go.OpenSpec.ofChange s with cond := some uptoSmall }

/-- 'hoardlaw17.ShadowEpochs', WHERE WHAT IT READS IS OF BULK AT MOST 1048576: true; the input reads as it did. -/
def shadowEpochsUptoRow : OpenClaim := { program := "ytphlancijlljcaagreat", sum := "595ed2cf44ac5423aee54685a3ebf5344164bd887de7f65efd44dec2d97d8f98", func := "hoard/hoardlaw17.ShadowEpochs", spec := "shadowEpochs", unfollowed := true, recurses := true, apart := false, narrowed := true }
def ShadowEpochsUptoSaid : Prop := shadowEpochsUptoRow.holds Tryz.pinned (OpenSpec.upto shadowEpochsSpec)

/-- 'hoardlaw18.PanelCounts', WHERE WHAT IT READS IS OF BULK AT MOST 1048576: true; the input reads as it did. -/
def panelCountsUptoRow : OpenClaim := { program := "ytphlancijlljcaagreat", sum := "595ed2cf44ac5423aee54685a3ebf5344164bd887de7f65efd44dec2d97d8f98", func := "hoard/hoardlaw18.PanelCounts", spec := "panelCounts", unfollowed := true, recurses := true, apart := false, narrowed := true }
def PanelCountsUptoSaid : Prop := panelCountsUptoRow.holds Tryz.pinned (OpenSpec.upto panelCountsSpec)

/-- 'hoardlaw18.PanelOfNothing', WHERE WHAT IT READS IS OF BULK AT MOST 1048576: true; the input reads as it did. -/
def panelOfNothingUptoRow : OpenClaim := { program := "ytphlancijlljcaagreat", sum := "595ed2cf44ac5423aee54685a3ebf5344164bd887de7f65efd44dec2d97d8f98", func := "hoard/hoardlaw18.PanelOfNothing", spec := "panelOfNothing", unfollowed := true, recurses := true, apart := false, narrowed := true }
def PanelOfNothingUptoSaid : Prop := panelOfNothingUptoRow.holds Tryz.pinned (OpenSpec.upto panelOfNothingSpec)

/-- 'hoardlaw15.EngineFrom', WHERE WHAT IT READS IS OF BULK AT MOST 1048576: true; the input reads as it did. -/
def engineFromUptoRow : OpenClaim := { program := "ytphlancijlljcaagreat", sum := "595ed2cf44ac5423aee54685a3ebf5344164bd887de7f65efd44dec2d97d8f98", func := "hoard/hoardlaw15.EngineFrom", spec := "engineFrom", unfollowed := true, recurses := true, apart := false, narrowed := true }
def EngineFromUptoSaid : Prop := engineFromUptoRow.holds Tryz.pinned (OpenSpec.upto engineFromSpec)

/-- 'hoardlaw17.ShadowOfNothing', WHERE WHAT IT READS IS OF BULK AT MOST 1048576: true; the input reads as it did. -/
def shadowOfNothingUptoRow : OpenClaim := { program := "ytphlancijlljcaagreat", sum := "595ed2cf44ac5423aee54685a3ebf5344164bd887de7f65efd44dec2d97d8f98", func := "hoard/hoardlaw17.ShadowOfNothing", spec := "shadowOfNothing", unfollowed := true, recurses := true, apart := false, narrowed := true }
def ShadowOfNothingUptoSaid : Prop := shadowOfNothingUptoRow.holds Tryz.pinned (OpenSpec.upto shadowOfNothingSpec)

/-- 'hoardlaw18.PanelFolds', WHERE WHAT IT READS IS OF BULK AT MOST 1048576: true; the input reads as it did. -/
def panelFoldsUptoRow : OpenClaim := { program := "ytphlancijlljcaagreat", sum := "595ed2cf44ac5423aee54685a3ebf5344164bd887de7f65efd44dec2d97d8f98", func := "hoard/hoardlaw18.PanelFolds", spec := "panelFolds", unfollowed := true, recurses := true, apart := false, narrowed := true }
def PanelFoldsUptoSaid : Prop := panelFoldsUptoRow.holds Tryz.pinned (OpenSpec.upto panelFoldsSpec)

/-- 'hoardlaw18.PanelPlays', WHERE WHAT IT READS IS OF BULK AT MOST 1048576: true; the input reads as it did. -/
def panelPlaysUptoRow : OpenClaim := { program := "ytphlancijlljcaagreat", sum := "595ed2cf44ac5423aee54685a3ebf5344164bd887de7f65efd44dec2d97d8f98", func := "hoard/hoardlaw18.PanelPlays", spec := "panelPlays", unfollowed := true, recurses := true, apart := false, narrowed := true }
def PanelPlaysUptoSaid : Prop := panelPlaysUptoRow.holds Tryz.pinned (OpenSpec.upto panelPlaysSpec)

/-- 'hoardlaw15.EngineMoves', WHERE WHAT IT READS IS OF BULK AT MOST 1048576: true; the input reads as it did. -/
def engineMovesUptoRow : OpenClaim := { program := "ytphlancijlljcaagreat", sum := "595ed2cf44ac5423aee54685a3ebf5344164bd887de7f65efd44dec2d97d8f98", func := "hoard/hoardlaw15.EngineMoves", spec := "engineMoves", unfollowed := true, recurses := true, apart := false, narrowed := true }
def EngineMovesUptoSaid : Prop := engineMovesUptoRow.holds Tryz.pinned (OpenSpec.upto engineMovesSpec)

/-- 'hoardlaw23.MoverStays', WHERE WHAT IT READS IS OF BULK AT MOST 1048576: true; the input reads as it did. -/
def moverStaysUptoRow : OpenClaim := { program := "ytphlancijlljcaagreat", sum := "595ed2cf44ac5423aee54685a3ebf5344164bd887de7f65efd44dec2d97d8f98", func := "hoard/hoardlaw23.MoverStays", spec := "moverStays", unfollowed := true, recurses := true, apart := false, narrowed := true }
def MoverStaysUptoSaid : Prop := moverStaysUptoRow.holds Tryz.pinned (OpenSpec.upto moverStaysSpec)

/-- 'hoardlaw23.MoverBounds', WHERE WHAT IT READS IS OF BULK AT MOST 1048576: true; the input reads as it did. -/
def moverBoundsUptoRow : OpenClaim := { program := "ytphlancijlljcaagreat", sum := "595ed2cf44ac5423aee54685a3ebf5344164bd887de7f65efd44dec2d97d8f98", func := "hoard/hoardlaw23.MoverBounds", spec := "moverBounds", unfollowed := true, recurses := true, apart := false, narrowed := true }
def MoverBoundsUptoSaid : Prop := moverBoundsUptoRow.holds Tryz.pinned (OpenSpec.upto moverBoundsSpec)

/-- 'hoardlaw23.MoverEnds', WHERE WHAT IT READS IS OF BULK AT MOST 1048576: true; the input reads as it did. -/
def moverEndsUptoRow : OpenClaim := { program := "ytphlancijlljcaagreat", sum := "595ed2cf44ac5423aee54685a3ebf5344164bd887de7f65efd44dec2d97d8f98", func := "hoard/hoardlaw23.MoverEnds", spec := "moverEnds", unfollowed := true, recurses := true, apart := false, narrowed := true }
def MoverEndsUptoSaid : Prop := moverEndsUptoRow.holds Tryz.pinned (OpenSpec.upto moverEndsSpec)

/-- 'hoardlaw23.MoverOfNothing', WHERE WHAT IT READS IS OF BULK AT MOST 1048576: true; the input reads as it did. -/
def moverOfNothingUptoRow : OpenClaim := { program := "ytphlancijlljcaagreat", sum := "595ed2cf44ac5423aee54685a3ebf5344164bd887de7f65efd44dec2d97d8f98", func := "hoard/hoardlaw23.MoverOfNothing", spec := "moverOfNothing", unfollowed := true, recurses := true, apart := false, narrowed := true }
def MoverOfNothingUptoSaid : Prop := moverOfNothingUptoRow.holds Tryz.pinned (OpenSpec.upto moverOfNothingSpec)

end Rows
end Go.Proofs.YtphlancijlljcaaGreat
