/-
  No cell of these rows narrows 'for every input' (looked for: loops, veiled, ifaces, maps, wideKeys, modest, calm, conditions, laid).
  DERIVED. THE GIVEN ROWS OF THIS SEAT. 8 by the template 'for every input the law returns true; each argument reads behind the call as it read before'; 0 by the template 'total and deterministic' (their statements: YtapfkpkomdmibaaTotals.lean).
  GIVEN WITH THE SEED: the statements are not yours to turn. If you find one false, say at which input.
  Laid BY PROGRAM, IN A SANDBOX (cutbox-rows.mjs): the forced cells as the released guide's own fill.sh prints them over the translation f3731fbf3b0eb936… (all of the seat's roots in one cut). By AI agents, Wed Nov 11 2026. No macro, syntax, notation, axiom, sorry.
-/
import Derived.Test.YtapfkpkomdmibaaChecked
import GoSem.Claim
import GoSem.ClaimJoined
import GoSem.ClaimMapViews
import Derived.JoinedTies
import Derived.KernelRfl
namespace Go.Proofs.Ytapfkpkomdmibaa
/- THE CELL 'sum', in the pinned program and in every row, IS THE sha256 OF THE DUMP (.gsa) THAT YtapfkpkomdmibaaProg.lean LOADS. Nothing in Lean hashes anything: it is a label: what it is worth is what the hold of that sum in a sandbox is worth. -/
noncomputable def Try.pinned : Pinned := { name := "ytapfkpkomdmibaa", sum := "f3731fbf3b0eb9362a21b8fb58b252764941f92f5939e2df0ac75f6ffd54860e", checked := Try.checked }
namespace Rows
def none {H : Type} : Left H := { results := [], args := [] }

/-- 'hoardlaw15.EngineNames': WHATEVER THE INPUT: true; the input reads as it did. -/
def engineNamesSpec : ChangeSpec := { name := "engineNames", fn := fun _ => fun
  | [d1, d2] => { results := [.lit (.bool true)], args := [d1, d2] }
  | _ => none }
def engineNamesRow : OpenClaim := { program := "ytapfkpkomdmibaa", sum := "f3731fbf3b0eb9362a21b8fb58b252764941f92f5939e2df0ac75f6ffd54860e", func := "hoard/hoardlaw15.EngineNames", spec := "engineNames", apart := false }
def EngineNamesSaid : Prop := engineNamesRow.holds Try.pinned (OpenSpec.ofChange engineNamesSpec)

/-- ITS FALSE NEIGHBOUR: 'it returns false'. Refute it at one input. -/
def engineNamesWrong : ChangeSpec := { name := "engineNames", fn := fun _ => fun
  | [d1, d2] => { results := [.lit (.bool false)], args := [d1, d2] }
  | _ => none }
def EngineNamesWrongFalsely : Prop := engineNamesRow.holds Try.pinned (OpenSpec.ofChange engineNamesWrong)

/-- 'hoardlaw5.RingPlays': WHATEVER THE INPUT: true; the input reads as it did. -/
def ringPlaysSpec : ChangeSpec := { name := "ringPlays", fn := fun _ => fun
  | [d1, d2] => { results := [.lit (.bool true)], args := [d1, d2] }
  | _ => none }
def ringPlaysRow : OpenClaim := { program := "ytapfkpkomdmibaa", sum := "f3731fbf3b0eb9362a21b8fb58b252764941f92f5939e2df0ac75f6ffd54860e", func := "hoard/hoardlaw5.RingPlays", spec := "ringPlays", apart := false }
def RingPlaysSaid : Prop := ringPlaysRow.holds Try.pinned (OpenSpec.ofChange ringPlaysSpec)

/-- ITS FALSE NEIGHBOUR: 'it returns false'. Refute it at one input. -/
def ringPlaysWrong : ChangeSpec := { name := "ringPlays", fn := fun _ => fun
  | [d1, d2] => { results := [.lit (.bool false)], args := [d1, d2] }
  | _ => none }
def RingPlaysWrongFalsely : Prop := ringPlaysRow.holds Try.pinned (OpenSpec.ofChange ringPlaysWrong)

/-- 'hoardlaw5.RingOrder': WHATEVER THE INPUT: true; the input reads as it did. -/
def ringOrderSpec : ChangeSpec := { name := "ringOrder", fn := fun _ => fun
  | [d1, d2, d3] => { results := [.lit (.bool true)], args := [d1, d2, d3] }
  | _ => none }
def ringOrderRow : OpenClaim := { program := "ytapfkpkomdmibaa", sum := "f3731fbf3b0eb9362a21b8fb58b252764941f92f5939e2df0ac75f6ffd54860e", func := "hoard/hoardlaw5.RingOrder", spec := "ringOrder", apart := false }
def RingOrderSaid : Prop := ringOrderRow.holds Try.pinned (OpenSpec.ofChange ringOrderSpec)

/-- ITS FALSE NEIGHBOUR: 'it returns false'. Refute it at one input. -/
def ringOrderWrong : ChangeSpec := { name := "ringOrder", fn := fun _ => fun
  | [d1, d2, d3] => { results := [.lit (.bool false)], args := [d1, d2, d3] }
  | _ => none }
def RingOrderWrongFalsely : Prop := ringOrderRow.holds Try.pinned (OpenSpec.ofChange ringOrderWrong)

/-- 'hoardlaw5.RingOfNothing': WHATEVER THE INPUT: true; the input reads as it did. -/
def ringOfNothingSpec : ChangeSpec := { name := "ringOfNothing", fn := fun _ => fun
  | [d1, d2] => { results := [.lit (.bool true)], args := [d1, d2] }
  | _ => none }
def ringOfNothingRow : OpenClaim := { program := "ytapfkpkomdmibaa", sum := "f3731fbf3b0eb9362a21b8fb58b252764941f92f5939e2df0ac75f6ffd54860e", func := "hoard/hoardlaw5.RingOfNothing", spec := "ringOfNothing", apart := false }
def RingOfNothingSaid : Prop := ringOfNothingRow.holds Try.pinned (OpenSpec.ofChange ringOfNothingSpec)

/-- ITS FALSE NEIGHBOUR: 'it returns false'. Refute it at one input. -/
def ringOfNothingWrong : ChangeSpec := { name := "ringOfNothing", fn := fun _ => fun
  | [d1, d2] => { results := [.lit (.bool false)], args := [d1, d2] }
  | _ => none }
def RingOfNothingWrongFalsely : Prop := ringOfNothingRow.holds Try.pinned (OpenSpec.ofChange ringOfNothingWrong)

/-- 'hoardlaw22.FeedWrites': WHATEVER THE INPUT: true; the input reads as it did. -/
def feedWritesSpec : ChangeSpec := { name := "feedWrites", fn := fun _ => fun
  | [d1, d2, d3] => { results := [.lit (.bool true)], args := [d1, d2, d3] }
  | _ => none }
def feedWritesRow : OpenClaim := { program := "ytapfkpkomdmibaa", sum := "f3731fbf3b0eb9362a21b8fb58b252764941f92f5939e2df0ac75f6ffd54860e", func := "hoard/hoardlaw22.FeedWrites", spec := "feedWrites", apart := false }
def FeedWritesSaid : Prop := feedWritesRow.holds Try.pinned (OpenSpec.ofChange feedWritesSpec)

/-- ITS FALSE NEIGHBOUR: 'it returns false'. Refute it at one input. -/
def feedWritesWrong : ChangeSpec := { name := "feedWrites", fn := fun _ => fun
  | [d1, d2, d3] => { results := [.lit (.bool false)], args := [d1, d2, d3] }
  | _ => none }
def FeedWritesWrongFalsely : Prop := feedWritesRow.holds Try.pinned (OpenSpec.ofChange feedWritesWrong)

/-- 'hoardlaw22.FeedPlays': WHATEVER THE INPUT: true; the input reads as it did. -/
def feedPlaysSpec : ChangeSpec := { name := "feedPlays", fn := fun _ => fun
  | [d1, d2, d3] => { results := [.lit (.bool true)], args := [d1, d2, d3] }
  | _ => none }
def feedPlaysRow : OpenClaim := { program := "ytapfkpkomdmibaa", sum := "f3731fbf3b0eb9362a21b8fb58b252764941f92f5939e2df0ac75f6ffd54860e", func := "hoard/hoardlaw22.FeedPlays", spec := "feedPlays", apart := false }
def FeedPlaysSaid : Prop := feedPlaysRow.holds Try.pinned (OpenSpec.ofChange feedPlaysSpec)

/-- ITS FALSE NEIGHBOUR: 'it returns false'. Refute it at one input. -/
def feedPlaysWrong : ChangeSpec := { name := "feedPlays", fn := fun _ => fun
  | [d1, d2, d3] => { results := [.lit (.bool false)], args := [d1, d2, d3] }
  | _ => none }
def FeedPlaysWrongFalsely : Prop := feedPlaysRow.holds Try.pinned (OpenSpec.ofChange feedPlaysWrong)

/-- 'hoardlaw22.FeedRoom': WHATEVER THE INPUT: true; the input reads as it did. -/
def feedRoomSpec : ChangeSpec := { name := "feedRoom", fn := fun _ => fun
  | [d1, d2, d3] => { results := [.lit (.bool true)], args := [d1, d2, d3] }
  | _ => none }
def feedRoomRow : OpenClaim := { program := "ytapfkpkomdmibaa", sum := "f3731fbf3b0eb9362a21b8fb58b252764941f92f5939e2df0ac75f6ffd54860e", func := "hoard/hoardlaw22.FeedRoom", spec := "feedRoom", apart := false }
def FeedRoomSaid : Prop := feedRoomRow.holds Try.pinned (OpenSpec.ofChange feedRoomSpec)

/-- ITS FALSE NEIGHBOUR: 'it returns false'. Refute it at one input. -/
def feedRoomWrong : ChangeSpec := { name := "feedRoom", fn := fun _ => fun
  | [d1, d2, d3] => { results := [.lit (.bool false)], args := [d1, d2, d3] }
  | _ => none }
def FeedRoomWrongFalsely : Prop := feedRoomRow.holds Try.pinned (OpenSpec.ofChange feedRoomWrong)

/-- 'hoardlaw22.FeedOfNothing': WHATEVER THE INPUT: true; the input reads as it did. -/
def feedOfNothingSpec : ChangeSpec := { name := "feedOfNothing", fn := fun _ => fun
  | [d1, d2] => { results := [.lit (.bool true)], args := [d1, d2] }
  | _ => none }
def feedOfNothingRow : OpenClaim := { program := "ytapfkpkomdmibaa", sum := "f3731fbf3b0eb9362a21b8fb58b252764941f92f5939e2df0ac75f6ffd54860e", func := "hoard/hoardlaw22.FeedOfNothing", spec := "feedOfNothing", apart := false }
def FeedOfNothingSaid : Prop := feedOfNothingRow.holds Try.pinned (OpenSpec.ofChange feedOfNothingSpec)

/-- ITS FALSE NEIGHBOUR: 'it returns false'. Refute it at one input. -/
def feedOfNothingWrong : ChangeSpec := { name := "feedOfNothing", fn := fun _ => fun
  | [d1, d2] => { results := [.lit (.bool false)], args := [d1, d2] }
  | _ => none }
def FeedOfNothingWrongFalsely : Prop := feedOfNothingRow.holds Try.pinned (OpenSpec.ofChange feedOfNothingWrong)

/- THE SECOND FORM. 'bulk': how many values and letters a reading holds, each counted each time it is reached (what is shared counts as often as it is met; a slice's spare places count too). A statement '..UptoSaid' is the law's where the arguments, and the package variables that the reading takes, are together of bulk at most 1048576: NARROWER than '..Said'. Prove '..Said' where nothing that the law and all that it calls make is longer than what came in: it says more and counts as full. Else prove '..UptoSaid'. A law counts once. -/
mutual
def uptoBulk {H : Type} : DataW H → Nat
  | .lit (.string bytes) => bytes.length + 1
  | .lit _ => 1
  | .nil => 1
  | .ptr d => uptoBulk d + 1
  | .slice elems spare => uptoBulkAll elems + uptoBulkAll spare + 1
  | .agg parts => uptoBulkAll parts + 1
  | .iface _ d => uptoBulk d + 1
  | .map entries => uptoBulkEntries entries + 1
  | .held _ => 1
def uptoBulkAll {H : Type} : List (DataW H) → Nat
  | [] => 0
  | d :: r => uptoBulk d + uptoBulkAll r
def uptoBulkEntries {H : Type} : List (Lit × DataW H) → Nat
  | [] => 0
  | x :: r => uptoBulkEntry x + uptoBulkEntries r
def uptoBulkEntry {H : Type} : Lit × DataW H → Nat
  | (.string bytes, d) => bytes.length + uptoBulk d + 1
  | (_, d) => uptoBulk d + 1
 end
def uptoSmall : (H : Type) → List (DataW H) → Bool := fun _ ds => decide (uptoBulkAll ds ≤ 1048576)
def OpenSpec.upto (s : _root_.Go.ChangeSpec) : _root_.Go.OpenSpec := { _root_.Go.OpenSpec.ofChange s with cond := some uptoSmall }

/-- 'hoardlaw15.EngineNames', WHERE WHAT IT READS IS OF BULK AT MOST 1048576: true; the input reads as it did. -/
def engineNamesUptoRow : OpenClaim := { program := "ytapfkpkomdmibaa", sum := "f3731fbf3b0eb9362a21b8fb58b252764941f92f5939e2df0ac75f6ffd54860e", func := "hoard/hoardlaw15.EngineNames", spec := "engineNames", apart := false, narrowed := true }
def EngineNamesUptoSaid : Prop := engineNamesUptoRow.holds Try.pinned (OpenSpec.upto engineNamesSpec)

/-- 'hoardlaw5.RingPlays', WHERE WHAT IT READS IS OF BULK AT MOST 1048576: true; the input reads as it did. -/
def ringPlaysUptoRow : OpenClaim := { program := "ytapfkpkomdmibaa", sum := "f3731fbf3b0eb9362a21b8fb58b252764941f92f5939e2df0ac75f6ffd54860e", func := "hoard/hoardlaw5.RingPlays", spec := "ringPlays", apart := false, narrowed := true }
def RingPlaysUptoSaid : Prop := ringPlaysUptoRow.holds Try.pinned (OpenSpec.upto ringPlaysSpec)

/-- 'hoardlaw5.RingOrder', WHERE WHAT IT READS IS OF BULK AT MOST 1048576: true; the input reads as it did. -/
def ringOrderUptoRow : OpenClaim := { program := "ytapfkpkomdmibaa", sum := "f3731fbf3b0eb9362a21b8fb58b252764941f92f5939e2df0ac75f6ffd54860e", func := "hoard/hoardlaw5.RingOrder", spec := "ringOrder", apart := false, narrowed := true }
def RingOrderUptoSaid : Prop := ringOrderUptoRow.holds Try.pinned (OpenSpec.upto ringOrderSpec)

/-- 'hoardlaw5.RingOfNothing', WHERE WHAT IT READS IS OF BULK AT MOST 1048576: true; the input reads as it did. -/
def ringOfNothingUptoRow : OpenClaim := { program := "ytapfkpkomdmibaa", sum := "f3731fbf3b0eb9362a21b8fb58b252764941f92f5939e2df0ac75f6ffd54860e", func := "hoard/hoardlaw5.RingOfNothing", spec := "ringOfNothing", apart := false, narrowed := true }
def RingOfNothingUptoSaid : Prop := ringOfNothingUptoRow.holds Try.pinned (OpenSpec.upto ringOfNothingSpec)

/-- 'hoardlaw22.FeedWrites', WHERE WHAT IT READS IS OF BULK AT MOST 1048576: true; the input reads as it did. -/
def feedWritesUptoRow : OpenClaim := { program := "ytapfkpkomdmibaa", sum := "f3731fbf3b0eb9362a21b8fb58b252764941f92f5939e2df0ac75f6ffd54860e", func := "hoard/hoardlaw22.FeedWrites", spec := "feedWrites", apart := false, narrowed := true }
def FeedWritesUptoSaid : Prop := feedWritesUptoRow.holds Try.pinned (OpenSpec.upto feedWritesSpec)

/-- 'hoardlaw22.FeedPlays', WHERE WHAT IT READS IS OF BULK AT MOST 1048576: true; the input reads as it did. -/
def feedPlaysUptoRow : OpenClaim := { program := "ytapfkpkomdmibaa", sum := "f3731fbf3b0eb9362a21b8fb58b252764941f92f5939e2df0ac75f6ffd54860e", func := "hoard/hoardlaw22.FeedPlays", spec := "feedPlays", apart := false, narrowed := true }
def FeedPlaysUptoSaid : Prop := feedPlaysUptoRow.holds Try.pinned (OpenSpec.upto feedPlaysSpec)

/-- 'hoardlaw22.FeedRoom', WHERE WHAT IT READS IS OF BULK AT MOST 1048576: true; the input reads as it did. -/
def feedRoomUptoRow : OpenClaim := { program := "ytapfkpkomdmibaa", sum := "f3731fbf3b0eb9362a21b8fb58b252764941f92f5939e2df0ac75f6ffd54860e", func := "hoard/hoardlaw22.FeedRoom", spec := "feedRoom", apart := false, narrowed := true }
def FeedRoomUptoSaid : Prop := feedRoomUptoRow.holds Try.pinned (OpenSpec.upto feedRoomSpec)

/-- 'hoardlaw22.FeedOfNothing', WHERE WHAT IT READS IS OF BULK AT MOST 1048576: true; the input reads as it did. -/
def feedOfNothingUptoRow : OpenClaim := { program := "ytapfkpkomdmibaa", sum := "f3731fbf3b0eb9362a21b8fb58b252764941f92f5939e2df0ac75f6ffd54860e", func := "hoard/hoardlaw22.FeedOfNothing", spec := "feedOfNothing", apart := false, narrowed := true }
def FeedOfNothingUptoSaid : Prop := feedOfNothingUptoRow.holds Try.pinned (OpenSpec.upto feedOfNothingSpec)

end Rows
end Go.Proofs.Ytapfkpkomdmibaa
