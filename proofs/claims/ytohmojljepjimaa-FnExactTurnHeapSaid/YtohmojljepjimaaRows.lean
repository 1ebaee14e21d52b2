/-
  No cell of these rows narrows 'for every input' (looked for: loops, veiled, ifaces, maps, wideKeys, modest, calm, conditions, laid).
  DERIVED. THE GIVEN ROWS OF THIS SEAT. 12 by the template 'for every input the law returns true; each argument reads behind the call as it read before'; 0 by the template 'total and deterministic' (their statements: YtohmojljepjimaaTotals.lean).
  GIVEN WITH THE SEED: the statements are not yours to turn. If you find one false, say at which input.
  Laid BY PROGRAM, IN A SANDBOX (cutbox-rows.mjs): the forced cells as the released guide's own fill.sh prints them over the translation eda6ea7490feb73d… (all of the seat's roots in one cut). By AI agents, Wed Nov 11 2026. No macro, syntax, notation, axiom, sorry.
-/
import Derived.Test.YtohmojljepjimaaChecked
import GoSem.Claim
import GoSem.ClaimJoined
import GoSem.ClaimMapViews
import Derived.JoinedTies
import Derived.KernelRfl
namespace Go.Proofs.Ytohmojljepjimaa
/- THE CELL 'sum', in the pinned program and in every row, IS THE sha256 OF THE DUMP (.gsa) THAT YtohmojljepjimaaProg.lean LOADS. Nothing in Lean hashes anything: it is a label: what it is worth is what the hold of that sum in a sandbox is worth. -/
noncomputable def Try.pinned : Pinned := { name := "ytohmojljepjimaa", sum := "eda6ea7490feb73d0fb5df2efdc14597741d382dd1347bc0747eae1a35f96be7", checked := Try.checked }
namespace Rows
def none {H : Type} : Left H := { results := [], args := [] }

/-- 'laws.FnExactFitsAt': WHATEVER THE INPUT: true; the input reads as it did. -/
def fnExactFitsAtSpec : ChangeSpec := { name := "fnExactFitsAt", fn := fun _ => fun
  | [d1, d2, d3] => { results := [.lit (.bool true)], args := [d1, d2, d3] }
  | _ => none }
def fnExactFitsAtRow : OpenClaim := { program := "ytohmojljepjimaa", sum := "eda6ea7490feb73d0fb5df2efdc14597741d382dd1347bc0747eae1a35f96be7", func := "loop.example/g01166/laws.FnExactFitsAt", spec := "fnExactFitsAt", unfollowed := true, recurses := true, apart := false }
def FnExactFitsAtSaid : Prop := fnExactFitsAtRow.holds Try.pinned (OpenSpec.ofChange fnExactFitsAtSpec)

/-- ITS FALSE NEIGHBOUR: 'it returns false'. Refute it at one input. -/
def fnExactFitsAtWrong : ChangeSpec := { name := "fnExactFitsAt", fn := fun _ => fun
  | [d1, d2, d3] => { results := [.lit (.bool false)], args := [d1, d2, d3] }
  | _ => none }
def FnExactFitsAtWrongFalsely : Prop := fnExactFitsAtRow.holds Try.pinned (OpenSpec.ofChange fnExactFitsAtWrong)

/-- 'laws.FnExactStairLines': WHATEVER THE INPUT: true; the input reads as it did. -/
def fnExactStairLinesSpec : ChangeSpec := { name := "fnExactStairLines", fn := fun _ => fun
  | [d] => { results := [.lit (.bool true)], args := [d] }
  | _ => none }
def fnExactStairLinesRow : OpenClaim := { program := "ytohmojljepjimaa", sum := "eda6ea7490feb73d0fb5df2efdc14597741d382dd1347bc0747eae1a35f96be7", func := "loop.example/g01166/laws.FnExactStairLines", spec := "fnExactStairLines", unfollowed := true, recurses := true, apart := false }
def FnExactStairLinesSaid : Prop := fnExactStairLinesRow.holds Try.pinned (OpenSpec.ofChange fnExactStairLinesSpec)

/-- ITS FALSE NEIGHBOUR: 'it returns false'. Refute it at one input. -/
def fnExactStairLinesWrong : ChangeSpec := { name := "fnExactStairLines", fn := fun _ => fun
  | [d] => { results := [.lit (.bool false)], args := [d] }
  | _ => none }
def FnExactStairLinesWrongFalsely : Prop := fnExactStairLinesRow.holds Try.pinned (OpenSpec.ofChange fnExactStairLinesWrong)

/-- 'laws.FnExactWalkClimb': WHATEVER THE INPUT: true; the input reads as it did. -/
def fnExactWalkClimbSpec : ChangeSpec := { name := "fnExactWalkClimb", fn := fun _ => fun
  | [d1, d2] => { results := [.lit (.bool true)], args := [d1, d2] }
  | _ => none }
def fnExactWalkClimbRow : OpenClaim := { program := "ytohmojljepjimaa", sum := "eda6ea7490feb73d0fb5df2efdc14597741d382dd1347bc0747eae1a35f96be7", func := "loop.example/g01166/laws.FnExactWalkClimb", spec := "fnExactWalkClimb", apart := false }
def FnExactWalkClimbSaid : Prop := fnExactWalkClimbRow.holds Try.pinned (OpenSpec.ofChange fnExactWalkClimbSpec)

/-- ITS FALSE NEIGHBOUR: 'it returns false'. Refute it at one input. -/
def fnExactWalkClimbWrong : ChangeSpec := { name := "fnExactWalkClimb", fn := fun _ => fun
  | [d1, d2] => { results := [.lit (.bool false)], args := [d1, d2] }
  | _ => none }
def FnExactWalkClimbWrongFalsely : Prop := fnExactWalkClimbRow.holds Try.pinned (OpenSpec.ofChange fnExactWalkClimbWrong)

/-- 'laws.FnExactCanTake': WHATEVER THE INPUT: true; the input reads as it did. -/
def fnExactCanTakeSpec : ChangeSpec := { name := "fnExactCanTake", fn := fun _ => fun
  | [d1, d2] => { results := [.lit (.bool true)], args := [d1, d2] }
  | _ => none }
def fnExactCanTakeRow : OpenClaim := { program := "ytohmojljepjimaa", sum := "eda6ea7490feb73d0fb5df2efdc14597741d382dd1347bc0747eae1a35f96be7", func := "loop.example/g01166/laws.FnExactCanTake", spec := "fnExactCanTake", unfollowed := true, recurses := true, apart := false }
def FnExactCanTakeSaid : Prop := fnExactCanTakeRow.holds Try.pinned (OpenSpec.ofChange fnExactCanTakeSpec)

/-- ITS FALSE NEIGHBOUR: 'it returns false'. Refute it at one input. -/
def fnExactCanTakeWrong : ChangeSpec := { name := "fnExactCanTake", fn := fun _ => fun
  | [d1, d2] => { results := [.lit (.bool false)], args := [d1, d2] }
  | _ => none }
def FnExactCanTakeWrongFalsely : Prop := fnExactCanTakeRow.holds Try.pinned (OpenSpec.ofChange fnExactCanTakeWrong)

/-- 'laws.FnExactTurnHeap': WHATEVER THE INPUT: true; the input reads as it did. -/
def fnExactTurnHeapSpec : ChangeSpec := { name := "fnExactTurnHeap", fn := fun _ => fun
  | [d1, d2] => { results := [.lit (.bool true)], args := [d1, d2] }
  | _ => none }
def fnExactTurnHeapRow : OpenClaim := { program := "ytohmojljepjimaa", sum := "eda6ea7490feb73d0fb5df2efdc14597741d382dd1347bc0747eae1a35f96be7", func := "loop.example/g01166/laws.FnExactTurnHeap", spec := "fnExactTurnHeap", unfollowed := true, recurses := true, apart := false }
def FnExactTurnHeapSaid : Prop := fnExactTurnHeapRow.holds Try.pinned (OpenSpec.ofChange fnExactTurnHeapSpec)

/-- ITS FALSE NEIGHBOUR: 'it returns false'. Refute it at one input. -/
def fnExactTurnHeapWrong : ChangeSpec := { name := "fnExactTurnHeap", fn := fun _ => fun
  | [d1, d2] => { results := [.lit (.bool false)], args := [d1, d2] }
  | _ => none }
def FnExactTurnHeapWrongFalsely : Prop := fnExactTurnHeapRow.holds Try.pinned (OpenSpec.ofChange fnExactTurnHeapWrong)

/-- 'laws.FnExactHangingCubes': WHATEVER THE INPUT: true; the input reads as it did. -/
def fnExactHangingCubesSpec : ChangeSpec := { name := "fnExactHangingCubes", fn := fun _ => fun
  | [d] => { results := [.lit (.bool true)], args := [d] }
  | _ => none }
def fnExactHangingCubesRow : OpenClaim := { program := "ytohmojljepjimaa", sum := "eda6ea7490feb73d0fb5df2efdc14597741d382dd1347bc0747eae1a35f96be7", func := "loop.example/g01166/laws.FnExactHangingCubes", spec := "fnExactHangingCubes", unfollowed := true, recurses := true, apart := false }
def FnExactHangingCubesSaid : Prop := fnExactHangingCubesRow.holds Try.pinned (OpenSpec.ofChange fnExactHangingCubesSpec)

/-- ITS FALSE NEIGHBOUR: 'it returns false'. Refute it at one input. -/
def fnExactHangingCubesWrong : ChangeSpec := { name := "fnExactHangingCubes", fn := fun _ => fun
  | [d] => { results := [.lit (.bool false)], args := [d] }
  | _ => none }
def FnExactHangingCubesWrongFalsely : Prop := fnExactHangingCubesRow.holds Try.pinned (OpenSpec.ofChange fnExactHangingCubesWrong)

/-- 'laws.FnExactStandingCubes': WHATEVER THE INPUT: true; the input reads as it did. -/
def fnExactStandingCubesSpec : ChangeSpec := { name := "fnExactStandingCubes", fn := fun _ => fun
  | [d] => { results := [.lit (.bool true)], args := [d] }
  | _ => none }
def fnExactStandingCubesRow : OpenClaim := { program := "ytohmojljepjimaa", sum := "eda6ea7490feb73d0fb5df2efdc14597741d382dd1347bc0747eae1a35f96be7", func := "loop.example/g01166/laws.FnExactStandingCubes", spec := "fnExactStandingCubes", unfollowed := true, recurses := true, apart := false }
def FnExactStandingCubesSaid : Prop := fnExactStandingCubesRow.holds Try.pinned (OpenSpec.ofChange fnExactStandingCubesSpec)

/-- ITS FALSE NEIGHBOUR: 'it returns false'. Refute it at one input. -/
def fnExactStandingCubesWrong : ChangeSpec := { name := "fnExactStandingCubes", fn := fun _ => fun
  | [d] => { results := [.lit (.bool false)], args := [d] }
  | _ => none }
def FnExactStandingCubesWrongFalsely : Prop := fnExactStandingCubesRow.holds Try.pinned (OpenSpec.ofChange fnExactStandingCubesWrong)

/-- 'laws.FnExactIsTakingOrder': WHATEVER THE INPUT: true; the input reads as it did. -/
def fnExactIsTakingOrderSpec : ChangeSpec := { name := "fnExactIsTakingOrder", fn := fun _ => fun
  | [d1, d2] => { results := [.lit (.bool true)], args := [d1, d2] }
  | _ => none }
def fnExactIsTakingOrderRow : OpenClaim := { program := "ytohmojljepjimaa", sum := "eda6ea7490feb73d0fb5df2efdc14597741d382dd1347bc0747eae1a35f96be7", func := "loop.example/g01166/laws.FnExactIsTakingOrder", spec := "fnExactIsTakingOrder", unfollowed := true, recurses := true, apart := false }
def FnExactIsTakingOrderSaid : Prop := fnExactIsTakingOrderRow.holds Try.pinned (OpenSpec.ofChange fnExactIsTakingOrderSpec)

/-- ITS FALSE NEIGHBOUR: 'it returns false'. Refute it at one input. -/
def fnExactIsTakingOrderWrong : ChangeSpec := { name := "fnExactIsTakingOrder", fn := fun _ => fun
  | [d1, d2] => { results := [.lit (.bool false)], args := [d1, d2] }
  | _ => none }
def FnExactIsTakingOrderWrongFalsely : Prop := fnExactIsTakingOrderRow.holds Try.pinned (OpenSpec.ofChange fnExactIsTakingOrderWrong)

/-- 'laws.FnExactStepColumns': WHATEVER THE INPUT: true; the input reads as it did. -/
def fnExactStepColumnsSpec : ChangeSpec := { name := "fnExactStepColumns", fn := fun _ => fun
  | [d1, d2, d3] => { results := [.lit (.bool true)], args := [d1, d2, d3] }
  | _ => none }
def fnExactStepColumnsRow : OpenClaim := { program := "ytohmojljepjimaa", sum := "eda6ea7490feb73d0fb5df2efdc14597741d382dd1347bc0747eae1a35f96be7", func := "loop.example/g01166/laws.FnExactStepColumns", spec := "fnExactStepColumns", unfollowed := true, recurses := true, apart := false }
def FnExactStepColumnsSaid : Prop := fnExactStepColumnsRow.holds Try.pinned (OpenSpec.ofChange fnExactStepColumnsSpec)

/-- ITS FALSE NEIGHBOUR: 'it returns false'. Refute it at one input. -/
def fnExactStepColumnsWrong : ChangeSpec := { name := "fnExactStepColumns", fn := fun _ => fun
  | [d1, d2, d3] => { results := [.lit (.bool false)], args := [d1, d2, d3] }
  | _ => none }
def FnExactStepColumnsWrongFalsely : Prop := fnExactStepColumnsRow.holds Try.pinned (OpenSpec.ofChange fnExactStepColumnsWrong)

/-- 'laws.FnExactPartsOf': WHATEVER THE INPUT: true; the input reads as it did. -/
def fnExactPartsOfSpec : ChangeSpec := { name := "fnExactPartsOf", fn := fun _ => fun
  | [d] => { results := [.lit (.bool true)], args := [d] }
  | _ => none }
def fnExactPartsOfRow : OpenClaim := { program := "ytohmojljepjimaa", sum := "eda6ea7490feb73d0fb5df2efdc14597741d382dd1347bc0747eae1a35f96be7", func := "loop.example/g01166/laws.FnExactPartsOf", spec := "fnExactPartsOf", apart := false }
def FnExactPartsOfSaid : Prop := fnExactPartsOfRow.holds Try.pinned (OpenSpec.ofChange fnExactPartsOfSpec)

/-- ITS FALSE NEIGHBOUR: 'it returns false'. Refute it at one input. -/
def fnExactPartsOfWrong : ChangeSpec := { name := "fnExactPartsOf", fn := fun _ => fun
  | [d] => { results := [.lit (.bool false)], args := [d] }
  | _ => none }
def FnExactPartsOfWrongFalsely : Prop := fnExactPartsOfRow.holds Try.pinned (OpenSpec.ofChange fnExactPartsOfWrong)

/-- 'laws.FnExactPlacesFor': WHATEVER THE INPUT: true; the input reads as it did. -/
def fnExactPlacesForSpec : ChangeSpec := { name := "fnExactPlacesFor", fn := fun _ => fun
  | [d1, d2] => { results := [.lit (.bool true)], args := [d1, d2] }
  | _ => none }
def fnExactPlacesForRow : OpenClaim := { program := "ytohmojljepjimaa", sum := "eda6ea7490feb73d0fb5df2efdc14597741d382dd1347bc0747eae1a35f96be7", func := "loop.example/g01166/laws.FnExactPlacesFor", spec := "fnExactPlacesFor", unfollowed := true, recurses := true, apart := false }
def FnExactPlacesForSaid : Prop := fnExactPlacesForRow.holds Try.pinned (OpenSpec.ofChange fnExactPlacesForSpec)

/-- ITS FALSE NEIGHBOUR: 'it returns false'. Refute it at one input. -/
def fnExactPlacesForWrong : ChangeSpec := { name := "fnExactPlacesFor", fn := fun _ => fun
  | [d1, d2] => { results := [.lit (.bool false)], args := [d1, d2] }
  | _ => none }
def FnExactPlacesForWrongFalsely : Prop := fnExactPlacesForRow.holds Try.pinned (OpenSpec.ofChange fnExactPlacesForWrong)

/-- 'laws.FnExactKeyCubes': WHATEVER THE INPUT: true; the input reads as it did. -/
def fnExactKeyCubesSpec : ChangeSpec := { name := "fnExactKeyCubes", fn := fun _ => fun
  | [d] => { results := [.lit (.bool true)], args := [d] }
  | _ => none }
def fnExactKeyCubesRow : OpenClaim := { program := "ytohmojljepjimaa", sum := "eda6ea7490feb73d0fb5df2efdc14597741d382dd1347bc0747eae1a35f96be7", func := "loop.example/g01166/laws.FnExactKeyCubes", spec := "fnExactKeyCubes", unfollowed := true, recurses := true, apart := false }
def FnExactKeyCubesSaid : Prop := fnExactKeyCubesRow.holds Try.pinned (OpenSpec.ofChange fnExactKeyCubesSpec)

/-- ITS FALSE NEIGHBOUR: 'it returns false'. Refute it at one input. -/
def fnExactKeyCubesWrong : ChangeSpec := { name := "fnExactKeyCubes", fn := fun _ => fun
  | [d] => { results := [.lit (.bool false)], args := [d] }
  | _ => none }
def FnExactKeyCubesWrongFalsely : Prop := fnExactKeyCubesRow.holds Try.pinned (OpenSpec.ofChange fnExactKeyCubesWrong)

/- THE SECOND FORM. 'bulk': how many values and letters a reading holds, each counted each time it is reached (what is shared counts as often as it is met; a slice's spare places count too). A statement '..UptoSaid' is the law's where the arguments, and the package variables that the reading takes, are together of bulk at most 1048576: NARROWER than '..Said'. Prove '..Said' where nothing that the law and all that it calls make is longer than what came in: it says more and counts as full. Else prove '..UptoSaid'. A law counts once. -/
mutual
def uptoBulk {H : Type} : DataW H → Nat
  | .lit (.string bytes) => bytes.length + 1
  | .lit _ => 1
  | .nil => 1
  | .ptr d => uptoBulk d + 1
  | .slice elems spare => uptoBulkAll elems + uptoBulkAll spare + 1
  | .agg parts => uptoBulkAll parts + 1
  | .iface _ d => uptoBulk d + 1
  | .map entries => uptoBulkEntries entries + 1
  | .held _ => 1
def uptoBulkAll {H : Type} : List (DataW H) → Nat
  | [] => 0
  | d :: r => uptoBulk d + uptoBulkAll r
def uptoBulkEntries {H : Type} : List (Lit × DataW H) → Nat
  | [] => 0
  | x :: r => uptoBulkEntry x + uptoBulkEntries r
def uptoBulkEntry {H : Type} : Lit × DataW H → Nat
  | (.string bytes, d) => bytes.length + uptoBulk d + 1
  | (_, d) => uptoBulk d + 1
 end
def uptoSmall : (H : Type) → List (DataW H) → Bool := fun _ ds => decide (uptoBulkAll ds ≤ 1048576)
def OpenSpec.upto (s : _root_.Go.ChangeSpec) : _root_.Go.OpenSpec := { _root_.Go.OpenSpec.ofChange s with cond := some uptoSmall }

/-- 'laws.FnExactFitsAt', WHERE WHAT IT READS IS OF BULK AT MOST 1048576: true; the input reads as it did. -/
def fnExactFitsAtUptoRow : OpenClaim := { program := "ytohmojljepjimaa", sum := "eda6ea7490feb73d0fb5df2efdc14597741d382dd1347bc0747eae1a35f96be7", func := "loop.example/g01166/laws.FnExactFitsAt", spec := "fnExactFitsAt", unfollowed := true, recurses := true, apart := false, narrowed := true }
def FnExactFitsAtUptoSaid : Prop := fnExactFitsAtUptoRow.holds Try.pinned (OpenSpec.upto fnExactFitsAtSpec)

/-- 'laws.FnExactStairLines', WHERE WHAT IT READS IS OF BULK AT MOST 1048576: true; the input reads as it did. -/
def fnExactStairLinesUptoRow : OpenClaim := { program := "ytohmojljepjimaa", sum := "eda6ea7490feb73d0fb5df2efdc14597741d382dd1347bc0747eae1a35f96be7", func := "loop.example/g01166/laws.FnExactStairLines", spec := "fnExactStairLines", unfollowed := true, recurses := true, apart := false, narrowed := true }
def FnExactStairLinesUptoSaid : Prop := fnExactStairLinesUptoRow.holds Try.pinned (OpenSpec.upto fnExactStairLinesSpec)

/-- 'laws.FnExactWalkClimb', WHERE WHAT IT READS IS OF BULK AT MOST 1048576: true; the input reads as it did. -/
def fnExactWalkClimbUptoRow : OpenClaim := { program := "ytohmojljepjimaa", sum := "eda6ea7490feb73d0fb5df2efdc14597741d382dd1347bc0747eae1a35f96be7", func := "loop.example/g01166/laws.FnExactWalkClimb", spec := "fnExactWalkClimb", apart := false, narrowed := true }
def FnExactWalkClimbUptoSaid : Prop := fnExactWalkClimbUptoRow.holds Try.pinned (OpenSpec.upto fnExactWalkClimbSpec)

/-- 'laws.FnExactCanTake', WHERE WHAT IT READS IS OF BULK AT MOST 1048576: true; the input reads as it did. -/
def fnExactCanTakeUptoRow : OpenClaim := { program := "ytohmojljepjimaa", sum := "eda6ea7490feb73d0fb5df2efdc14597741d382dd1347bc0747eae1a35f96be7", func := "loop.example/g01166/laws.FnExactCanTake", spec := "fnExactCanTake", unfollowed := true, recurses := true, apart := false, narrowed := true }
def FnExactCanTakeUptoSaid : Prop := fnExactCanTakeUptoRow.holds Try.pinned (OpenSpec.upto fnExactCanTakeSpec)

/-- 'laws.FnExactTurnHeap', WHERE WHAT IT READS IS OF BULK AT MOST 1048576: true; the input reads as it did. -/
def fnExactTurnHeapUptoRow : OpenClaim := { program := "ytohmojljepjimaa", sum := "eda6ea7490feb73d0fb5df2efdc14597741d382dd1347bc0747eae1a35f96be7", func := "loop.example/g01166/laws.FnExactTurnHeap", spec := "fnExactTurnHeap", unfollowed := true, recurses := true, apart := false, narrowed := true }
def FnExactTurnHeapUptoSaid : Prop := fnExactTurnHeapUptoRow.holds Try.pinned (OpenSpec.upto fnExactTurnHeapSpec)

/-- 'laws.FnExactHangingCubes', WHERE WHAT IT READS IS OF BULK AT MOST 1048576: true; the input reads as it did. -/
def fnExactHangingCubesUptoRow : OpenClaim := { program := "ytohmojljepjimaa", sum := "eda6ea7490feb73d0fb5df2efdc14597741d382dd1347bc0747eae1a35f96be7", func := "loop.example/g01166/laws.FnExactHangingCubes", spec := "fnExactHangingCubes", unfollowed := true, recurses := true, apart := false, narrowed := true }
def FnExactHangingCubesUptoSaid : Prop := fnExactHangingCubesUptoRow.holds Try.pinned (OpenSpec.upto fnExactHangingCubesSpec)

/-- 'laws.FnExactStandingCubes', WHERE WHAT IT READS IS OF BULK AT MOST 1048576: true; the input reads as it did. -/
def fnExactStandingCubesUptoRow : OpenClaim := { program := "ytohmojljepjimaa", sum := "eda6ea7490feb73d0fb5df2efdc14597741d382dd1347bc0747eae1a35f96be7", func := "loop.example/g01166/laws.FnExactStandingCubes", spec := "fnExactStandingCubes", unfollowed := true, recurses := true, apart := false, narrowed := true }
def FnExactStandingCubesUptoSaid : Prop := fnExactStandingCubesUptoRow.holds Try.pinned (OpenSpec.upto fnExactStandingCubesSpec)

/-- 'laws.FnExactIsTakingOrder', WHERE WHAT IT READS IS OF BULK AT MOST 1048576: true; the input reads as it did. -/
def fnExactIsTakingOrderUptoRow : OpenClaim := { program := "ytohmojljepjimaa", sum := "eda6ea7490feb73d0fb5df2efdc14597741d382dd1347bc0747eae1a35f96be7", func := "loop.example/g01166/laws.FnExactIsTakingOrder", spec := "fnExactIsTakingOrder", unfollowed := true, recurses := true, apart := false, narrowed := true }
def FnExactIsTakingOrderUptoSaid : Prop := fnExactIsTakingOrderUptoRow.holds Try.pinned (OpenSpec.upto fnExactIsTakingOrderSpec)

/-- 'laws.FnExactStepColumns', WHERE WHAT IT READS IS OF BULK AT MOST 1048576: true; the input reads as it did. -/
def fnExactStepColumnsUptoRow : OpenClaim := { program := "ytohmojljepjimaa", sum := "eda6ea7490feb73d0fb5df2efdc14597741d382dd1347bc0747eae1a35f96be7", func := "loop.example/g01166/laws.FnExactStepColumns", spec := "fnExactStepColumns", unfollowed := true, recurses := true, apart := false, narrowed := true }
def FnExactStepColumnsUptoSaid : Prop := fnExactStepColumnsUptoRow.holds Try.pinned (OpenSpec.upto fnExactStepColumnsSpec)

/-- 'laws.FnExactPartsOf', WHERE WHAT IT READS IS OF BULK AT MOST 1048576: true; the input reads as it did. -/
def fnExactPartsOfUptoRow : OpenClaim := { program := "ytohmojljepjimaa", sum := "eda6ea7490feb73d0fb5df2efdc14597741d382dd1347bc0747eae1a35f96be7", func := "loop.example/g01166/laws.FnExactPartsOf", spec := "fnExactPartsOf", apart := false, narrowed := true }
def FnExactPartsOfUptoSaid : Prop := fnExactPartsOfUptoRow.holds Try.pinned (OpenSpec.upto fnExactPartsOfSpec)

/-- 'laws.FnExactPlacesFor', WHERE WHAT IT READS IS OF BULK AT MOST 1048576: true; the input reads as it did. -/
def fnExactPlacesForUptoRow : OpenClaim := { program := "ytohmojljepjimaa", sum := "eda6ea7490feb73d0fb5df2efdc14597741d382dd1347bc0747eae1a35f96be7", func := "loop.example/g01166/laws.FnExactPlacesFor", spec := "fnExactPlacesFor", unfollowed := true, recurses := true, apart := false, narrowed := true }
def FnExactPlacesForUptoSaid : Prop := fnExactPlacesForUptoRow.holds Try.pinned (OpenSpec.upto fnExactPlacesForSpec)

/-- 'laws.FnExactKeyCubes', WHERE WHAT IT READS IS OF BULK AT MOST 1048576: true; the input reads as it did. -/
def fnExactKeyCubesUptoRow : OpenClaim := { program := "ytohmojljepjimaa", sum := "eda6ea7490feb73d0fb5df2efdc14597741d382dd1347bc0747eae1a35f96be7", func := "loop.example/g01166/laws.FnExactKeyCubes", spec := "fnExactKeyCubes", unfollowed := true, recurses := true, apart := false, narrowed := true }
def FnExactKeyCubesUptoSaid : Prop := fnExactKeyCubesUptoRow.holds Try.pinned (OpenSpec.upto fnExactKeyCubesSpec)

end Rows
end Go.Proofs.Ytohmojljepjimaa
