/-
  No cell of these rows narrows 'for every input' (looked for: loops, veiled, ifaces, maps, wideKeys, modest, calm, conditions, laid).
  DERIVED. THE GIVEN ROWS OF THIS SEAT. 10 by the template 'for every input the law returns true; each argument reads behind the call as it read before'; 0 by the template 'total and deterministic' (their statements: YtkfhblkjllbejaaTotals.lean).
  GIVEN WITH THE SEED: the statements are not yours to turn. If you find one false, say at which input.
  Laid BY PROGRAM, IN A SANDBOX (cutbox-rows.mjs): the forced cells as the released guide's own fill.sh prints them over the translation cf1a8e80ad8ddfe7… (all of the seat's roots in one cut). By AI agents, Wed Nov 11 2026. No macro, syntax, notation, axiom, sorry.
-/
import Derived.Test.YtkfhblkjllbejaaChecked
import GoSem.Claim
import GoSem.ClaimJoined
import GoSem.ClaimMapViews
import Derived.JoinedTies
import Derived.KernelRfl
namespace Go.Proofs.Ytkfhblkjllbejaa
/- THE CELL 'sum', in the pinned program and in every row, IS THE sha256 OF THE DUMP (.gsa) THAT YtkfhblkjllbejaaProg.lean LOADS. Nothing in Lean hashes anything: it is a label: what it is worth is what the hold of that sum in a sandbox is worth. -/
noncomputable def Try.pinned : Pinned := { name := "ytkfhblkjllbejaa", sum := "cf1a8e80ad8ddfe7b045630e6221defa53f67635311649558f307fc20bd53b84", checked := Try.checked }
namespace Rows
def none {H : Type} : Left H := { results := [], args := [] }

/-- 'laws.FnExactIsAlone': WHATEVER THE INPUT: true; the input reads as it did. -/
def fnExactIsAloneSpec : ChangeSpec := { name := "fnExactIsAlone", fn := fun _ => fun
  | [d1, d2, d3] => { results := [.lit (.bool true)], args := [d1, d2, d3] }
  | _ => none }
def fnExactIsAloneRow : OpenClaim := { program := "ytkfhblkjllbejaa", sum := "cf1a8e80ad8ddfe7b045630e6221defa53f67635311649558f307fc20bd53b84", func := "loop.example/g01166/laws.FnExactIsAlone", spec := "fnExactIsAlone", unfollowed := true, recurses := true, apart := false }
def FnExactIsAloneSaid : Prop := fnExactIsAloneRow.holds Try.pinned (OpenSpec.ofChange fnExactIsAloneSpec)

/-- ITS FALSE NEIGHBOUR: 'it returns false'. Refute it at one input. -/
def fnExactIsAloneWrong : ChangeSpec := { name := "fnExactIsAlone", fn := fun _ => fun
  | [d1, d2, d3] => { results := [.lit (.bool false)], args := [d1, d2, d3] }
  | _ => none }
def FnExactIsAloneWrongFalsely : Prop := fnExactIsAloneRow.holds Try.pinned (OpenSpec.ofChange fnExactIsAloneWrong)

/-- 'laws.FnExactSwitchesOf': WHATEVER THE INPUT: true; the input reads as it did. -/
def fnExactSwitchesOfSpec : ChangeSpec := { name := "fnExactSwitchesOf", fn := fun _ => fun
  | [d1, d2, d3] => { results := [.lit (.bool true)], args := [d1, d2, d3] }
  | _ => none }
def fnExactSwitchesOfRow : OpenClaim := { program := "ytkfhblkjllbejaa", sum := "cf1a8e80ad8ddfe7b045630e6221defa53f67635311649558f307fc20bd53b84", func := "loop.example/g01166/laws.FnExactSwitchesOf", spec := "fnExactSwitchesOf", unfollowed := true, recurses := true, apart := false }
def FnExactSwitchesOfSaid : Prop := fnExactSwitchesOfRow.holds Try.pinned (OpenSpec.ofChange fnExactSwitchesOfSpec)

/-- ITS FALSE NEIGHBOUR: 'it returns false'. Refute it at one input. -/
def fnExactSwitchesOfWrong : ChangeSpec := { name := "fnExactSwitchesOf", fn := fun _ => fun
  | [d1, d2, d3] => { results := [.lit (.bool false)], args := [d1, d2, d3] }
  | _ => none }
def FnExactSwitchesOfWrongFalsely : Prop := fnExactSwitchesOfRow.holds Try.pinned (OpenSpec.ofChange fnExactSwitchesOfWrong)

/-- 'laws.FnExactClustersOf': WHATEVER THE INPUT: true; the input reads as it did. -/
def fnExactClustersOfSpec : ChangeSpec := { name := "fnExactClustersOf", fn := fun _ => fun
  | [d] => { results := [.lit (.bool true)], args := [d] }
  | _ => none }
def fnExactClustersOfRow : OpenClaim := { program := "ytkfhblkjllbejaa", sum := "cf1a8e80ad8ddfe7b045630e6221defa53f67635311649558f307fc20bd53b84", func := "loop.example/g01166/laws.FnExactClustersOf", spec := "fnExactClustersOf", unfollowed := true, recurses := true, apart := false }
def FnExactClustersOfSaid : Prop := fnExactClustersOfRow.holds Try.pinned (OpenSpec.ofChange fnExactClustersOfSpec)

/-- ITS FALSE NEIGHBOUR: 'it returns false'. Refute it at one input. -/
def fnExactClustersOfWrong : ChangeSpec := { name := "fnExactClustersOf", fn := fun _ => fun
  | [d] => { results := [.lit (.bool false)], args := [d] }
  | _ => none }
def FnExactClustersOfWrongFalsely : Prop := fnExactClustersOfRow.holds Try.pinned (OpenSpec.ofChange fnExactClustersOfWrong)

/-- 'laws.FnExactOutsideFaces': WHATEVER THE INPUT: true; the input reads as it did. -/
def fnExactOutsideFacesSpec : ChangeSpec := { name := "fnExactOutsideFaces", fn := fun _ => fun
  | [d] => { results := [.lit (.bool true)], args := [d] }
  | _ => none }
def fnExactOutsideFacesRow : OpenClaim := { program := "ytkfhblkjllbejaa", sum := "cf1a8e80ad8ddfe7b045630e6221defa53f67635311649558f307fc20bd53b84", func := "loop.example/g01166/laws.FnExactOutsideFaces", spec := "fnExactOutsideFaces", unfollowed := true, recurses := true, apart := false }
def FnExactOutsideFacesSaid : Prop := fnExactOutsideFacesRow.holds Try.pinned (OpenSpec.ofChange fnExactOutsideFacesSpec)

/-- ITS FALSE NEIGHBOUR: 'it returns false'. Refute it at one input. -/
def fnExactOutsideFacesWrong : ChangeSpec := { name := "fnExactOutsideFaces", fn := fun _ => fun
  | [d] => { results := [.lit (.bool false)], args := [d] }
  | _ => none }
def FnExactOutsideFacesWrongFalsely : Prop := fnExactOutsideFacesRow.holds Try.pinned (OpenSpec.ofChange fnExactOutsideFacesWrong)

/-- 'laws.FnExactDoSwitch': WHATEVER THE INPUT: true; the input reads as it did. -/
def fnExactDoSwitchSpec : ChangeSpec := { name := "fnExactDoSwitch", fn := fun _ => fun
  | [d1, d2, d3, d4] => { results := [.lit (.bool true)], args := [d1, d2, d3, d4] }
  | _ => none }
def fnExactDoSwitchRow : OpenClaim := { program := "ytkfhblkjllbejaa", sum := "cf1a8e80ad8ddfe7b045630e6221defa53f67635311649558f307fc20bd53b84", func := "loop.example/g01166/laws.FnExactDoSwitch", spec := "fnExactDoSwitch", unfollowed := true, recurses := true, apart := false }
def FnExactDoSwitchSaid : Prop := fnExactDoSwitchRow.holds Try.pinned (OpenSpec.ofChange fnExactDoSwitchSpec)

/-- ITS FALSE NEIGHBOUR: 'it returns false'. Refute it at one input. -/
def fnExactDoSwitchWrong : ChangeSpec := { name := "fnExactDoSwitch", fn := fun _ => fun
  | [d1, d2, d3, d4] => { results := [.lit (.bool false)], args := [d1, d2, d3, d4] }
  | _ => none }
def FnExactDoSwitchWrongFalsely : Prop := fnExactDoSwitchRow.holds Try.pinned (OpenSpec.ofChange fnExactDoSwitchWrong)

/-- 'laws.FnExactCountAlike': WHATEVER THE INPUT: true; the input reads as it did. -/
def fnExactCountAlikeSpec : ChangeSpec := { name := "fnExactCountAlike", fn := fun _ => fun
  | [d1, d2, d3] => { results := [.lit (.bool true)], args := [d1, d2, d3] }
  | _ => none }
def fnExactCountAlikeRow : OpenClaim := { program := "ytkfhblkjllbejaa", sum := "cf1a8e80ad8ddfe7b045630e6221defa53f67635311649558f307fc20bd53b84", func := "loop.example/g01166/laws.FnExactCountAlike", spec := "fnExactCountAlike", unfollowed := true, recurses := true, apart := false }
def FnExactCountAlikeSaid : Prop := fnExactCountAlikeRow.holds Try.pinned (OpenSpec.ofChange fnExactCountAlikeSpec)

/-- ITS FALSE NEIGHBOUR: 'it returns false'. Refute it at one input. -/
def fnExactCountAlikeWrong : ChangeSpec := { name := "fnExactCountAlike", fn := fun _ => fun
  | [d1, d2, d3] => { results := [.lit (.bool false)], args := [d1, d2, d3] }
  | _ => none }
def FnExactCountAlikeWrongFalsely : Prop := fnExactCountAlikeRow.holds Try.pinned (OpenSpec.ofChange fnExactCountAlikeWrong)

/-- 'laws.FnExactCountDominoes': WHATEVER THE INPUT: true; the input reads as it did. -/
def fnExactCountDominoesSpec : ChangeSpec := { name := "fnExactCountDominoes", fn := fun _ => fun
  | [d] => { results := [.lit (.bool true)], args := [d] }
  | _ => none }
def fnExactCountDominoesRow : OpenClaim := { program := "ytkfhblkjllbejaa", sum := "cf1a8e80ad8ddfe7b045630e6221defa53f67635311649558f307fc20bd53b84", func := "loop.example/g01166/laws.FnExactCountDominoes", spec := "fnExactCountDominoes", unfollowed := true, recurses := true, apart := false }
def FnExactCountDominoesSaid : Prop := fnExactCountDominoesRow.holds Try.pinned (OpenSpec.ofChange fnExactCountDominoesSpec)

/-- ITS FALSE NEIGHBOUR: 'it returns false'. Refute it at one input. -/
def fnExactCountDominoesWrong : ChangeSpec := { name := "fnExactCountDominoes", fn := fun _ => fun
  | [d] => { results := [.lit (.bool false)], args := [d] }
  | _ => none }
def FnExactCountDominoesWrongFalsely : Prop := fnExactCountDominoesRow.holds Try.pinned (OpenSpec.ofChange fnExactCountDominoesWrong)

/-- 'laws.FnExactStairOrders': WHATEVER THE INPUT: true; the input reads as it did. -/
def fnExactStairOrdersSpec : ChangeSpec := { name := "fnExactStairOrders", fn := fun _ => fun
  | [d] => { results := [.lit (.bool true)], args := [d] }
  | _ => none }
def fnExactStairOrdersRow : OpenClaim := { program := "ytkfhblkjllbejaa", sum := "cf1a8e80ad8ddfe7b045630e6221defa53f67635311649558f307fc20bd53b84", func := "loop.example/g01166/laws.FnExactStairOrders", spec := "fnExactStairOrders", unfollowed := true, recurses := true, apart := false }
def FnExactStairOrdersSaid : Prop := fnExactStairOrdersRow.holds Try.pinned (OpenSpec.ofChange fnExactStairOrdersSpec)

/-- ITS FALSE NEIGHBOUR: 'it returns false'. Refute it at one input. -/
def fnExactStairOrdersWrong : ChangeSpec := { name := "fnExactStairOrders", fn := fun _ => fun
  | [d] => { results := [.lit (.bool false)], args := [d] }
  | _ => none }
def FnExactStairOrdersWrongFalsely : Prop := fnExactStairOrdersRow.holds Try.pinned (OpenSpec.ofChange fnExactStairOrdersWrong)

/-- 'laws.FnExactMostDominoes': WHATEVER THE INPUT: true; the input reads as it did. -/
def fnExactMostDominoesSpec : ChangeSpec := { name := "fnExactMostDominoes", fn := fun _ => fun
  | [d] => { results := [.lit (.bool true)], args := [d] }
  | _ => none }
def fnExactMostDominoesRow : OpenClaim := { program := "ytkfhblkjllbejaa", sum := "cf1a8e80ad8ddfe7b045630e6221defa53f67635311649558f307fc20bd53b84", func := "loop.example/g01166/laws.FnExactMostDominoes", spec := "fnExactMostDominoes", unfollowed := true, recurses := true, apart := false }
def FnExactMostDominoesSaid : Prop := fnExactMostDominoesRow.holds Try.pinned (OpenSpec.ofChange fnExactMostDominoesSpec)

/-- ITS FALSE NEIGHBOUR: 'it returns false'. Refute it at one input. -/
def fnExactMostDominoesWrong : ChangeSpec := { name := "fnExactMostDominoes", fn := fun _ => fun
  | [d] => { results := [.lit (.bool false)], args := [d] }
  | _ => none }
def FnExactMostDominoesWrongFalsely : Prop := fnExactMostDominoesRow.holds Try.pinned (OpenSpec.ofChange fnExactMostDominoesWrong)

/-- 'laws.FnExactCountTakings': WHATEVER THE INPUT: true; the input reads as it did. -/
def fnExactCountTakingsSpec : ChangeSpec := { name := "fnExactCountTakings", fn := fun _ => fun
  | [d] => { results := [.lit (.bool true)], args := [d] }
  | _ => none }
def fnExactCountTakingsRow : OpenClaim := { program := "ytkfhblkjllbejaa", sum := "cf1a8e80ad8ddfe7b045630e6221defa53f67635311649558f307fc20bd53b84", func := "loop.example/g01166/laws.FnExactCountTakings", spec := "fnExactCountTakings", unfollowed := true, recurses := true, apart := false }
def FnExactCountTakingsSaid : Prop := fnExactCountTakingsRow.holds Try.pinned (OpenSpec.ofChange fnExactCountTakingsSpec)

/-- ITS FALSE NEIGHBOUR: 'it returns false'. Refute it at one input. -/
def fnExactCountTakingsWrong : ChangeSpec := { name := "fnExactCountTakings", fn := fun _ => fun
  | [d] => { results := [.lit (.bool false)], args := [d] }
  | _ => none }
def FnExactCountTakingsWrongFalsely : Prop := fnExactCountTakingsRow.holds Try.pinned (OpenSpec.ofChange fnExactCountTakingsWrong)

/- THE SECOND FORM. 'bulk': how many values and letters a reading holds, each counted each time it is reached (what is shared counts as often as it is met; a slice's spare places count too). A statement '..UptoSaid' is the law's where the arguments, and the package variables that the reading takes, are together of bulk at most 1048576: NARROWER than '..Said'. Prove '..Said' where nothing that the law and all that it calls make is longer than what came in: it says more and counts as full. Else prove '..UptoSaid'. A law counts once. -/
mutual
def uptoBulk {H : Type} : DataW H → Nat
  | .lit (.string bytes) => bytes.length + 1
  | .lit _ => 1
  | .nil => 1
  | .ptr d => uptoBulk d + 1
  | .slice elems spare => uptoBulkAll elems + uptoBulkAll spare + 1
  | .agg parts => uptoBulkAll parts + 1
  | .iface _ d => uptoBulk d + 1
  | .map entries => uptoBulkEntries entries + 1
  | .held _ => 1
def uptoBulkAll {H : Type} : List (DataW H) → Nat
  | [] => 0
  | d :: r => uptoBulk d + uptoBulkAll r
def uptoBulkEntries {H : Type} : List (Lit × DataW H) → Nat
  | [] => 0
  | x :: r => uptoBulkEntry x + uptoBulkEntries r
def uptoBulkEntry {H : Type} : Lit × DataW H → Nat
  | (.string bytes, d) => bytes.length + uptoBulk d + 1
  | (_, d) => uptoBulk d + 1
 end
def uptoSmall : (H : Type) → List (DataW H) → Bool := fun _ ds => decide (uptoBulkAll ds ≤ 1048576)
def OpenSpec.upto (s : _root_.Go.ChangeSpec) : _root_.Go.OpenSpec := { _root_.Go.OpenSpec.ofChange s with cond := some uptoSmall }

/-- 'laws.FnExactIsAlone', WHERE WHAT IT READS IS OF BULK AT MOST 1048576: true; the input reads as it did. -/
def fnExactIsAloneUptoRow : OpenClaim := { program := "ytkfhblkjllbejaa", sum := "cf1a8e80ad8ddfe7b045630e6221defa53f67635311649558f307fc20bd53b84", func := "loop.example/g01166/laws.FnExactIsAlone", spec := "fnExactIsAlone", unfollowed := true, recurses := true, apart := false, narrowed := true }
def FnExactIsAloneUptoSaid : Prop := fnExactIsAloneUptoRow.holds Try.pinned (OpenSpec.upto fnExactIsAloneSpec)

/-- 'laws.FnExactSwitchesOf', WHERE WHAT IT READS IS OF BULK AT MOST 1048576: true; the input reads as it did. -/
def fnExactSwitchesOfUptoRow : OpenClaim := { program := "ytkfhblkjllbejaa", sum := "cf1a8e80ad8ddfe7b045630e6221defa53f67635311649558f307fc20bd53b84", func := "loop.example/g01166/laws.FnExactSwitchesOf", spec := "fnExactSwitchesOf", unfollowed := true, recurses := true, apart := false, narrowed := true }
def FnExactSwitchesOfUptoSaid : Prop := fnExactSwitchesOfUptoRow.holds Try.pinned (OpenSpec.upto fnExactSwitchesOfSpec)

/-- 'laws.FnExactClustersOf', WHERE WHAT IT READS IS OF BULK AT MOST 1048576: true; the input reads as it did. -/
def fnExactClustersOfUptoRow : OpenClaim := { program := "ytkfhblkjllbejaa", sum := "cf1a8e80ad8ddfe7b045630e6221defa53f67635311649558f307fc20bd53b84", func := "loop.example/g01166/laws.FnExactClustersOf", spec := "fnExactClustersOf", unfollowed := true, recurses := true, apart := false, narrowed := true }
def FnExactClustersOfUptoSaid : Prop := fnExactClustersOfUptoRow.holds Try.pinned (OpenSpec.upto fnExactClustersOfSpec)

/-- 'laws.FnExactOutsideFaces', WHERE WHAT IT READS IS OF BULK AT MOST 1048576: true; the input reads as it did. -/
def fnExactOutsideFacesUptoRow : OpenClaim := { program := "ytkfhblkjllbejaa", sum := "cf1a8e80ad8ddfe7b045630e6221defa53f67635311649558f307fc20bd53b84", func := "loop.example/g01166/laws.FnExactOutsideFaces", spec := "fnExactOutsideFaces", unfollowed := true, recurses := true, apart := false, narrowed := true }
def FnExactOutsideFacesUptoSaid : Prop := fnExactOutsideFacesUptoRow.holds Try.pinned (OpenSpec.upto fnExactOutsideFacesSpec)

/-- 'laws.FnExactDoSwitch', WHERE WHAT IT READS IS OF BULK AT MOST 1048576: true; the input reads as it did. -/
def fnExactDoSwitchUptoRow : OpenClaim := { program := "ytkfhblkjllbejaa", sum := "cf1a8e80ad8ddfe7b045630e6221defa53f67635311649558f307fc20bd53b84", func := "loop.example/g01166/laws.FnExactDoSwitch", spec := "fnExactDoSwitch", unfollowed := true, recurses := true, apart := false, narrowed := true }
def FnExactDoSwitchUptoSaid : Prop := fnExactDoSwitchUptoRow.holds Try.pinned (OpenSpec.upto fnExactDoSwitchSpec)

/-- 'laws.FnExactCountAlike', WHERE WHAT IT READS IS OF BULK AT MOST 1048576: true; the input reads as it did. -/
def fnExactCountAlikeUptoRow : OpenClaim := { program := "ytkfhblkjllbejaa", sum := "cf1a8e80ad8ddfe7b045630e6221defa53f67635311649558f307fc20bd53b84", func := "loop.example/g01166/laws.FnExactCountAlike", spec := "fnExactCountAlike", unfollowed := true, recurses := true, apart := false, narrowed := true }
def FnExactCountAlikeUptoSaid : Prop := fnExactCountAlikeUptoRow.holds Try.pinned (OpenSpec.upto fnExactCountAlikeSpec)

/-- 'laws.FnExactCountDominoes', WHERE WHAT IT READS IS OF BULK AT MOST 1048576: true; the input reads as it did. -/
def fnExactCountDominoesUptoRow : OpenClaim := { program := "ytkfhblkjllbejaa", sum := "cf1a8e80ad8ddfe7b045630e6221defa53f67635311649558f307fc20bd53b84", func := "loop.example/g01166/laws.FnExactCountDominoes", spec := "fnExactCountDominoes", unfollowed := true, recurses := true, apart := false, narrowed := true }
def FnExactCountDominoesUptoSaid : Prop := fnExactCountDominoesUptoRow.holds Try.pinned (OpenSpec.upto fnExactCountDominoesSpec)

/-- 'laws.FnExactStairOrders', WHERE WHAT IT READS IS OF BULK AT MOST 1048576: true; the input reads as it did. -/
def fnExactStairOrdersUptoRow : OpenClaim := { program := "ytkfhblkjllbejaa", sum := "cf1a8e80ad8ddfe7b045630e6221defa53f67635311649558f307fc20bd53b84", func := "loop.example/g01166/laws.FnExactStairOrders", spec := "fnExactStairOrders", unfollowed := true, recurses := true, apart := false, narrowed := true }
def FnExactStairOrdersUptoSaid : Prop := fnExactStairOrdersUptoRow.holds Try.pinned (OpenSpec.upto fnExactStairOrdersSpec)

/-- 'laws.FnExactMostDominoes', WHERE WHAT IT READS IS OF BULK AT MOST 1048576: true; the input reads as it did. -/
def fnExactMostDominoesUptoRow : OpenClaim := { program := "ytkfhblkjllbejaa", sum := "cf1a8e80ad8ddfe7b045630e6221defa53f67635311649558f307fc20bd53b84", func := "loop.example/g01166/laws.FnExactMostDominoes", spec := "fnExactMostDominoes", unfollowed := true, recurses := true, apart := false, narrowed := true }
def FnExactMostDominoesUptoSaid : Prop := fnExactMostDominoesUptoRow.holds Try.pinned (OpenSpec.upto fnExactMostDominoesSpec)

/-- 'laws.FnExactCountTakings', WHERE WHAT IT READS IS OF BULK AT MOST 1048576: true; the input reads as it did. -/
def fnExactCountTakingsUptoRow : OpenClaim := { program := "ytkfhblkjllbejaa", sum := "cf1a8e80ad8ddfe7b045630e6221defa53f67635311649558f307fc20bd53b84", func := "loop.example/g01166/laws.FnExactCountTakings", spec := "fnExactCountTakings", unfollowed := true, recurses := true, apart := false, narrowed := true }
def FnExactCountTakingsUptoSaid : Prop := fnExactCountTakingsUptoRow.holds Try.pinned (OpenSpec.upto fnExactCountTakingsSpec)

end Rows
end Go.Proofs.Ytkfhblkjllbejaa
