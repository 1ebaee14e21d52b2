/-
  No cell of these rows narrows 'for every input' (looked for: loops, veiled, ifaces, maps, wideKeys, modest, calm, conditions, laid).
  DERIVED. THE GIVEN ROWS OF THIS SEAT. 12 by the template 'for every input the law returns true; each argument reads behind the call as it read before'; 0 by the template 'total and deterministic' (their statements: YtoojonccocgnhaaTotals.lean).
  GIVEN WITH THE SEED: the statements are not yours to turn. If you find one false, say at which input.
  Laid BY PROGRAM, IN A SANDBOX (cutbox-rows.mjs): the forced cells as the released guide's own fill.sh prints them over the translation d794fdba1a48810c… (all of the seat's roots in one cut). By AI agents, Wed Nov 11 2026. No macro, syntax, notation, axiom, sorry.
-/
import Derived.Test.YtoojonccocgnhaaChecked
import GoSem.Claim
import GoSem.ClaimJoined
import GoSem.ClaimMapViews
import Derived.JoinedTies
import Derived.KernelRfl
namespace Go.Proofs.Ytoojonccocgnhaa
/- THE CELL 'sum', in the pinned program and in every row, IS THE sha256 OF THE DUMP (.gsa) THAT YtoojonccocgnhaaProg.lean LOADS. Nothing in Lean hashes anything: it is a label: what it is worth is what the hold of that sum in a sandbox is worth. -/
noncomputable def Try.pinned : Pinned := { name := "ytoojonccocgnhaa", sum := "d794fdba1a48810c155bc20cee513adeaf40c321550ac8021d132930a3239c52", checked := Try.checked }
namespace Rows
def none {H : Type} : Left H := { results := [], args := [] }

/-- 'laws.FnExactLevelCounts': WHATEVER THE INPUT: true; the input reads as it did. -/
def fnExactLevelCountsSpec : ChangeSpec := { name := "fnExactLevelCounts", fn := fun _ => fun
  | [d] => { results := [.lit (.bool true)], args := [d] }
  | _ => none }
def fnExactLevelCountsRow : OpenClaim := { program := "ytoojonccocgnhaa", sum := "d794fdba1a48810c155bc20cee513adeaf40c321550ac8021d132930a3239c52", func := "loop.example/g01166/laws.FnExactLevelCounts", spec := "fnExactLevelCounts", apart := false }
def FnExactLevelCountsSaid : Prop := fnExactLevelCountsRow.holds Try.pinned (OpenSpec.ofChange fnExactLevelCountsSpec)

/-- ITS FALSE NEIGHBOUR: 'it returns false'. Refute it at one input. -/
def fnExactLevelCountsWrong : ChangeSpec := { name := "fnExactLevelCounts", fn := fun _ => fun
  | [d] => { results := [.lit (.bool false)], args := [d] }
  | _ => none }
def FnExactLevelCountsWrongFalsely : Prop := fnExactLevelCountsRow.holds Try.pinned (OpenSpec.ofChange fnExactLevelCountsWrong)

/-- 'laws.FnExactTouchingFaces': WHATEVER THE INPUT: true; the input reads as it did. -/
def fnExactTouchingFacesSpec : ChangeSpec := { name := "fnExactTouchingFaces", fn := fun _ => fun
  | [d] => { results := [.lit (.bool true)], args := [d] }
  | _ => none }
def fnExactTouchingFacesRow : OpenClaim := { program := "ytoojonccocgnhaa", sum := "d794fdba1a48810c155bc20cee513adeaf40c321550ac8021d132930a3239c52", func := "loop.example/g01166/laws.FnExactTouchingFaces", spec := "fnExactTouchingFaces", apart := false }
def FnExactTouchingFacesSaid : Prop := fnExactTouchingFacesRow.holds Try.pinned (OpenSpec.ofChange fnExactTouchingFacesSpec)

/-- ITS FALSE NEIGHBOUR: 'it returns false'. Refute it at one input. -/
def fnExactTouchingFacesWrong : ChangeSpec := { name := "fnExactTouchingFaces", fn := fun _ => fun
  | [d] => { results := [.lit (.bool false)], args := [d] }
  | _ => none }
def FnExactTouchingFacesWrongFalsely : Prop := fnExactTouchingFacesRow.holds Try.pinned (OpenSpec.ofChange fnExactTouchingFacesWrong)

/-- 'laws.FnExactSwapSides': WHATEVER THE INPUT: true; the input reads as it did. -/
def fnExactSwapSidesSpec : ChangeSpec := { name := "fnExactSwapSides", fn := fun _ => fun
  | [d1, d2, d3] => { results := [.lit (.bool true)], args := [d1, d2, d3] }
  | _ => none }
def fnExactSwapSidesRow : OpenClaim := { program := "ytoojonccocgnhaa", sum := "d794fdba1a48810c155bc20cee513adeaf40c321550ac8021d132930a3239c52", func := "loop.example/g01166/laws.FnExactSwapSides", spec := "fnExactSwapSides", unfollowed := true, recurses := true, apart := false }
def FnExactSwapSidesSaid : Prop := fnExactSwapSidesRow.holds Try.pinned (OpenSpec.ofChange fnExactSwapSidesSpec)

/-- ITS FALSE NEIGHBOUR: 'it returns false'. Refute it at one input. -/
def fnExactSwapSidesWrong : ChangeSpec := { name := "fnExactSwapSides", fn := fun _ => fun
  | [d1, d2, d3] => { results := [.lit (.bool false)], args := [d1, d2, d3] }
  | _ => none }
def FnExactSwapSidesWrongFalsely : Prop := fnExactSwapSidesRow.holds Try.pinned (OpenSpec.ofChange fnExactSwapSidesWrong)

/-- 'laws.FnExactShiftHeap': WHATEVER THE INPUT: true; the input reads as it did. -/
def fnExactShiftHeapSpec : ChangeSpec := { name := "fnExactShiftHeap", fn := fun _ => fun
  | [d1, d2] => { results := [.lit (.bool true)], args := [d1, d2] }
  | _ => none }
def fnExactShiftHeapRow : OpenClaim := { program := "ytoojonccocgnhaa", sum := "d794fdba1a48810c155bc20cee513adeaf40c321550ac8021d132930a3239c52", func := "loop.example/g01166/laws.FnExactShiftHeap", spec := "fnExactShiftHeap", unfollowed := true, recurses := true, apart := false }
def FnExactShiftHeapSaid : Prop := fnExactShiftHeapRow.holds Try.pinned (OpenSpec.ofChange fnExactShiftHeapSpec)

/-- ITS FALSE NEIGHBOUR: 'it returns false'. Refute it at one input. -/
def fnExactShiftHeapWrong : ChangeSpec := { name := "fnExactShiftHeap", fn := fun _ => fun
  | [d1, d2] => { results := [.lit (.bool false)], args := [d1, d2] }
  | _ => none }
def FnExactShiftHeapWrongFalsely : Prop := fnExactShiftHeapRow.holds Try.pinned (OpenSpec.ofChange fnExactShiftHeapWrong)

/-- 'laws.FnExactLeastStair': WHATEVER THE INPUT: true; the input reads as it did. -/
def fnExactLeastStairSpec : ChangeSpec := { name := "fnExactLeastStair", fn := fun _ => fun
  | [d] => { results := [.lit (.bool true)], args := [d] }
  | _ => none }
def fnExactLeastStairRow : OpenClaim := { program := "ytoojonccocgnhaa", sum := "d794fdba1a48810c155bc20cee513adeaf40c321550ac8021d132930a3239c52", func := "loop.example/g01166/laws.FnExactLeastStair", spec := "fnExactLeastStair", unfollowed := true, recurses := true, apart := false }
def FnExactLeastStairSaid : Prop := fnExactLeastStairRow.holds Try.pinned (OpenSpec.ofChange fnExactLeastStairSpec)

/-- ITS FALSE NEIGHBOUR: 'it returns false'. Refute it at one input. -/
def fnExactLeastStairWrong : ChangeSpec := { name := "fnExactLeastStair", fn := fun _ => fun
  | [d] => { results := [.lit (.bool false)], args := [d] }
  | _ => none }
def FnExactLeastStairWrongFalsely : Prop := fnExactLeastStairRow.holds Try.pinned (OpenSpec.ofChange fnExactLeastStairWrong)

/-- 'laws.FnExactCountAlike': WHATEVER THE INPUT: true; the input reads as it did. -/
def fnExactCountAlikeSpec : ChangeSpec := { name := "fnExactCountAlike", fn := fun _ => fun
  | [d1, d2, d3] => { results := [.lit (.bool true)], args := [d1, d2, d3] }
  | _ => none }
def fnExactCountAlikeRow : OpenClaim := { program := "ytoojonccocgnhaa", sum := "d794fdba1a48810c155bc20cee513adeaf40c321550ac8021d132930a3239c52", func := "loop.example/g01166/laws.FnExactCountAlike", spec := "fnExactCountAlike", unfollowed := true, recurses := true, apart := false }
def FnExactCountAlikeSaid : Prop := fnExactCountAlikeRow.holds Try.pinned (OpenSpec.ofChange fnExactCountAlikeSpec)

/-- ITS FALSE NEIGHBOUR: 'it returns false'. Refute it at one input. -/
def fnExactCountAlikeWrong : ChangeSpec := { name := "fnExactCountAlike", fn := fun _ => fun
  | [d1, d2, d3] => { results := [.lit (.bool false)], args := [d1, d2, d3] }
  | _ => none }
def FnExactCountAlikeWrongFalsely : Prop := fnExactCountAlikeRow.holds Try.pinned (OpenSpec.ofChange fnExactCountAlikeWrong)

/-- 'laws.FnExactCropHeap': WHATEVER THE INPUT: true; the input reads as it did. -/
def fnExactCropHeapSpec : ChangeSpec := { name := "fnExactCropHeap", fn := fun _ => fun
  | [d] => { results := [.lit (.bool true)], args := [d] }
  | _ => none }
def fnExactCropHeapRow : OpenClaim := { program := "ytoojonccocgnhaa", sum := "d794fdba1a48810c155bc20cee513adeaf40c321550ac8021d132930a3239c52", func := "loop.example/g01166/laws.FnExactCropHeap", spec := "fnExactCropHeap", unfollowed := true, recurses := true, apart := false }
def FnExactCropHeapSaid : Prop := fnExactCropHeapRow.holds Try.pinned (OpenSpec.ofChange fnExactCropHeapSpec)

/-- ITS FALSE NEIGHBOUR: 'it returns false'. Refute it at one input. -/
def fnExactCropHeapWrong : ChangeSpec := { name := "fnExactCropHeap", fn := fun _ => fun
  | [d] => { results := [.lit (.bool false)], args := [d] }
  | _ => none }
def FnExactCropHeapWrongFalsely : Prop := fnExactCropHeapRow.holds Try.pinned (OpenSpec.ofChange fnExactCropHeapWrong)

/-- 'laws.FnExactAreAlike': WHATEVER THE INPUT: true; the input reads as it did. -/
def fnExactAreAlikeSpec : ChangeSpec := { name := "fnExactAreAlike", fn := fun _ => fun
  | [d1, d2, d3, d4] => { results := [.lit (.bool true)], args := [d1, d2, d3, d4] }
  | _ => none }
def fnExactAreAlikeRow : OpenClaim := { program := "ytoojonccocgnhaa", sum := "d794fdba1a48810c155bc20cee513adeaf40c321550ac8021d132930a3239c52", func := "loop.example/g01166/laws.FnExactAreAlike", spec := "fnExactAreAlike", unfollowed := true, recurses := true, apart := false }
def FnExactAreAlikeSaid : Prop := fnExactAreAlikeRow.holds Try.pinned (OpenSpec.ofChange fnExactAreAlikeSpec)

/-- ITS FALSE NEIGHBOUR: 'it returns false'. Refute it at one input. -/
def fnExactAreAlikeWrong : ChangeSpec := { name := "fnExactAreAlike", fn := fun _ => fun
  | [d1, d2, d3, d4] => { results := [.lit (.bool false)], args := [d1, d2, d3, d4] }
  | _ => none }
def FnExactAreAlikeWrongFalsely : Prop := fnExactAreAlikeRow.holds Try.pinned (OpenSpec.ofChange fnExactAreAlikeWrong)

/-- 'laws.FnExactViewOf': WHATEVER THE INPUT: true; the input reads as it did. -/
def fnExactViewOfSpec : ChangeSpec := { name := "fnExactViewOf", fn := fun _ => fun
  | [d1, d2] => { results := [.lit (.bool true)], args := [d1, d2] }
  | _ => none }
def fnExactViewOfRow : OpenClaim := { program := "ytoojonccocgnhaa", sum := "d794fdba1a48810c155bc20cee513adeaf40c321550ac8021d132930a3239c52", func := "loop.example/g01166/laws.FnExactViewOf", spec := "fnExactViewOf", apart := false }
def FnExactViewOfSaid : Prop := fnExactViewOfRow.holds Try.pinned (OpenSpec.ofChange fnExactViewOfSpec)

/-- ITS FALSE NEIGHBOUR: 'it returns false'. Refute it at one input. -/
def fnExactViewOfWrong : ChangeSpec := { name := "fnExactViewOf", fn := fun _ => fun
  | [d1, d2] => { results := [.lit (.bool false)], args := [d1, d2] }
  | _ => none }
def FnExactViewOfWrongFalsely : Prop := fnExactViewOfRow.holds Try.pinned (OpenSpec.ofChange fnExactViewOfWrong)

/-- 'laws.FnExactIsSettled': WHATEVER THE INPUT: true; the input reads as it did. -/
def fnExactIsSettledSpec : ChangeSpec := { name := "fnExactIsSettled", fn := fun _ => fun
  | [d] => { results := [.lit (.bool true)], args := [d] }
  | _ => none }
def fnExactIsSettledRow : OpenClaim := { program := "ytoojonccocgnhaa", sum := "d794fdba1a48810c155bc20cee513adeaf40c321550ac8021d132930a3239c52", func := "loop.example/g01166/laws.FnExactIsSettled", spec := "fnExactIsSettled", unfollowed := true, recurses := true, apart := false }
def FnExactIsSettledSaid : Prop := fnExactIsSettledRow.holds Try.pinned (OpenSpec.ofChange fnExactIsSettledSpec)

/-- ITS FALSE NEIGHBOUR: 'it returns false'. Refute it at one input. -/
def fnExactIsSettledWrong : ChangeSpec := { name := "fnExactIsSettled", fn := fun _ => fun
  | [d] => { results := [.lit (.bool false)], args := [d] }
  | _ => none }
def FnExactIsSettledWrongFalsely : Prop := fnExactIsSettledRow.holds Try.pinned (OpenSpec.ofChange fnExactIsSettledWrong)

/-- 'laws.FnExactFitTogether': WHATEVER THE INPUT: true; the input reads as it did. -/
def fnExactFitTogetherSpec : ChangeSpec := { name := "fnExactFitTogether", fn := fun _ => fun
  | [d] => { results := [.lit (.bool true)], args := [d] }
  | _ => none }
def fnExactFitTogetherRow : OpenClaim := { program := "ytoojonccocgnhaa", sum := "d794fdba1a48810c155bc20cee513adeaf40c321550ac8021d132930a3239c52", func := "loop.example/g01166/laws.FnExactFitTogether", spec := "fnExactFitTogether", unfollowed := true, recurses := true, apart := false }
def FnExactFitTogetherSaid : Prop := fnExactFitTogetherRow.holds Try.pinned (OpenSpec.ofChange fnExactFitTogetherSpec)

/-- ITS FALSE NEIGHBOUR: 'it returns false'. Refute it at one input. -/
def fnExactFitTogetherWrong : ChangeSpec := { name := "fnExactFitTogether", fn := fun _ => fun
  | [d] => { results := [.lit (.bool false)], args := [d] }
  | _ => none }
def FnExactFitTogetherWrongFalsely : Prop := fnExactFitTogetherRow.holds Try.pinned (OpenSpec.ofChange fnExactFitTogetherWrong)

/-- 'laws.FnExactOutsideFaces': WHATEVER THE INPUT: true; the input reads as it did. -/
def fnExactOutsideFacesSpec : ChangeSpec := { name := "fnExactOutsideFaces", fn := fun _ => fun
  | [d] => { results := [.lit (.bool true)], args := [d] }
  | _ => none }
def fnExactOutsideFacesRow : OpenClaim := { program := "ytoojonccocgnhaa", sum := "d794fdba1a48810c155bc20cee513adeaf40c321550ac8021d132930a3239c52", func := "loop.example/g01166/laws.FnExactOutsideFaces", spec := "fnExactOutsideFaces", unfollowed := true, recurses := true, apart := false }
def FnExactOutsideFacesSaid : Prop := fnExactOutsideFacesRow.holds Try.pinned (OpenSpec.ofChange fnExactOutsideFacesSpec)

/-- ITS FALSE NEIGHBOUR: 'it returns false'. Refute it at one input. -/
def fnExactOutsideFacesWrong : ChangeSpec := { name := "fnExactOutsideFaces", fn := fun _ => fun
  | [d] => { results := [.lit (.bool false)], args := [d] }
  | _ => none }
def FnExactOutsideFacesWrongFalsely : Prop := fnExactOutsideFacesRow.holds Try.pinned (OpenSpec.ofChange fnExactOutsideFacesWrong)

/- THE SECOND FORM. 'bulk': how many values and letters a reading holds, each counted each time it is reached (what is shared counts as often as it is met; a slice's spare places count too). A statement '..UptoSaid' is the law's where the arguments, and the package variables that the reading takes, are together of bulk at most 1048576: NARROWER than '..Said'. Prove '..Said' where nothing that the law and all that it calls make is longer than what came in: it says more and counts as full. Else prove '..UptoSaid'. A law counts once. -/
mutual
def uptoBulk {H : Type} : DataW H → Nat
  | .lit (.string bytes) => bytes.length + 1
  | .lit _ => 1
  | .nil => 1
  | .ptr d => uptoBulk d + 1
  | .slice elems spare => uptoBulkAll elems + uptoBulkAll spare + 1
  | .agg parts => uptoBulkAll parts + 1
  | .iface _ d => uptoBulk d + 1
  | .map entries => uptoBulkEntries entries + 1
  | .held _ => 1
def uptoBulkAll {H : Type} : List (DataW H) → Nat
  | [] => 0
  | d :: r => uptoBulk d + uptoBulkAll r
def uptoBulkEntries {H : Type} : List (Lit × DataW H) → Nat
  | [] => 0
  | x :: r => uptoBulkEntry x + uptoBulkEntries r
def uptoBulkEntry {H : Type} : Lit × DataW H → Nat
  | (.string bytes, d) => bytes.length + uptoBulk d + 1
  | (_, d) => uptoBulk d + 1
 end
def uptoSmall : (H : Type) → List (DataW H) → Bool := fun _ ds => decide (uptoBulkAll ds ≤ 1048576)
def OpenSpec.upto (s : _root_.Go.ChangeSpec) : _root_.Go.OpenSpec := { _root_.Go.OpenSpec.ofChange s with cond := some uptoSmall }

/-- 'laws.FnExactLevelCounts', WHERE WHAT IT READS IS OF BULK AT MOST 1048576: true; the input reads as it did. -/
def fnExactLevelCountsUptoRow : OpenClaim := { program := "ytoojonccocgnhaa", sum := "d794fdba1a48810c155bc20cee513adeaf40c321550ac8021d132930a3239c52", func := "loop.example/g01166/laws.FnExactLevelCounts", spec := "fnExactLevelCounts", apart := false, narrowed := true }
def FnExactLevelCountsUptoSaid : Prop := fnExactLevelCountsUptoRow.holds Try.pinned (OpenSpec.upto fnExactLevelCountsSpec)

/-- 'laws.FnExactTouchingFaces', WHERE WHAT IT READS IS OF BULK AT MOST 1048576: true; the input reads as it did. -/
def fnExactTouchingFacesUptoRow : OpenClaim := { program := "ytoojonccocgnhaa", sum := "d794fdba1a48810c155bc20cee513adeaf40c321550ac8021d132930a3239c52", func := "loop.example/g01166/laws.FnExactTouchingFaces", spec := "fnExactTouchingFaces", apart := false, narrowed := true }
def FnExactTouchingFacesUptoSaid : Prop := fnExactTouchingFacesUptoRow.holds Try.pinned (OpenSpec.upto fnExactTouchingFacesSpec)

/-- 'laws.FnExactSwapSides', WHERE WHAT IT READS IS OF BULK AT MOST 1048576: true; the input reads as it did. -/
def fnExactSwapSidesUptoRow : OpenClaim := { program := "ytoojonccocgnhaa", sum := "d794fdba1a48810c155bc20cee513adeaf40c321550ac8021d132930a3239c52", func := "loop.example/g01166/laws.FnExactSwapSides", spec := "fnExactSwapSides", unfollowed := true, recurses := true, apart := false, narrowed := true }
def FnExactSwapSidesUptoSaid : Prop := fnExactSwapSidesUptoRow.holds Try.pinned (OpenSpec.upto fnExactSwapSidesSpec)

/-- 'laws.FnExactShiftHeap', WHERE WHAT IT READS IS OF BULK AT MOST 1048576: true; the input reads as it did. -/
def fnExactShiftHeapUptoRow : OpenClaim := { program := "ytoojonccocgnhaa", sum := "d794fdba1a48810c155bc20cee513adeaf40c321550ac8021d132930a3239c52", func := "loop.example/g01166/laws.FnExactShiftHeap", spec := "fnExactShiftHeap", unfollowed := true, recurses := true, apart := false, narrowed := true }
def FnExactShiftHeapUptoSaid : Prop := fnExactShiftHeapUptoRow.holds Try.pinned (OpenSpec.upto fnExactShiftHeapSpec)

/-- 'laws.FnExactLeastStair', WHERE WHAT IT READS IS OF BULK AT MOST 1048576: true; the input reads as it did. -/
def fnExactLeastStairUptoRow : OpenClaim := { program := "ytoojonccocgnhaa", sum := "d794fdba1a48810c155bc20cee513adeaf40c321550ac8021d132930a3239c52", func := "loop.example/g01166/laws.FnExactLeastStair", spec := "fnExactLeastStair", unfollowed := true, recurses := true, apart := false, narrowed := true }
def FnExactLeastStairUptoSaid : Prop := fnExactLeastStairUptoRow.holds Try.pinned (OpenSpec.upto fnExactLeastStairSpec)

/-- 'laws.FnExactCountAlike', WHERE WHAT IT READS IS OF BULK AT MOST 1048576: true; the input reads as it did. -/
def fnExactCountAlikeUptoRow : OpenClaim := { program := "ytoojonccocgnhaa", sum := "d794fdba1a48810c155bc20cee513adeaf40c321550ac8021d132930a3239c52", func := "loop.example/g01166/laws.FnExactCountAlike", spec := "fnExactCountAlike", unfollowed := true, recurses := true, apart := false, narrowed := true }
def FnExactCountAlikeUptoSaid : Prop := fnExactCountAlikeUptoRow.holds Try.pinned (OpenSpec.upto fnExactCountAlikeSpec)

/-- 'laws.FnExactCropHeap', WHERE WHAT IT READS IS OF BULK AT MOST 1048576: true; the input reads as it did. -/
def fnExactCropHeapUptoRow : OpenClaim := { program := "ytoojonccocgnhaa", sum := "d794fdba1a48810c155bc20cee513adeaf40c321550ac8021d132930a3239c52", func := "loop.example/g01166/laws.FnExactCropHeap", spec := "fnExactCropHeap", unfollowed := true, recurses := true, apart := false, narrowed := true }
def FnExactCropHeapUptoSaid : Prop := fnExactCropHeapUptoRow.holds Try.pinned (OpenSpec.upto fnExactCropHeapSpec)

/-- 'laws.FnExactAreAlike', WHERE WHAT IT READS IS OF BULK AT MOST 1048576: true; the input reads as it did. -/
def fnExactAreAlikeUptoRow : OpenClaim := { program := "ytoojonccocgnhaa", sum := "d794fdba1a48810c155bc20cee513adeaf40c321550ac8021d132930a3239c52", func := "loop.example/g01166/laws.FnExactAreAlike", spec := "fnExactAreAlike", unfollowed := true, recurses := true, apart := false, narrowed := true }
def FnExactAreAlikeUptoSaid : Prop := fnExactAreAlikeUptoRow.holds Try.pinned (OpenSpec.upto fnExactAreAlikeSpec)

/-- 'laws.FnExactViewOf', WHERE WHAT IT READS IS OF BULK AT MOST 1048576: true; the input reads as it did. -/
def fnExactViewOfUptoRow : OpenClaim := { program := "ytoojonccocgnhaa", sum := "d794fdba1a48810c155bc20cee513adeaf40c321550ac8021d132930a3239c52", func := "loop.example/g01166/laws.FnExactViewOf", spec := "fnExactViewOf", apart := false, narrowed := true }
def FnExactViewOfUptoSaid : Prop := fnExactViewOfUptoRow.holds Try.pinned (OpenSpec.upto fnExactViewOfSpec)

/-- 'laws.FnExactIsSettled', WHERE WHAT IT READS IS OF BULK AT MOST 1048576: true; the input reads as it did. -/
def fnExactIsSettledUptoRow : OpenClaim := { program := "ytoojonccocgnhaa", sum := "d794fdba1a48810c155bc20cee513adeaf40c321550ac8021d132930a3239c52", func := "loop.example/g01166/laws.FnExactIsSettled", spec := "fnExactIsSettled", unfollowed := true, recurses := true, apart := false, narrowed := true }
def FnExactIsSettledUptoSaid : Prop := fnExactIsSettledUptoRow.holds Try.pinned (OpenSpec.upto fnExactIsSettledSpec)

/-- 'laws.FnExactFitTogether', WHERE WHAT IT READS IS OF BULK AT MOST 1048576: true; the input reads as it did. -/
def fnExactFitTogetherUptoRow : OpenClaim := { program := "ytoojonccocgnhaa", sum := "d794fdba1a48810c155bc20cee513adeaf40c321550ac8021d132930a3239c52", func := "loop.example/g01166/laws.FnExactFitTogether", spec := "fnExactFitTogether", unfollowed := true, recurses := true, apart := false, narrowed := true }
def FnExactFitTogetherUptoSaid : Prop := fnExactFitTogetherUptoRow.holds Try.pinned (OpenSpec.upto fnExactFitTogetherSpec)

/-- 'laws.FnExactOutsideFaces', WHERE WHAT IT READS IS OF BULK AT MOST 1048576: true; the input reads as it did. -/
def fnExactOutsideFacesUptoRow : OpenClaim := { program := "ytoojonccocgnhaa", sum := "d794fdba1a48810c155bc20cee513adeaf40c321550ac8021d132930a3239c52", func := "loop.example/g01166/laws.FnExactOutsideFaces", spec := "fnExactOutsideFaces", unfollowed := true, recurses := true, apart := false, narrowed := true }
def FnExactOutsideFacesUptoSaid : Prop := fnExactOutsideFacesUptoRow.holds Try.pinned (OpenSpec.upto fnExactOutsideFacesSpec)

end Rows
end Go.Proofs.Ytoojonccocgnhaa
