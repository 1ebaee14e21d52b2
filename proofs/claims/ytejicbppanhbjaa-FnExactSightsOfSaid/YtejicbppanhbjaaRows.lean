/-
  No cell of these rows narrows 'for every input' (looked for: loops, veiled, ifaces, maps, wideKeys, modest, calm, conditions, laid).
  DERIVED. THE GIVEN ROWS OF THIS SEAT. 12 by the template 'for every input the law returns true; each argument reads behind the call as it read before'; 0 by the template 'total and deterministic' (their statements: YtejicbppanhbjaaTotals.lean).
  GIVEN WITH THE SEED: the statements are not yours to turn. If you find one false, say at which input.
  Laid BY PROGRAM, IN A SANDBOX (cutbox-rows.mjs): the forced cells as the released guide's own fill.sh prints them over the translation 07e679e9c0b15fa6… (all of the seat's roots in one cut). By AI agents, Wed Nov 11 2026. No macro, syntax, notation, axiom, sorry.
-/
import Derived.Test.YtejicbppanhbjaaChecked
import GoSem.Claim
import GoSem.ClaimJoined
import GoSem.ClaimMapViews
import Derived.JoinedTies
import Derived.KernelRfl
namespace Go.Proofs.Ytejicbppanhbjaa
/- THE CELL 'sum', in the pinned program and in every row, IS THE sha256 OF THE DUMP (.gsa) THAT YtejicbppanhbjaaProg.lean LOADS. Nothing in Lean hashes anything: it is a label: what it is worth is what the hold of that sum in a sandbox is worth. -/
noncomputable def Try.pinned : Pinned := { name := "ytejicbppanhbjaa", sum := "07e679e9c0b15fa608086a000a114e4e5e431d641c37336ac22fb3e8d389c570", checked := Try.checked }
namespace Rows
def none {H : Type} : Left H := { results := [], args := [] }

/-- 'laws.FnExactTouchingFaces': WHATEVER THE INPUT: true; the input reads as it did. -/
def fnExactTouchingFacesSpec : ChangeSpec := { name := "fnExactTouchingFaces", fn := fun _ => fun
  | [d] => { results := [.lit (.bool true)], args := [d] }
  | _ => none }
def fnExactTouchingFacesRow : OpenClaim := { program := "ytejicbppanhbjaa", sum := "07e679e9c0b15fa608086a000a114e4e5e431d641c37336ac22fb3e8d389c570", func := "loop.example/g01166/laws.FnExactTouchingFaces", spec := "fnExactTouchingFaces", apart := false }
def FnExactTouchingFacesSaid : Prop := fnExactTouchingFacesRow.holds Try.pinned (OpenSpec.ofChange fnExactTouchingFacesSpec)

/-- ITS FALSE NEIGHBOUR: 'it returns false'. Refute it at one input. -/
def fnExactTouchingFacesWrong : ChangeSpec := { name := "fnExactTouchingFaces", fn := fun _ => fun
  | [d] => { results := [.lit (.bool false)], args := [d] }
  | _ => none }
def FnExactTouchingFacesWrongFalsely : Prop := fnExactTouchingFacesRow.holds Try.pinned (OpenSpec.ofChange fnExactTouchingFacesWrong)

/-- 'laws.FnExactFitTogether': WHATEVER THE INPUT: true; the input reads as it did. -/
def fnExactFitTogetherSpec : ChangeSpec := { name := "fnExactFitTogether", fn := fun _ => fun
  | [d] => { results := [.lit (.bool true)], args := [d] }
  | _ => none }
def fnExactFitTogetherRow : OpenClaim := { program := "ytejicbppanhbjaa", sum := "07e679e9c0b15fa608086a000a114e4e5e431d641c37336ac22fb3e8d389c570", func := "loop.example/g01166/laws.FnExactFitTogether", spec := "fnExactFitTogether", unfollowed := true, recurses := true, apart := false }
def FnExactFitTogetherSaid : Prop := fnExactFitTogetherRow.holds Try.pinned (OpenSpec.ofChange fnExactFitTogetherSpec)

/-- ITS FALSE NEIGHBOUR: 'it returns false'. Refute it at one input. -/
def fnExactFitTogetherWrong : ChangeSpec := { name := "fnExactFitTogether", fn := fun _ => fun
  | [d] => { results := [.lit (.bool false)], args := [d] }
  | _ => none }
def FnExactFitTogetherWrongFalsely : Prop := fnExactFitTogetherRow.holds Try.pinned (OpenSpec.ofChange fnExactFitTogetherWrong)

/-- 'laws.FnExactIsAlone': WHATEVER THE INPUT: true; the input reads as it did. -/
def fnExactIsAloneSpec : ChangeSpec := { name := "fnExactIsAlone", fn := fun _ => fun
  | [d1, d2, d3] => { results := [.lit (.bool true)], args := [d1, d2, d3] }
  | _ => none }
def fnExactIsAloneRow : OpenClaim := { program := "ytejicbppanhbjaa", sum := "07e679e9c0b15fa608086a000a114e4e5e431d641c37336ac22fb3e8d389c570", func := "loop.example/g01166/laws.FnExactIsAlone", spec := "fnExactIsAlone", unfollowed := true, recurses := true, apart := false }
def FnExactIsAloneSaid : Prop := fnExactIsAloneRow.holds Try.pinned (OpenSpec.ofChange fnExactIsAloneSpec)

/-- ITS FALSE NEIGHBOUR: 'it returns false'. Refute it at one input. -/
def fnExactIsAloneWrong : ChangeSpec := { name := "fnExactIsAlone", fn := fun _ => fun
  | [d1, d2, d3] => { results := [.lit (.bool false)], args := [d1, d2, d3] }
  | _ => none }
def FnExactIsAloneWrongFalsely : Prop := fnExactIsAloneRow.holds Try.pinned (OpenSpec.ofChange fnExactIsAloneWrong)

/-- 'laws.FnExactLinesWith': WHATEVER THE INPUT: true; the input reads as it did. -/
def fnExactLinesWithSpec : ChangeSpec := { name := "fnExactLinesWith", fn := fun _ => fun
  | [d1, d2] => { results := [.lit (.bool true)], args := [d1, d2] }
  | _ => none }
def fnExactLinesWithRow : OpenClaim := { program := "ytejicbppanhbjaa", sum := "07e679e9c0b15fa608086a000a114e4e5e431d641c37336ac22fb3e8d389c570", func := "loop.example/g01166/laws.FnExactLinesWith", spec := "fnExactLinesWith", apart := false }
def FnExactLinesWithSaid : Prop := fnExactLinesWithRow.holds Try.pinned (OpenSpec.ofChange fnExactLinesWithSpec)

/-- ITS FALSE NEIGHBOUR: 'it returns false'. Refute it at one input. -/
def fnExactLinesWithWrong : ChangeSpec := { name := "fnExactLinesWith", fn := fun _ => fun
  | [d1, d2] => { results := [.lit (.bool false)], args := [d1, d2] }
  | _ => none }
def FnExactLinesWithWrongFalsely : Prop := fnExactLinesWithRow.holds Try.pinned (OpenSpec.ofChange fnExactLinesWithWrong)

/-- 'laws.FnExactGreatestHeap': WHATEVER THE INPUT: true; the input reads as it did. -/
def fnExactGreatestHeapSpec : ChangeSpec := { name := "fnExactGreatestHeap", fn := fun _ => fun
  | [d] => { results := [.lit (.bool true)], args := [d] }
  | _ => none }
def fnExactGreatestHeapRow : OpenClaim := { program := "ytejicbppanhbjaa", sum := "07e679e9c0b15fa608086a000a114e4e5e431d641c37336ac22fb3e8d389c570", func := "loop.example/g01166/laws.FnExactGreatestHeap", spec := "fnExactGreatestHeap", unfollowed := true, recurses := true, apart := false }
def FnExactGreatestHeapSaid : Prop := fnExactGreatestHeapRow.holds Try.pinned (OpenSpec.ofChange fnExactGreatestHeapSpec)

/-- ITS FALSE NEIGHBOUR: 'it returns false'. Refute it at one input. -/
def fnExactGreatestHeapWrong : ChangeSpec := { name := "fnExactGreatestHeap", fn := fun _ => fun
  | [d] => { results := [.lit (.bool false)], args := [d] }
  | _ => none }
def FnExactGreatestHeapWrongFalsely : Prop := fnExactGreatestHeapRow.holds Try.pinned (OpenSpec.ofChange fnExactGreatestHeapWrong)

/-- 'laws.FnExactCleanShadow': WHATEVER THE INPUT: true; the input reads as it did. -/
def fnExactCleanShadowSpec : ChangeSpec := { name := "fnExactCleanShadow", fn := fun _ => fun
  | [d] => { results := [.lit (.bool true)], args := [d] }
  | _ => none }
def fnExactCleanShadowRow : OpenClaim := { program := "ytejicbppanhbjaa", sum := "07e679e9c0b15fa608086a000a114e4e5e431d641c37336ac22fb3e8d389c570", func := "loop.example/g01166/laws.FnExactCleanShadow", spec := "fnExactCleanShadow", unfollowed := true, recurses := true, apart := false }
def FnExactCleanShadowSaid : Prop := fnExactCleanShadowRow.holds Try.pinned (OpenSpec.ofChange fnExactCleanShadowSpec)

/-- ITS FALSE NEIGHBOUR: 'it returns false'. Refute it at one input. -/
def fnExactCleanShadowWrong : ChangeSpec := { name := "fnExactCleanShadow", fn := fun _ => fun
  | [d] => { results := [.lit (.bool false)], args := [d] }
  | _ => none }
def FnExactCleanShadowWrongFalsely : Prop := fnExactCleanShadowRow.holds Try.pinned (OpenSpec.ofChange fnExactCleanShadowWrong)

/-- 'laws.FnExactBareSquares': WHATEVER THE INPUT: true; the input reads as it did. -/
def fnExactBareSquaresSpec : ChangeSpec := { name := "fnExactBareSquares", fn := fun _ => fun
  | [d1, d2] => { results := [.lit (.bool true)], args := [d1, d2] }
  | _ => none }
def fnExactBareSquaresRow : OpenClaim := { program := "ytejicbppanhbjaa", sum := "07e679e9c0b15fa608086a000a114e4e5e431d641c37336ac22fb3e8d389c570", func := "loop.example/g01166/laws.FnExactBareSquares", spec := "fnExactBareSquares", apart := false }
def FnExactBareSquaresSaid : Prop := fnExactBareSquaresRow.holds Try.pinned (OpenSpec.ofChange fnExactBareSquaresSpec)

/-- ITS FALSE NEIGHBOUR: 'it returns false'. Refute it at one input. -/
def fnExactBareSquaresWrong : ChangeSpec := { name := "fnExactBareSquares", fn := fun _ => fun
  | [d1, d2] => { results := [.lit (.bool false)], args := [d1, d2] }
  | _ => none }
def FnExactBareSquaresWrongFalsely : Prop := fnExactBareSquaresRow.holds Try.pinned (OpenSpec.ofChange fnExactBareSquaresWrong)

/-- 'laws.FnExactSkyLine': WHATEVER THE INPUT: true; the input reads as it did. -/
def fnExactSkyLineSpec : ChangeSpec := { name := "fnExactSkyLine", fn := fun _ => fun
  | [d1, d2] => { results := [.lit (.bool true)], args := [d1, d2] }
  | _ => none }
def fnExactSkyLineRow : OpenClaim := { program := "ytejicbppanhbjaa", sum := "07e679e9c0b15fa608086a000a114e4e5e431d641c37336ac22fb3e8d389c570", func := "loop.example/g01166/laws.FnExactSkyLine", spec := "fnExactSkyLine", apart := false }
def FnExactSkyLineSaid : Prop := fnExactSkyLineRow.holds Try.pinned (OpenSpec.ofChange fnExactSkyLineSpec)

/-- ITS FALSE NEIGHBOUR: 'it returns false'. Refute it at one input. -/
def fnExactSkyLineWrong : ChangeSpec := { name := "fnExactSkyLine", fn := fun _ => fun
  | [d1, d2] => { results := [.lit (.bool false)], args := [d1, d2] }
  | _ => none }
def FnExactSkyLineWrongFalsely : Prop := fnExactSkyLineRow.holds Try.pinned (OpenSpec.ofChange fnExactSkyLineWrong)

/-- 'laws.FnExactSightsOf': WHATEVER THE INPUT: true; the input reads as it did. -/
def fnExactSightsOfSpec : ChangeSpec := { name := "fnExactSightsOf", fn := fun _ => fun
  | [d1, d2, d3] => { results := [.lit (.bool true)], args := [d1, d2, d3] }
  | _ => none }
def fnExactSightsOfRow : OpenClaim := { program := "ytejicbppanhbjaa", sum := "07e679e9c0b15fa608086a000a114e4e5e431d641c37336ac22fb3e8d389c570", func := "loop.example/g01166/laws.FnExactSightsOf", spec := "fnExactSightsOf", apart := false }
def FnExactSightsOfSaid : Prop := fnExactSightsOfRow.holds Try.pinned (OpenSpec.ofChange fnExactSightsOfSpec)

/-- ITS FALSE NEIGHBOUR: 'it returns false'. Refute it at one input. -/
def fnExactSightsOfWrong : ChangeSpec := { name := "fnExactSightsOf", fn := fun _ => fun
  | [d1, d2, d3] => { results := [.lit (.bool false)], args := [d1, d2, d3] }
  | _ => none }
def FnExactSightsOfWrongFalsely : Prop := fnExactSightsOfRow.holds Try.pinned (OpenSpec.ofChange fnExactSightsOfWrong)

/-- 'laws.FnExactPeaksOf': WHATEVER THE INPUT: true; the input reads as it did. -/
def fnExactPeaksOfSpec : ChangeSpec := { name := "fnExactPeaksOf", fn := fun _ => fun
  | [d] => { results := [.lit (.bool true)], args := [d] }
  | _ => none }
def fnExactPeaksOfRow : OpenClaim := { program := "ytejicbppanhbjaa", sum := "07e679e9c0b15fa608086a000a114e4e5e431d641c37336ac22fb3e8d389c570", func := "loop.example/g01166/laws.FnExactPeaksOf", spec := "fnExactPeaksOf", unfollowed := true, recurses := true, apart := false }
def FnExactPeaksOfSaid : Prop := fnExactPeaksOfRow.holds Try.pinned (OpenSpec.ofChange fnExactPeaksOfSpec)

/-- ITS FALSE NEIGHBOUR: 'it returns false'. Refute it at one input. -/
def fnExactPeaksOfWrong : ChangeSpec := { name := "fnExactPeaksOf", fn := fun _ => fun
  | [d] => { results := [.lit (.bool false)], args := [d] }
  | _ => none }
def FnExactPeaksOfWrongFalsely : Prop := fnExactPeaksOfRow.holds Try.pinned (OpenSpec.ofChange fnExactPeaksOfWrong)

/-- 'laws.FnExactLayerOf': WHATEVER THE INPUT: true; the input reads as it did. -/
def fnExactLayerOfSpec : ChangeSpec := { name := "fnExactLayerOf", fn := fun _ => fun
  | [d1, d2, d3] => { results := [.lit (.bool true)], args := [d1, d2, d3] }
  | _ => none }
def fnExactLayerOfRow : OpenClaim := { program := "ytejicbppanhbjaa", sum := "07e679e9c0b15fa608086a000a114e4e5e431d641c37336ac22fb3e8d389c570", func := "loop.example/g01166/laws.FnExactLayerOf", spec := "fnExactLayerOf", apart := false }
def FnExactLayerOfSaid : Prop := fnExactLayerOfRow.holds Try.pinned (OpenSpec.ofChange fnExactLayerOfSpec)

/-- ITS FALSE NEIGHBOUR: 'it returns false'. Refute it at one input. -/
def fnExactLayerOfWrong : ChangeSpec := { name := "fnExactLayerOf", fn := fun _ => fun
  | [d1, d2, d3] => { results := [.lit (.bool false)], args := [d1, d2, d3] }
  | _ => none }
def FnExactLayerOfWrongFalsely : Prop := fnExactLayerOfRow.holds Try.pinned (OpenSpec.ofChange fnExactLayerOfWrong)

/-- 'laws.FnExactSwitchesOf': WHATEVER THE INPUT: true; the input reads as it did. -/
def fnExactSwitchesOfSpec : ChangeSpec := { name := "fnExactSwitchesOf", fn := fun _ => fun
  | [d1, d2, d3] => { results := [.lit (.bool true)], args := [d1, d2, d3] }
  | _ => none }
def fnExactSwitchesOfRow : OpenClaim := { program := "ytejicbppanhbjaa", sum := "07e679e9c0b15fa608086a000a114e4e5e431d641c37336ac22fb3e8d389c570", func := "loop.example/g01166/laws.FnExactSwitchesOf", spec := "fnExactSwitchesOf", unfollowed := true, recurses := true, apart := false }
def FnExactSwitchesOfSaid : Prop := fnExactSwitchesOfRow.holds Try.pinned (OpenSpec.ofChange fnExactSwitchesOfSpec)

/-- ITS FALSE NEIGHBOUR: 'it returns false'. Refute it at one input. -/
def fnExactSwitchesOfWrong : ChangeSpec := { name := "fnExactSwitchesOf", fn := fun _ => fun
  | [d1, d2, d3] => { results := [.lit (.bool false)], args := [d1, d2, d3] }
  | _ => none }
def FnExactSwitchesOfWrongFalsely : Prop := fnExactSwitchesOfRow.holds Try.pinned (OpenSpec.ofChange fnExactSwitchesOfWrong)

/- THE SECOND FORM. 'bulk': how many values and letters a reading holds, each counted each time it is reached (what is shared counts as often as it is met; a slice's spare places count too). A statement '..UptoSaid' is the law's where the arguments, and the package variables that the reading takes, are together of bulk at most 1048576: NARROWER than '..Said'. Prove '..Said' where nothing that the law and all that it calls make is longer than what came in: it says more and counts as full. Else prove '..UptoSaid'. A law counts once. -/
mutual
def uptoBulk {H : Type} : DataW H → Nat
  | .lit (.string bytes) => bytes.length + 1
  | .lit _ => 1
  | .nil => 1
  | .ptr d => uptoBulk d + 1
  | .slice elems spare => uptoBulkAll elems + uptoBulkAll spare + 1
  | .agg parts => uptoBulkAll parts + 1
  | .iface _ d => uptoBulk d + 1
  | .map entries => uptoBulkEntries entries + 1
  | .held _ => 1
def uptoBulkAll {H : Type} : List (DataW H) → Nat
  | [] => 0
  | d :: r => uptoBulk d + uptoBulkAll r
def uptoBulkEntries {H : Type} : List (Lit × DataW H) → Nat
  | [] => 0
  | x :: r => uptoBulkEntry x + uptoBulkEntries r
def uptoBulkEntry {H : Type} : Lit × DataW H → Nat
  | (.string bytes, d) => bytes.length + uptoBulk d + 1
  | (_, d) => uptoBulk d + 1
 end
def uptoSmall : (H : Type) → List (DataW H) → Bool := fun _ ds => decide (uptoBulkAll ds ≤ 1048576)
def OpenSpec.upto (s : _root_.Go.ChangeSpec) : _root_.Go.OpenSpec := { _root_.Go.OpenSpec.ofChange s with cond := some uptoSmall }

/-- 'laws.FnExactTouchingFaces', WHERE WHAT IT READS IS OF BULK AT MOST 1048576: true; the input reads as it did. -/
def fnExactTouchingFacesUptoRow : OpenClaim := { program := "ytejicbppanhbjaa", sum := "07e679e9c0b15fa608086a000a114e4e5e431d641c37336ac22fb3e8d389c570", func := "loop.example/g01166/laws.FnExactTouchingFaces", spec := "fnExactTouchingFaces", apart := false, narrowed := true }
def FnExactTouchingFacesUptoSaid : Prop := fnExactTouchingFacesUptoRow.holds Try.pinned (OpenSpec.upto fnExactTouchingFacesSpec)

/-- 'laws.FnExactFitTogether', WHERE WHAT IT READS IS OF BULK AT MOST 1048576: true; the input reads as it did. -/
def fnExactFitTogetherUptoRow : OpenClaim := { program := "ytejicbppanhbjaa", sum := "07e679e9c0b15fa608086a000a114e4e5e431d641c37336ac22fb3e8d389c570", func := "loop.example/g01166/laws.FnExactFitTogether", spec := "fnExactFitTogether", unfollowed := true, recurses := true, apart := false, narrowed := true }
def FnExactFitTogetherUptoSaid : Prop := fnExactFitTogetherUptoRow.holds Try.pinned (OpenSpec.upto fnExactFitTogetherSpec)

/-- 'laws.FnExactIsAlone', WHERE WHAT IT READS IS OF BULK AT MOST 1048576: true; the input reads as it did. -/
def fnExactIsAloneUptoRow : OpenClaim := { program := "ytejicbppanhbjaa", sum := "07e679e9c0b15fa608086a000a114e4e5e431d641c37336ac22fb3e8d389c570", func := "loop.example/g01166/laws.FnExactIsAlone", spec := "fnExactIsAlone", unfollowed := true, recurses := true, apart := false, narrowed := true }
def FnExactIsAloneUptoSaid : Prop := fnExactIsAloneUptoRow.holds Try.pinned (OpenSpec.upto fnExactIsAloneSpec)

/-- 'laws.FnExactLinesWith', WHERE WHAT IT READS IS OF BULK AT MOST 1048576: true; the input reads as it did. -/
def fnExactLinesWithUptoRow : OpenClaim := { program := "ytejicbppanhbjaa", sum := "07e679e9c0b15fa608086a000a114e4e5e431d641c37336ac22fb3e8d389c570", func := "loop.example/g01166/laws.FnExactLinesWith", spec := "fnExactLinesWith", apart := false, narrowed := true }
def FnExactLinesWithUptoSaid : Prop := fnExactLinesWithUptoRow.holds Try.pinned (OpenSpec.upto fnExactLinesWithSpec)

/-- 'laws.FnExactGreatestHeap', WHERE WHAT IT READS IS OF BULK AT MOST 1048576: true; the input reads as it did. -/
def fnExactGreatestHeapUptoRow : OpenClaim := { program := "ytejicbppanhbjaa", sum := "07e679e9c0b15fa608086a000a114e4e5e431d641c37336ac22fb3e8d389c570", func := "loop.example/g01166/laws.FnExactGreatestHeap", spec := "fnExactGreatestHeap", unfollowed := true, recurses := true, apart := false, narrowed := true }
def FnExactGreatestHeapUptoSaid : Prop := fnExactGreatestHeapUptoRow.holds Try.pinned (OpenSpec.upto fnExactGreatestHeapSpec)

/-- 'laws.FnExactCleanShadow', WHERE WHAT IT READS IS OF BULK AT MOST 1048576: true; the input reads as it did. -/
def fnExactCleanShadowUptoRow : OpenClaim := { program := "ytejicbppanhbjaa", sum := "07e679e9c0b15fa608086a000a114e4e5e431d641c37336ac22fb3e8d389c570", func := "loop.example/g01166/laws.FnExactCleanShadow", spec := "fnExactCleanShadow", unfollowed := true, recurses := true, apart := false, narrowed := true }
def FnExactCleanShadowUptoSaid : Prop := fnExactCleanShadowUptoRow.holds Try.pinned (OpenSpec.upto fnExactCleanShadowSpec)

/-- 'laws.FnExactBareSquares', WHERE WHAT IT READS IS OF BULK AT MOST 1048576: true; the input reads as it did. -/
def fnExactBareSquaresUptoRow : OpenClaim := { program := "ytejicbppanhbjaa", sum := "07e679e9c0b15fa608086a000a114e4e5e431d641c37336ac22fb3e8d389c570", func := "loop.example/g01166/laws.FnExactBareSquares", spec := "fnExactBareSquares", apart := false, narrowed := true }
def FnExactBareSquaresUptoSaid : Prop := fnExactBareSquaresUptoRow.holds Try.pinned (OpenSpec.upto fnExactBareSquaresSpec)

/-- 'laws.FnExactSkyLine', WHERE WHAT IT READS IS OF BULK AT MOST 1048576: true; the input reads as it did. -/
def fnExactSkyLineUptoRow : OpenClaim := { program := "ytejicbppanhbjaa", sum := "07e679e9c0b15fa608086a000a114e4e5e431d641c37336ac22fb3e8d389c570", func := "loop.example/g01166/laws.FnExactSkyLine", spec := "fnExactSkyLine", apart := false, narrowed := true }
def FnExactSkyLineUptoSaid : Prop := fnExactSkyLineUptoRow.holds Try.pinned (OpenSpec.upto fnExactSkyLineSpec)

/-- 'laws.FnExactSightsOf', WHERE WHAT IT READS IS OF BULK AT MOST 1048576: true; the input reads as it did. -/
def fnExactSightsOfUptoRow : OpenClaim := { program := "ytejicbppanhbjaa", sum := "07e679e9c0b15fa608086a000a114e4e5e431d641c37336ac22fb3e8d389c570", func := "loop.example/g01166/laws.FnExactSightsOf", spec := "fnExactSightsOf", apart := false, narrowed := true }
def FnExactSightsOfUptoSaid : Prop := fnExactSightsOfUptoRow.holds Try.pinned (OpenSpec.upto fnExactSightsOfSpec)

/-- 'laws.FnExactPeaksOf', WHERE WHAT IT READS IS OF BULK AT MOST 1048576: true; the input reads as it did. -/
def fnExactPeaksOfUptoRow : OpenClaim := { program := "ytejicbppanhbjaa", sum := "07e679e9c0b15fa608086a000a114e4e5e431d641c37336ac22fb3e8d389c570", func := "loop.example/g01166/laws.FnExactPeaksOf", spec := "fnExactPeaksOf", unfollowed := true, recurses := true, apart := false, narrowed := true }
def FnExactPeaksOfUptoSaid : Prop := fnExactPeaksOfUptoRow.holds Try.pinned (OpenSpec.upto fnExactPeaksOfSpec)

/-- 'laws.FnExactLayerOf', WHERE WHAT IT READS IS OF BULK AT MOST 1048576: true; the input reads as it did. -/
def fnExactLayerOfUptoRow : OpenClaim := { program := "ytejicbppanhbjaa", sum := "07e679e9c0b15fa608086a000a114e4e5e431d641c37336ac22fb3e8d389c570", func := "loop.example/g01166/laws.FnExactLayerOf", spec := "fnExactLayerOf", apart := false, narrowed := true }
def FnExactLayerOfUptoSaid : Prop := fnExactLayerOfUptoRow.holds Try.pinned (OpenSpec.upto fnExactLayerOfSpec)

/-- 'laws.FnExactSwitchesOf', WHERE WHAT IT READS IS OF BULK AT MOST 1048576: true; the input reads as it did. -/
def fnExactSwitchesOfUptoRow : OpenClaim := { program := "ytejicbppanhbjaa", sum := "07e679e9c0b15fa608086a000a114e4e5e431d641c37336ac22fb3e8d389c570", func := "loop.example/g01166/laws.FnExactSwitchesOf", spec := "fnExactSwitchesOf", unfollowed := true, recurses := true, apart := false, narrowed := true }
def FnExactSwitchesOfUptoSaid : Prop := fnExactSwitchesOfUptoRow.holds Try.pinned (OpenSpec.upto fnExactSwitchesOfSpec)

end Rows
end Go.Proofs.Ytejicbppanhbjaa
