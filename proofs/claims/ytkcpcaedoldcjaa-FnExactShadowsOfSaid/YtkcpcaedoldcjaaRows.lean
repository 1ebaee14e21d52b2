/-
  No cell of these rows narrows 'for every input' (looked for: loops, veiled, ifaces, maps, wideKeys, modest, calm, conditions, laid).
  DERIVED. THE GIVEN ROWS OF THIS SEAT. 12 by the template 'for every input the law returns true; each argument reads behind the call as it read before'; 0 by the template 'total and deterministic' (their statements: YtkcpcaedoldcjaaTotals.lean).
  GIVEN WITH THE SEED: the statements are not yours to turn. If you find one false, say at which input.
  Laid BY PROGRAM, IN A SANDBOX (cutbox-rows.mjs): the forced cells as the released guide's own fill.sh prints them over the translation c2f195ff843e9fe3… (all of the seat's roots in one cut). By AI agents, Wed Nov 11 2026. No macro, syntax, notation, axiom, sorry.
-/
import Derived.Test.YtkcpcaedoldcjaaChecked
import GoSem.Claim
import GoSem.ClaimJoined
import GoSem.ClaimMapViews
import Derived.JoinedTies
import Derived.KernelRfl
namespace Go.Proofs.Ytkcpcaedoldcjaa
/- THE CELL 'sum', in the pinned program and in every row, IS THE sha256 OF THE DUMP (.gsa) THAT YtkcpcaedoldcjaaProg.lean LOADS. Nothing in Lean hashes anything: it is a label: what it is worth is what the hold of that sum in a sandbox is worth. -/
noncomputable def Try.pinned : Pinned := { name := "ytkcpcaedoldcjaa", sum := "c2f195ff843e9fe3ff599087b991d02f3550034b4ee8bfaf91bedc2b6e2afc97", checked := Try.checked }
namespace Rows
def none {H : Type} : Left H := { results := [], args := [] }

/-- 'laws.FnExactCropHeap': WHATEVER THE INPUT: true; the input reads as it did. -/
def fnExactCropHeapSpec : ChangeSpec := { name := "fnExactCropHeap", fn := fun _ => fun
  | [d] => { results := [.lit (.bool true)], args := [d] }
  | _ => none }
def fnExactCropHeapRow : OpenClaim := { program := "ytkcpcaedoldcjaa", sum := "c2f195ff843e9fe3ff599087b991d02f3550034b4ee8bfaf91bedc2b6e2afc97", func := "loop.example/g01166/laws.FnExactCropHeap", spec := "fnExactCropHeap", unfollowed := true, recurses := true, apart := false }
def FnExactCropHeapSaid : Prop := fnExactCropHeapRow.holds Try.pinned (OpenSpec.ofChange fnExactCropHeapSpec)

/-- ITS FALSE NEIGHBOUR: 'it returns false'. Refute it at one input. -/
def fnExactCropHeapWrong : ChangeSpec := { name := "fnExactCropHeap", fn := fun _ => fun
  | [d] => { results := [.lit (.bool false)], args := [d] }
  | _ => none }
def FnExactCropHeapWrongFalsely : Prop := fnExactCropHeapRow.holds Try.pinned (OpenSpec.ofChange fnExactCropHeapWrong)

/-- 'laws.FnExactViewOf': WHATEVER THE INPUT: true; the input reads as it did. -/
def fnExactViewOfSpec : ChangeSpec := { name := "fnExactViewOf", fn := fun _ => fun
  | [d1, d2] => { results := [.lit (.bool true)], args := [d1, d2] }
  | _ => none }
def fnExactViewOfRow : OpenClaim := { program := "ytkcpcaedoldcjaa", sum := "c2f195ff843e9fe3ff599087b991d02f3550034b4ee8bfaf91bedc2b6e2afc97", func := "loop.example/g01166/laws.FnExactViewOf", spec := "fnExactViewOf", apart := false }
def FnExactViewOfSaid : Prop := fnExactViewOfRow.holds Try.pinned (OpenSpec.ofChange fnExactViewOfSpec)

/-- ITS FALSE NEIGHBOUR: 'it returns false'. Refute it at one input. -/
def fnExactViewOfWrong : ChangeSpec := { name := "fnExactViewOf", fn := fun _ => fun
  | [d1, d2] => { results := [.lit (.bool false)], args := [d1, d2] }
  | _ => none }
def FnExactViewOfWrongFalsely : Prop := fnExactViewOfRow.holds Try.pinned (OpenSpec.ofChange fnExactViewOfWrong)

/-- 'laws.FnExactIsSettled': WHATEVER THE INPUT: true; the input reads as it did. -/
def fnExactIsSettledSpec : ChangeSpec := { name := "fnExactIsSettled", fn := fun _ => fun
  | [d] => { results := [.lit (.bool true)], args := [d] }
  | _ => none }
def fnExactIsSettledRow : OpenClaim := { program := "ytkcpcaedoldcjaa", sum := "c2f195ff843e9fe3ff599087b991d02f3550034b4ee8bfaf91bedc2b6e2afc97", func := "loop.example/g01166/laws.FnExactIsSettled", spec := "fnExactIsSettled", unfollowed := true, recurses := true, apart := false }
def FnExactIsSettledSaid : Prop := fnExactIsSettledRow.holds Try.pinned (OpenSpec.ofChange fnExactIsSettledSpec)

/-- ITS FALSE NEIGHBOUR: 'it returns false'. Refute it at one input. -/
def fnExactIsSettledWrong : ChangeSpec := { name := "fnExactIsSettled", fn := fun _ => fun
  | [d] => { results := [.lit (.bool false)], args := [d] }
  | _ => none }
def FnExactIsSettledWrongFalsely : Prop := fnExactIsSettledRow.holds Try.pinned (OpenSpec.ofChange fnExactIsSettledWrong)

/-- 'laws.FnExactFallSum': WHATEVER THE INPUT: true; the input reads as it did. -/
def fnExactFallSumSpec : ChangeSpec := { name := "fnExactFallSum", fn := fun _ => fun
  | [d] => { results := [.lit (.bool true)], args := [d] }
  | _ => none }
def fnExactFallSumRow : OpenClaim := { program := "ytkcpcaedoldcjaa", sum := "c2f195ff843e9fe3ff599087b991d02f3550034b4ee8bfaf91bedc2b6e2afc97", func := "loop.example/g01166/laws.FnExactFallSum", spec := "fnExactFallSum", unfollowed := true, recurses := true, apart := false }
def FnExactFallSumSaid : Prop := fnExactFallSumRow.holds Try.pinned (OpenSpec.ofChange fnExactFallSumSpec)

/-- ITS FALSE NEIGHBOUR: 'it returns false'. Refute it at one input. -/
def fnExactFallSumWrong : ChangeSpec := { name := "fnExactFallSum", fn := fun _ => fun
  | [d] => { results := [.lit (.bool false)], args := [d] }
  | _ => none }
def FnExactFallSumWrongFalsely : Prop := fnExactFallSumRow.holds Try.pinned (OpenSpec.ofChange fnExactFallSumWrong)

/-- 'laws.FnExactStairCorners': WHATEVER THE INPUT: true; the input reads as it did. -/
def fnExactStairCornersSpec : ChangeSpec := { name := "fnExactStairCorners", fn := fun _ => fun
  | [d] => { results := [.lit (.bool true)], args := [d] }
  | _ => none }
def fnExactStairCornersRow : OpenClaim := { program := "ytkcpcaedoldcjaa", sum := "c2f195ff843e9fe3ff599087b991d02f3550034b4ee8bfaf91bedc2b6e2afc97", func := "loop.example/g01166/laws.FnExactStairCorners", spec := "fnExactStairCorners", unfollowed := true, recurses := true, apart := false }
def FnExactStairCornersSaid : Prop := fnExactStairCornersRow.holds Try.pinned (OpenSpec.ofChange fnExactStairCornersSpec)

/-- ITS FALSE NEIGHBOUR: 'it returns false'. Refute it at one input. -/
def fnExactStairCornersWrong : ChangeSpec := { name := "fnExactStairCorners", fn := fun _ => fun
  | [d] => { results := [.lit (.bool false)], args := [d] }
  | _ => none }
def FnExactStairCornersWrongFalsely : Prop := fnExactStairCornersRow.holds Try.pinned (OpenSpec.ofChange fnExactStairCornersWrong)

/-- 'laws.FnExactOtherStair': WHATEVER THE INPUT: true; the input reads as it did. -/
def fnExactOtherStairSpec : ChangeSpec := { name := "fnExactOtherStair", fn := fun _ => fun
  | [d] => { results := [.lit (.bool true)], args := [d] }
  | _ => none }
def fnExactOtherStairRow : OpenClaim := { program := "ytkcpcaedoldcjaa", sum := "c2f195ff843e9fe3ff599087b991d02f3550034b4ee8bfaf91bedc2b6e2afc97", func := "loop.example/g01166/laws.FnExactOtherStair", spec := "fnExactOtherStair", unfollowed := true, recurses := true, apart := false }
def FnExactOtherStairSaid : Prop := fnExactOtherStairRow.holds Try.pinned (OpenSpec.ofChange fnExactOtherStairSpec)

/-- ITS FALSE NEIGHBOUR: 'it returns false'. Refute it at one input. -/
def fnExactOtherStairWrong : ChangeSpec := { name := "fnExactOtherStair", fn := fun _ => fun
  | [d] => { results := [.lit (.bool false)], args := [d] }
  | _ => none }
def FnExactOtherStairWrongFalsely : Prop := fnExactOtherStairRow.holds Try.pinned (OpenSpec.ofChange fnExactOtherStairWrong)

/-- 'laws.FnExactGreatestStair': WHATEVER THE INPUT: true; the input reads as it did. -/
def fnExactGreatestStairSpec : ChangeSpec := { name := "fnExactGreatestStair", fn := fun _ => fun
  | [d] => { results := [.lit (.bool true)], args := [d] }
  | _ => none }
def fnExactGreatestStairRow : OpenClaim := { program := "ytkcpcaedoldcjaa", sum := "c2f195ff843e9fe3ff599087b991d02f3550034b4ee8bfaf91bedc2b6e2afc97", func := "loop.example/g01166/laws.FnExactGreatestStair", spec := "fnExactGreatestStair", unfollowed := true, recurses := true, apart := false }
def FnExactGreatestStairSaid : Prop := fnExactGreatestStairRow.holds Try.pinned (OpenSpec.ofChange fnExactGreatestStairSpec)

/-- ITS FALSE NEIGHBOUR: 'it returns false'. Refute it at one input. -/
def fnExactGreatestStairWrong : ChangeSpec := { name := "fnExactGreatestStair", fn := fun _ => fun
  | [d] => { results := [.lit (.bool false)], args := [d] }
  | _ => none }
def FnExactGreatestStairWrongFalsely : Prop := fnExactGreatestStairRow.holds Try.pinned (OpenSpec.ofChange fnExactGreatestStairWrong)

/-- 'laws.FnExactStairHollows': WHATEVER THE INPUT: true; the input reads as it did. -/
def fnExactStairHollowsSpec : ChangeSpec := { name := "fnExactStairHollows", fn := fun _ => fun
  | [d] => { results := [.lit (.bool true)], args := [d] }
  | _ => none }
def fnExactStairHollowsRow : OpenClaim := { program := "ytkcpcaedoldcjaa", sum := "c2f195ff843e9fe3ff599087b991d02f3550034b4ee8bfaf91bedc2b6e2afc97", func := "loop.example/g01166/laws.FnExactStairHollows", spec := "fnExactStairHollows", unfollowed := true, recurses := true, apart := false }
def FnExactStairHollowsSaid : Prop := fnExactStairHollowsRow.holds Try.pinned (OpenSpec.ofChange fnExactStairHollowsSpec)

/-- ITS FALSE NEIGHBOUR: 'it returns false'. Refute it at one input. -/
def fnExactStairHollowsWrong : ChangeSpec := { name := "fnExactStairHollows", fn := fun _ => fun
  | [d] => { results := [.lit (.bool false)], args := [d] }
  | _ => none }
def FnExactStairHollowsWrongFalsely : Prop := fnExactStairHollowsRow.holds Try.pinned (OpenSpec.ofChange fnExactStairHollowsWrong)

/-- 'laws.FnExactDropHeap': WHATEVER THE INPUT: true; the input reads as it did. -/
def fnExactDropHeapSpec : ChangeSpec := { name := "fnExactDropHeap", fn := fun _ => fun
  | [d] => { results := [.lit (.bool true)], args := [d] }
  | _ => none }
def fnExactDropHeapRow : OpenClaim := { program := "ytkcpcaedoldcjaa", sum := "c2f195ff843e9fe3ff599087b991d02f3550034b4ee8bfaf91bedc2b6e2afc97", func := "loop.example/g01166/laws.FnExactDropHeap", spec := "fnExactDropHeap", unfollowed := true, recurses := true, apart := false }
def FnExactDropHeapSaid : Prop := fnExactDropHeapRow.holds Try.pinned (OpenSpec.ofChange fnExactDropHeapSpec)

/-- ITS FALSE NEIGHBOUR: 'it returns false'. Refute it at one input. -/
def fnExactDropHeapWrong : ChangeSpec := { name := "fnExactDropHeap", fn := fun _ => fun
  | [d] => { results := [.lit (.bool false)], args := [d] }
  | _ => none }
def FnExactDropHeapWrongFalsely : Prop := fnExactDropHeapRow.holds Try.pinned (OpenSpec.ofChange fnExactDropHeapWrong)

/-- 'laws.FnExactTurnStair': WHATEVER THE INPUT: true; the input reads as it did. -/
def fnExactTurnStairSpec : ChangeSpec := { name := "fnExactTurnStair", fn := fun _ => fun
  | [d] => { results := [.lit (.bool true)], args := [d] }
  | _ => none }
def fnExactTurnStairRow : OpenClaim := { program := "ytkcpcaedoldcjaa", sum := "c2f195ff843e9fe3ff599087b991d02f3550034b4ee8bfaf91bedc2b6e2afc97", func := "loop.example/g01166/laws.FnExactTurnStair", spec := "fnExactTurnStair", unfollowed := true, recurses := true, apart := false }
def FnExactTurnStairSaid : Prop := fnExactTurnStairRow.holds Try.pinned (OpenSpec.ofChange fnExactTurnStairSpec)

/-- ITS FALSE NEIGHBOUR: 'it returns false'. Refute it at one input. -/
def fnExactTurnStairWrong : ChangeSpec := { name := "fnExactTurnStair", fn := fun _ => fun
  | [d] => { results := [.lit (.bool false)], args := [d] }
  | _ => none }
def FnExactTurnStairWrongFalsely : Prop := fnExactTurnStairRow.holds Try.pinned (OpenSpec.ofChange fnExactTurnStairWrong)

/-- 'laws.FnExactStairHeights': WHATEVER THE INPUT: true; the input reads as it did. -/
def fnExactStairHeightsSpec : ChangeSpec := { name := "fnExactStairHeights", fn := fun _ => fun
  | [d] => { results := [.lit (.bool true)], args := [d] }
  | _ => none }
def fnExactStairHeightsRow : OpenClaim := { program := "ytkcpcaedoldcjaa", sum := "c2f195ff843e9fe3ff599087b991d02f3550034b4ee8bfaf91bedc2b6e2afc97", func := "loop.example/g01166/laws.FnExactStairHeights", spec := "fnExactStairHeights", unfollowed := true, recurses := true, apart := false }
def FnExactStairHeightsSaid : Prop := fnExactStairHeightsRow.holds Try.pinned (OpenSpec.ofChange fnExactStairHeightsSpec)

/-- ITS FALSE NEIGHBOUR: 'it returns false'. Refute it at one input. -/
def fnExactStairHeightsWrong : ChangeSpec := { name := "fnExactStairHeights", fn := fun _ => fun
  | [d] => { results := [.lit (.bool false)], args := [d] }
  | _ => none }
def FnExactStairHeightsWrongFalsely : Prop := fnExactStairHeightsRow.holds Try.pinned (OpenSpec.ofChange fnExactStairHeightsWrong)

/-- 'laws.FnExactShadowsOf': WHATEVER THE INPUT: true; the input reads as it did. -/
def fnExactShadowsOfSpec : ChangeSpec := { name := "fnExactShadowsOf", fn := fun _ => fun
  | [d] => { results := [.lit (.bool true)], args := [d] }
  | _ => none }
def fnExactShadowsOfRow : OpenClaim := { program := "ytkcpcaedoldcjaa", sum := "c2f195ff843e9fe3ff599087b991d02f3550034b4ee8bfaf91bedc2b6e2afc97", func := "loop.example/g01166/laws.FnExactShadowsOf", spec := "fnExactShadowsOf", apart := false }
def FnExactShadowsOfSaid : Prop := fnExactShadowsOfRow.holds Try.pinned (OpenSpec.ofChange fnExactShadowsOfSpec)

/-- ITS FALSE NEIGHBOUR: 'it returns false'. Refute it at one input. -/
def fnExactShadowsOfWrong : ChangeSpec := { name := "fnExactShadowsOf", fn := fun _ => fun
  | [d] => { results := [.lit (.bool false)], args := [d] }
  | _ => none }
def FnExactShadowsOfWrongFalsely : Prop := fnExactShadowsOfRow.holds Try.pinned (OpenSpec.ofChange fnExactShadowsOfWrong)

/- THE SECOND FORM. 'bulk': how many values and letters a reading holds, each counted each time it is reached (what is shared counts as often as it is met; a slice's spare places count too). A statement '..UptoSaid' is the law's where the arguments, and the package variables that the reading takes, are together of bulk at most 1048576: NARROWER than '..Said'. Prove '..Said' where nothing that the law and all that it calls make is longer than what came in: it says more and counts as full. Else prove '..UptoSaid'. A law counts once. -/
mutual
def uptoBulk {H : Type} : DataW H → Nat
  | .lit (.string bytes) => bytes.length + 1
  | .lit _ => 1
  | .nil => 1
  | .ptr d => uptoBulk d + 1
  | .slice elems spare => uptoBulkAll elems + uptoBulkAll spare + 1
  | .agg parts => uptoBulkAll parts + 1
  | .iface _ d => uptoBulk d + 1
  | .map entries => uptoBulkEntries entries + 1
  | .held _ => 1
def uptoBulkAll {H : Type} : List (DataW H) → Nat
  | [] => 0
  | d :: r => uptoBulk d + uptoBulkAll r
def uptoBulkEntries {H : Type} : List (Lit × DataW H) → Nat
  | [] => 0
  | x :: r => uptoBulkEntry x + uptoBulkEntries r
def uptoBulkEntry {H : Type} : Lit × DataW H → Nat
  | (.string bytes, d) => bytes.length + uptoBulk d + 1
  | (_, d) => uptoBulk d + 1
 end
def uptoSmall : (H : Type) → List (DataW H) → Bool := fun _ ds => decide (uptoBulkAll ds ≤ 1048576)
def OpenSpec.upto (s : _root_.Go.ChangeSpec) : _root_.Go.OpenSpec := { _root_.Go.OpenSpec.ofChange s with cond := some uptoSmall }

/-- 'laws.FnExactCropHeap', WHERE WHAT IT READS IS OF BULK AT MOST 1048576: true; the input reads as it did. -/
def fnExactCropHeapUptoRow : OpenClaim := { program := "ytkcpcaedoldcjaa", sum := "c2f195ff843e9fe3ff599087b991d02f3550034b4ee8bfaf91bedc2b6e2afc97", func := "loop.example/g01166/laws.FnExactCropHeap", spec := "fnExactCropHeap", unfollowed := true, recurses := true, apart := false, narrowed := true }
def FnExactCropHeapUptoSaid : Prop := fnExactCropHeapUptoRow.holds Try.pinned (OpenSpec.upto fnExactCropHeapSpec)

/-- 'laws.FnExactViewOf', WHERE WHAT IT READS IS OF BULK AT MOST 1048576: true; the input reads as it did. -/
def fnExactViewOfUptoRow : OpenClaim := { program := "ytkcpcaedoldcjaa", sum := "c2f195ff843e9fe3ff599087b991d02f3550034b4ee8bfaf91bedc2b6e2afc97", func := "loop.example/g01166/laws.FnExactViewOf", spec := "fnExactViewOf", apart := false, narrowed := true }
def FnExactViewOfUptoSaid : Prop := fnExactViewOfUptoRow.holds Try.pinned (OpenSpec.upto fnExactViewOfSpec)

/-- 'laws.FnExactIsSettled', WHERE WHAT IT READS IS OF BULK AT MOST 1048576: true; the input reads as it did. -/
def fnExactIsSettledUptoRow : OpenClaim := { program := "ytkcpcaedoldcjaa", sum := "c2f195ff843e9fe3ff599087b991d02f3550034b4ee8bfaf91bedc2b6e2afc97", func := "loop.example/g01166/laws.FnExactIsSettled", spec := "fnExactIsSettled", unfollowed := true, recurses := true, apart := false, narrowed := true }
def FnExactIsSettledUptoSaid : Prop := fnExactIsSettledUptoRow.holds Try.pinned (OpenSpec.upto fnExactIsSettledSpec)

/-- 'laws.FnExactFallSum', WHERE WHAT IT READS IS OF BULK AT MOST 1048576: true; the input reads as it did. -/
def fnExactFallSumUptoRow : OpenClaim := { program := "ytkcpcaedoldcjaa", sum := "c2f195ff843e9fe3ff599087b991d02f3550034b4ee8bfaf91bedc2b6e2afc97", func := "loop.example/g01166/laws.FnExactFallSum", spec := "fnExactFallSum", unfollowed := true, recurses := true, apart := false, narrowed := true }
def FnExactFallSumUptoSaid : Prop := fnExactFallSumUptoRow.holds Try.pinned (OpenSpec.upto fnExactFallSumSpec)

/-- 'laws.FnExactStairCorners', WHERE WHAT IT READS IS OF BULK AT MOST 1048576: true; the input reads as it did. -/
def fnExactStairCornersUptoRow : OpenClaim := { program := "ytkcpcaedoldcjaa", sum := "c2f195ff843e9fe3ff599087b991d02f3550034b4ee8bfaf91bedc2b6e2afc97", func := "loop.example/g01166/laws.FnExactStairCorners", spec := "fnExactStairCorners", unfollowed := true, recurses := true, apart := false, narrowed := true }
def FnExactStairCornersUptoSaid : Prop := fnExactStairCornersUptoRow.holds Try.pinned (OpenSpec.upto fnExactStairCornersSpec)

/-- 'laws.FnExactOtherStair', WHERE WHAT IT READS IS OF BULK AT MOST 1048576: true; the input reads as it did. -/
def fnExactOtherStairUptoRow : OpenClaim := { program := "ytkcpcaedoldcjaa", sum := "c2f195ff843e9fe3ff599087b991d02f3550034b4ee8bfaf91bedc2b6e2afc97", func := "loop.example/g01166/laws.FnExactOtherStair", spec := "fnExactOtherStair", unfollowed := true, recurses := true, apart := false, narrowed := true }
def FnExactOtherStairUptoSaid : Prop := fnExactOtherStairUptoRow.holds Try.pinned (OpenSpec.upto fnExactOtherStairSpec)

/-- 'laws.FnExactGreatestStair', WHERE WHAT IT READS IS OF BULK AT MOST 1048576: true; the input reads as it did. -/
def fnExactGreatestStairUptoRow : OpenClaim := { program := "ytkcpcaedoldcjaa", sum := "c2f195ff843e9fe3ff599087b991d02f3550034b4ee8bfaf91bedc2b6e2afc97", func := "loop.example/g01166/laws.FnExactGreatestStair", spec := "fnExactGreatestStair", unfollowed := true, recurses := true, apart := false, narrowed := true }
def FnExactGreatestStairUptoSaid : Prop := fnExactGreatestStairUptoRow.holds Try.pinned (OpenSpec.upto fnExactGreatestStairSpec)

/-- 'laws.FnExactStairHollows', WHERE WHAT IT READS IS OF BULK AT MOST 1048576: true; the input reads as it did. -/
def fnExactStairHollowsUptoRow : OpenClaim := { program := "ytkcpcaedoldcjaa", sum := "c2f195ff843e9fe3ff599087b991d02f3550034b4ee8bfaf91bedc2b6e2afc97", func := "loop.example/g01166/laws.FnExactStairHollows", spec := "fnExactStairHollows", unfollowed := true, recurses := true, apart := false, narrowed := true }
def FnExactStairHollowsUptoSaid : Prop := fnExactStairHollowsUptoRow.holds Try.pinned (OpenSpec.upto fnExactStairHollowsSpec)

/-- 'laws.FnExactDropHeap', WHERE WHAT IT READS IS OF BULK AT MOST 1048576: true; the input reads as it did. -/
def fnExactDropHeapUptoRow : OpenClaim := { program := "ytkcpcaedoldcjaa", sum := "c2f195ff843e9fe3ff599087b991d02f3550034b4ee8bfaf91bedc2b6e2afc97", func := "loop.example/g01166/laws.FnExactDropHeap", spec := "fnExactDropHeap", unfollowed := true, recurses := true, apart := false, narrowed := true }
def FnExactDropHeapUptoSaid : Prop := fnExactDropHeapUptoRow.holds Try.pinned (OpenSpec.upto fnExactDropHeapSpec)

/-- 'laws.FnExactTurnStair', WHERE WHAT IT READS IS OF BULK AT MOST 1048576: true; the input reads as it did. -/
def fnExactTurnStairUptoRow : OpenClaim := { program := "ytkcpcaedoldcjaa", sum := "c2f195ff843e9fe3ff599087b991d02f3550034b4ee8bfaf91bedc2b6e2afc97", func := "loop.example/g01166/laws.FnExactTurnStair", spec := "fnExactTurnStair", unfollowed := true, recurses := true, apart := false, narrowed := true }
def FnExactTurnStairUptoSaid : Prop := fnExactTurnStairUptoRow.holds Try.pinned (OpenSpec.upto fnExactTurnStairSpec)

/-- 'laws.FnExactStairHeights', WHERE WHAT IT READS IS OF BULK AT MOST 1048576: true; the input reads as it did. -/
def fnExactStairHeightsUptoRow : OpenClaim := { program := "ytkcpcaedoldcjaa", sum := "c2f195ff843e9fe3ff599087b991d02f3550034b4ee8bfaf91bedc2b6e2afc97", func := "loop.example/g01166/laws.FnExactStairHeights", spec := "fnExactStairHeights", unfollowed := true, recurses := true, apart := false, narrowed := true }
def FnExactStairHeightsUptoSaid : Prop := fnExactStairHeightsUptoRow.holds Try.pinned (OpenSpec.upto fnExactStairHeightsSpec)

/-- 'laws.FnExactShadowsOf', WHERE WHAT IT READS IS OF BULK AT MOST 1048576: true; the input reads as it did. -/
def fnExactShadowsOfUptoRow : OpenClaim := { program := "ytkcpcaedoldcjaa", sum := "c2f195ff843e9fe3ff599087b991d02f3550034b4ee8bfaf91bedc2b6e2afc97", func := "loop.example/g01166/laws.FnExactShadowsOf", spec := "fnExactShadowsOf", apart := false, narrowed := true }
def FnExactShadowsOfUptoSaid : Prop := fnExactShadowsOfUptoRow.holds Try.pinned (OpenSpec.upto fnExactShadowsOfSpec)

end Rows
end Go.Proofs.Ytkcpcaedoldcjaa
