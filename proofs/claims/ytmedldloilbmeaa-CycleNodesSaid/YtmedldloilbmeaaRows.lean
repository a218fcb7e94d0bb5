/-
  No cell of these rows narrows 'for every input' (looked for: loops, veiled, ifaces, maps, wideKeys, modest, calm, conditions, laid).
  DERIVED. THE GIVEN ROWS OF THIS SEAT. 6 by the template 'for every input the law returns true; each argument reads behind the call as it read before'; 0 by the template 'total and deterministic' (their statements: YtmedldloilbmeaaTotals.lean).
  GIVEN WITH THE SEED: the statements are not yours to turn. If you find one false, say at which input.
  Laid BY PROGRAM, IN A SANDBOX (cutbox-rows.mjs): the forced cells as the released guide's own fill.sh prints them over the translation decc6bcbe21b4a42… (all of the seat's roots in one cut). By AI agents, Wed Nov 11 2026. No macro, syntax, notation, axiom, sorry.
-/
import Derived.Test.YtmedldloilbmeaaChecked
import GoSem.Claim
import GoSem.ClaimJoined
import GoSem.ClaimMapViews
import Derived.JoinedTies
import Derived.KernelRfl
namespace Go.Proofs.Ytmedldloilbmeaa
/- THE CELL 'sum', in the pinned program and in every row, IS THE sha256 OF THE DUMP (.gsa) THAT YtmedldloilbmeaaProg.lean LOADS. Nothing in Lean hashes anything: it is a label: what it is worth is what the hold of that sum in a sandbox is worth. -/
noncomputable def Try.pinned : Pinned := { name := "ytmedldloilbmeaa", sum := "decc6bcbe21b4a4210af1aef8e4747d3596ab664385345c42fed84d6f98e7e95", checked := Try.checked }
namespace Rows
def none {H : Type} : Left H := { results := [], args := [] }

/-- 'roadkeep4.ShrinkAgain': WHATEVER THE INPUT: true; the input reads as it did. -/
def shrinkAgainSpec : ChangeSpec := { name := "shrinkAgain", fn := fun _ => fun
  | [d1, d2] => { results := [.lit (.bool true)], args := [d1, d2] }
  | _ => none }
def shrinkAgainRow : OpenClaim := { program := "ytmedldloilbmeaa", sum := "decc6bcbe21b4a4210af1aef8e4747d3596ab664385345c42fed84d6f98e7e95", func := "roadstead/roadkeep4.ShrinkAgain", spec := "shrinkAgain", unfollowed := true, recurses := true, apart := false }
def ShrinkAgainSaid : Prop := shrinkAgainRow.holds Try.pinned (OpenSpec.ofChange shrinkAgainSpec)

/-- ITS FALSE NEIGHBOUR: 'it returns false'. Refute it at one input. -/
def shrinkAgainWrong : ChangeSpec := { name := "shrinkAgain", fn := fun _ => fun
  | [d1, d2] => { results := [.lit (.bool false)], args := [d1, d2] }
  | _ => none }
def ShrinkAgainWrongFalsely : Prop := shrinkAgainRow.holds Try.pinned (OpenSpec.ofChange shrinkAgainWrong)

/-- 'roadkeep4.CycleSafe': WHATEVER THE INPUT: true; the input reads as it did. -/
def cycleSafeSpec : ChangeSpec := { name := "cycleSafe", fn := fun _ => fun
  | [d] => { results := [.lit (.bool true)], args := [d] }
  | _ => none }
def cycleSafeRow : OpenClaim := { program := "ytmedldloilbmeaa", sum := "decc6bcbe21b4a4210af1aef8e4747d3596ab664385345c42fed84d6f98e7e95", func := "roadstead/roadkeep4.CycleSafe", spec := "cycleSafe", recurses := true, apart := false }
def CycleSafeSaid : Prop := cycleSafeRow.holds Try.pinned (OpenSpec.ofChange cycleSafeSpec)

/-- ITS FALSE NEIGHBOUR: 'it returns false'. Refute it at one input. -/
def cycleSafeWrong : ChangeSpec := { name := "cycleSafe", fn := fun _ => fun
  | [d] => { results := [.lit (.bool false)], args := [d] }
  | _ => none }
def CycleSafeWrongFalsely : Prop := cycleSafeRow.holds Try.pinned (OpenSpec.ofChange cycleSafeWrong)

/-- 'roadkeep4.CycleGrows': WHATEVER THE INPUT: true; the input reads as it did. -/
def cycleGrowsSpec : ChangeSpec := { name := "cycleGrows", fn := fun _ => fun
  | [d1, d2] => { results := [.lit (.bool true)], args := [d1, d2] }
  | _ => none }
def cycleGrowsRow : OpenClaim := { program := "ytmedldloilbmeaa", sum := "decc6bcbe21b4a4210af1aef8e4747d3596ab664385345c42fed84d6f98e7e95", func := "roadstead/roadkeep4.CycleGrows", spec := "cycleGrows", unfollowed := true, recurses := true, apart := false }
def CycleGrowsSaid : Prop := cycleGrowsRow.holds Try.pinned (OpenSpec.ofChange cycleGrowsSpec)

/-- ITS FALSE NEIGHBOUR: 'it returns false'. Refute it at one input. -/
def cycleGrowsWrong : ChangeSpec := { name := "cycleGrows", fn := fun _ => fun
  | [d1, d2] => { results := [.lit (.bool false)], args := [d1, d2] }
  | _ => none }
def CycleGrowsWrongFalsely : Prop := cycleGrowsRow.holds Try.pinned (OpenSpec.ofChange cycleGrowsWrong)

/-- 'roadkeep4.CycleNodes': WHATEVER THE INPUT: true; the input reads as it did. -/
def cycleNodesSpec : ChangeSpec := { name := "cycleNodes", fn := fun _ => fun
  | [d1, d2, d3, d4] => { results := [.lit (.bool true)], args := [d1, d2, d3, d4] }
  | _ => none }
def cycleNodesRow : OpenClaim := { program := "ytmedldloilbmeaa", sum := "decc6bcbe21b4a4210af1aef8e4747d3596ab664385345c42fed84d6f98e7e95", func := "roadstead/roadkeep4.CycleNodes", spec := "cycleNodes", recurses := true, apart := false }
def CycleNodesSaid : Prop := cycleNodesRow.holds Try.pinned (OpenSpec.ofChange cycleNodesSpec)

/-- ITS FALSE NEIGHBOUR: 'it returns false'. Refute it at one input. -/
def cycleNodesWrong : ChangeSpec := { name := "cycleNodes", fn := fun _ => fun
  | [d1, d2, d3, d4] => { results := [.lit (.bool false)], args := [d1, d2, d3, d4] }
  | _ => none }
def CycleNodesWrongFalsely : Prop := cycleNodesRow.holds Try.pinned (OpenSpec.ofChange cycleNodesWrong)

/-- 'roadkeep4.CycleClean': WHATEVER THE INPUT: true; the input reads as it did. -/
def cycleCleanSpec : ChangeSpec := { name := "cycleClean", fn := fun _ => fun
  | [d] => { results := [.lit (.bool true)], args := [d] }
  | _ => none }
def cycleCleanRow : OpenClaim := { program := "ytmedldloilbmeaa", sum := "decc6bcbe21b4a4210af1aef8e4747d3596ab664385345c42fed84d6f98e7e95", func := "roadstead/roadkeep4.CycleClean", spec := "cycleClean", unfollowed := true, recurses := true, apart := false }
def CycleCleanSaid : Prop := cycleCleanRow.holds Try.pinned (OpenSpec.ofChange cycleCleanSpec)

/-- ITS FALSE NEIGHBOUR: 'it returns false'. Refute it at one input. -/
def cycleCleanWrong : ChangeSpec := { name := "cycleClean", fn := fun _ => fun
  | [d] => { results := [.lit (.bool false)], args := [d] }
  | _ => none }
def CycleCleanWrongFalsely : Prop := cycleCleanRow.holds Try.pinned (OpenSpec.ofChange cycleCleanWrong)

/-- 'roadkeep4.CycleWhole': WHATEVER THE INPUT: true; the input reads as it did. -/
def cycleWholeSpec : ChangeSpec := { name := "cycleWhole", fn := fun _ => fun
  | [d] => { results := [.lit (.bool true)], args := [d] }
  | _ => none }
def cycleWholeRow : OpenClaim := { program := "ytmedldloilbmeaa", sum := "decc6bcbe21b4a4210af1aef8e4747d3596ab664385345c42fed84d6f98e7e95", func := "roadstead/roadkeep4.CycleWhole", spec := "cycleWhole", unfollowed := true, recurses := true, apart := false }
def CycleWholeSaid : Prop := cycleWholeRow.holds Try.pinned (OpenSpec.ofChange cycleWholeSpec)

/-- ITS FALSE NEIGHBOUR: 'it returns false'. Refute it at one input. -/
def cycleWholeWrong : ChangeSpec := { name := "cycleWhole", fn := fun _ => fun
  | [d] => { results := [.lit (.bool false)], args := [d] }
  | _ => none }
def CycleWholeWrongFalsely : Prop := cycleWholeRow.holds Try.pinned (OpenSpec.ofChange cycleWholeWrong)

/- THE SECOND FORM. 'bulk': how many values and letters a reading holds, each counted each time it is reached (what is shared counts as often as it is met; a slice's spare places count too). A statement '..UptoSaid' is the law's where the arguments, and the package variables that the reading takes, are together of bulk at most 1048576: NARROWER than '..Said'. Prove '..Said' where nothing that the law and all that it calls make is longer than what came in: it says more and counts as full. Else prove '..UptoSaid'. A law counts once. -/
mutual
def uptoBulk {H : Type} : DataW H → Nat
  | .lit (.string bytes) => bytes.length + 1
  | .lit _ => 1
  | .nil => 1
  | .ptr d => uptoBulk d + 1
  | .slice elems spare => uptoBulkAll elems + uptoBulkAll spare + 1
  | .agg parts => uptoBulkAll parts + 1
  | .iface _ d => uptoBulk d + 1
  | .map entries => uptoBulkEntries entries + 1
  | .held _ => 1
def uptoBulkAll {H : Type} : List (DataW H) → Nat
  | [] => 0
  | d :: r => uptoBulk d + uptoBulkAll r
def uptoBulkEntries {H : Type} : List (Lit × DataW H) → Nat
  | [] => 0
  | x :: r => uptoBulkEntry x + uptoBulkEntries r
def uptoBulkEntry {H : Type} : Lit × DataW H → Nat
  | (.string bytes, d) => bytes.length + uptoBulk d + 1
  | (_, d) => uptoBulk d + 1
 end
def uptoSmall : (H : Type) → List (DataW H) → Bool := fun _ ds => decide (uptoBulkAll ds ≤ 1048576)
def OpenSpec.upto (s : _root_.Go.ChangeSpec) : _root_.Go.OpenSpec := { _root_.Go.OpenSpec.ofChange s with cond := some uptoSmall }

/-- 'roadkeep4.ShrinkAgain', WHERE WHAT IT READS IS OF BULK AT MOST 1048576: true; the input reads as it did. -/
def shrinkAgainUptoRow : OpenClaim := { program := "ytmedldloilbmeaa", sum := "decc6bcbe21b4a4210af1aef8e4747d3596ab664385345c42fed84d6f98e7e95", func := "roadstead/roadkeep4.ShrinkAgain", spec := "shrinkAgain", unfollowed := true, recurses := true, apart := false, narrowed := true }
def ShrinkAgainUptoSaid : Prop := shrinkAgainUptoRow.holds Try.pinned (OpenSpec.upto shrinkAgainSpec)

/-- 'roadkeep4.CycleSafe', WHERE WHAT IT READS IS OF BULK AT MOST 1048576: true; the input reads as it did. -/
def cycleSafeUptoRow : OpenClaim := { program := "ytmedldloilbmeaa", sum := "decc6bcbe21b4a4210af1aef8e4747d3596ab664385345c42fed84d6f98e7e95", func := "roadstead/roadkeep4.CycleSafe", spec := "cycleSafe", recurses := true, apart := false, narrowed := true }
def CycleSafeUptoSaid : Prop := cycleSafeUptoRow.holds Try.pinned (OpenSpec.upto cycleSafeSpec)

/-- 'roadkeep4.CycleGrows', WHERE WHAT IT READS IS OF BULK AT MOST 1048576: true; the input reads as it did. -/
def cycleGrowsUptoRow : OpenClaim := { program := "ytmedldloilbmeaa", sum := "decc6bcbe21b4a4210af1aef8e4747d3596ab664385345c42fed84d6f98e7e95", func := "roadstead/roadkeep4.CycleGrows", spec := "cycleGrows", unfollowed := true, recurses := true, apart := false, narrowed := true }
def CycleGrowsUptoSaid : Prop := cycleGrowsUptoRow.holds Try.pinned (OpenSpec.upto cycleGrowsSpec)

/-- 'roadkeep4.CycleNodes', WHERE WHAT IT READS IS OF BULK AT MOST 1048576: true; the input reads as it did. -/
def cycleNodesUptoRow : OpenClaim := { program := "ytmedldloilbmeaa", sum := "decc6bcbe21b4a4210af1aef8e4747d3596ab664385345c42fed84d6f98e7e95", func := "roadstead/roadkeep4.CycleNodes", spec := "cycleNodes", recurses := true, apart := false, narrowed := true }
def CycleNodesUptoSaid : Prop := cycleNodesUptoRow.holds Try.pinned (OpenSpec.upto cycleNodesSpec)

/-- 'roadkeep4.CycleClean', WHERE WHAT IT READS IS OF BULK AT MOST 1048576: true; the input reads as it did. -/
def cycleCleanUptoRow : OpenClaim := { program := "ytmedldloilbmeaa", sum := "decc6bcbe21b4a4210af1aef8e4747d3596ab664385345c42fed84d6f98e7e95", func := "roadstead/roadkeep4.CycleClean", spec := "cycleClean", unfollowed := true, recurses := true, apart := false, narrowed := true }
def CycleCleanUptoSaid : Prop := cycleCleanUptoRow.holds Try.pinned (OpenSpec.upto cycleCleanSpec)

/-- 'roadkeep4.CycleWhole', WHERE WHAT IT READS IS OF BULK AT MOST 1048576: true; the input reads as it did. -/
def cycleWholeUptoRow : OpenClaim := { program := "ytmedldloilbmeaa", sum := "decc6bcbe21b4a4210af1aef8e4747d3596ab664385345c42fed84d6f98e7e95", func := "roadstead/roadkeep4.CycleWhole", spec := "cycleWhole", unfollowed := true, recurses := true, apart := false, narrowed := true }
def CycleWholeUptoSaid : Prop := cycleWholeUptoRow.holds Try.pinned (OpenSpec.upto cycleWholeSpec)

end Rows
end Go.Proofs.Ytmedldloilbmeaa
