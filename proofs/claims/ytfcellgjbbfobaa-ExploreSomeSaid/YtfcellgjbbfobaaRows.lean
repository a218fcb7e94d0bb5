/-
  No cell of these rows narrows 'for every input' (looked for: loops, veiled, ifaces, maps, wideKeys, modest, calm, conditions, laid).
  DERIVED. THE GIVEN ROWS OF THIS SEAT. 6 by the template 'for every input the law returns true; each argument reads behind the call as it read before'; 0 by the template 'total and deterministic' (their statements: YtfcellgjbbfobaaTotals.lean).
  GIVEN WITH THE SEED: the statements are not yours to turn. If you find one false, say at which input.
  Laid BY PROGRAM, IN A SANDBOX (cutbox-rows.mjs): the forced cells as the released guide's own fill.sh prints them over the translation 2d740dfe3cb6c195… (all of the seat's roots in one cut). By AI agents, Wed Nov 11 2026. No macro, syntax, notation, axiom, sorry.
-/
import Derived.Test.YtfcellgjbbfobaaChecked
import GoSem.Claim
import GoSem.ClaimJoined
import GoSem.ClaimMapViews
import Derived.JoinedTies
import Derived.KernelRfl
namespace Go.Proofs.Ytfcellgjbbfobaa
/- THE CELL 'sum', in the pinned program and in every row, IS THE sha256 OF THE DUMP (.gsa) THAT YtfcellgjbbfobaaProg.lean LOADS. Nothing in Lean hashes anything: it is a label: what it is worth is what the hold of that sum in a sandbox is worth. -/
noncomputable def Try.pinned : Pinned := { name := "ytfcellgjbbfobaa", sum := "2d740dfe3cb6c195f9a0c46e542af962b1afb1b3e93092984ed231d35ad5928a", checked := Try.checked }
namespace Rows
def none {H : Type} : Left H := { results := [], args := [] }

/-- 'roadkeep4.PartSwaps': WHATEVER THE INPUT: true; the input reads as it did. -/
def partSwapsSpec : ChangeSpec := { name := "partSwaps", fn := fun _ => fun
  | [d1, d2] => { results := [.lit (.bool true)], args := [d1, d2] }
  | _ => none }
def partSwapsRow : OpenClaim := { program := "ytfcellgjbbfobaa", sum := "2d740dfe3cb6c195f9a0c46e542af962b1afb1b3e93092984ed231d35ad5928a", func := "roadstead/roadkeep4.PartSwaps", spec := "partSwaps", unfollowed := true, recurses := true, plainKeys := false, apart := false }
def PartSwapsSaid : Prop := partSwapsRow.holds Try.pinned (OpenSpec.ofChange partSwapsSpec)

/-- ITS FALSE NEIGHBOUR: 'it returns false'. Refute it at one input. -/
def partSwapsWrong : ChangeSpec := { name := "partSwaps", fn := fun _ => fun
  | [d1, d2] => { results := [.lit (.bool false)], args := [d1, d2] }
  | _ => none }
def PartSwapsWrongFalsely : Prop := partSwapsRow.holds Try.pinned (OpenSpec.ofChange partSwapsWrong)

/-- 'roadkeep4.PartRounds': WHATEVER THE INPUT: true; the input reads as it did. -/
def partRoundsSpec : ChangeSpec := { name := "partRounds", fn := fun _ => fun
  | [d] => { results := [.lit (.bool true)], args := [d] }
  | _ => none }
def partRoundsRow : OpenClaim := { program := "ytfcellgjbbfobaa", sum := "2d740dfe3cb6c195f9a0c46e542af962b1afb1b3e93092984ed231d35ad5928a", func := "roadstead/roadkeep4.PartRounds", spec := "partRounds", unfollowed := true, recurses := true, plainKeys := false, apart := false }
def PartRoundsSaid : Prop := partRoundsRow.holds Try.pinned (OpenSpec.ofChange partRoundsSpec)

/-- ITS FALSE NEIGHBOUR: 'it returns false'. Refute it at one input. -/
def partRoundsWrong : ChangeSpec := { name := "partRounds", fn := fun _ => fun
  | [d] => { results := [.lit (.bool false)], args := [d] }
  | _ => none }
def PartRoundsWrongFalsely : Prop := partRoundsRow.holds Try.pinned (OpenSpec.ofChange partRoundsWrong)

/-- 'roadkeep4.PartOrder': WHATEVER THE INPUT: true; the input reads as it did. -/
def partOrderSpec : ChangeSpec := { name := "partOrder", fn := fun _ => fun
  | [d1, d2, d3] => { results := [.lit (.bool true)], args := [d1, d2, d3] }
  | _ => none }
def partOrderRow : OpenClaim := { program := "ytfcellgjbbfobaa", sum := "2d740dfe3cb6c195f9a0c46e542af962b1afb1b3e93092984ed231d35ad5928a", func := "roadstead/roadkeep4.PartOrder", spec := "partOrder", unfollowed := true, recurses := true, plainKeys := false, apart := false }
def PartOrderSaid : Prop := partOrderRow.holds Try.pinned (OpenSpec.ofChange partOrderSpec)

/-- ITS FALSE NEIGHBOUR: 'it returns false'. Refute it at one input. -/
def partOrderWrong : ChangeSpec := { name := "partOrder", fn := fun _ => fun
  | [d1, d2, d3] => { results := [.lit (.bool false)], args := [d1, d2, d3] }
  | _ => none }
def PartOrderWrongFalsely : Prop := partOrderRow.holds Try.pinned (OpenSpec.ofChange partOrderWrong)

/-- 'roadkeep4.PartNormal': WHATEVER THE INPUT: true; the input reads as it did. -/
def partNormalSpec : ChangeSpec := { name := "partNormal", fn := fun _ => fun
  | [d1, d2] => { results := [.lit (.bool true)], args := [d1, d2] }
  | _ => none }
def partNormalRow : OpenClaim := { program := "ytfcellgjbbfobaa", sum := "2d740dfe3cb6c195f9a0c46e542af962b1afb1b3e93092984ed231d35ad5928a", func := "roadstead/roadkeep4.PartNormal", spec := "partNormal", unfollowed := true, recurses := true, plainKeys := false, apart := false }
def PartNormalSaid : Prop := partNormalRow.holds Try.pinned (OpenSpec.ofChange partNormalSpec)

/-- ITS FALSE NEIGHBOUR: 'it returns false'. Refute it at one input. -/
def partNormalWrong : ChangeSpec := { name := "partNormal", fn := fun _ => fun
  | [d1, d2] => { results := [.lit (.bool false)], args := [d1, d2] }
  | _ => none }
def PartNormalWrongFalsely : Prop := partNormalRow.holds Try.pinned (OpenSpec.ofChange partNormalWrong)

/-- 'roadkeep4.ExploreAdds': WHATEVER THE INPUT: true; the input reads as it did. -/
def exploreAddsSpec : ChangeSpec := { name := "exploreAdds", fn := fun _ => fun
  | [d] => { results := [.lit (.bool true)], args := [d] }
  | _ => none }
def exploreAddsRow : OpenClaim := { program := "ytfcellgjbbfobaa", sum := "2d740dfe3cb6c195f9a0c46e542af962b1afb1b3e93092984ed231d35ad5928a", func := "roadstead/roadkeep4.ExploreAdds", spec := "exploreAdds", unfollowed := true, recurses := true, plainKeys := false, apart := false }
def ExploreAddsSaid : Prop := exploreAddsRow.holds Try.pinned (OpenSpec.ofChange exploreAddsSpec)

/-- ITS FALSE NEIGHBOUR: 'it returns false'. Refute it at one input. -/
def exploreAddsWrong : ChangeSpec := { name := "exploreAdds", fn := fun _ => fun
  | [d] => { results := [.lit (.bool false)], args := [d] }
  | _ => none }
def ExploreAddsWrongFalsely : Prop := exploreAddsRow.holds Try.pinned (OpenSpec.ofChange exploreAddsWrong)

/-- 'roadkeep4.ExploreSome': WHATEVER THE INPUT: true; the input reads as it did. -/
def exploreSomeSpec : ChangeSpec := { name := "exploreSome", fn := fun _ => fun
  | [d1, d2] => { results := [.lit (.bool true)], args := [d1, d2] }
  | _ => none }
def exploreSomeRow : OpenClaim := { program := "ytfcellgjbbfobaa", sum := "2d740dfe3cb6c195f9a0c46e542af962b1afb1b3e93092984ed231d35ad5928a", func := "roadstead/roadkeep4.ExploreSome", spec := "exploreSome", unfollowed := true, recurses := true, plainKeys := false, apart := false }
def ExploreSomeSaid : Prop := exploreSomeRow.holds Try.pinned (OpenSpec.ofChange exploreSomeSpec)

/-- ITS FALSE NEIGHBOUR: 'it returns false'. Refute it at one input. -/
def exploreSomeWrong : ChangeSpec := { name := "exploreSome", fn := fun _ => fun
  | [d1, d2] => { results := [.lit (.bool false)], args := [d1, d2] }
  | _ => none }
def ExploreSomeWrongFalsely : Prop := exploreSomeRow.holds Try.pinned (OpenSpec.ofChange exploreSomeWrong)

/- THE SECOND FORM. 'bulk': how many values and letters a reading holds, each counted each time it is reached (what is shared counts as often as it is met; a slice's spare places count too). A statement '..UptoSaid' is the law's where the arguments, and the package variables that the reading takes, are together of bulk at most 1048576: NARROWER than '..Said'. Prove '..Said' where nothing that the law and all that it calls make is longer than what came in: it says more and counts as full. Else prove '..UptoSaid'. A law counts once. -/
mutual
def uptoBulk {H : Type} : DataW H → Nat
  | .lit (.string bytes) => bytes.length + 1
  | .lit _ => 1
  | .nil => 1
  | .ptr d => uptoBulk d + 1
  | .slice elems spare => uptoBulkAll elems + uptoBulkAll spare + 1
  | .agg parts => uptoBulkAll parts + 1
  | .iface _ d => uptoBulk d + 1
  | .map entries => uptoBulkEntries entries + 1
  | .held _ => 1
def uptoBulkAll {H : Type} : List (DataW H) → Nat
  | [] => 0
  | d :: r => uptoBulk d + uptoBulkAll r
def uptoBulkEntries {H : Type} : List (Lit × DataW H) → Nat
  | [] => 0
  | x :: r => uptoBulkEntry x + uptoBulkEntries r
def uptoBulkEntry {H : Type} : Lit × DataW H → Nat
  | (.string bytes, d) => bytes.length + uptoBulk d + 1
  | (_, d) => uptoBulk d + 1
 end
def uptoSmall : (H : Type) → List (DataW H) → Bool := fun _ ds => decide (uptoBulkAll ds ≤ 1048576)
def OpenSpec.upto (s : _root_.Go.ChangeSpec) : _root_.Go.OpenSpec := { _root_.Go.OpenSpec.ofChange s with cond := some uptoSmall }

/-- 'roadkeep4.PartSwaps', WHERE WHAT IT READS IS OF BULK AT MOST 1048576: true; the input reads as it did. -/
def partSwapsUptoRow : OpenClaim := { program := "ytfcellgjbbfobaa", sum := "2d740dfe3cb6c195f9a0c46e542af962b1afb1b3e93092984ed231d35ad5928a", func := "roadstead/roadkeep4.PartSwaps", spec := "partSwaps", unfollowed := true, recurses := true, plainKeys := false, apart := false, narrowed := true }
def PartSwapsUptoSaid : Prop := partSwapsUptoRow.holds Try.pinned (OpenSpec.upto partSwapsSpec)

/-- 'roadkeep4.PartRounds', WHERE WHAT IT READS IS OF BULK AT MOST 1048576: true; the input reads as it did. -/
def partRoundsUptoRow : OpenClaim := { program := "ytfcellgjbbfobaa", sum := "2d740dfe3cb6c195f9a0c46e542af962b1afb1b3e93092984ed231d35ad5928a", func := "roadstead/roadkeep4.PartRounds", spec := "partRounds", unfollowed := true, recurses := true, plainKeys := false, apart := false, narrowed := true }
def PartRoundsUptoSaid : Prop := partRoundsUptoRow.holds Try.pinned (OpenSpec.upto partRoundsSpec)

/-- 'roadkeep4.PartOrder', WHERE WHAT IT READS IS OF BULK AT MOST 1048576: true; the input reads as it did. -/
def partOrderUptoRow : OpenClaim := { program := "ytfcellgjbbfobaa", sum := "2d740dfe3cb6c195f9a0c46e542af962b1afb1b3e93092984ed231d35ad5928a", func := "roadstead/roadkeep4.PartOrder", spec := "partOrder", unfollowed := true, recurses := true, plainKeys := false, apart := false, narrowed := true }
def PartOrderUptoSaid : Prop := partOrderUptoRow.holds Try.pinned (OpenSpec.upto partOrderSpec)

/-- 'roadkeep4.PartNormal', WHERE WHAT IT READS IS OF BULK AT MOST 1048576: true; the input reads as it did. -/
def partNormalUptoRow : OpenClaim := { program := "ytfcellgjbbfobaa", sum := "2d740dfe3cb6c195f9a0c46e542af962b1afb1b3e93092984ed231d35ad5928a", func := "roadstead/roadkeep4.PartNormal", spec := "partNormal", unfollowed := true, recurses := true, plainKeys := false, apart := false, narrowed := true }
def PartNormalUptoSaid : Prop := partNormalUptoRow.holds Try.pinned (OpenSpec.upto partNormalSpec)

/-- 'roadkeep4.ExploreAdds', WHERE WHAT IT READS IS OF BULK AT MOST 1048576: true; the input reads as it did. -/
def exploreAddsUptoRow : OpenClaim := { program := "ytfcellgjbbfobaa", sum := "2d740dfe3cb6c195f9a0c46e542af962b1afb1b3e93092984ed231d35ad5928a", func := "roadstead/roadkeep4.ExploreAdds", spec := "exploreAdds", unfollowed := true, recurses := true, plainKeys := false, apart := false, narrowed := true }
def ExploreAddsUptoSaid : Prop := exploreAddsUptoRow.holds Try.pinned (OpenSpec.upto exploreAddsSpec)

/-- 'roadkeep4.ExploreSome', WHERE WHAT IT READS IS OF BULK AT MOST 1048576: true; the input reads as it did. -/
def exploreSomeUptoRow : OpenClaim := { program := "ytfcellgjbbfobaa", sum := "2d740dfe3cb6c195f9a0c46e542af962b1afb1b3e93092984ed231d35ad5928a", func := "roadstead/roadkeep4.ExploreSome", spec := "exploreSome", unfollowed := true, recurses := true, plainKeys := false, apart := false, narrowed := true }
def ExploreSomeUptoSaid : Prop := exploreSomeUptoRow.holds Try.pinned (OpenSpec.upto exploreSomeSpec)

end Rows
end Go.Proofs.Ytfcellgjbbfobaa
