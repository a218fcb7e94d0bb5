/-
  No cell of these rows narrows 'for every input' (looked for: loops, veiled, ifaces, maps, wideKeys, modest, calm, conditions, laid).
  DERIVED. THE GIVEN ROWS OF THIS SEAT. 6 by the template 'for every input the law returns true; each argument reads behind the call as it read before'; 0 by the template 'total and deterministic' (their statements: YtmkdppbnmogmlaaTotals.lean).
  GIVEN WITH THE SEED: the statements are not yours to turn. If you find one false, say at which input.
  Laid BY PROGRAM, IN A SANDBOX (cutbox-rows.mjs): the forced cells as the released guide's own fill.sh prints them over the translation f1dd15940e023690… (all of the seat's roots in one cut). By AI agents, Wed Nov 11 2026. No macro, syntax, notation, axiom, sorry.
-/
import Derived.Test.YtmkdppbnmogmlaaChecked
import GoSem.Claim
import GoSem.ClaimJoined
import GoSem.ClaimMapViews
import Derived.JoinedTies
import Derived.KernelRfl
namespace Go.Proofs.Ytmkdppbnmogmlaa
/- THE CELL 'sum', in the pinned program and in every row, IS THE sha256 OF THE DUMP (.gsa) THAT YtmkdppbnmogmlaaProg.lean LOADS. Nothing in Lean hashes anything: it is a label: what it is worth is what the hold of that sum in a sandbox is worth. -/
noncomputable def Try.pinned : Pinned := { name := "ytmkdppbnmogmlaa", sum := "f1dd15940e023690e8b843ff44569d058f9b8f4e73fcce75ab7fe866186569ea", checked := Try.checked }
namespace Rows
def none {H : Type} : Left H := { results := [], args := [] }

/-- 'roadkeep4.GossipDead': WHATEVER THE INPUT: true; the input reads as it did. -/
def gossipDeadSpec : ChangeSpec := { name := "gossipDead", fn := fun _ => fun
  | [d1, d2] => { results := [.lit (.bool true)], args := [d1, d2] }
  | _ => none }
def gossipDeadRow : OpenClaim := { program := "ytmkdppbnmogmlaa", sum := "f1dd15940e023690e8b843ff44569d058f9b8f4e73fcce75ab7fe866186569ea", func := "roadstead/roadkeep4.GossipDead", spec := "gossipDead", apart := false }
def GossipDeadSaid : Prop := gossipDeadRow.holds Try.pinned (OpenSpec.ofChange gossipDeadSpec)

/-- ITS FALSE NEIGHBOUR: 'it returns false'. Refute it at one input. -/
def gossipDeadWrong : ChangeSpec := { name := "gossipDead", fn := fun _ => fun
  | [d1, d2] => { results := [.lit (.bool false)], args := [d1, d2] }
  | _ => none }
def GossipDeadWrongFalsely : Prop := gossipDeadRow.holds Try.pinned (OpenSpec.ofChange gossipDeadWrong)

/-- 'roadkeep4.GossipGrows': WHATEVER THE INPUT: true; the input reads as it did. -/
def gossipGrowsSpec : ChangeSpec := { name := "gossipGrows", fn := fun _ => fun
  | [d] => { results := [.lit (.bool true)], args := [d] }
  | _ => none }
def gossipGrowsRow : OpenClaim := { program := "ytmkdppbnmogmlaa", sum := "f1dd15940e023690e8b843ff44569d058f9b8f4e73fcce75ab7fe866186569ea", func := "roadstead/roadkeep4.GossipGrows", spec := "gossipGrows", apart := false }
def GossipGrowsSaid : Prop := gossipGrowsRow.holds Try.pinned (OpenSpec.ofChange gossipGrowsSpec)

/-- ITS FALSE NEIGHBOUR: 'it returns false'. Refute it at one input. -/
def gossipGrowsWrong : ChangeSpec := { name := "gossipGrows", fn := fun _ => fun
  | [d] => { results := [.lit (.bool false)], args := [d] }
  | _ => none }
def GossipGrowsWrongFalsely : Prop := gossipGrowsRow.holds Try.pinned (OpenSpec.ofChange gossipGrowsWrong)

/-- 'roadkeep4.GossipJoin': WHATEVER THE INPUT: true; the input reads as it did. -/
def gossipJoinSpec : ChangeSpec := { name := "gossipJoin", fn := fun _ => fun
  | [d1, d2] => { results := [.lit (.bool true)], args := [d1, d2] }
  | _ => none }
def gossipJoinRow : OpenClaim := { program := "ytmkdppbnmogmlaa", sum := "f1dd15940e023690e8b843ff44569d058f9b8f4e73fcce75ab7fe866186569ea", func := "roadstead/roadkeep4.GossipJoin", spec := "gossipJoin", apart := false }
def GossipJoinSaid : Prop := gossipJoinRow.holds Try.pinned (OpenSpec.ofChange gossipJoinSpec)

/-- ITS FALSE NEIGHBOUR: 'it returns false'. Refute it at one input. -/
def gossipJoinWrong : ChangeSpec := { name := "gossipJoin", fn := fun _ => fun
  | [d1, d2] => { results := [.lit (.bool false)], args := [d1, d2] }
  | _ => none }
def GossipJoinWrongFalsely : Prop := gossipJoinRow.holds Try.pinned (OpenSpec.ofChange gossipJoinWrong)

/-- 'roadkeep4.GossipTurns': WHATEVER THE INPUT: true; the input reads as it did. -/
def gossipTurnsSpec : ChangeSpec := { name := "gossipTurns", fn := fun _ => fun
  | [d1, d2] => { results := [.lit (.bool true)], args := [d1, d2] }
  | _ => none }
def gossipTurnsRow : OpenClaim := { program := "ytmkdppbnmogmlaa", sum := "f1dd15940e023690e8b843ff44569d058f9b8f4e73fcce75ab7fe866186569ea", func := "roadstead/roadkeep4.GossipTurns", spec := "gossipTurns", apart := false }
def GossipTurnsSaid : Prop := gossipTurnsRow.holds Try.pinned (OpenSpec.ofChange gossipTurnsSpec)

/-- ITS FALSE NEIGHBOUR: 'it returns false'. Refute it at one input. -/
def gossipTurnsWrong : ChangeSpec := { name := "gossipTurns", fn := fun _ => fun
  | [d1, d2] => { results := [.lit (.bool false)], args := [d1, d2] }
  | _ => none }
def GossipTurnsWrongFalsely : Prop := gossipTurnsRow.holds Try.pinned (OpenSpec.ofChange gossipTurnsWrong)

/-- 'roadkeep4.GossipNext': WHATEVER THE INPUT: true; the input reads as it did. -/
def gossipNextSpec : ChangeSpec := { name := "gossipNext", fn := fun _ => fun
  | [d1, d2, d3] => { results := [.lit (.bool true)], args := [d1, d2, d3] }
  | _ => none }
def gossipNextRow : OpenClaim := { program := "ytmkdppbnmogmlaa", sum := "f1dd15940e023690e8b843ff44569d058f9b8f4e73fcce75ab7fe866186569ea", func := "roadstead/roadkeep4.GossipNext", spec := "gossipNext", apart := false }
def GossipNextSaid : Prop := gossipNextRow.holds Try.pinned (OpenSpec.ofChange gossipNextSpec)

/-- ITS FALSE NEIGHBOUR: 'it returns false'. Refute it at one input. -/
def gossipNextWrong : ChangeSpec := { name := "gossipNext", fn := fun _ => fun
  | [d1, d2, d3] => { results := [.lit (.bool false)], args := [d1, d2, d3] }
  | _ => none }
def GossipNextWrongFalsely : Prop := gossipNextRow.holds Try.pinned (OpenSpec.ofChange gossipNextWrong)

/-- 'roadkeep4.GossipAgree': WHATEVER THE INPUT: true; the input reads as it did. -/
def gossipAgreeSpec : ChangeSpec := { name := "gossipAgree", fn := fun _ => fun
  | [d] => { results := [.lit (.bool true)], args := [d] }
  | _ => none }
def gossipAgreeRow : OpenClaim := { program := "ytmkdppbnmogmlaa", sum := "f1dd15940e023690e8b843ff44569d058f9b8f4e73fcce75ab7fe866186569ea", func := "roadstead/roadkeep4.GossipAgree", spec := "gossipAgree", unfollowed := true, recurses := true, apart := false }
def GossipAgreeSaid : Prop := gossipAgreeRow.holds Try.pinned (OpenSpec.ofChange gossipAgreeSpec)

/-- ITS FALSE NEIGHBOUR: 'it returns false'. Refute it at one input. -/
def gossipAgreeWrong : ChangeSpec := { name := "gossipAgree", fn := fun _ => fun
  | [d] => { results := [.lit (.bool false)], args := [d] }
  | _ => none }
def GossipAgreeWrongFalsely : Prop := gossipAgreeRow.holds Try.pinned (OpenSpec.ofChange gossipAgreeWrong)

/- THE SECOND FORM. 'bulk': how many values and letters a reading holds, each counted each time it is reached (what is shared counts as often as it is met; a slice's spare places count too). A statement '..UptoSaid' is the law's where the arguments, and the package variables that the reading takes, are together of bulk at most 1048576: NARROWER than '..Said'. Prove '..Said' where nothing that the law and all that it calls make is longer than what came in: it says more and counts as full. Else prove '..UptoSaid'. A law counts once. -/
mutual
def uptoBulk {H : Type} : DataW H → Nat
  | .lit (.string bytes) => bytes.length + 1
  | .lit _ => 1
  | .nil => 1
  | .ptr d => uptoBulk d + 1
  | .slice elems spare => uptoBulkAll elems + uptoBulkAll spare + 1
  | .agg parts => uptoBulkAll parts + 1
  | .iface _ d => uptoBulk d + 1
  | .map entries => uptoBulkEntries entries + 1
  | .held _ => 1
def uptoBulkAll {H : Type} : List (DataW H) → Nat
  | [] => 0
  | d :: r => uptoBulk d + uptoBulkAll r
def uptoBulkEntries {H : Type} : List (Lit × DataW H) → Nat
  | [] => 0
  | x :: r => uptoBulkEntry x + uptoBulkEntries r
def uptoBulkEntry {H : Type} : Lit × DataW H → Nat
  | (.string bytes, d) => bytes.length + uptoBulk d + 1
  | (_, d) => uptoBulk d + 1
 end
def uptoSmall : (H : Type) → List (DataW H) → Bool := fun _ ds => decide (uptoBulkAll ds ≤ 1048576)
def OpenSpec.upto (s : _root_.Go.ChangeSpec) : _root_.Go.OpenSpec := { _root_.Go.OpenSpec.ofChange s with cond := some uptoSmall }

/-- 'roadkeep4.GossipDead', WHERE WHAT IT READS IS OF BULK AT MOST 1048576: true; the input reads as it did. -/
def gossipDeadUptoRow : OpenClaim := { program := "ytmkdppbnmogmlaa", sum := "f1dd15940e023690e8b843ff44569d058f9b8f4e73fcce75ab7fe866186569ea", func := "roadstead/roadkeep4.GossipDead", spec := "gossipDead", apart := false, narrowed := true }
def GossipDeadUptoSaid : Prop := gossipDeadUptoRow.holds Try.pinned (OpenSpec.upto gossipDeadSpec)

/-- 'roadkeep4.GossipGrows', WHERE WHAT IT READS IS OF BULK AT MOST 1048576: true; the input reads as it did. -/
def gossipGrowsUptoRow : OpenClaim := { program := "ytmkdppbnmogmlaa", sum := "f1dd15940e023690e8b843ff44569d058f9b8f4e73fcce75ab7fe866186569ea", func := "roadstead/roadkeep4.GossipGrows", spec := "gossipGrows", apart := false, narrowed := true }
def GossipGrowsUptoSaid : Prop := gossipGrowsUptoRow.holds Try.pinned (OpenSpec.upto gossipGrowsSpec)

/-- 'roadkeep4.GossipJoin', WHERE WHAT IT READS IS OF BULK AT MOST 1048576: true; the input reads as it did. -/
def gossipJoinUptoRow : OpenClaim := { program := "ytmkdppbnmogmlaa", sum := "f1dd15940e023690e8b843ff44569d058f9b8f4e73fcce75ab7fe866186569ea", func := "roadstead/roadkeep4.GossipJoin", spec := "gossipJoin", apart := false, narrowed := true }
def GossipJoinUptoSaid : Prop := gossipJoinUptoRow.holds Try.pinned (OpenSpec.upto gossipJoinSpec)

/-- 'roadkeep4.GossipTurns', WHERE WHAT IT READS IS OF BULK AT MOST 1048576: true; the input reads as it did. -/
def gossipTurnsUptoRow : OpenClaim := { program := "ytmkdppbnmogmlaa", sum := "f1dd15940e023690e8b843ff44569d058f9b8f4e73fcce75ab7fe866186569ea", func := "roadstead/roadkeep4.GossipTurns", spec := "gossipTurns", apart := false, narrowed := true }
def GossipTurnsUptoSaid : Prop := gossipTurnsUptoRow.holds Try.pinned (OpenSpec.upto gossipTurnsSpec)

/-- 'roadkeep4.GossipNext', WHERE WHAT IT READS IS OF BULK AT MOST 1048576: true; the input reads as it did. -/
def gossipNextUptoRow : OpenClaim := { program := "ytmkdppbnmogmlaa", sum := "f1dd15940e023690e8b843ff44569d058f9b8f4e73fcce75ab7fe866186569ea", func := "roadstead/roadkeep4.GossipNext", spec := "gossipNext", apart := false, narrowed := true }
def GossipNextUptoSaid : Prop := gossipNextUptoRow.holds Try.pinned (OpenSpec.upto gossipNextSpec)

/-- 'roadkeep4.GossipAgree', WHERE WHAT IT READS IS OF BULK AT MOST 1048576: true; the input reads as it did. -/
def gossipAgreeUptoRow : OpenClaim := { program := "ytmkdppbnmogmlaa", sum := "f1dd15940e023690e8b843ff44569d058f9b8f4e73fcce75ab7fe866186569ea", func := "roadstead/roadkeep4.GossipAgree", spec := "gossipAgree", unfollowed := true, recurses := true, apart := false, narrowed := true }
def GossipAgreeUptoSaid : Prop := gossipAgreeUptoRow.holds Try.pinned (OpenSpec.upto gossipAgreeSpec)

end Rows
end Go.Proofs.Ytmkdppbnmogmlaa
