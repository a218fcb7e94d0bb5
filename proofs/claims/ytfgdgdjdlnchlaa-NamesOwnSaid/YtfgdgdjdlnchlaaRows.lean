/-
  No cell of these rows narrows 'for every input' (looked for: loops, veiled, ifaces, maps, wideKeys, modest, calm, conditions, laid).
  DERIVED. THE GIVEN ROWS OF THIS SEAT. 5 by the template 'for every input the law returns true; each argument reads behind the call as it read before'; 0 by the template 'total and deterministic' (their statements: YtfgdgdjdlnchlaaTotals.lean).
  GIVEN WITH THE SEED: the statements are not yours to turn. If you find one false, say at which input.
  Laid BY PROGRAM, IN A SANDBOX (cutbox-rows.mjs): the forced cells as the released guide's own fill.sh prints them over the translation c1b82a4b72e72219… (all of the seat's roots in one cut). By AI agents, Wed Nov 11 2026. No macro, syntax, notation, axiom, sorry.
-/
import Derived.Test.YtfgdgdjdlnchlaaChecked
import GoSem.Claim
import GoSem.ClaimJoined
import GoSem.ClaimMapViews
import Derived.JoinedTies
import Derived.KernelRfl
namespace Go.Proofs.Ytfgdgdjdlnchlaa
/- THE CELL 'sum', in the pinned program and in every row, IS THE sha256 OF THE DUMP (.gsa) THAT YtfgdgdjdlnchlaaProg.lean LOADS. Nothing in Lean hashes anything: it is a label: what it is worth is what the hold of that sum in a sandbox is worth. -/
noncomputable def Try.pinned : Pinned := { name := "ytfgdgdjdlnchlaa", sum := "c1b82a4b72e7221945c7fbca270ca4c7e8c2870a98b3e77a2da841da429b42ea", checked := Try.checked }
namespace Rows
def none {H : Type} : Left H := { results := [], args := [] }

/-- 'roadkeep4.NamesLast': WHATEVER THE INPUT: true; the input reads as it did. -/
def namesLastSpec : ChangeSpec := { name := "namesLast", fn := fun _ => fun
  | [d1, d2, d3, d4] => { results := [.lit (.bool true)], args := [d1, d2, d3, d4] }
  | _ => none }
def namesLastRow : OpenClaim := { program := "ytfgdgdjdlnchlaa", sum := "c1b82a4b72e7221945c7fbca270ca4c7e8c2870a98b3e77a2da841da429b42ea", func := "roadstead/roadkeep4.NamesLast", spec := "namesLast", inPlace := ["maps.clone"], unfollowed := true, recurses := true, apart := false }
def NamesLastSaid : Prop := namesLastRow.holds Try.pinned (OpenSpec.ofChange namesLastSpec)

/-- ITS FALSE NEIGHBOUR: 'it returns false'. Refute it at one input. -/
def namesLastWrong : ChangeSpec := { name := "namesLast", fn := fun _ => fun
  | [d1, d2, d3, d4] => { results := [.lit (.bool false)], args := [d1, d2, d3, d4] }
  | _ => none }
def NamesLastWrongFalsely : Prop := namesLastRow.holds Try.pinned (OpenSpec.ofChange namesLastWrong)

/-- 'roadkeep4.NamesAgree': WHATEVER THE INPUT: true; the input reads as it did. -/
def namesAgreeSpec : ChangeSpec := { name := "namesAgree", fn := fun _ => fun
  | [d] => { results := [.lit (.bool true)], args := [d] }
  | _ => none }
def namesAgreeRow : OpenClaim := { program := "ytfgdgdjdlnchlaa", sum := "c1b82a4b72e7221945c7fbca270ca4c7e8c2870a98b3e77a2da841da429b42ea", func := "roadstead/roadkeep4.NamesAgree", spec := "namesAgree", inPlace := ["maps.clone"], unfollowed := true, recurses := true, apart := false }
def NamesAgreeSaid : Prop := namesAgreeRow.holds Try.pinned (OpenSpec.ofChange namesAgreeSpec)

/-- ITS FALSE NEIGHBOUR: 'it returns false'. Refute it at one input. -/
def namesAgreeWrong : ChangeSpec := { name := "namesAgree", fn := fun _ => fun
  | [d] => { results := [.lit (.bool false)], args := [d] }
  | _ => none }
def NamesAgreeWrongFalsely : Prop := namesAgreeRow.holds Try.pinned (OpenSpec.ofChange namesAgreeWrong)

/-- 'roadkeep4.NamesJoin': WHATEVER THE INPUT: true; the input reads as it did. -/
def namesJoinSpec : ChangeSpec := { name := "namesJoin", fn := fun _ => fun
  | [d1, d2] => { results := [.lit (.bool true)], args := [d1, d2] }
  | _ => none }
def namesJoinRow : OpenClaim := { program := "ytfgdgdjdlnchlaa", sum := "c1b82a4b72e7221945c7fbca270ca4c7e8c2870a98b3e77a2da841da429b42ea", func := "roadstead/roadkeep4.NamesJoin", spec := "namesJoin", inPlace := ["maps.clone"], unfollowed := true, recurses := true, apart := false }
def NamesJoinSaid : Prop := namesJoinRow.holds Try.pinned (OpenSpec.ofChange namesJoinSpec)

/-- ITS FALSE NEIGHBOUR: 'it returns false'. Refute it at one input. -/
def namesJoinWrong : ChangeSpec := { name := "namesJoin", fn := fun _ => fun
  | [d1, d2] => { results := [.lit (.bool false)], args := [d1, d2] }
  | _ => none }
def NamesJoinWrongFalsely : Prop := namesJoinRow.holds Try.pinned (OpenSpec.ofChange namesJoinWrong)

/-- 'roadkeep4.NamesApart': WHATEVER THE INPUT: true; the input reads as it did. -/
def namesApartSpec : ChangeSpec := { name := "namesApart", fn := fun _ => fun
  | [d1, d2] => { results := [.lit (.bool true)], args := [d1, d2] }
  | _ => none }
def namesApartRow : OpenClaim := { program := "ytfgdgdjdlnchlaa", sum := "c1b82a4b72e7221945c7fbca270ca4c7e8c2870a98b3e77a2da841da429b42ea", func := "roadstead/roadkeep4.NamesApart", spec := "namesApart", inPlace := ["maps.clone"], unfollowed := true, recurses := true, apart := false }
def NamesApartSaid : Prop := namesApartRow.holds Try.pinned (OpenSpec.ofChange namesApartSpec)

/-- ITS FALSE NEIGHBOUR: 'it returns false'. Refute it at one input. -/
def namesApartWrong : ChangeSpec := { name := "namesApart", fn := fun _ => fun
  | [d1, d2] => { results := [.lit (.bool false)], args := [d1, d2] }
  | _ => none }
def NamesApartWrongFalsely : Prop := namesApartRow.holds Try.pinned (OpenSpec.ofChange namesApartWrong)

/-- 'roadkeep4.NamesOwn': WHATEVER THE INPUT: true; the input reads as it did. -/
def namesOwnSpec : ChangeSpec := { name := "namesOwn", fn := fun _ => fun
  | [d] => { results := [.lit (.bool true)], args := [d] }
  | _ => none }
def namesOwnRow : OpenClaim := { program := "ytfgdgdjdlnchlaa", sum := "c1b82a4b72e7221945c7fbca270ca4c7e8c2870a98b3e77a2da841da429b42ea", func := "roadstead/roadkeep4.NamesOwn", spec := "namesOwn", inPlace := ["maps.clone"], unfollowed := true, recurses := true, apart := false }
def NamesOwnSaid : Prop := namesOwnRow.holds Try.pinned (OpenSpec.ofChange namesOwnSpec)

/-- ITS FALSE NEIGHBOUR: 'it returns false'. Refute it at one input. -/
def namesOwnWrong : ChangeSpec := { name := "namesOwn", fn := fun _ => fun
  | [d] => { results := [.lit (.bool false)], args := [d] }
  | _ => none }
def NamesOwnWrongFalsely : Prop := namesOwnRow.holds Try.pinned (OpenSpec.ofChange namesOwnWrong)

/- THE SECOND FORM. 'bulk': how many values and letters a reading holds, each counted each time it is reached (what is shared counts as often as it is met; a slice's spare places count too). A statement '..UptoSaid' is the law's where the arguments, and the package variables that the reading takes, are together of bulk at most 1048576: NARROWER than '..Said'. Prove '..Said' where nothing that the law and all that it calls make is longer than what came in: it says more and counts as full. Else prove '..UptoSaid'. A law counts once. -/
mutual
def uptoBulk {H : Type} : DataW H → Nat
  | .lit (.string bytes) => bytes.length + 1
  | .lit _ => 1
  | .nil => 1
  | .ptr d => uptoBulk d + 1
  | .slice elems spare => uptoBulkAll elems + uptoBulkAll spare + 1
  | .agg parts => uptoBulkAll parts + 1
  | .iface _ d => uptoBulk d + 1
  | .map entries => uptoBulkEntries entries + 1
  | .held _ => 1
def uptoBulkAll {H : Type} : List (DataW H) → Nat
  | [] => 0
  | d :: r => uptoBulk d + uptoBulkAll r
def uptoBulkEntries {H : Type} : List (Lit × DataW H) → Nat
  | [] => 0
  | x :: r => uptoBulkEntry x + uptoBulkEntries r
def uptoBulkEntry {H : Type} : Lit × DataW H → Nat
  | (.string bytes, d) => bytes.length + uptoBulk d + 1
  | (_, d) => uptoBulk d + 1
 end
def uptoSmall : (H : Type) → List (DataW H) → Bool := fun _ ds => decide (uptoBulkAll ds ≤ 1048576)
def OpenSpec.upto (s : _root_.Go.ChangeSpec) : _root_.Go.OpenSpec := { _root_.Go.OpenSpec.ofChange s with cond := some uptoSmall }

/-- 'roadkeep4.NamesLast', WHERE WHAT IT READS IS OF BULK AT MOST 1048576: true; the input reads as it did. -/
def namesLastUptoRow : OpenClaim := { program := "ytfgdgdjdlnchlaa", sum := "c1b82a4b72e7221945c7fbca270ca4c7e8c2870a98b3e77a2da841da429b42ea", func := "roadstead/roadkeep4.NamesLast", spec := "namesLast", inPlace := ["maps.clone"], unfollowed := true, recurses := true, apart := false, narrowed := true }
def NamesLastUptoSaid : Prop := namesLastUptoRow.holds Try.pinned (OpenSpec.upto namesLastSpec)

/-- 'roadkeep4.NamesAgree', WHERE WHAT IT READS IS OF BULK AT MOST 1048576: true; the input reads as it did. -/
def namesAgreeUptoRow : OpenClaim := { program := "ytfgdgdjdlnchlaa", sum := "c1b82a4b72e7221945c7fbca270ca4c7e8c2870a98b3e77a2da841da429b42ea", func := "roadstead/roadkeep4.NamesAgree", spec := "namesAgree", inPlace := ["maps.clone"], unfollowed := true, recurses := true, apart := false, narrowed := true }
def NamesAgreeUptoSaid : Prop := namesAgreeUptoRow.holds Try.pinned (OpenSpec.upto namesAgreeSpec)

/-- 'roadkeep4.NamesJoin', WHERE WHAT IT READS IS OF BULK AT MOST 1048576: true; the input reads as it did. -/
def namesJoinUptoRow : OpenClaim := { program := "ytfgdgdjdlnchlaa", sum := "c1b82a4b72e7221945c7fbca270ca4c7e8c2870a98b3e77a2da841da429b42ea", func := "roadstead/roadkeep4.NamesJoin", spec := "namesJoin", inPlace := ["maps.clone"], unfollowed := true, recurses := true, apart := false, narrowed := true }
def NamesJoinUptoSaid : Prop := namesJoinUptoRow.holds Try.pinned (OpenSpec.upto namesJoinSpec)

/-- 'roadkeep4.NamesApart', WHERE WHAT IT READS IS OF BULK AT MOST 1048576: true; the input reads as it did. -/
def namesApartUptoRow : OpenClaim := { program := "ytfgdgdjdlnchlaa", sum := "c1b82a4b72e7221945c7fbca270ca4c7e8c2870a98b3e77a2da841da429b42ea", func := "roadstead/roadkeep4.NamesApart", spec := "namesApart", inPlace := ["maps.clone"], unfollowed := true, recurses := true, apart := false, narrowed := true }
def NamesApartUptoSaid : Prop := namesApartUptoRow.holds Try.pinned (OpenSpec.upto namesApartSpec)

/-- 'roadkeep4.NamesOwn', WHERE WHAT IT READS IS OF BULK AT MOST 1048576: true; the input reads as it did. -/
def namesOwnUptoRow : OpenClaim := { program := "ytfgdgdjdlnchlaa", sum := "c1b82a4b72e7221945c7fbca270ca4c7e8c2870a98b3e77a2da841da429b42ea", func := "roadstead/roadkeep4.NamesOwn", spec := "namesOwn", inPlace := ["maps.clone"], unfollowed := true, recurses := true, apart := false, narrowed := true }
def NamesOwnUptoSaid : Prop := namesOwnUptoRow.holds Try.pinned (OpenSpec.upto namesOwnSpec)

end Rows
end Go.Proofs.Ytfgdgdjdlnchlaa
