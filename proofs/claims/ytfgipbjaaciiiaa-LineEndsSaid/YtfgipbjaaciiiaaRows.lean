/-
  No cell of these rows narrows 'for every input' (looked for: loops, veiled, ifaces, maps, wideKeys, modest, calm, conditions, laid).
  DERIVED. THE GIVEN ROWS OF THIS SEAT. 7 by the template 'for every input the law returns true; each argument reads behind the call as it read before'; 0 by the template 'total and deterministic' (their statements: YtfgipbjaaciiiaaTotals.lean).
  GIVEN WITH THE SEED: the statements are not yours to turn. If you find one false, say at which input.
  Laid BY PROGRAM, IN A SANDBOX (cutbox-rows.mjs): the forced cells as the released guide's own fill.sh prints them over the translation ee2008ebbcbabf65… (all of the seat's roots in one cut). By AI agents, Wed Nov 11 2026. No macro, syntax, notation, axiom, sorry.
-/
import Derived.Test.YtfgipbjaaciiiaaChecked
import GoSem.Claim
import GoSem.ClaimJoined
import GoSem.ClaimMapViews
import Derived.JoinedTies
import Derived.KernelRfl
namespace Go.Proofs.Ytfgipbjaaciiiaa
/- THE CELL 'sum', in the pinned program and in every row, IS THE sha256 OF THE DUMP (.gsa) THAT YtfgipbjaaciiiaaProg.lean LOADS. Nothing in Lean hashes anything: it is a label: what it is worth is what the hold of that sum in a sandbox is worth. -/
noncomputable def Try.pinned : Pinned := { name := "ytfgipbjaaciiiaa", sum := "ee2008ebbcbabf65402dc3f0d569aa139aa733fa074fb0d7d750e73b16297fa7", checked := Try.checked }
namespace Rows
def none {H : Type} : Left H := { results := [], args := [] }

/-- 'roadkeep4.LineWindow': WHATEVER THE INPUT: true; the input reads as it did. -/
def lineWindowSpec : ChangeSpec := { name := "lineWindow", fn := fun _ => fun
  | [d1, d2, d3] => { results := [.lit (.bool true)], args := [d1, d2, d3] }
  | _ => none }
def lineWindowRow : OpenClaim := { program := "ytfgipbjaaciiiaa", sum := "ee2008ebbcbabf65402dc3f0d569aa139aa733fa074fb0d7d750e73b16297fa7", func := "roadstead/roadkeep4.LineWindow", spec := "lineWindow", apart := false }
def LineWindowSaid : Prop := lineWindowRow.holds Try.pinned (OpenSpec.ofChange lineWindowSpec)

/-- ITS FALSE NEIGHBOUR: 'it returns false'. Refute it at one input. -/
def lineWindowWrong : ChangeSpec := { name := "lineWindow", fn := fun _ => fun
  | [d1, d2, d3] => { results := [.lit (.bool false)], args := [d1, d2, d3] }
  | _ => none }
def LineWindowWrongFalsely : Prop := lineWindowRow.holds Try.pinned (OpenSpec.ofChange lineWindowWrong)

/-- 'roadkeep4.LineOwn': WHATEVER THE INPUT: true; the input reads as it did. -/
def lineOwnSpec : ChangeSpec := { name := "lineOwn", fn := fun _ => fun
  | [d] => { results := [.lit (.bool true)], args := [d] }
  | _ => none }
def lineOwnRow : OpenClaim := { program := "ytfgipbjaaciiiaa", sum := "ee2008ebbcbabf65402dc3f0d569aa139aa733fa074fb0d7d750e73b16297fa7", func := "roadstead/roadkeep4.LineOwn", spec := "lineOwn", unfollowed := true, recurses := true, apart := false }
def LineOwnSaid : Prop := lineOwnRow.holds Try.pinned (OpenSpec.ofChange lineOwnSpec)

/-- ITS FALSE NEIGHBOUR: 'it returns false'. Refute it at one input. -/
def lineOwnWrong : ChangeSpec := { name := "lineOwn", fn := fun _ => fun
  | [d] => { results := [.lit (.bool false)], args := [d] }
  | _ => none }
def LineOwnWrongFalsely : Prop := lineOwnRow.holds Try.pinned (OpenSpec.ofChange lineOwnWrong)

/-- 'roadkeep4.LineOnce': WHATEVER THE INPUT: true; the input reads as it did. -/
def lineOnceSpec : ChangeSpec := { name := "lineOnce", fn := fun _ => fun
  | [d1, d2, d3] => { results := [.lit (.bool true)], args := [d1, d2, d3] }
  | _ => none }
def lineOnceRow : OpenClaim := { program := "ytfgipbjaaciiiaa", sum := "ee2008ebbcbabf65402dc3f0d569aa139aa733fa074fb0d7d750e73b16297fa7", func := "roadstead/roadkeep4.LineOnce", spec := "lineOnce", unfollowed := true, recurses := true, apart := false }
def LineOnceSaid : Prop := lineOnceRow.holds Try.pinned (OpenSpec.ofChange lineOnceSpec)

/-- ITS FALSE NEIGHBOUR: 'it returns false'. Refute it at one input. -/
def lineOnceWrong : ChangeSpec := { name := "lineOnce", fn := fun _ => fun
  | [d1, d2, d3] => { results := [.lit (.bool false)], args := [d1, d2, d3] }
  | _ => none }
def LineOnceWrongFalsely : Prop := lineOnceRow.holds Try.pinned (OpenSpec.ofChange lineOnceWrong)

/-- 'roadkeep4.LineEnds': WHATEVER THE INPUT: true; the input reads as it did. -/
def lineEndsSpec : ChangeSpec := { name := "lineEnds", fn := fun _ => fun
  | [d1, d2, d3] => { results := [.lit (.bool true)], args := [d1, d2, d3] }
  | _ => none }
def lineEndsRow : OpenClaim := { program := "ytfgipbjaaciiiaa", sum := "ee2008ebbcbabf65402dc3f0d569aa139aa733fa074fb0d7d750e73b16297fa7", func := "roadstead/roadkeep4.LineEnds", spec := "lineEnds", unfollowed := true, recurses := true, apart := false }
def LineEndsSaid : Prop := lineEndsRow.holds Try.pinned (OpenSpec.ofChange lineEndsSpec)

/-- ITS FALSE NEIGHBOUR: 'it returns false'. Refute it at one input. -/
def lineEndsWrong : ChangeSpec := { name := "lineEnds", fn := fun _ => fun
  | [d1, d2, d3] => { results := [.lit (.bool false)], args := [d1, d2, d3] }
  | _ => none }
def LineEndsWrongFalsely : Prop := lineEndsRow.holds Try.pinned (OpenSpec.ofChange lineEndsWrong)

/-- 'roadkeep4.WeightHalves': WHATEVER THE INPUT: true; the input reads as it did. -/
def weightHalvesSpec : ChangeSpec := { name := "weightHalves", fn := fun _ => fun
  | [d] => { results := [.lit (.bool true)], args := [d] }
  | _ => none }
def weightHalvesRow : OpenClaim := { program := "ytfgipbjaaciiiaa", sum := "ee2008ebbcbabf65402dc3f0d569aa139aa733fa074fb0d7d750e73b16297fa7", func := "roadstead/roadkeep4.WeightHalves", spec := "weightHalves", apart := false }
def WeightHalvesSaid : Prop := weightHalvesRow.holds Try.pinned (OpenSpec.ofChange weightHalvesSpec)

/-- ITS FALSE NEIGHBOUR: 'it returns false'. Refute it at one input. -/
def weightHalvesWrong : ChangeSpec := { name := "weightHalves", fn := fun _ => fun
  | [d] => { results := [.lit (.bool false)], args := [d] }
  | _ => none }
def WeightHalvesWrongFalsely : Prop := weightHalvesRow.holds Try.pinned (OpenSpec.ofChange weightHalvesWrong)

/-- 'roadkeep4.WeightSafe': WHATEVER THE INPUT: true; the input reads as it did. -/
def weightSafeSpec : ChangeSpec := { name := "weightSafe", fn := fun _ => fun
  | [d] => { results := [.lit (.bool true)], args := [d] }
  | _ => none }
def weightSafeRow : OpenClaim := { program := "ytfgipbjaaciiiaa", sum := "ee2008ebbcbabf65402dc3f0d569aa139aa733fa074fb0d7d750e73b16297fa7", func := "roadstead/roadkeep4.WeightSafe", spec := "weightSafe", apart := false }
def WeightSafeSaid : Prop := weightSafeRow.holds Try.pinned (OpenSpec.ofChange weightSafeSpec)

/-- ITS FALSE NEIGHBOUR: 'it returns false'. Refute it at one input. -/
def weightSafeWrong : ChangeSpec := { name := "weightSafe", fn := fun _ => fun
  | [d] => { results := [.lit (.bool false)], args := [d] }
  | _ => none }
def WeightSafeWrongFalsely : Prop := weightSafeRow.holds Try.pinned (OpenSpec.ofChange weightSafeWrong)

/-- 'roadkeep4.WeightLive': WHATEVER THE INPUT: true; the input reads as it did. -/
def weightLiveSpec : ChangeSpec := { name := "weightLive", fn := fun _ => fun
  | [d] => { results := [.lit (.bool true)], args := [d] }
  | _ => none }
def weightLiveRow : OpenClaim := { program := "ytfgipbjaaciiiaa", sum := "ee2008ebbcbabf65402dc3f0d569aa139aa733fa074fb0d7d750e73b16297fa7", func := "roadstead/roadkeep4.WeightLive", spec := "weightLive", unfollowed := true, recurses := true, apart := false }
def WeightLiveSaid : Prop := weightLiveRow.holds Try.pinned (OpenSpec.ofChange weightLiveSpec)

/-- ITS FALSE NEIGHBOUR: 'it returns false'. Refute it at one input. -/
def weightLiveWrong : ChangeSpec := { name := "weightLive", fn := fun _ => fun
  | [d] => { results := [.lit (.bool false)], args := [d] }
  | _ => none }
def WeightLiveWrongFalsely : Prop := weightLiveRow.holds Try.pinned (OpenSpec.ofChange weightLiveWrong)

/- THE SECOND FORM. 'bulk': how many values and letters a reading holds, each counted each time it is reached (what is shared counts as often as it is met; a slice's spare places count too). A statement '..UptoSaid' is the law's where the arguments, and the package variables that the reading takes, are together of bulk at most 1048576: NARROWER than '..Said'. Prove '..Said' where nothing that the law and all that it calls make is longer than what came in: it says more and counts as full. Else prove '..UptoSaid'. A law counts once. -/
mutual
def uptoBulk {H : Type} : DataW H → Nat
  | .lit (.string bytes) => bytes.length + 1
  | .lit _ => 1
  | .nil => 1
  | .ptr d => uptoBulk d + 1
  | .slice elems spare => uptoBulkAll elems + uptoBulkAll spare + 1
  | .agg parts => uptoBulkAll parts + 1
  | .iface _ d => uptoBulk d + 1
  | .map entries => uptoBulkEntries entries + 1
  | .held _ => 1
def uptoBulkAll {H : Type} : List (DataW H) → Nat
  | [] => 0
  | d :: r => uptoBulk d + uptoBulkAll r
def uptoBulkEntries {H : Type} : List (Lit × DataW H) → Nat
  | [] => 0
  | x :: r => uptoBulkEntry x + uptoBulkEntries r
def uptoBulkEntry {H : Type} : Lit × DataW H → Nat
  | (.string bytes, d) => bytes.length + uptoBulk d + 1
  | (_, d) => uptoBulk d + 1
 end
def uptoSmall : (H : Type) → List (DataW H) → Bool := fun _ ds => decide (uptoBulkAll ds ≤ 1048576)
def OpenSpec.upto (s : _root_.Go.ChangeSpec) : _root_.Go.OpenSpec := { _root_.Go.OpenSpec.ofChange s with cond := some uptoSmall }

/-- 'roadkeep4.LineWindow', WHERE WHAT IT READS IS OF BULK AT MOST 1048576: true; the input reads as it did. -/
def lineWindowUptoRow : OpenClaim := { program := "ytfgipbjaaciiiaa", sum := "ee2008ebbcbabf65402dc3f0d569aa139aa733fa074fb0d7d750e73b16297fa7", func := "roadstead/roadkeep4.LineWindow", spec := "lineWindow", apart := false, narrowed := true }
def LineWindowUptoSaid : Prop := lineWindowUptoRow.holds Try.pinned (OpenSpec.upto lineWindowSpec)

/-- 'roadkeep4.LineOwn', WHERE WHAT IT READS IS OF BULK AT MOST 1048576: true; the input reads as it did. -/
def lineOwnUptoRow : OpenClaim := { program := "ytfgipbjaaciiiaa", sum := "ee2008ebbcbabf65402dc3f0d569aa139aa733fa074fb0d7d750e73b16297fa7", func := "roadstead/roadkeep4.LineOwn", spec := "lineOwn", unfollowed := true, recurses := true, apart := false, narrowed := true }
def LineOwnUptoSaid : Prop := lineOwnUptoRow.holds Try.pinned (OpenSpec.upto lineOwnSpec)

/-- 'roadkeep4.LineOnce', WHERE WHAT IT READS IS OF BULK AT MOST 1048576: true; the input reads as it did. -/
def lineOnceUptoRow : OpenClaim := { program := "ytfgipbjaaciiiaa", sum := "ee2008ebbcbabf65402dc3f0d569aa139aa733fa074fb0d7d750e73b16297fa7", func := "roadstead/roadkeep4.LineOnce", spec := "lineOnce", unfollowed := true, recurses := true, apart := false, narrowed := true }
def LineOnceUptoSaid : Prop := lineOnceUptoRow.holds Try.pinned (OpenSpec.upto lineOnceSpec)

/-- 'roadkeep4.LineEnds', WHERE WHAT IT READS IS OF BULK AT MOST 1048576: true; the input reads as it did. -/
def lineEndsUptoRow : OpenClaim := { program := "ytfgipbjaaciiiaa", sum := "ee2008ebbcbabf65402dc3f0d569aa139aa733fa074fb0d7d750e73b16297fa7", func := "roadstead/roadkeep4.LineEnds", spec := "lineEnds", unfollowed := true, recurses := true, apart := false, narrowed := true }
def LineEndsUptoSaid : Prop := lineEndsUptoRow.holds Try.pinned (OpenSpec.upto lineEndsSpec)

/-- 'roadkeep4.WeightHalves', WHERE WHAT IT READS IS OF BULK AT MOST 1048576: true; the input reads as it did. -/
def weightHalvesUptoRow : OpenClaim := { program := "ytfgipbjaaciiiaa", sum := "ee2008ebbcbabf65402dc3f0d569aa139aa733fa074fb0d7d750e73b16297fa7", func := "roadstead/roadkeep4.WeightHalves", spec := "weightHalves", apart := false, narrowed := true }
def WeightHalvesUptoSaid : Prop := weightHalvesUptoRow.holds Try.pinned (OpenSpec.upto weightHalvesSpec)

/-- 'roadkeep4.WeightSafe', WHERE WHAT IT READS IS OF BULK AT MOST 1048576: true; the input reads as it did. -/
def weightSafeUptoRow : OpenClaim := { program := "ytfgipbjaaciiiaa", sum := "ee2008ebbcbabf65402dc3f0d569aa139aa733fa074fb0d7d750e73b16297fa7", func := "roadstead/roadkeep4.WeightSafe", spec := "weightSafe", apart := false, narrowed := true }
def WeightSafeUptoSaid : Prop := weightSafeUptoRow.holds Try.pinned (OpenSpec.upto weightSafeSpec)

/-- 'roadkeep4.WeightLive', WHERE WHAT IT READS IS OF BULK AT MOST 1048576: true; the input reads as it did. -/
def weightLiveUptoRow : OpenClaim := { program := "ytfgipbjaaciiiaa", sum := "ee2008ebbcbabf65402dc3f0d569aa139aa733fa074fb0d7d750e73b16297fa7", func := "roadstead/roadkeep4.WeightLive", spec := "weightLive", unfollowed := true, recurses := true, apart := false, narrowed := true }
def WeightLiveUptoSaid : Prop := weightLiveUptoRow.holds Try.pinned (OpenSpec.upto weightLiveSpec)

end Rows
end Go.Proofs.Ytfgipbjaaciiiaa
