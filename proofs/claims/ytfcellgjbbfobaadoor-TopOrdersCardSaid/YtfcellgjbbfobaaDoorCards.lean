/-
  DERIVED. GIVEN WITH THE SEED: THE CARDS: each row of YtfcellgjbbfobaaDoorRows.lean that lists a variable, with what it lists TIED to the program's text (the seventh form; the later family's looks); each row that meets fmt, with fmt's text TOLD by the authors' own Lean function (tested against real Go, not proved from fmt's source: count such statements apart). THE CARD IS WHAT COUNTS. Prove the row's statement (the work); the ties are given (YtfcellgjbbfobaaDoorTie.lean); close each card by the builder's one call (the guide's Derived/Test/ToyasCard.lean, 'card_holds'). Laid BY PROGRAM, IN A SANDBOX (cutbox-door.mjs). By AI agents, Wed Nov 11 2026. No macro, syntax, notation, axiom, sorry.
-/
import Derived.Test.YtfcellgjbbfobaaDoorRows
import GoSem.ClaimSeven
namespace Go.Proofs.YtfcellgjbbfobaaDoor
namespace Rows

/-- THE TIED CARD OF 'roadkeep4.ExploreApart'. -/
def exploreApartCard : Claim7 := { stood := { row := exploreApartRow, standIns := [], harness := (true, "84bb67f8fcfe06a2f5bb65004425ee8fac24913f3bb58fac230ff3bf423723c2"), looks := false }, kinds := [], alts := [], laidByText := true, laidKinds := [.data, .data, .data], laidTests := true, laidLooks := .later }
def ExploreApartCardSaid : Prop := Claim7.holds Tryd.pinned (.plain (OpenSpec.ofChange exploreApartSpec)) exploreApartCard

/-- THE TIED CARD OF 'roadkeep4.ExploreOrders'. -/
def exploreOrdersCard : Claim7 := { stood := { row := exploreOrdersRow, standIns := [], harness := (true, "84bb67f8fcfe06a2f5bb65004425ee8fac24913f3bb58fac230ff3bf423723c2"), looks := false }, kinds := [], alts := [], laidByText := true, laidKinds := [.data, .data, .data], laidTests := true, laidLooks := .later }
def ExploreOrdersCardSaid : Prop := Claim7.holds Tryd.pinned (.plain (OpenSpec.ofChange exploreOrdersSpec)) exploreOrdersCard

/-- THE TIED CARD OF 'roadtop.TopOrders'. -/
def topOrdersCard : Claim7 := { stood := { row := topOrdersRow, standIns := [], harness := (true, "84bb67f8fcfe06a2f5bb65004425ee8fac24913f3bb58fac230ff3bf423723c2"), looks := false }, kinds := [], alts := [], laidByText := true, laidKinds := [.data, .data, .data], laidTests := true, laidLooks := .later }
def TopOrdersCardSaid : Prop := Claim7.holds Tryd.pinned (.plain (OpenSpec.ofChange topOrdersSpec)) topOrdersCard

/-- THE SECOND FORM's CARD OF 'roadkeep4.ExploreApart'. -/
def exploreApartUptoCard : Claim7 := { stood := { row := exploreApartUptoRow, standIns := [], harness := (true, "84bb67f8fcfe06a2f5bb65004425ee8fac24913f3bb58fac230ff3bf423723c2"), looks := false }, kinds := [], alts := [], laidByText := true, laidKinds := [.data, .data, .data], laidTests := true, laidLooks := .later }
def ExploreApartUptoCardSaid : Prop := Claim7.holds Tryd.pinned (.plain (OpenSpec.upto exploreApartSpec)) exploreApartUptoCard

/-- THE SECOND FORM's CARD OF 'roadkeep4.ExploreOrders'. -/
def exploreOrdersUptoCard : Claim7 := { stood := { row := exploreOrdersUptoRow, standIns := [], harness := (true, "84bb67f8fcfe06a2f5bb65004425ee8fac24913f3bb58fac230ff3bf423723c2"), looks := false }, kinds := [], alts := [], laidByText := true, laidKinds := [.data, .data, .data], laidTests := true, laidLooks := .later }
def ExploreOrdersUptoCardSaid : Prop := Claim7.holds Tryd.pinned (.plain (OpenSpec.upto exploreOrdersSpec)) exploreOrdersUptoCard

/-- THE SECOND FORM's CARD OF 'roadtop.TopOrders'. -/
def topOrdersUptoCard : Claim7 := { stood := { row := topOrdersUptoRow, standIns := [], harness := (true, "84bb67f8fcfe06a2f5bb65004425ee8fac24913f3bb58fac230ff3bf423723c2"), looks := false }, kinds := [], alts := [], laidByText := true, laidKinds := [.data, .data, .data], laidTests := true, laidLooks := .later }
def TopOrdersUptoCardSaid : Prop := Claim7.holds Tryd.pinned (.plain (OpenSpec.upto topOrdersSpec)) topOrdersUptoCard
end Rows
end Go.Proofs.YtfcellgjbbfobaaDoor
