/-
  DERIVED. GIVEN WITH THE SEED: THE CARDS: each row of YtdaiijkanfjklaaDoorRows.lean that lists a variable, with what it lists TIED to the program's text (the seventh form; the later family's looks); each row that meets fmt, with fmt's text TOLD by the authors' own Lean function (tested against real Go, not proved from fmt's source: count such statements apart). THE CARD IS WHAT COUNTS. Prove the row's statement (the work); the ties are given (YtdaiijkanfjklaaDoorTie.lean); close each card by the builder's one call (the guide's Derived/Test/ToyasCard.lean, 'card_holds'). Laid BY PROGRAM, IN A SANDBOX (cutbox-door.mjs). By AI agents, Wed Nov 11 2026. No macro, syntax, notation, axiom, sorry.
-/
import Derived.Test.YtdaiijkanfjklaaDoorRows
import GoSem.ClaimSeven
namespace Go.Proofs.YtdaiijkanfjklaaDoor
namespace Rows

/-- THE TIED CARD OF 'cardcaselaw13.TreeTells'. -/
def treeTellsCard : Claim7 := { stood := { row := treeTellsRow, standIns := [], harness := (true, "3677d366bc03e00f196acdf01ea92e97f9418bad49fb6e8baa05a8735ce53975"), looks := false }, kinds := [], alts := [], laidByText := true, laidKinds := [.data, .pinned], laidTests := true, laidLooks := .later }
def TreeTellsCardSaid : Prop := Claim7.holds Tryd.pinned (.plain (OpenSpec.ofChange treeTellsSpec)) treeTellsCard

/-- THE TIED CARD OF 'cardcaselaw13.TreeMakes'. -/
def treeMakesCard : Claim7 := { stood := { row := treeMakesRow, standIns := [], harness := (true, "3677d366bc03e00f196acdf01ea92e97f9418bad49fb6e8baa05a8735ce53975"), looks := false }, kinds := [], alts := [], laidByText := true, laidKinds := [.data, .pinned], laidTests := true, laidLooks := .later }
def TreeMakesCardSaid : Prop := Claim7.holds Tryd.pinned (.plain (OpenSpec.ofChange treeMakesSpec)) treeMakesCard

/-- THE TIED CARD OF 'cardcaselaw18.MetinfTells'. -/
def metinfTellsCard : Claim7 := { stood := { row := metinfTellsRow, standIns := [], harness := (true, "3677d366bc03e00f196acdf01ea92e97f9418bad49fb6e8baa05a8735ce53975"), looks := false }, kinds := [], alts := [], laidByText := true, laidKinds := [.data, .pinned], laidTests := true, laidLooks := .later }
def MetinfTellsCardSaid : Prop := Claim7.holds Tryd.pinned (.plain (OpenSpec.ofChange metinfTellsSpec)) metinfTellsCard

/-- THE SECOND FORM's CARD OF 'cardcaselaw13.TreeTells'. -/
def treeTellsUptoCard : Claim7 := { stood := { row := treeTellsUptoRow, standIns := [], harness := (true, "3677d366bc03e00f196acdf01ea92e97f9418bad49fb6e8baa05a8735ce53975"), looks := false }, kinds := [], alts := [], laidByText := true, laidKinds := [.data, .pinned], laidTests := true, laidLooks := .later }
def TreeTellsUptoCardSaid : Prop := Claim7.holds Tryd.pinned (.plain (OpenSpec.upto treeTellsSpec)) treeTellsUptoCard

/-- THE SECOND FORM's CARD OF 'cardcaselaw13.TreeMakes'. -/
def treeMakesUptoCard : Claim7 := { stood := { row := treeMakesUptoRow, standIns := [], harness := (true, "3677d366bc03e00f196acdf01ea92e97f9418bad49fb6e8baa05a8735ce53975"), looks := false }, kinds := [], alts := [], laidByText := true, laidKinds := [.data, .pinned], laidTests := true, laidLooks := .later }
def TreeMakesUptoCardSaid : Prop := Claim7.holds Tryd.pinned (.plain (OpenSpec.upto treeMakesSpec)) treeMakesUptoCard

/-- THE SECOND FORM's CARD OF 'cardcaselaw18.MetinfTells'. -/
def metinfTellsUptoCard : Claim7 := { stood := { row := metinfTellsUptoRow, standIns := [], harness := (true, "3677d366bc03e00f196acdf01ea92e97f9418bad49fb6e8baa05a8735ce53975"), looks := false }, kinds := [], alts := [], laidByText := true, laidKinds := [.data, .pinned], laidTests := true, laidLooks := .later }
def MetinfTellsUptoCardSaid : Prop := Claim7.holds Tryd.pinned (.plain (OpenSpec.upto metinfTellsSpec)) metinfTellsUptoCard
end Rows
end Go.Proofs.YtdaiijkanfjklaaDoor
