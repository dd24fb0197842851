/-
  DERIVED. GIVEN WITH THE SEED: THE CARDS: each row of YtgechifbbhipaaaDoorRows.lean that lists a variable, with what it lists TIED to the program's text (the seventh form; the later family's looks); each row that meets fmt, with fmt's text TOLD by the authors' own Lean function (tested against real Go, not proved from fmt's source: count such statements apart). THE CARD IS WHAT COUNTS. Prove the row's statement (the work); the ties are given (YtgechifbbhipaaaDoorTie.lean); close each card by the builder's one call (the guide's Derived/Test/ToyasCard.lean, 'card_holds'). Laid BY PROGRAM, IN A SANDBOX (cutbox-door.mjs). By AI agents, Wed Nov 11 2026. No macro, syntax, notation, axiom, sorry.
-/
import Derived.Test.YtgechifbbhipaaaDoorRows
import GoSem.ClaimSeven
namespace Go.Proofs.YtgechifbbhipaaaDoor
namespace Rows

/-- THE TIED CARD OF 'cardcaselaw19.MsgChecks'. -/
def msgChecksCard : Claim7 := { stood := { row := msgChecksRow, standIns := [], harness := (true, "46be5c1af38aa23a1bf34ae1d56f14f656d75c17d7579ac92ecba0f01cd24bef"), looks := false }, kinds := [], alts := [], laidByText := true, laidKinds := [.data, .pinned], laidTests := true, laidLooks := .later }
def MsgChecksCardSaid : Prop := Claim7.holds Tryd.pinned (.plain (OpenSpec.ofChange msgChecksSpec)) msgChecksCard

/-- THE TIED CARD OF 'cardcaselaw20.DevinfTells'. -/
def devinfTellsCard : Claim7 := { stood := { row := devinfTellsRow, standIns := [], harness := (true, "46be5c1af38aa23a1bf34ae1d56f14f656d75c17d7579ac92ecba0f01cd24bef"), looks := false }, kinds := [], alts := [], laidByText := true, laidKinds := [.data, .pinned], laidTests := true, laidLooks := .later }
def DevinfTellsCardSaid : Prop := Claim7.holds Tryd.pinned (.plain (OpenSpec.ofChange devinfTellsSpec)) devinfTellsCard

/-- THE TIED CARD OF 'cardcaselaw17.GrammarTells'. -/
def grammarTellsCard : Claim7 := { stood := { row := grammarTellsRow, standIns := [], harness := (true, "46be5c1af38aa23a1bf34ae1d56f14f656d75c17d7579ac92ecba0f01cd24bef"), looks := false }, kinds := [], alts := [], laidByText := true, laidKinds := [.data, .listed, .data, .pinned], laidTests := true, laidLooks := .later }
def GrammarTellsCardSaid : Prop := Claim7.holds Tryd.pinned (.plain (OpenSpec.ofChange grammarTellsSpec)) grammarTellsCard

/-- THE TIED CARD OF 'cardcaselaw17.GrammarWithin'. -/
def grammarWithinCard : Claim7 := { stood := { row := grammarWithinRow, standIns := [], harness := (true, "46be5c1af38aa23a1bf34ae1d56f14f656d75c17d7579ac92ecba0f01cd24bef"), looks := false }, kinds := [], alts := [], laidByText := true, laidKinds := [.data, .listed, .data, .pinned], laidTests := true, laidLooks := .later }
def GrammarWithinCardSaid : Prop := Claim7.holds Tryd.pinned (.plain (OpenSpec.ofChange grammarWithinSpec)) grammarWithinCard

/-- THE TIED CARD OF 'cardcaselaw18.MetinfReads'. -/
def metinfReadsCard : Claim7 := { stood := { row := metinfReadsRow, standIns := [], harness := (true, "46be5c1af38aa23a1bf34ae1d56f14f656d75c17d7579ac92ecba0f01cd24bef"), looks := false }, kinds := [], alts := [], laidByText := true, laidKinds := [.data, .listed, .data, .pinned], laidTests := true, laidLooks := .later }
def MetinfReadsCardSaid : Prop := Claim7.holds Tryd.pinned (.plain (OpenSpec.ofChange metinfReadsSpec)) metinfReadsCard

/-- THE TIED CARD OF 'cardcaselaw18.MetinfBack'. -/
def metinfBackCard : Claim7 := { stood := { row := metinfBackRow, standIns := [], harness := (true, "46be5c1af38aa23a1bf34ae1d56f14f656d75c17d7579ac92ecba0f01cd24bef"), looks := false }, kinds := [], alts := [], laidByText := true, laidKinds := [.data, .listed, .data, .pinned], laidTests := true, laidLooks := .later }
def MetinfBackCardSaid : Prop := Claim7.holds Tryd.pinned (.plain (OpenSpec.ofChange metinfBackSpec)) metinfBackCard

/-- THE SECOND FORM's CARD OF 'cardcaselaw19.MsgChecks'. -/
def msgChecksUptoCard : Claim7 := { stood := { row := msgChecksUptoRow, standIns := [], harness := (true, "46be5c1af38aa23a1bf34ae1d56f14f656d75c17d7579ac92ecba0f01cd24bef"), looks := false }, kinds := [], alts := [], laidByText := true, laidKinds := [.data, .pinned], laidTests := true, laidLooks := .later }
def MsgChecksUptoCardSaid : Prop := Claim7.holds Tryd.pinned (.plain (OpenSpec.upto msgChecksSpec)) msgChecksUptoCard

/-- THE SECOND FORM's CARD OF 'cardcaselaw20.DevinfTells'. -/
def devinfTellsUptoCard : Claim7 := { stood := { row := devinfTellsUptoRow, standIns := [], harness := (true, "46be5c1af38aa23a1bf34ae1d56f14f656d75c17d7579ac92ecba0f01cd24bef"), looks := false }, kinds := [], alts := [], laidByText := true, laidKinds := [.data, .pinned], laidTests := true, laidLooks := .later }
def DevinfTellsUptoCardSaid : Prop := Claim7.holds Tryd.pinned (.plain (OpenSpec.upto devinfTellsSpec)) devinfTellsUptoCard

/-- THE SECOND FORM's CARD OF 'cardcaselaw17.GrammarTells'. -/
def grammarTellsUptoCard : Claim7 := { stood := { row := grammarTellsUptoRow, standIns := [], harness := (true, "46be5c1af38aa23a1bf34ae1d56f14f656d75c17d7579ac92ecba0f01cd24bef"), looks := false }, kinds := [], alts := [], laidByText := true, laidKinds := [.data, .listed, .data, .pinned], laidTests := true, laidLooks := .later }
def GrammarTellsUptoCardSaid : Prop := Claim7.holds Tryd.pinned (.plain (OpenSpec.upto grammarTellsSpec)) grammarTellsUptoCard

/-- THE SECOND FORM's CARD OF 'cardcaselaw17.GrammarWithin'. -/
def grammarWithinUptoCard : Claim7 := { stood := { row := grammarWithinUptoRow, standIns := [], harness := (true, "46be5c1af38aa23a1bf34ae1d56f14f656d75c17d7579ac92ecba0f01cd24bef"), looks := false }, kinds := [], alts := [], laidByText := true, laidKinds := [.data, .listed, .data, .pinned], laidTests := true, laidLooks := .later }
def GrammarWithinUptoCardSaid : Prop := Claim7.holds Tryd.pinned (.plain (OpenSpec.upto grammarWithinSpec)) grammarWithinUptoCard

/-- THE SECOND FORM's CARD OF 'cardcaselaw18.MetinfReads'. -/
def metinfReadsUptoCard : Claim7 := { stood := { row := metinfReadsUptoRow, standIns := [], harness := (true, "46be5c1af38aa23a1bf34ae1d56f14f656d75c17d7579ac92ecba0f01cd24bef"), looks := false }, kinds := [], alts := [], laidByText := true, laidKinds := [.data, .listed, .data, .pinned], laidTests := true, laidLooks := .later }
def MetinfReadsUptoCardSaid : Prop := Claim7.holds Tryd.pinned (.plain (OpenSpec.upto metinfReadsSpec)) metinfReadsUptoCard

/-- THE SECOND FORM's CARD OF 'cardcaselaw18.MetinfBack'. -/
def metinfBackUptoCard : Claim7 := { stood := { row := metinfBackUptoRow, standIns := [], harness := (true, "46be5c1af38aa23a1bf34ae1d56f14f656d75c17d7579ac92ecba0f01cd24bef"), looks := false }, kinds := [], alts := [], laidByText := true, laidKinds := [.data, .listed, .data, .pinned], laidTests := true, laidLooks := .later }
def MetinfBackUptoCardSaid : Prop := Claim7.holds Tryd.pinned (.plain (OpenSpec.upto metinfBackSpec)) metinfBackUptoCard
end Rows
end Go.Proofs.YtgechifbbhipaaaDoor
