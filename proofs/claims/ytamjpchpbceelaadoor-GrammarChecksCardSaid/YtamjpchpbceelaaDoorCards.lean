/-
  DERIVED. GIVEN WITH THE SEED: THE CARDS: each row of YtamjpchpbceelaaDoorRows.lean that lists a variable, with what it lists TIED to the program's text (the seventh form; the later family's looks); each row that meets fmt, with fmt's text TOLD by the authors' own Lean function (tested against real Go, not proved from fmt's source: count such statements apart). THE CARD IS WHAT COUNTS. Prove the row's statement (the work); the ties are given (YtamjpchpbceelaaDoorTie.lean); close each card by the builder's one call (the guide's Derived/Test/ToyasCard.lean, 'card_holds'). Laid BY PROGRAM, IN A SANDBOX (cutbox-door.mjs). By AI agents, Wed Nov 11 2026. No macro, syntax, notation, axiom, sorry.
-/
import Derived.Test.YtamjpchpbceelaaDoorRows
import GoSem.ClaimSeven
namespace Go.Proofs.YtamjpchpbceelaaDoor
namespace Rows

/-- THE TIED CARD OF 'cardcaselaw16.MarkupWrites'. -/
def markupWritesCard : Claim7 := { stood := { row := markupWritesRow, standIns := [], harness := (true, "0ce79d593f36e054bb48b6c3aad4541a5e7dc716c2ef58bd8a277bbaa09c159d"), looks := false }, kinds := [], alts := [], laidByText := true, laidKinds := [.data, .pinned], laidTests := true, laidLooks := .later }
def MarkupWritesCardSaid : Prop := Claim7.holds Tryd.pinned (.plain (OpenSpec.ofChange markupWritesSpec)) markupWritesCard

/-- THE TIED CARD OF 'cardcaselaw19.MsgChecks'. -/
def msgChecksCard : Claim7 := { stood := { row := msgChecksRow, standIns := [], harness := (true, "0ce79d593f36e054bb48b6c3aad4541a5e7dc716c2ef58bd8a277bbaa09c159d"), looks := false }, kinds := [], alts := [], laidByText := true, laidKinds := [.data, .pinned], laidTests := true, laidLooks := .later }
def MsgChecksCardSaid : Prop := Claim7.holds Tryd.pinned (.plain (OpenSpec.ofChange msgChecksSpec)) msgChecksCard

/-- THE TIED CARD OF 'cardcaselaw20.DevinfTells'. -/
def devinfTellsCard : Claim7 := { stood := { row := devinfTellsRow, standIns := [], harness := (true, "0ce79d593f36e054bb48b6c3aad4541a5e7dc716c2ef58bd8a277bbaa09c159d"), looks := false }, kinds := [], alts := [], laidByText := true, laidKinds := [.data, .pinned], laidTests := true, laidLooks := .later }
def DevinfTellsCardSaid : Prop := Claim7.holds Tryd.pinned (.plain (OpenSpec.ofChange devinfTellsSpec)) devinfTellsCard

/-- THE TIED CARD OF 'cardcaselaw15.WbxmlWrites'. -/
def wbxmlWritesCard : Claim7 := { stood := { row := wbxmlWritesRow, standIns := [], harness := (true, "0ce79d593f36e054bb48b6c3aad4541a5e7dc716c2ef58bd8a277bbaa09c159d"), looks := false }, kinds := [], alts := [], laidByText := true, laidKinds := [.data, .listed, .data, .pinned], laidTests := true, laidLooks := .later }
def WbxmlWritesCardSaid : Prop := Claim7.holds Tryd.pinned (.plain (OpenSpec.ofChange wbxmlWritesSpec)) wbxmlWritesCard

/-- THE TIED CARD OF 'cardcaselaw17.GrammarTells'. -/
def grammarTellsCard : Claim7 := { stood := { row := grammarTellsRow, standIns := [], harness := (true, "0ce79d593f36e054bb48b6c3aad4541a5e7dc716c2ef58bd8a277bbaa09c159d"), looks := false }, kinds := [], alts := [], laidByText := true, laidKinds := [.data, .listed, .data, .pinned], laidTests := true, laidLooks := .later }
def GrammarTellsCardSaid : Prop := Claim7.holds Tryd.pinned (.plain (OpenSpec.ofChange grammarTellsSpec)) grammarTellsCard

/-- THE TIED CARD OF 'cardcaselaw17.GrammarChecks'. -/
def grammarChecksCard : Claim7 := { stood := { row := grammarChecksRow, standIns := [], harness := (true, "0ce79d593f36e054bb48b6c3aad4541a5e7dc716c2ef58bd8a277bbaa09c159d"), looks := false }, kinds := [], alts := [], laidByText := true, laidKinds := [.data, .listed, .data, .pinned], laidTests := true, laidLooks := .later }
def GrammarChecksCardSaid : Prop := Claim7.holds Tryd.pinned (.plain (OpenSpec.ofChange grammarChecksSpec)) grammarChecksCard

/-- THE TIED CARD OF 'cardcaselaw17.GrammarWithin'. -/
def grammarWithinCard : Claim7 := { stood := { row := grammarWithinRow, standIns := [], harness := (true, "0ce79d593f36e054bb48b6c3aad4541a5e7dc716c2ef58bd8a277bbaa09c159d"), looks := false }, kinds := [], alts := [], laidByText := true, laidKinds := [.data, .listed, .data, .pinned], laidTests := true, laidLooks := .later }
def GrammarWithinCardSaid : Prop := Claim7.holds Tryd.pinned (.plain (OpenSpec.ofChange grammarWithinSpec)) grammarWithinCard

/-- THE TIED CARD OF 'cardcaselaw18.MetinfReads'. -/
def metinfReadsCard : Claim7 := { stood := { row := metinfReadsRow, standIns := [], harness := (true, "0ce79d593f36e054bb48b6c3aad4541a5e7dc716c2ef58bd8a277bbaa09c159d"), looks := false }, kinds := [], alts := [], laidByText := true, laidKinds := [.data, .listed, .data, .pinned], laidTests := true, laidLooks := .later }
def MetinfReadsCardSaid : Prop := Claim7.holds Tryd.pinned (.plain (OpenSpec.ofChange metinfReadsSpec)) metinfReadsCard

/-- THE TIED CARD OF 'cardcaselaw15.WbxmlBack'. -/
def wbxmlBackCard : Claim7 := { stood := { row := wbxmlBackRow, standIns := [], harness := (true, "0ce79d593f36e054bb48b6c3aad4541a5e7dc716c2ef58bd8a277bbaa09c159d"), looks := false }, kinds := [], alts := [], laidByText := true, laidKinds := [.data, .listed, .data, .pinned], laidTests := true, laidLooks := .later }
def WbxmlBackCardSaid : Prop := Claim7.holds Tryd.pinned (.plain (OpenSpec.ofChange wbxmlBackSpec)) wbxmlBackCard

/-- THE TIED CARD OF 'cardcaselaw15.WbxmlAgain'. -/
def wbxmlAgainCard : Claim7 := { stood := { row := wbxmlAgainRow, standIns := [], harness := (true, "0ce79d593f36e054bb48b6c3aad4541a5e7dc716c2ef58bd8a277bbaa09c159d"), looks := false }, kinds := [], alts := [], laidByText := true, laidKinds := [.data, .listed, .data, .pinned], laidTests := true, laidLooks := .later }
def WbxmlAgainCardSaid : Prop := Claim7.holds Tryd.pinned (.plain (OpenSpec.ofChange wbxmlAgainSpec)) wbxmlAgainCard

/-- THE TIED CARD OF 'cardcaselaw15.WbxmlShort'. -/
def wbxmlShortCard : Claim7 := { stood := { row := wbxmlShortRow, standIns := [], harness := (true, "0ce79d593f36e054bb48b6c3aad4541a5e7dc716c2ef58bd8a277bbaa09c159d"), looks := false }, kinds := [], alts := [], laidByText := true, laidKinds := [.data, .listed, .data, .pinned], laidTests := true, laidLooks := .later }
def WbxmlShortCardSaid : Prop := Claim7.holds Tryd.pinned (.plain (OpenSpec.ofChange wbxmlShortSpec)) wbxmlShortCard

/-- THE TIED CARD OF 'cardcaselaw18.MetinfBack'. -/
def metinfBackCard : Claim7 := { stood := { row := metinfBackRow, standIns := [], harness := (true, "0ce79d593f36e054bb48b6c3aad4541a5e7dc716c2ef58bd8a277bbaa09c159d"), looks := false }, kinds := [], alts := [], laidByText := true, laidKinds := [.data, .listed, .data, .pinned], laidTests := true, laidLooks := .later }
def MetinfBackCardSaid : Prop := Claim7.holds Tryd.pinned (.plain (OpenSpec.ofChange metinfBackSpec)) metinfBackCard

/-- THE SECOND FORM's CARD OF 'cardcaselaw16.MarkupWrites'. -/
def markupWritesUptoCard : Claim7 := { stood := { row := markupWritesUptoRow, standIns := [], harness := (true, "0ce79d593f36e054bb48b6c3aad4541a5e7dc716c2ef58bd8a277bbaa09c159d"), looks := false }, kinds := [], alts := [], laidByText := true, laidKinds := [.data, .pinned], laidTests := true, laidLooks := .later }
def MarkupWritesUptoCardSaid : Prop := Claim7.holds Tryd.pinned (.plain (OpenSpec.upto markupWritesSpec)) markupWritesUptoCard

/-- THE SECOND FORM's CARD OF 'cardcaselaw19.MsgChecks'. -/
def msgChecksUptoCard : Claim7 := { stood := { row := msgChecksUptoRow, standIns := [], harness := (true, "0ce79d593f36e054bb48b6c3aad4541a5e7dc716c2ef58bd8a277bbaa09c159d"), looks := false }, kinds := [], alts := [], laidByText := true, laidKinds := [.data, .pinned], laidTests := true, laidLooks := .later }
def MsgChecksUptoCardSaid : Prop := Claim7.holds Tryd.pinned (.plain (OpenSpec.upto msgChecksSpec)) msgChecksUptoCard

/-- THE SECOND FORM's CARD OF 'cardcaselaw20.DevinfTells'. -/
def devinfTellsUptoCard : Claim7 := { stood := { row := devinfTellsUptoRow, standIns := [], harness := (true, "0ce79d593f36e054bb48b6c3aad4541a5e7dc716c2ef58bd8a277bbaa09c159d"), looks := false }, kinds := [], alts := [], laidByText := true, laidKinds := [.data, .pinned], laidTests := true, laidLooks := .later }
def DevinfTellsUptoCardSaid : Prop := Claim7.holds Tryd.pinned (.plain (OpenSpec.upto devinfTellsSpec)) devinfTellsUptoCard

/-- THE SECOND FORM's CARD OF 'cardcaselaw15.WbxmlWrites'. -/
def wbxmlWritesUptoCard : Claim7 := { stood := { row := wbxmlWritesUptoRow, standIns := [], harness := (true, "0ce79d593f36e054bb48b6c3aad4541a5e7dc716c2ef58bd8a277bbaa09c159d"), looks := false }, kinds := [], alts := [], laidByText := true, laidKinds := [.data, .listed, .data, .pinned], laidTests := true, laidLooks := .later }
def WbxmlWritesUptoCardSaid : Prop := Claim7.holds Tryd.pinned (.plain (OpenSpec.upto wbxmlWritesSpec)) wbxmlWritesUptoCard

/-- THE SECOND FORM's CARD OF 'cardcaselaw17.GrammarTells'. -/
def grammarTellsUptoCard : Claim7 := { stood := { row := grammarTellsUptoRow, standIns := [], harness := (true, "0ce79d593f36e054bb48b6c3aad4541a5e7dc716c2ef58bd8a277bbaa09c159d"), looks := false }, kinds := [], alts := [], laidByText := true, laidKinds := [.data, .listed, .data, .pinned], laidTests := true, laidLooks := .later }
def GrammarTellsUptoCardSaid : Prop := Claim7.holds Tryd.pinned (.plain (OpenSpec.upto grammarTellsSpec)) grammarTellsUptoCard

/-- THE SECOND FORM's CARD OF 'cardcaselaw17.GrammarChecks'. -/
def grammarChecksUptoCard : Claim7 := { stood := { row := grammarChecksUptoRow, standIns := [], harness := (true, "0ce79d593f36e054bb48b6c3aad4541a5e7dc716c2ef58bd8a277bbaa09c159d"), looks := false }, kinds := [], alts := [], laidByText := true, laidKinds := [.data, .listed, .data, .pinned], laidTests := true, laidLooks := .later }
def GrammarChecksUptoCardSaid : Prop := Claim7.holds Tryd.pinned (.plain (OpenSpec.upto grammarChecksSpec)) grammarChecksUptoCard

/-- THE SECOND FORM's CARD OF 'cardcaselaw17.GrammarWithin'. -/
def grammarWithinUptoCard : Claim7 := { stood := { row := grammarWithinUptoRow, standIns := [], harness := (true, "0ce79d593f36e054bb48b6c3aad4541a5e7dc716c2ef58bd8a277bbaa09c159d"), looks := false }, kinds := [], alts := [], laidByText := true, laidKinds := [.data, .listed, .data, .pinned], laidTests := true, laidLooks := .later }
def GrammarWithinUptoCardSaid : Prop := Claim7.holds Tryd.pinned (.plain (OpenSpec.upto grammarWithinSpec)) grammarWithinUptoCard

/-- THE SECOND FORM's CARD OF 'cardcaselaw18.MetinfReads'. -/
def metinfReadsUptoCard : Claim7 := { stood := { row := metinfReadsUptoRow, standIns := [], harness := (true, "0ce79d593f36e054bb48b6c3aad4541a5e7dc716c2ef58bd8a277bbaa09c159d"), looks := false }, kinds := [], alts := [], laidByText := true, laidKinds := [.data, .listed, .data, .pinned], laidTests := true, laidLooks := .later }
def MetinfReadsUptoCardSaid : Prop := Claim7.holds Tryd.pinned (.plain (OpenSpec.upto metinfReadsSpec)) metinfReadsUptoCard

/-- THE SECOND FORM's CARD OF 'cardcaselaw15.WbxmlBack'. -/
def wbxmlBackUptoCard : Claim7 := { stood := { row := wbxmlBackUptoRow, standIns := [], harness := (true, "0ce79d593f36e054bb48b6c3aad4541a5e7dc716c2ef58bd8a277bbaa09c159d"), looks := false }, kinds := [], alts := [], laidByText := true, laidKinds := [.data, .listed, .data, .pinned], laidTests := true, laidLooks := .later }
def WbxmlBackUptoCardSaid : Prop := Claim7.holds Tryd.pinned (.plain (OpenSpec.upto wbxmlBackSpec)) wbxmlBackUptoCard

/-- THE SECOND FORM's CARD OF 'cardcaselaw15.WbxmlAgain'. -/
def wbxmlAgainUptoCard : Claim7 := { stood := { row := wbxmlAgainUptoRow, standIns := [], harness := (true, "0ce79d593f36e054bb48b6c3aad4541a5e7dc716c2ef58bd8a277bbaa09c159d"), looks := false }, kinds := [], alts := [], laidByText := true, laidKinds := [.data, .listed, .data, .pinned], laidTests := true, laidLooks := .later }
def WbxmlAgainUptoCardSaid : Prop := Claim7.holds Tryd.pinned (.plain (OpenSpec.upto wbxmlAgainSpec)) wbxmlAgainUptoCard

/-- THE SECOND FORM's CARD OF 'cardcaselaw15.WbxmlShort'. -/
def wbxmlShortUptoCard : Claim7 := { stood := { row := wbxmlShortUptoRow, standIns := [], harness := (true, "0ce79d593f36e054bb48b6c3aad4541a5e7dc716c2ef58bd8a277bbaa09c159d"), looks := false }, kinds := [], alts := [], laidByText := true, laidKinds := [.data, .listed, .data, .pinned], laidTests := true, laidLooks := .later }
def WbxmlShortUptoCardSaid : Prop := Claim7.holds Tryd.pinned (.plain (OpenSpec.upto wbxmlShortSpec)) wbxmlShortUptoCard

/-- THE SECOND FORM's CARD OF 'cardcaselaw18.MetinfBack'. -/
def metinfBackUptoCard : Claim7 := { stood := { row := metinfBackUptoRow, standIns := [], harness := (true, "0ce79d593f36e054bb48b6c3aad4541a5e7dc716c2ef58bd8a277bbaa09c159d"), looks := false }, kinds := [], alts := [], laidByText := true, laidKinds := [.data, .listed, .data, .pinned], laidTests := true, laidLooks := .later }
def MetinfBackUptoCardSaid : Prop := Claim7.holds Tryd.pinned (.plain (OpenSpec.upto metinfBackSpec)) metinfBackUptoCard
end Rows
end Go.Proofs.YtamjpchpbceelaaDoor
