/-
  DERIVED. GIVEN WITH THE SEED: THE CARDS: each row of YtcpmgnejbfnnjaaDoorRows.lean that lists a variable, with what it lists TIED to the program's text (the seventh form; the later family's looks); each row that meets fmt, with fmt's text TOLD by the authors' own Lean function (tested against real Go, not proved from fmt's source: count such statements apart). THE CARD IS WHAT COUNTS. Prove the row's statement (the work); the ties are given (YtcpmgnejbfnnjaaDoorTie.lean); close each card by the builder's one call (the guide's Derived/Test/ToyasCard.lean, 'card_holds'). Laid BY PROGRAM, IN A SANDBOX (cutbox-door.mjs). By AI agents, Wed Nov 11 2026. No macro, syntax, notation, axiom, sorry.
-/
import Derived.Test.YtcpmgnejbfnnjaaDoorRows
import GoSem.ClaimSeven
namespace Go.Proofs.YtcpmgnejbfnnjaaDoor
namespace Rows

/-- THE TIED CARD OF 'cardcaselaw06.CharsetLetters'. -/
def charsetLettersCard : Claim7 := { stood := { row := charsetLettersRow, standIns := [], harness := (true, "8e2abc0a35c0e0b0c3703fa413a0659f3b04f52267a8139328fbedf998d5865e"), looks := false }, kinds := [], alts := [], laidByText := true, laidKinds := [.data, .pinned], laidTests := true, laidLooks := .later }
def CharsetLettersCardSaid : Prop := Claim7.holds Tryd.pinned (.plain (OpenSpec.ofChange charsetLettersSpec)) charsetLettersCard

/-- THE TIED CARD OF 'cardcaselaw14.VocabEach'. -/
def vocabEachCard : Claim7 := { stood := { row := vocabEachRow, standIns := [], harness := (true, "8e2abc0a35c0e0b0c3703fa413a0659f3b04f52267a8139328fbedf998d5865e"), looks := false }, kinds := [], alts := [], laidByText := true, laidKinds := [.data, .listed, .data, .pinned], laidTests := true, laidLooks := .later }
def VocabEachCardSaid : Prop := Claim7.holds Tryd.pinned (.plain (OpenSpec.ofChange vocabEachSpec)) vocabEachCard

/-- THE TIED CARD OF 'cardcaselaw06.CharsetTurns'. -/
def charsetTurnsCard : Claim7 := { stood := { row := charsetTurnsRow, standIns := [], harness := (true, "8e2abc0a35c0e0b0c3703fa413a0659f3b04f52267a8139328fbedf998d5865e"), looks := false }, kinds := [], alts := [], laidByText := true, laidKinds := [.data, .pinned], laidTests := true, laidLooks := .later }
def CharsetTurnsCardSaid : Prop := Claim7.holds Tryd.pinned (.plain (OpenSpec.ofChange charsetTurnsSpec)) charsetTurnsCard

/-- THE TIED CARD OF 'cardcaselaw06.CharsetBack'. -/
def charsetBackCard : Claim7 := { stood := { row := charsetBackRow, standIns := [], harness := (true, "8e2abc0a35c0e0b0c3703fa413a0659f3b04f52267a8139328fbedf998d5865e"), looks := false }, kinds := [], alts := [], laidByText := true, laidKinds := [.data, .pinned], laidTests := true, laidLooks := .later }
def CharsetBackCardSaid : Prop := Claim7.holds Tryd.pinned (.plain (OpenSpec.ofChange charsetBackSpec)) charsetBackCard

/-- THE TIED CARD OF 'cardcaselaw14.VocabTells'. -/
def vocabTellsCard : Claim7 := { stood := { row := vocabTellsRow, standIns := [], harness := (true, "8e2abc0a35c0e0b0c3703fa413a0659f3b04f52267a8139328fbedf998d5865e"), looks := false }, kinds := [], alts := [], laidByText := true, laidKinds := [.data, .listed, .data, .pinned], laidTests := true, laidLooks := .later }
def VocabTellsCardSaid : Prop := Claim7.holds Tryd.pinned (.plain (OpenSpec.ofChange vocabTellsSpec)) vocabTellsCard

/-- THE TIED CARD OF 'cardcaselaw14.VocabOne'. -/
def vocabOneCard : Claim7 := { stood := { row := vocabOneRow, standIns := [], harness := (true, "8e2abc0a35c0e0b0c3703fa413a0659f3b04f52267a8139328fbedf998d5865e"), looks := false }, kinds := [], alts := [], laidByText := true, laidKinds := [.data, .listed, .data, .pinned], laidTests := true, laidLooks := .later }
def VocabOneCardSaid : Prop := Claim7.holds Tryd.pinned (.plain (OpenSpec.ofChange vocabOneSpec)) vocabOneCard

/-- THE SECOND FORM's CARD OF 'cardcaselaw06.CharsetLetters'. -/
def charsetLettersUptoCard : Claim7 := { stood := { row := charsetLettersUptoRow, standIns := [], harness := (true, "8e2abc0a35c0e0b0c3703fa413a0659f3b04f52267a8139328fbedf998d5865e"), looks := false }, kinds := [], alts := [], laidByText := true, laidKinds := [.data, .pinned], laidTests := true, laidLooks := .later }
def CharsetLettersUptoCardSaid : Prop := Claim7.holds Tryd.pinned (.plain (OpenSpec.upto charsetLettersSpec)) charsetLettersUptoCard

/-- THE SECOND FORM's CARD OF 'cardcaselaw14.VocabEach'. -/
def vocabEachUptoCard : Claim7 := { stood := { row := vocabEachUptoRow, standIns := [], harness := (true, "8e2abc0a35c0e0b0c3703fa413a0659f3b04f52267a8139328fbedf998d5865e"), looks := false }, kinds := [], alts := [], laidByText := true, laidKinds := [.data, .listed, .data, .pinned], laidTests := true, laidLooks := .later }
def VocabEachUptoCardSaid : Prop := Claim7.holds Tryd.pinned (.plain (OpenSpec.upto vocabEachSpec)) vocabEachUptoCard

/-- THE SECOND FORM's CARD OF 'cardcaselaw06.CharsetTurns'. -/
def charsetTurnsUptoCard : Claim7 := { stood := { row := charsetTurnsUptoRow, standIns := [], harness := (true, "8e2abc0a35c0e0b0c3703fa413a0659f3b04f52267a8139328fbedf998d5865e"), looks := false }, kinds := [], alts := [], laidByText := true, laidKinds := [.data, .pinned], laidTests := true, laidLooks := .later }
def CharsetTurnsUptoCardSaid : Prop := Claim7.holds Tryd.pinned (.plain (OpenSpec.upto charsetTurnsSpec)) charsetTurnsUptoCard

/-- THE SECOND FORM's CARD OF 'cardcaselaw06.CharsetBack'. -/
def charsetBackUptoCard : Claim7 := { stood := { row := charsetBackUptoRow, standIns := [], harness := (true, "8e2abc0a35c0e0b0c3703fa413a0659f3b04f52267a8139328fbedf998d5865e"), looks := false }, kinds := [], alts := [], laidByText := true, laidKinds := [.data, .pinned], laidTests := true, laidLooks := .later }
def CharsetBackUptoCardSaid : Prop := Claim7.holds Tryd.pinned (.plain (OpenSpec.upto charsetBackSpec)) charsetBackUptoCard

/-- THE SECOND FORM's CARD OF 'cardcaselaw14.VocabTells'. -/
def vocabTellsUptoCard : Claim7 := { stood := { row := vocabTellsUptoRow, standIns := [], harness := (true, "8e2abc0a35c0e0b0c3703fa413a0659f3b04f52267a8139328fbedf998d5865e"), looks := false }, kinds := [], alts := [], laidByText := true, laidKinds := [.data, .listed, .data, .pinned], laidTests := true, laidLooks := .later }
def VocabTellsUptoCardSaid : Prop := Claim7.holds Tryd.pinned (.plain (OpenSpec.upto vocabTellsSpec)) vocabTellsUptoCard

/-- THE SECOND FORM's CARD OF 'cardcaselaw14.VocabOne'. -/
def vocabOneUptoCard : Claim7 := { stood := { row := vocabOneUptoRow, standIns := [], harness := (true, "8e2abc0a35c0e0b0c3703fa413a0659f3b04f52267a8139328fbedf998d5865e"), looks := false }, kinds := [], alts := [], laidByText := true, laidKinds := [.data, .listed, .data, .pinned], laidTests := true, laidLooks := .later }
def VocabOneUptoCardSaid : Prop := Claim7.holds Tryd.pinned (.plain (OpenSpec.upto vocabOneSpec)) vocabOneUptoCard
end Rows
end Go.Proofs.YtcpmgnejbfnnjaaDoor
