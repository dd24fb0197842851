/-
  No cell of these rows narrows 'for every input' (looked for: loops, veiled, ifaces, maps, wideKeys, modest, calm, conditions, laid).
  DERIVED. THE GIVEN ROWS OF THIS SEAT. 7 by the template 'for every input the law returns true; each argument reads behind the call as it read before'; 0 by the template 'total and deterministic' (their statements: YtcpmgnejbfnnjaaTotals.lean).
  GIVEN WITH THE SEED: the statements are not yours to turn. If you find one false, say at which input.
  Laid BY PROGRAM, IN A SANDBOX (cutbox-rows.mjs): the forced cells as the released guide's own fill.sh prints them over the translation 91cff61ef392f907… (all of the seat's roots in one cut). By AI agents, Wed Nov 11 2026. No macro, syntax, notation, axiom, sorry.
-/
import Derived.Test.YtcpmgnejbfnnjaaChecked
import GoSem.Claim
import GoSem.ClaimJoined
import GoSem.ClaimMapViews
import Derived.JoinedTies
import Derived.KernelRfl
namespace Go.Proofs.Ytcpmgnejbfnnjaa
/- THE CELL 'sum', in the pinned program and in every row, IS THE sha256 OF THE DUMP (.gsa) THAT YtcpmgnejbfnnjaaProg.lean LOADS. Nothing in Lean hashes anything: it is a label: what it is worth is what the hold of that sum in a sandbox is worth. -/
noncomputable def Try.pinned : Pinned := { name := "ytcpmgnejbfnnjaa", sum := "91cff61ef392f907b6963d87aeabd6a164373c32959339ed1197a6781f607553", checked := Try.checked }
namespace Rows
def none {H : Type} : Left H := { results := [], args := [] }

/-- 'cardcaselaw36.BoundGrows': WHATEVER THE INPUT: true; the input reads as it did. -/
def boundGrowsSpec : ChangeSpec := { name := "boundGrows", fn := fun _ => fun
  | [d1, d2] => { results := [.lit (.bool true)], args := [d1, d2] }
  | _ => none }
def boundGrowsRow : OpenClaim := { program := "ytcpmgnejbfnnjaa", sum := "91cff61ef392f907b6963d87aeabd6a164373c32959339ed1197a6781f607553", func := "cardcase/cardcaselaw36.BoundGrows", spec := "boundGrows", apart := false }
def BoundGrowsSaid : Prop := boundGrowsRow.holds Try.pinned (OpenSpec.ofChange boundGrowsSpec)

/-- ITS FALSE NEIGHBOUR: 'it returns false'. Refute it at one input. -/
def boundGrowsWrong : ChangeSpec := { name := "boundGrows", fn := fun _ => fun
  | [d1, d2] => { results := [.lit (.bool false)], args := [d1, d2] }
  | _ => none }
def BoundGrowsWrongFalsely : Prop := boundGrowsRow.holds Try.pinned (OpenSpec.ofChange boundGrowsWrong)

/-- 'cardcaselaw20.DevinfSpeaks': WHATEVER THE INPUT: true; the input reads as it did. -/
def devinfSpeaksSpec : ChangeSpec := { name := "devinfSpeaks", fn := fun _ => fun
  | [d1, d2] => { results := [.lit (.bool true)], args := [d1, d2] }
  | _ => none }
def devinfSpeaksRow : OpenClaim := { program := "ytcpmgnejbfnnjaa", sum := "91cff61ef392f907b6963d87aeabd6a164373c32959339ed1197a6781f607553", func := "cardcase/cardcaselaw20.DevinfSpeaks", spec := "devinfSpeaks", unfollowed := true, recurses := true, apart := false }
def DevinfSpeaksSaid : Prop := devinfSpeaksRow.holds Try.pinned (OpenSpec.ofChange devinfSpeaksSpec)

/-- ITS FALSE NEIGHBOUR: 'it returns false'. Refute it at one input. -/
def devinfSpeaksWrong : ChangeSpec := { name := "devinfSpeaks", fn := fun _ => fun
  | [d1, d2] => { results := [.lit (.bool false)], args := [d1, d2] }
  | _ => none }
def DevinfSpeaksWrongFalsely : Prop := devinfSpeaksRow.holds Try.pinned (OpenSpec.ofChange devinfSpeaksWrong)

/-- 'cardcaselaw06.CharsetNames': WHATEVER THE INPUT: true; the input reads as it did. -/
def charsetNamesSpec : ChangeSpec := { name := "charsetNames", fn := fun _ => fun
  | [d1, d2] => { results := [.lit (.bool true)], args := [d1, d2] }
  | _ => none }
def charsetNamesRow : OpenClaim := { program := "ytcpmgnejbfnnjaa", sum := "91cff61ef392f907b6963d87aeabd6a164373c32959339ed1197a6781f607553", func := "cardcase/cardcaselaw06.CharsetNames", spec := "charsetNames", apart := false }
def CharsetNamesSaid : Prop := charsetNamesRow.holds Try.pinned (OpenSpec.ofChange charsetNamesSpec)

/-- ITS FALSE NEIGHBOUR: 'it returns false'. Refute it at one input. -/
def charsetNamesWrong : ChangeSpec := { name := "charsetNames", fn := fun _ => fun
  | [d1, d2] => { results := [.lit (.bool false)], args := [d1, d2] }
  | _ => none }
def CharsetNamesWrongFalsely : Prop := charsetNamesRow.holds Try.pinned (OpenSpec.ofChange charsetNamesWrong)

/-- 'cardcaselaw36.BoundTells': WHATEVER THE INPUT: true; the input reads as it did. -/
def boundTellsSpec : ChangeSpec := { name := "boundTells", fn := fun _ => fun
  | [d1, d2] => { results := [.lit (.bool true)], args := [d1, d2] }
  | _ => none }
def boundTellsRow : OpenClaim := { program := "ytcpmgnejbfnnjaa", sum := "91cff61ef392f907b6963d87aeabd6a164373c32959339ed1197a6781f607553", func := "cardcase/cardcaselaw36.BoundTells", spec := "boundTells", apart := false }
def BoundTellsSaid : Prop := boundTellsRow.holds Try.pinned (OpenSpec.ofChange boundTellsSpec)

/-- ITS FALSE NEIGHBOUR: 'it returns false'. Refute it at one input. -/
def boundTellsWrong : ChangeSpec := { name := "boundTells", fn := fun _ => fun
  | [d1, d2] => { results := [.lit (.bool false)], args := [d1, d2] }
  | _ => none }
def BoundTellsWrongFalsely : Prop := boundTellsRow.holds Try.pinned (OpenSpec.ofChange boundTellsWrong)

/-- 'cardcaselaw09.PartsTells': WHATEVER THE INPUT: true; the input reads as it did. -/
def partsTellsSpec : ChangeSpec := { name := "partsTells", fn := fun _ => fun
  | [d1, d2] => { results := [.lit (.bool true)], args := [d1, d2] }
  | _ => none }
def partsTellsRow : OpenClaim := { program := "ytcpmgnejbfnnjaa", sum := "91cff61ef392f907b6963d87aeabd6a164373c32959339ed1197a6781f607553", func := "cardcase/cardcaselaw09.PartsTells", spec := "partsTells", inPlace := ["internal/abi.NoEscape"], unfollowed := true, recurses := true, apart := false }
def PartsTellsSaid : Prop := partsTellsRow.holds Try.pinned (OpenSpec.ofChange partsTellsSpec)

/-- ITS FALSE NEIGHBOUR: 'it returns false'. Refute it at one input. -/
def partsTellsWrong : ChangeSpec := { name := "partsTells", fn := fun _ => fun
  | [d1, d2] => { results := [.lit (.bool false)], args := [d1, d2] }
  | _ => none }
def PartsTellsWrongFalsely : Prop := partsTellsRow.holds Try.pinned (OpenSpec.ofChange partsTellsWrong)

/-- 'cardcaselaw09.PartsBack': WHATEVER THE INPUT: true; the input reads as it did. -/
def partsBackSpec : ChangeSpec := { name := "partsBack", fn := fun _ => fun
  | [d1, d2] => { results := [.lit (.bool true)], args := [d1, d2] }
  | _ => none }
def partsBackRow : OpenClaim := { program := "ytcpmgnejbfnnjaa", sum := "91cff61ef392f907b6963d87aeabd6a164373c32959339ed1197a6781f607553", func := "cardcase/cardcaselaw09.PartsBack", spec := "partsBack", inPlace := ["internal/abi.NoEscape"], unfollowed := true, recurses := true, apart := false }
def PartsBackSaid : Prop := partsBackRow.holds Try.pinned (OpenSpec.ofChange partsBackSpec)

/-- ITS FALSE NEIGHBOUR: 'it returns false'. Refute it at one input. -/
def partsBackWrong : ChangeSpec := { name := "partsBack", fn := fun _ => fun
  | [d1, d2] => { results := [.lit (.bool false)], args := [d1, d2] }
  | _ => none }
def PartsBackWrongFalsely : Prop := partsBackRow.holds Try.pinned (OpenSpec.ofChange partsBackWrong)

/-- 'cardcaselaw09.PartsEach': WHATEVER THE INPUT: true; the input reads as it did. -/
def partsEachSpec : ChangeSpec := { name := "partsEach", fn := fun _ => fun
  | [d1, d2] => { results := [.lit (.bool true)], args := [d1, d2] }
  | _ => none }
def partsEachRow : OpenClaim := { program := "ytcpmgnejbfnnjaa", sum := "91cff61ef392f907b6963d87aeabd6a164373c32959339ed1197a6781f607553", func := "cardcase/cardcaselaw09.PartsEach", spec := "partsEach", inPlace := ["internal/abi.NoEscape"], unfollowed := true, recurses := true, apart := false }
def PartsEachSaid : Prop := partsEachRow.holds Try.pinned (OpenSpec.ofChange partsEachSpec)

/-- ITS FALSE NEIGHBOUR: 'it returns false'. Refute it at one input. -/
def partsEachWrong : ChangeSpec := { name := "partsEach", fn := fun _ => fun
  | [d1, d2] => { results := [.lit (.bool false)], args := [d1, d2] }
  | _ => none }
def PartsEachWrongFalsely : Prop := partsEachRow.holds Try.pinned (OpenSpec.ofChange partsEachWrong)

/- THE SECOND FORM. 'bulk': how many values and letters a reading holds, each counted each time it is reached (what is shared counts as often as it is met; a slice's spare places count too). A statement '..UptoSaid' is the law's where the arguments, and the package variables that the reading takes, are together of bulk at most 1048576: NARROWER than '..Said'. Prove '..Said' where nothing that the law and all that it calls make is longer than what came in: it says more and counts as full. Else prove '..UptoSaid'. A law counts once. -/
mutual
def uptoBulk {H : Type} : DataW H → Nat
  | .lit (.string bytes) => bytes.length + 1
  | .lit _ => 1
  | .nil => 1
  | .ptr d => uptoBulk d + 1
  | .slice elems spare => uptoBulkAll elems + uptoBulkAll spare + 1
  | .agg parts => uptoBulkAll parts + 1
  | .iface _ d => uptoBulk d + 1
  | .map entries => uptoBulkEntries entries + 1
  | .held _ => 1
def uptoBulkAll {H : Type} : List (DataW H) → Nat
  | [] => 0
  | d :: r => uptoBulk d + uptoBulkAll r
def uptoBulkEntries {H : Type} : List (Lit × DataW H) → Nat
  | [] => 0
  | x :: r => uptoBulkEntry x + uptoBulkEntries r
def uptoBulkEntry {H : Type} : Lit × DataW H → Nat
  | (.string bytes, d) => bytes.length + uptoBulk d + 1
  | (_, d) => uptoBulk d + 1
 end
def uptoSmall : (H : Type) → List (DataW H) → Bool := fun _ ds => decide (uptoBulkAll ds ≤ 1048576)
def OpenSpec.upto (s : _root_.Go.ChangeSpec) : _root_.Go.OpenSpec := { _root_.Go.OpenSpec.ofChange s with cond := some uptoSmall }

/-- 'cardcaselaw36.BoundGrows', WHERE WHAT IT READS IS OF BULK AT MOST 1048576: true; the input reads as it did. -/
def boundGrowsUptoRow : OpenClaim := { program := "ytcpmgnejbfnnjaa", sum := "91cff61ef392f907b6963d87aeabd6a164373c32959339ed1197a6781f607553", func := "cardcase/cardcaselaw36.BoundGrows", spec := "boundGrows", apart := false, narrowed := true }
def BoundGrowsUptoSaid : Prop := boundGrowsUptoRow.holds Try.pinned (OpenSpec.upto boundGrowsSpec)

/-- 'cardcaselaw20.DevinfSpeaks', WHERE WHAT IT READS IS OF BULK AT MOST 1048576: true; the input reads as it did. -/
def devinfSpeaksUptoRow : OpenClaim := { program := "ytcpmgnejbfnnjaa", sum := "91cff61ef392f907b6963d87aeabd6a164373c32959339ed1197a6781f607553", func := "cardcase/cardcaselaw20.DevinfSpeaks", spec := "devinfSpeaks", unfollowed := true, recurses := true, apart := false, narrowed := true }
def DevinfSpeaksUptoSaid : Prop := devinfSpeaksUptoRow.holds Try.pinned (OpenSpec.upto devinfSpeaksSpec)

/-- 'cardcaselaw06.CharsetNames', WHERE WHAT IT READS IS OF BULK AT MOST 1048576: true; the input reads as it did. -/
def charsetNamesUptoRow : OpenClaim := { program := "ytcpmgnejbfnnjaa", sum := "91cff61ef392f907b6963d87aeabd6a164373c32959339ed1197a6781f607553", func := "cardcase/cardcaselaw06.CharsetNames", spec := "charsetNames", apart := false, narrowed := true }
def CharsetNamesUptoSaid : Prop := charsetNamesUptoRow.holds Try.pinned (OpenSpec.upto charsetNamesSpec)

/-- 'cardcaselaw36.BoundTells', WHERE WHAT IT READS IS OF BULK AT MOST 1048576: true; the input reads as it did. -/
def boundTellsUptoRow : OpenClaim := { program := "ytcpmgnejbfnnjaa", sum := "91cff61ef392f907b6963d87aeabd6a164373c32959339ed1197a6781f607553", func := "cardcase/cardcaselaw36.BoundTells", spec := "boundTells", apart := false, narrowed := true }
def BoundTellsUptoSaid : Prop := boundTellsUptoRow.holds Try.pinned (OpenSpec.upto boundTellsSpec)

/-- 'cardcaselaw09.PartsTells', WHERE WHAT IT READS IS OF BULK AT MOST 1048576: true; the input reads as it did. -/
def partsTellsUptoRow : OpenClaim := { program := "ytcpmgnejbfnnjaa", sum := "91cff61ef392f907b6963d87aeabd6a164373c32959339ed1197a6781f607553", func := "cardcase/cardcaselaw09.PartsTells", spec := "partsTells", inPlace := ["internal/abi.NoEscape"], unfollowed := true, recurses := true, apart := false, narrowed := true }
def PartsTellsUptoSaid : Prop := partsTellsUptoRow.holds Try.pinned (OpenSpec.upto partsTellsSpec)

/-- 'cardcaselaw09.PartsBack', WHERE WHAT IT READS IS OF BULK AT MOST 1048576: true; the input reads as it did. -/
def partsBackUptoRow : OpenClaim := { program := "ytcpmgnejbfnnjaa", sum := "91cff61ef392f907b6963d87aeabd6a164373c32959339ed1197a6781f607553", func := "cardcase/cardcaselaw09.PartsBack", spec := "partsBack", inPlace := ["internal/abi.NoEscape"], unfollowed := true, recurses := true, apart := false, narrowed := true }
def PartsBackUptoSaid : Prop := partsBackUptoRow.holds Try.pinned (OpenSpec.upto partsBackSpec)

/-- 'cardcaselaw09.PartsEach', WHERE WHAT IT READS IS OF BULK AT MOST 1048576: true; the input reads as it did. -/
def partsEachUptoRow : OpenClaim := { program := "ytcpmgnejbfnnjaa", sum := "91cff61ef392f907b6963d87aeabd6a164373c32959339ed1197a6781f607553", func := "cardcase/cardcaselaw09.PartsEach", spec := "partsEach", inPlace := ["internal/abi.NoEscape"], unfollowed := true, recurses := true, apart := false, narrowed := true }
def PartsEachUptoSaid : Prop := partsEachUptoRow.holds Try.pinned (OpenSpec.upto partsEachSpec)

end Rows
end Go.Proofs.Ytcpmgnejbfnnjaa
