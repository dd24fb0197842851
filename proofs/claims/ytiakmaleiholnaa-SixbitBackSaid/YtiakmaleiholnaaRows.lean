/-
  No cell of these rows narrows 'for every input' (looked for: loops, veiled, ifaces, maps, wideKeys, modest, calm, conditions, laid).
  DERIVED. THE GIVEN ROWS OF THIS SEAT. 13 by the template 'for every input the law returns true; each argument reads behind the call as it read before'; 0 by the template 'total and deterministic' (their statements: YtiakmaleiholnaaTotals.lean).
  GIVEN WITH THE SEED: the statements are not yours to turn. If you find one false, say at which input.
  Laid BY PROGRAM, IN A SANDBOX (cutbox-rows.mjs): the forced cells as the released guide's own fill.sh prints them over the translation 8b867d7836fc7460… (all of the seat's roots in one cut). By AI agents, Wed Nov 11 2026. No macro, syntax, notation, axiom, sorry.
-/
import Derived.Test.YtiakmaleiholnaaChecked
import GoSem.Claim
import GoSem.ClaimJoined
import GoSem.ClaimMapViews
import Derived.JoinedTies
import Derived.KernelRfl
namespace Go.Proofs.Ytiakmaleiholnaa
/- THE CELL 'sum', in the pinned program and in every row, IS THE sha256 OF THE DUMP (.gsa) THAT YtiakmaleiholnaaProg.lean LOADS. Nothing in Lean hashes anything: it is a label: what it is worth is what the hold of that sum in a sandbox is worth. -/
noncomputable def Try.pinned : Pinned := { name := "ytiakmaleiholnaa", sum := "8b867d7836fc7460535965bdd9767c0da6eaacc8be1f7fd665101ab5d04b2b4b", checked := Try.checked }
namespace Rows
def none {H : Type} : Left H := { results := [], args := [] }

/-- 'cardcaselaw01.FigureWithin': WHATEVER THE INPUT: true; the input reads as it did. -/
def figureWithinSpec : ChangeSpec := { name := "figureWithin", fn := fun _ => fun
  | [d1, d2, d3] => { results := [.lit (.bool true)], args := [d1, d2, d3] }
  | _ => none }
def figureWithinRow : OpenClaim := { program := "ytiakmaleiholnaa", sum := "8b867d7836fc7460535965bdd9767c0da6eaacc8be1f7fd665101ab5d04b2b4b", func := "cardcase/cardcaselaw01.FigureWithin", spec := "figureWithin", apart := false }
def FigureWithinSaid : Prop := figureWithinRow.holds Try.pinned (OpenSpec.ofChange figureWithinSpec)

/-- ITS FALSE NEIGHBOUR: 'it returns false'. Refute it at one input. -/
def figureWithinWrong : ChangeSpec := { name := "figureWithin", fn := fun _ => fun
  | [d1, d2, d3] => { results := [.lit (.bool false)], args := [d1, d2, d3] }
  | _ => none }
def FigureWithinWrongFalsely : Prop := figureWithinRow.holds Try.pinned (OpenSpec.ofChange figureWithinWrong)

/-- 'cardcaselaw05.SixbitLines': WHATEVER THE INPUT: true; the input reads as it did. -/
def sixbitLinesSpec : ChangeSpec := { name := "sixbitLines", fn := fun _ => fun
  | [d1, d2, d3] => { results := [.lit (.bool true)], args := [d1, d2, d3] }
  | _ => none }
def sixbitLinesRow : OpenClaim := { program := "ytiakmaleiholnaa", sum := "8b867d7836fc7460535965bdd9767c0da6eaacc8be1f7fd665101ab5d04b2b4b", func := "cardcase/cardcaselaw05.SixbitLines", spec := "sixbitLines", unfollowed := true, recurses := true, apart := false }
def SixbitLinesSaid : Prop := sixbitLinesRow.holds Try.pinned (OpenSpec.ofChange sixbitLinesSpec)

/-- ITS FALSE NEIGHBOUR: 'it returns false'. Refute it at one input. -/
def sixbitLinesWrong : ChangeSpec := { name := "sixbitLines", fn := fun _ => fun
  | [d1, d2, d3] => { results := [.lit (.bool false)], args := [d1, d2, d3] }
  | _ => none }
def SixbitLinesWrongFalsely : Prop := sixbitLinesRow.holds Try.pinned (OpenSpec.ofChange sixbitLinesWrong)

/-- 'cardcaselaw02.MbintWrites': WHATEVER THE INPUT: true; the input reads as it did. -/
def mbintWritesSpec : ChangeSpec := { name := "mbintWrites", fn := fun _ => fun
  | [d] => { results := [.lit (.bool true)], args := [d] }
  | _ => none }
def mbintWritesRow : OpenClaim := { program := "ytiakmaleiholnaa", sum := "8b867d7836fc7460535965bdd9767c0da6eaacc8be1f7fd665101ab5d04b2b4b", func := "cardcase/cardcaselaw02.MbintWrites", spec := "mbintWrites", apart := false }
def MbintWritesSaid : Prop := mbintWritesRow.holds Try.pinned (OpenSpec.ofChange mbintWritesSpec)

/-- ITS FALSE NEIGHBOUR: 'it returns false'. Refute it at one input. -/
def mbintWritesWrong : ChangeSpec := { name := "mbintWrites", fn := fun _ => fun
  | [d] => { results := [.lit (.bool false)], args := [d] }
  | _ => none }
def MbintWritesWrongFalsely : Prop := mbintWritesRow.holds Try.pinned (OpenSpec.ofChange mbintWritesWrong)

/-- 'cardcaselaw01.FigureReads': WHATEVER THE INPUT: true; the input reads as it did. -/
def figureReadsSpec : ChangeSpec := { name := "figureReads", fn := fun _ => fun
  | [d] => { results := [.lit (.bool true)], args := [d] }
  | _ => none }
def figureReadsRow : OpenClaim := { program := "ytiakmaleiholnaa", sum := "8b867d7836fc7460535965bdd9767c0da6eaacc8be1f7fd665101ab5d04b2b4b", func := "cardcase/cardcaselaw01.FigureReads", spec := "figureReads", apart := false }
def FigureReadsSaid : Prop := figureReadsRow.holds Try.pinned (OpenSpec.ofChange figureReadsSpec)

/-- ITS FALSE NEIGHBOUR: 'it returns false'. Refute it at one input. -/
def figureReadsWrong : ChangeSpec := { name := "figureReads", fn := fun _ => fun
  | [d] => { results := [.lit (.bool false)], args := [d] }
  | _ => none }
def FigureReadsWrongFalsely : Prop := figureReadsRow.holds Try.pinned (OpenSpec.ofChange figureReadsWrong)

/-- 'cardcaselaw01.FigureHexes': WHATEVER THE INPUT: true; the input reads as it did. -/
def figureHexesSpec : ChangeSpec := { name := "figureHexes", fn := fun _ => fun
  | [d] => { results := [.lit (.bool true)], args := [d] }
  | _ => none }
def figureHexesRow : OpenClaim := { program := "ytiakmaleiholnaa", sum := "8b867d7836fc7460535965bdd9767c0da6eaacc8be1f7fd665101ab5d04b2b4b", func := "cardcase/cardcaselaw01.FigureHexes", spec := "figureHexes", inPlace := ["internal/bytealg.IndexByteString"], apart := false }
def FigureHexesSaid : Prop := figureHexesRow.holds Try.pinned (OpenSpec.ofChange figureHexesSpec)

/-- ITS FALSE NEIGHBOUR: 'it returns false'. Refute it at one input. -/
def figureHexesWrong : ChangeSpec := { name := "figureHexes", fn := fun _ => fun
  | [d] => { results := [.lit (.bool false)], args := [d] }
  | _ => none }
def FigureHexesWrongFalsely : Prop := figureHexesRow.holds Try.pinned (OpenSpec.ofChange figureHexesWrong)

/-- 'cardcaselaw01.FigureWrites': WHATEVER THE INPUT: true; the input reads as it did. -/
def figureWritesSpec : ChangeSpec := { name := "figureWrites", fn := fun _ => fun
  | [d1, d2] => { results := [.lit (.bool true)], args := [d1, d2] }
  | _ => none }
def figureWritesRow : OpenClaim := { program := "ytiakmaleiholnaa", sum := "8b867d7836fc7460535965bdd9767c0da6eaacc8be1f7fd665101ab5d04b2b4b", func := "cardcase/cardcaselaw01.FigureWrites", spec := "figureWrites", unfollowed := true, recurses := true, apart := false }
def FigureWritesSaid : Prop := figureWritesRow.holds Try.pinned (OpenSpec.ofChange figureWritesSpec)

/-- ITS FALSE NEIGHBOUR: 'it returns false'. Refute it at one input. -/
def figureWritesWrong : ChangeSpec := { name := "figureWrites", fn := fun _ => fun
  | [d1, d2] => { results := [.lit (.bool false)], args := [d1, d2] }
  | _ => none }
def FigureWritesWrongFalsely : Prop := figureWritesRow.holds Try.pinned (OpenSpec.ofChange figureWritesWrong)

/-- 'cardcaselaw05.SixbitReads': WHATEVER THE INPUT: true; the input reads as it did. -/
def sixbitReadsSpec : ChangeSpec := { name := "sixbitReads", fn := fun _ => fun
  | [d] => { results := [.lit (.bool true)], args := [d] }
  | _ => none }
def sixbitReadsRow : OpenClaim := { program := "ytiakmaleiholnaa", sum := "8b867d7836fc7460535965bdd9767c0da6eaacc8be1f7fd665101ab5d04b2b4b", func := "cardcase/cardcaselaw05.SixbitReads", spec := "sixbitReads", inPlace := ["internal/bytealg.IndexByteString"], apart := false }
def SixbitReadsSaid : Prop := sixbitReadsRow.holds Try.pinned (OpenSpec.ofChange sixbitReadsSpec)

/-- ITS FALSE NEIGHBOUR: 'it returns false'. Refute it at one input. -/
def sixbitReadsWrong : ChangeSpec := { name := "sixbitReads", fn := fun _ => fun
  | [d] => { results := [.lit (.bool false)], args := [d] }
  | _ => none }
def SixbitReadsWrongFalsely : Prop := sixbitReadsRow.holds Try.pinned (OpenSpec.ofChange sixbitReadsWrong)

/-- 'cardcaselaw05.SixbitWrites': WHATEVER THE INPUT: true; the input reads as it did. -/
def sixbitWritesSpec : ChangeSpec := { name := "sixbitWrites", fn := fun _ => fun
  | [d] => { results := [.lit (.bool true)], args := [d] }
  | _ => none }
def sixbitWritesRow : OpenClaim := { program := "ytiakmaleiholnaa", sum := "8b867d7836fc7460535965bdd9767c0da6eaacc8be1f7fd665101ab5d04b2b4b", func := "cardcase/cardcaselaw05.SixbitWrites", spec := "sixbitWrites", inPlace := ["internal/abi.NoEscape"], unfollowed := true, recurses := true, apart := false }
def SixbitWritesSaid : Prop := sixbitWritesRow.holds Try.pinned (OpenSpec.ofChange sixbitWritesSpec)

/-- ITS FALSE NEIGHBOUR: 'it returns false'. Refute it at one input. -/
def sixbitWritesWrong : ChangeSpec := { name := "sixbitWrites", fn := fun _ => fun
  | [d] => { results := [.lit (.bool false)], args := [d] }
  | _ => none }
def SixbitWritesWrongFalsely : Prop := sixbitWritesRow.holds Try.pinned (OpenSpec.ofChange sixbitWritesWrong)

/-- 'cardcaselaw02.MbintOrder': WHATEVER THE INPUT: true; the input reads as it did. -/
def mbintOrderSpec : ChangeSpec := { name := "mbintOrder", fn := fun _ => fun
  | [d1, d2] => { results := [.lit (.bool true)], args := [d1, d2] }
  | _ => none }
def mbintOrderRow : OpenClaim := { program := "ytiakmaleiholnaa", sum := "8b867d7836fc7460535965bdd9767c0da6eaacc8be1f7fd665101ab5d04b2b4b", func := "cardcase/cardcaselaw02.MbintOrder", spec := "mbintOrder", inPlace := ["internal/bytealg.IndexByteString"], unfollowed := true, recurses := true, apart := false }
def MbintOrderSaid : Prop := mbintOrderRow.holds Try.pinned (OpenSpec.ofChange mbintOrderSpec)

/-- ITS FALSE NEIGHBOUR: 'it returns false'. Refute it at one input. -/
def mbintOrderWrong : ChangeSpec := { name := "mbintOrder", fn := fun _ => fun
  | [d1, d2] => { results := [.lit (.bool false)], args := [d1, d2] }
  | _ => none }
def MbintOrderWrongFalsely : Prop := mbintOrderRow.holds Try.pinned (OpenSpec.ofChange mbintOrderWrong)

/-- 'cardcaselaw02.MbintBack': WHATEVER THE INPUT: true; the input reads as it did. -/
def mbintBackSpec : ChangeSpec := { name := "mbintBack", fn := fun _ => fun
  | [d1, d2] => { results := [.lit (.bool true)], args := [d1, d2] }
  | _ => none }
def mbintBackRow : OpenClaim := { program := "ytiakmaleiholnaa", sum := "8b867d7836fc7460535965bdd9767c0da6eaacc8be1f7fd665101ab5d04b2b4b", func := "cardcase/cardcaselaw02.MbintBack", spec := "mbintBack", inPlace := ["internal/bytealg.IndexByteString"], unfollowed := true, recurses := true, apart := false }
def MbintBackSaid : Prop := mbintBackRow.holds Try.pinned (OpenSpec.ofChange mbintBackSpec)

/-- ITS FALSE NEIGHBOUR: 'it returns false'. Refute it at one input. -/
def mbintBackWrong : ChangeSpec := { name := "mbintBack", fn := fun _ => fun
  | [d1, d2] => { results := [.lit (.bool false)], args := [d1, d2] }
  | _ => none }
def MbintBackWrongFalsely : Prop := mbintBackRow.holds Try.pinned (OpenSpec.ofChange mbintBackWrong)

/-- 'cardcaselaw01.FigureBack': WHATEVER THE INPUT: true; the input reads as it did. -/
def figureBackSpec : ChangeSpec := { name := "figureBack", fn := fun _ => fun
  | [d1, d2] => { results := [.lit (.bool true)], args := [d1, d2] }
  | _ => none }
def figureBackRow : OpenClaim := { program := "ytiakmaleiholnaa", sum := "8b867d7836fc7460535965bdd9767c0da6eaacc8be1f7fd665101ab5d04b2b4b", func := "cardcase/cardcaselaw01.FigureBack", spec := "figureBack", inPlace := ["internal/bytealg.IndexByteString"], unfollowed := true, recurses := true, apart := false }
def FigureBackSaid : Prop := figureBackRow.holds Try.pinned (OpenSpec.ofChange figureBackSpec)

/-- ITS FALSE NEIGHBOUR: 'it returns false'. Refute it at one input. -/
def figureBackWrong : ChangeSpec := { name := "figureBack", fn := fun _ => fun
  | [d1, d2] => { results := [.lit (.bool false)], args := [d1, d2] }
  | _ => none }
def FigureBackWrongFalsely : Prop := figureBackRow.holds Try.pinned (OpenSpec.ofChange figureBackWrong)

/-- 'cardcaselaw02.MbintReads': WHATEVER THE INPUT: true; the input reads as it did. -/
def mbintReadsSpec : ChangeSpec := { name := "mbintReads", fn := fun _ => fun
  | [d1, d2] => { results := [.lit (.bool true)], args := [d1, d2] }
  | _ => none }
def mbintReadsRow : OpenClaim := { program := "ytiakmaleiholnaa", sum := "8b867d7836fc7460535965bdd9767c0da6eaacc8be1f7fd665101ab5d04b2b4b", func := "cardcase/cardcaselaw02.MbintReads", spec := "mbintReads", inPlace := ["internal/bytealg.IndexByteString"], unfollowed := true, recurses := true, apart := false }
def MbintReadsSaid : Prop := mbintReadsRow.holds Try.pinned (OpenSpec.ofChange mbintReadsSpec)

/-- ITS FALSE NEIGHBOUR: 'it returns false'. Refute it at one input. -/
def mbintReadsWrong : ChangeSpec := { name := "mbintReads", fn := fun _ => fun
  | [d1, d2] => { results := [.lit (.bool false)], args := [d1, d2] }
  | _ => none }
def MbintReadsWrongFalsely : Prop := mbintReadsRow.holds Try.pinned (OpenSpec.ofChange mbintReadsWrong)

/-- 'cardcaselaw05.SixbitBack': WHATEVER THE INPUT: true; the input reads as it did. -/
def sixbitBackSpec : ChangeSpec := { name := "sixbitBack", fn := fun _ => fun
  | [d1, d2] => { results := [.lit (.bool true)], args := [d1, d2] }
  | _ => none }
def sixbitBackRow : OpenClaim := { program := "ytiakmaleiholnaa", sum := "8b867d7836fc7460535965bdd9767c0da6eaacc8be1f7fd665101ab5d04b2b4b", func := "cardcase/cardcaselaw05.SixbitBack", spec := "sixbitBack", inPlace := ["internal/abi.NoEscape", "internal/bytealg.IndexByteString"], unfollowed := true, recurses := true, apart := false }
def SixbitBackSaid : Prop := sixbitBackRow.holds Try.pinned (OpenSpec.ofChange sixbitBackSpec)

/-- ITS FALSE NEIGHBOUR: 'it returns false'. Refute it at one input. -/
def sixbitBackWrong : ChangeSpec := { name := "sixbitBack", fn := fun _ => fun
  | [d1, d2] => { results := [.lit (.bool false)], args := [d1, d2] }
  | _ => none }
def SixbitBackWrongFalsely : Prop := sixbitBackRow.holds Try.pinned (OpenSpec.ofChange sixbitBackWrong)

/- THE SECOND FORM. 'bulk': how many values and letters a reading holds, each counted each time it is reached (what is shared counts as often as it is met; a slice's spare places count too). A statement '..UptoSaid' is the law's where the arguments, and the package variables that the reading takes, are together of bulk at most 1048576: NARROWER than '..Said'. Prove '..Said' where nothing that the law and all that it calls make is longer than what came in: it says more and counts as full. Else prove '..UptoSaid'. A law counts once. -/
mutual
def uptoBulk {H : Type} : DataW H → Nat
  | .lit (.string bytes) => bytes.length + 1
  | .lit _ => 1
  | .nil => 1
  | .ptr d => uptoBulk d + 1
  | .slice elems spare => uptoBulkAll elems + uptoBulkAll spare + 1
  | .agg parts => uptoBulkAll parts + 1
  | .iface _ d => uptoBulk d + 1
  | .map entries => uptoBulkEntries entries + 1
  | .held _ => 1
def uptoBulkAll {H : Type} : List (DataW H) → Nat
  | [] => 0
  | d :: r => uptoBulk d + uptoBulkAll r
def uptoBulkEntries {H : Type} : List (Lit × DataW H) → Nat
  | [] => 0
  | x :: r => uptoBulkEntry x + uptoBulkEntries r
def uptoBulkEntry {H : Type} : Lit × DataW H → Nat
  | (.string bytes, d) => bytes.length + uptoBulk d + 1
  | (_, d) => uptoBulk d + 1
 end
def uptoSmall : (H : Type) → List (DataW H) → Bool := fun _ ds => decide (uptoBulkAll ds ≤ 1048576)
def OpenSpec.upto (s : _root_.Go.ChangeSpec) : _root_.Go.OpenSpec := { _root_.Go.OpenSpec.ofChange s with cond := some uptoSmall }

/-- 'cardcaselaw01.FigureWithin', WHERE WHAT IT READS IS OF BULK AT MOST 1048576: true; the input reads as it did. -/
def figureWithinUptoRow : OpenClaim := { program := "ytiakmaleiholnaa", sum := "8b867d7836fc7460535965bdd9767c0da6eaacc8be1f7fd665101ab5d04b2b4b", func := "cardcase/cardcaselaw01.FigureWithin", spec := "figureWithin", apart := false, narrowed := true }
def FigureWithinUptoSaid : Prop := figureWithinUptoRow.holds Try.pinned (OpenSpec.upto figureWithinSpec)

/-- 'cardcaselaw05.SixbitLines', WHERE WHAT IT READS IS OF BULK AT MOST 1048576: true; the input reads as it did. -/
def sixbitLinesUptoRow : OpenClaim := { program := "ytiakmaleiholnaa", sum := "8b867d7836fc7460535965bdd9767c0da6eaacc8be1f7fd665101ab5d04b2b4b", func := "cardcase/cardcaselaw05.SixbitLines", spec := "sixbitLines", unfollowed := true, recurses := true, apart := false, narrowed := true }
def SixbitLinesUptoSaid : Prop := sixbitLinesUptoRow.holds Try.pinned (OpenSpec.upto sixbitLinesSpec)

/-- 'cardcaselaw02.MbintWrites', WHERE WHAT IT READS IS OF BULK AT MOST 1048576: true; the input reads as it did. -/
def mbintWritesUptoRow : OpenClaim := { program := "ytiakmaleiholnaa", sum := "8b867d7836fc7460535965bdd9767c0da6eaacc8be1f7fd665101ab5d04b2b4b", func := "cardcase/cardcaselaw02.MbintWrites", spec := "mbintWrites", apart := false, narrowed := true }
def MbintWritesUptoSaid : Prop := mbintWritesUptoRow.holds Try.pinned (OpenSpec.upto mbintWritesSpec)

/-- 'cardcaselaw01.FigureReads', WHERE WHAT IT READS IS OF BULK AT MOST 1048576: true; the input reads as it did. -/
def figureReadsUptoRow : OpenClaim := { program := "ytiakmaleiholnaa", sum := "8b867d7836fc7460535965bdd9767c0da6eaacc8be1f7fd665101ab5d04b2b4b", func := "cardcase/cardcaselaw01.FigureReads", spec := "figureReads", apart := false, narrowed := true }
def FigureReadsUptoSaid : Prop := figureReadsUptoRow.holds Try.pinned (OpenSpec.upto figureReadsSpec)

/-- 'cardcaselaw01.FigureHexes', WHERE WHAT IT READS IS OF BULK AT MOST 1048576: true; the input reads as it did. -/
def figureHexesUptoRow : OpenClaim := { program := "ytiakmaleiholnaa", sum := "8b867d7836fc7460535965bdd9767c0da6eaacc8be1f7fd665101ab5d04b2b4b", func := "cardcase/cardcaselaw01.FigureHexes", spec := "figureHexes", inPlace := ["internal/bytealg.IndexByteString"], apart := false, narrowed := true }
def FigureHexesUptoSaid : Prop := figureHexesUptoRow.holds Try.pinned (OpenSpec.upto figureHexesSpec)

/-- 'cardcaselaw01.FigureWrites', WHERE WHAT IT READS IS OF BULK AT MOST 1048576: true; the input reads as it did. -/
def figureWritesUptoRow : OpenClaim := { program := "ytiakmaleiholnaa", sum := "8b867d7836fc7460535965bdd9767c0da6eaacc8be1f7fd665101ab5d04b2b4b", func := "cardcase/cardcaselaw01.FigureWrites", spec := "figureWrites", unfollowed := true, recurses := true, apart := false, narrowed := true }
def FigureWritesUptoSaid : Prop := figureWritesUptoRow.holds Try.pinned (OpenSpec.upto figureWritesSpec)

/-- 'cardcaselaw05.SixbitReads', WHERE WHAT IT READS IS OF BULK AT MOST 1048576: true; the input reads as it did. -/
def sixbitReadsUptoRow : OpenClaim := { program := "ytiakmaleiholnaa", sum := "8b867d7836fc7460535965bdd9767c0da6eaacc8be1f7fd665101ab5d04b2b4b", func := "cardcase/cardcaselaw05.SixbitReads", spec := "sixbitReads", inPlace := ["internal/bytealg.IndexByteString"], apart := false, narrowed := true }
def SixbitReadsUptoSaid : Prop := sixbitReadsUptoRow.holds Try.pinned (OpenSpec.upto sixbitReadsSpec)

/-- 'cardcaselaw05.SixbitWrites', WHERE WHAT IT READS IS OF BULK AT MOST 1048576: true; the input reads as it did. -/
def sixbitWritesUptoRow : OpenClaim := { program := "ytiakmaleiholnaa", sum := "8b867d7836fc7460535965bdd9767c0da6eaacc8be1f7fd665101ab5d04b2b4b", func := "cardcase/cardcaselaw05.SixbitWrites", spec := "sixbitWrites", inPlace := ["internal/abi.NoEscape"], unfollowed := true, recurses := true, apart := false, narrowed := true }
def SixbitWritesUptoSaid : Prop := sixbitWritesUptoRow.holds Try.pinned (OpenSpec.upto sixbitWritesSpec)

/-- 'cardcaselaw02.MbintOrder', WHERE WHAT IT READS IS OF BULK AT MOST 1048576: true; the input reads as it did. -/
def mbintOrderUptoRow : OpenClaim := { program := "ytiakmaleiholnaa", sum := "8b867d7836fc7460535965bdd9767c0da6eaacc8be1f7fd665101ab5d04b2b4b", func := "cardcase/cardcaselaw02.MbintOrder", spec := "mbintOrder", inPlace := ["internal/bytealg.IndexByteString"], unfollowed := true, recurses := true, apart := false, narrowed := true }
def MbintOrderUptoSaid : Prop := mbintOrderUptoRow.holds Try.pinned (OpenSpec.upto mbintOrderSpec)

/-- 'cardcaselaw02.MbintBack', WHERE WHAT IT READS IS OF BULK AT MOST 1048576: true; the input reads as it did. -/
def mbintBackUptoRow : OpenClaim := { program := "ytiakmaleiholnaa", sum := "8b867d7836fc7460535965bdd9767c0da6eaacc8be1f7fd665101ab5d04b2b4b", func := "cardcase/cardcaselaw02.MbintBack", spec := "mbintBack", inPlace := ["internal/bytealg.IndexByteString"], unfollowed := true, recurses := true, apart := false, narrowed := true }
def MbintBackUptoSaid : Prop := mbintBackUptoRow.holds Try.pinned (OpenSpec.upto mbintBackSpec)

/-- 'cardcaselaw01.FigureBack', WHERE WHAT IT READS IS OF BULK AT MOST 1048576: true; the input reads as it did. -/
def figureBackUptoRow : OpenClaim := { program := "ytiakmaleiholnaa", sum := "8b867d7836fc7460535965bdd9767c0da6eaacc8be1f7fd665101ab5d04b2b4b", func := "cardcase/cardcaselaw01.FigureBack", spec := "figureBack", inPlace := ["internal/bytealg.IndexByteString"], unfollowed := true, recurses := true, apart := false, narrowed := true }
def FigureBackUptoSaid : Prop := figureBackUptoRow.holds Try.pinned (OpenSpec.upto figureBackSpec)

/-- 'cardcaselaw02.MbintReads', WHERE WHAT IT READS IS OF BULK AT MOST 1048576: true; the input reads as it did. -/
def mbintReadsUptoRow : OpenClaim := { program := "ytiakmaleiholnaa", sum := "8b867d7836fc7460535965bdd9767c0da6eaacc8be1f7fd665101ab5d04b2b4b", func := "cardcase/cardcaselaw02.MbintReads", spec := "mbintReads", inPlace := ["internal/bytealg.IndexByteString"], unfollowed := true, recurses := true, apart := false, narrowed := true }
def MbintReadsUptoSaid : Prop := mbintReadsUptoRow.holds Try.pinned (OpenSpec.upto mbintReadsSpec)

/-- 'cardcaselaw05.SixbitBack', WHERE WHAT IT READS IS OF BULK AT MOST 1048576: true; the input reads as it did. -/
def sixbitBackUptoRow : OpenClaim := { program := "ytiakmaleiholnaa", sum := "8b867d7836fc7460535965bdd9767c0da6eaacc8be1f7fd665101ab5d04b2b4b", func := "cardcase/cardcaselaw05.SixbitBack", spec := "sixbitBack", inPlace := ["internal/abi.NoEscape", "internal/bytealg.IndexByteString"], unfollowed := true, recurses := true, apart := false, narrowed := true }
def SixbitBackUptoSaid : Prop := sixbitBackUptoRow.holds Try.pinned (OpenSpec.upto sixbitBackSpec)

end Rows
end Go.Proofs.Ytiakmaleiholnaa
