/- charset: Decode and Encode in plain Lean. No condition. -/
import Derived.Test.YtcpmgnejbfnnjaaDoorChU
namespace Go.Proofs.YtcpmgnejbfnnjaaDoor
open Go.RowKit

/-- bytes as letters below 256, in UTF-8 -/
def decL (l : List UInt8) : List UInt8 := l.flatMap fun c => Lib.encodeRune (c.toNat : Int)
theorem decL_snoc (l : List UInt8) (c : UInt8) : decL (l ++ [c]) = decL l ++ Lib.encodeRune (c.toNat : Int) := by simp [decL]
theorem decL_len (l : List UInt8) : (decL l).length ≤ 4 * l.length := by
  induction l with
  | nil => simp [decL]
  | cons c l ih =>
    have e : decL (c :: l) = Lib.encodeRune (c.toNat : Int) ++ decL l := by simp [decL]
    have := Lib.runeCells_le (c.toNat : Int)
    rw [Lib.runeCells_length] at this
    rw [e, List.length_append, List.length_cons]; omega
/-- all of the first k bytes are at most m -/
def fitK (m : Int) (s : ByteArray) (k : Nat) : Prop := ∀ i (h : i < s.size), i < k → ((s[i]).toNat : Int) ≤ m
/-- what bytes say in a charset, and the fault -/
noncomputable def decV (k : Int) (s : ByteArray) : ByteArray × Int :=
  open Classical in
  if k < 1 ∨ 3 < k then (mkT [], 5) else if k = 3 then (if (ltS s).2 = true then (s, 0) else (mkT [], 16)) else if fitK (mostN k) s s.size then (mkT (decL s.data.toList), 0) else (mkT [], 16)
/-- a text's bytes in a charset, and the fault -/
noncomputable def encV (k : Int) (s : ByteArray) : ByteArray × Int :=
  open Classical in
  if k < 1 ∨ 3 < k then (mkT [], 5) else if (ltS s).2 = false then (mkT [], 3) else if k = 3 then (s, 0) else if ∀ x ∈ (ltS s).1, (x : Int) ≤ mostN k then (mkT ((ltS s).1.map UInt8.ofNat), 0) else (mkT [], 16)
end Go.Proofs.YtcpmgnejbfnnjaaDoor
