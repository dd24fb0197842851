/- auth: what credentials are, in plain words: the one text that both the program and the reference are held against. No condition. -/
import Derived.Test.YteheibgdjpkeaaaEncP
import Derived.Test.YteheibgdjpkeaaaRSum
namespace Go.Proofs.Yteheibgdjpkeaaa
open Go.RowKit

/-- a byte that may be -/
def okC (least : Nat) (c : UInt8) : Bool := decide (least ≤ c.toNat) && decide (c.toNat ≤ 126)
def okB (least : Nat) (s : ByteArray) : Bool := s.data.toList.all (okC least)
def hasC (s : ByteArray) : Bool := s.data.toList.any (fun c => c.toNat == 58)

/-- what is wrong with a user and a password -/
def chkE (u p : ByteArray) : Int :=
  if u.size = 0 then 14 else if 32 < u.size then 14 else if okB 33 u = false then 14 else if hasC u = true then 14
  else if 32 < p.size then 3 else if okB 32 p = false then 3 else 0

def tyB : ByteArray := { data := #[115, 121, 110, 99, 109, 108, 58, 97, 117, 116, 104, 45, 98, 97, 115, 105, 99] }
def tyD : ByteArray := { data := #[115, 121, 110, 99, 109, 108, 58, 97, 117, 116, 104, 45, 109, 100, 53] }
def tyM : ByteArray := { data := #[115, 121, 110, 99, 109, 108, 58, 97, 117, 116, 104, 45, 77, 65, 67] }
def typ (k : Int) : ByteArray := if k = 1 then tyB else if k = 2 then tyD else if k = 3 then tyM else { data := #[] }
def kindN (s : ByteArray) : Int := if s = tyB then 1 else if s = tyD then 2 else if s = tyM then 3 else 0

def colon : ByteArray := { data := #[58] }
def known (u p : ByteArray) : ByteArray := u ++ colon ++ p
def encB (s : ByteArray) : ByteArray := strOfNums (encS s.data.toList)
def sumB (s : ByteArray) : ByteArray := encB (mkS (md5 s.data.toList))
def dataOf (k : Int) (u p n b : ByteArray) : ByteArray :=
  if k = 1 then encB (known u p) else if k = 2 then sumB (sumB (known u p) ++ colon ++ n) else sumB (sumB (known u p) ++ colon ++ n ++ colon ++ sumB b)
def credE (k : Int) (u p n : ByteArray) : Int :=
  if k < 1 then 5 else if 3 < k then 5 else if chkE u p ≠ 0 then chkE u p else if 60 < n.size then 8 else if okB 33 n = false then 8 else 0
def credT (k : Int) (u p n : ByteArray) : ByteArray := if credE k u p n = 0 then typ k else { data := #[] }
def credD (k : Int) (u p n b : ByteArray) : ByteArray := if credE k u p n = 0 then dataOf k u p n b else { data := #[] }
def holdsB (t d : ByteArray) (u p n b : ByteArray) : Bool := credE (kindN t) u p n == 0 && (credT (kindN t) u p n == t && credD (kindN t) u p n b == d)
end Go.Proofs.Yteheibgdjpkeaaa
