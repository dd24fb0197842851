/- metinf, in plain Lean: what is said, as an element. No condition. -/
import Derived.Test.YtgechifbbhipaaaDoorDigits
import Derived.Test.YtgechifbbhipaaaDoorMeT
import Derived.Test.YtgechifbbhipaaaDoorMeI
set_option linter.unusedVariables false
set_option linter.unusedSimpArgs false
namespace Go.Proofs.YtgechifbbhipaaaDoor
open Go.RowKit

def sayL (nm tx : ByteArray) : List Tr := if tx.size = 0 then [] else [.mk 1 nm tx false []]
def numT (n : Int) : ByteArray := strOfNums (textL n)
def numL (nm : ByteArray) (n : Int) : List Tr := if n = 0 then [] else [.mk 1 nm (numT n) false []]
def anchorT (la ne : ByteArray) : Tr := .mk 1 nAnchor ByteArray.empty false (sayL nLast la ++ [.mk 1 nNext ne false []])
def nMeta : ByteArray := { data := #[77, 101, 116, 97] }
/-- what is said, in its order -/
def saidL (fo ty : ByteArray) (sz ve : Int) (la ne no : ByteArray) (mm mo : Int) : List Tr :=
  ((((((sayL nFormat fo ++ sayL nType ty) ++ numL nSize sz) ++ (if ne.size = 0 then [] else [anchorT la ne])) ++ numL nVersion ve) ++ sayL nNextNonce no) ++ numL nMaxMsgSize mm) ++ numL nMaxObjSize mo
def elemM (fo ty : ByteArray) (sz ve : Int) (la ne no : ByteArray) (mm mo : Int) : Tr := .mk 0 nMeta ByteArray.empty false (if chkM fo ty sz ve la ne no mm mo = 0 then saidL fo ty sz ve la ne no mm mo else [])
end Go.Proofs.YtgechifbbhipaaaDoor
