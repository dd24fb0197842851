/- small words for texts of bytes. No condition. -/
import Derived.Test.YtamjpchpbceelaaDoorKit2
import Derived.Test.YtamjpchpbceelaaDoorProg
namespace Go.Proofs.YtamjpchpbceelaaDoor
open Go.RowKit

theorem S43 : Sl1 Tryd.prog 74 5 (.int .u8 0) 1 := ⟨Tryd.underlying74, by kernel_rfl, rfl⟩
theorem extract_list (s : ByteArray) (i j : Nat) : (s.extract i j).data.toList = (s.data.toList.drop i).take (j - i) := by
  rw [ByteArray.data_extract, Array.toList_extract, List.extract]
/-- the bytes of a list of numbers -/
def u8s (l : List Int) : List UInt8 := l.map fun n => UInt8.ofNat n.toNat
theorem u8n (n : Nat) (h : n < 256) : (UInt8.ofNat ((n : Int)).toNat).toNat = n := by simp; omega
end Go.Proofs.YtamjpchpbceelaaDoor
