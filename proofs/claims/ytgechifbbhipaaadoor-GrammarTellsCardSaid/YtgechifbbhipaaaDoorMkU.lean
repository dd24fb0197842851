/- small words for texts of bytes. No condition. -/
import Derived.Test.YtgechifbbhipaaaDoorKit2
import Derived.Test.YtgechifbbhipaaaDoorProg
set_option linter.unusedVariables false
set_option linter.unusedSimpArgs false
namespace Go.Proofs.YtgechifbbhipaaaDoor
open Go.RowKit

theorem S43 : Sl1 Tryd.prog 136 5 (.int .u8 0) 1 := ⟨Tryd.underlying136, by kernel_rfl, rfl⟩
theorem extract_list (s : ByteArray) (i j : Nat) : (s.extract i j).data.toList = (s.data.toList.drop i).take (j - i) := by
  rw [ByteArray.data_extract, Array.toList_extract, List.extract]
/-- the bytes of a list of numbers -/
def u8s (l : List Int) : List UInt8 := l.map fun n => UInt8.ofNat n.toNat
theorem u8n (n : Nat) (h : n < 256) : (UInt8.ofNat ((n : Int)).toNat).toNat = n := by simp; omega
theorem run_at9 (s : ByteArray) (k : Nat) (h : k < s.size) : ∀ w, (Instr.index 9 (.string s) (.int .i64 (k : Int))).run Tryd.prog w = .ok (.int .u8 (s[k].toNat : Int)) w := fun w => by
  have h2 : (0 : Int) ≤ (k : Int) ∧ (k : Int) < s.size := ⟨by omega, by exact Int.ofNat_lt.2 h⟩
  rw [run_index_string w 9 _ _ _ Tryd.underlying9, dif_pos h2]
  rfl
end Go.Proofs.YtgechifbbhipaaaDoor
