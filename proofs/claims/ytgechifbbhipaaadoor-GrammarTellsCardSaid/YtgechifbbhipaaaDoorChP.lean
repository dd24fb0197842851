/- charset: the reference's 'one': the first letter of a text. No condition but the text's size. -/
import Derived.Test.YtgechifbbhipaaaDoorShelf
import Derived.Test.YtgechifbbhipaaaDoorKit2
import Derived.Test.YtgechifbbhipaaaDoorRKit
import Derived.Lib.DecodeN
set_option linter.unusedVariables false
set_option linter.unusedSimpArgs false
namespace Go.Proofs.YtgechifbbhipaaaDoor
open Go.RowKit

theorem not_empty (s : ByteArray) (h : s.size ≠ 0) : s.toList.isEmpty = false := by
  rw [ByteArray.toList_eq, List.isEmpty_eq_false_iff]; intro e; apply h; rw [← len_toList, e]; rfl
def gb (s : ByteArray) (i : Nat) : Nat := (s.get! i).toNat
theorem gb_lt (s : ByteArray) (i : Nat) : gb s i < 256 := UInt8.toNat_lt _
theorem gb_eq (s : ByteArray) (i : Nat) (h : i < s.size) : (s[i]).toNat = gb s i := by
  unfold gb
  congr 1
  simp only [ByteArray.get!, getElem, ByteArray.get]
  rw [getElem!_pos]
  rfl
theorem run_gb (s : ByteArray) (i : Nat) (h : i < s.size) (w : World) : (Instr.index 9 (.string s) (.int .i64 (i : Int))).run Tryd.prog w = .ok (.int .u8 (gb s i : Int)) w := by
  have h2 : (0 : Int) ≤ (i : Int) ∧ (i : Int) < s.size := ⟨by omega, by omega⟩
  rw [run_index_string w 9 _ _ _ Tryd.underlying9, dif_pos h2, ← gb_eq s i h]
  rfl
/-- the first letter and its bytes; (0, 0): it is none -/
def oneV (s : ByteArray) : Nat × Nat := if s.size = 0 then (0, 0) else if (Utf8.decode s 0).1 = 65533 ∧ (Utf8.decode s 0).2 = 1 then (0, 0) else Utf8.decode s 0
/-- the same in plain words -/
def oneN (n b0 b1 b2 b3 : Nat) : Nat × Nat :=
  if b0 < 128 then (b0, 1)
  else if 192 ≤ b0 ∧ b0 < 224 then
    if 2 ≤ n ∧ b1 / 64 = 2 ∧ 128 ≤ 64 * (b0 % 32) + b1 % 64 then (64 * (b0 % 32) + b1 % 64, 2) else (0, 0)
  else if 224 ≤ b0 ∧ b0 < 240 then
    if 3 ≤ n ∧ b1 / 64 = 2 ∧ b2 / 64 = 2 ∧ 2048 ≤ 64 * (64 * (b0 % 16) + b1 % 64) + b2 % 64 ∧ ¬ (55296 ≤ 64 * (64 * (b0 % 16) + b1 % 64) + b2 % 64 ∧ 64 * (64 * (b0 % 16) + b1 % 64) + b2 % 64 < 57344) then (64 * (64 * (b0 % 16) + b1 % 64) + b2 % 64, 3) else (0, 0)
  else if 240 ≤ b0 ∧ b0 < 248 then
    if 4 ≤ n ∧ b1 / 64 = 2 ∧ b2 / 64 = 2 ∧ b3 / 64 = 2 ∧ 65536 ≤ 64 * (64 * (64 * (b0 % 8) + b1 % 64) + b2 % 64) + b3 % 64 ∧ 64 * (64 * (64 * (b0 % 8) + b1 % 64) + b2 % 64) + b3 % 64 ≤ 1114111 then (64 * (64 * (64 * (b0 % 8) + b1 % 64) + b2 % 64) + b3 % 64, 4) else (0, 0)
  else (0, 0)

set_option maxHeartbeats 4000000 in
theorem oneN_cases (n b0 b1 b2 b3 : Nat) (c0 : ¬ b0 < 128) (h0 : b0 < 256) (h1 : b1 < 256) (h2 : b2 < 256) (h3 : b3 < 256) :
    (oneN n b0 b1 b2 b3 = (0, 0) ∧ Lib.decodeN n b0 b1 b2 b3 = (65533, 1)) ∨ (Lib.decodeN n b0 b1 b2 b3 = oneN n b0 b1 b2 b3 ∧ (oneN n b0 b1 b2 b3).2 ≠ 1) := by
  unfold oneN Lib.decodeN
  rw [if_neg c0, if_neg c0]
  repeat' split
  all_goals first
    | exact .inl ⟨rfl, rfl⟩
    | (exfalso; omega)
    | (refine .inr ⟨Prod.ext ?_ rfl, by simp⟩; show (_ : Nat) = _; omega)
theorem oneN_eq (n b0 b1 b2 b3 : Nat) (h0 : b0 < 256) (h1 : b1 < 256) (h2 : b2 < 256) (h3 : b3 < 256) : (if (Lib.decodeN n b0 b1 b2 b3).1 = 65533 ∧ (Lib.decodeN n b0 b1 b2 b3).2 = 1 then (0, 0) else Lib.decodeN n b0 b1 b2 b3) = oneN n b0 b1 b2 b3 := by
  by_cases c0 : b0 < 128
  · have : Lib.decodeN n b0 b1 b2 b3 = (b0, 1) := by rw [Lib.decodeN, if_pos c0]
    rw [this, if_neg (by simp; omega), oneN, if_pos c0]
  · rcases oneN_cases n b0 b1 b2 b3 c0 h0 h1 h2 h3 with ⟨k, k2⟩ | ⟨k, k2⟩
    · rw [k2, k, if_pos ⟨rfl, rfl⟩]
    · rw [k, if_neg (fun h => k2 h.2)]
theorem oneV_eq (s : ByteArray) (h : s.size ≠ 0) : oneV s = oneN s.size (gb s 0) (gb s 1) (gb s 2) (gb s 3) := by
  unfold oneV
  rw [if_neg h, Lib.decode_at]
  exact oneN_eq _ _ _ _ _ (gb_lt s 0) (gb_lt s 1) (gb_lt s 2) (gb_lt s 3)
end Go.Proofs.YtgechifbbhipaaaDoor
