/- Bytes as letters: the plain laws. No condition. -/
import Derived.Test.YtgechifbbhipaaaDoorMkS
set_option linter.unusedVariables false
set_option linter.unusedSimpArgs false
namespace Go.Proofs.YtgechifbbhipaaaDoor
open Go.RowKit

def let64 (n : Nat) : Int := if n < 26 then 65 + n else if n < 52 then 71 + n else if n < 62 then (n : Int) - 4 else if n = 62 then 43 else 47

/-- the letters of a piece -/
def enc3 : List UInt8 → List Int
  | [] => []
  | [a] => [let64 (a.toNat / 4), let64 (a.toNat % 4 * 16), 61, 61]
  | [a, b] => [let64 (a.toNat / 4), let64 (a.toNat % 4 * 16 + b.toNat / 16), let64 (b.toNat % 16 * 4), 61]
  | a :: b :: c :: _ => [let64 (a.toNat / 4), let64 (a.toNat % 4 * 16 + b.toNat / 16), let64 (b.toNat % 16 * 4 + c.toNat / 64), let64 (c.toNat % 64)]

def encS : List UInt8 → List Int
  | [] => []
  | [a] => enc3 [a]
  | [a, b] => enc3 [a, b]
  | a :: b :: c :: l => enc3 [a, b, c] ++ encS l

def encL (l : List ByteArray) : List Int := l.flatMap fun p => enc3 p.data.toList

theorem enc3_len (l : List UInt8) : (enc3 l).length ≤ 4 := by
  match l with
  | [] => simp [enc3]
  | [a] => simp [enc3]
  | [a, b] => simp [enc3]
  | a :: b :: c :: _ => simp [enc3]
theorem encL_len (l : List ByteArray) : (encL l).length ≤ 4 * l.length := by
  induction l with
  | nil => simp [encL]
  | cons a l ih =>
    have := enc3_len a.data.toList
    simp [encL] at ih ⊢; omega
theorem encL_snoc (l : List ByteArray) (p : ByteArray) : encL (l ++ [p]) = encL l ++ enc3 p.data.toList := by simp [encL]

theorem chk_encS (f : Nat) (b : ByteArray) (h : b.size ≤ f) : encL (chk 3 b) = encS b.data.toList := by
  induction f generalizing b with
  | zero => rw [chk_nil (by omega), empty_of_size b (by omega)]; rfl
  | succ f ih =>
    by_cases h0 : b.size = 0
    · rw [chk_nil h0, empty_of_size b h0]; rfl
    · rw [chk_cons (by decide) h0]
      have hl := len_toList b
      have e1 : encL (b.extract 0 (min 3 b.size) :: chk 3 (b.extract (min 3 b.size) b.size)) = enc3 (b.extract 0 (min 3 b.size)).data.toList ++ encL (chk 3 (b.extract (min 3 b.size) b.size)) := by simp [encL]
      rw [e1, ih _ (by simp; omega), extract_list, extract_list, List.drop_zero]
      generalize b.data.toList = l at *
      match l, hl with
      | [], hl => simp at hl; omega
      | [a], hl => rw [← hl]; simp [encS]
      | [a, c], hl => rw [← hl]; simp [encS]
      | a :: c :: d :: l, hl =>
        rw [← hl]
        have e : min 3 (a :: c :: d :: l).length = 3 := by simp
        rw [e]
        simp [encS]

/-- the word of a piece -/
theorem word1 (a : Nat) (ha : a < 256) : a * 65536 / 262144 % 64 = a / 4 ∧ a * 65536 / 4096 % 64 = a % 4 * 16 := by omega
theorem word2 (a b : Nat) (ha : a < 256) (hb : b < 256) : (a * 65536 + b * 256) / 262144 % 64 = a / 4 ∧ (a * 65536 + b * 256) / 4096 % 64 = a % 4 * 16 + b / 16 ∧ (a * 65536 + b * 256) / 64 % 64 = b % 16 * 4 := by omega
theorem word3 (a b c : Nat) (ha : a < 256) (hb : b < 256) (hc : c < 256) : (a * 65536 + b * 256 + c) / 262144 % 64 = a / 4 ∧ (a * 65536 + b * 256 + c) / 4096 % 64 = a % 4 * 16 + b / 16 ∧
    (a * 65536 + b * 256 + c) / 64 % 64 = b % 16 * 4 + c / 64 ∧ (a * 65536 + b * 256 + c) % 64 = c % 64 := by omega

theorem or_sum1 (a b : Nat) (ha : a < 256) (hb : b < 256) : bits BinOp.or IntKind.u32 ((a : Int) * 65536) ((b : Int) * 256) = ((a * 65536 + b * 256 : Nat) : Int) := by
  have := u32_or_nat (a * 65536) (b * 256) (by omega) (by omega)
  rw [show a * 65536 = 2 ^ 16 * a from by omega, ← Nat.two_pow_add_eq_or_of_lt (by omega)] at this
  rw [show ((a : Int) * 65536) = ((2 ^ 16 * a : Nat) : Int) from by omega, show ((b : Int) * 256) = ((b * 256 : Nat) : Int) from by omega, this]; omega
theorem or_sum2 (a b c : Nat) (ha : a < 256) (hb : b < 256) (hc : c < 256) : bits BinOp.or IntKind.u32 ((a * 65536 + b * 256 : Nat) : Int) (c : Int) = ((a * 65536 + b * 256 + c : Nat) : Int) := by
  have := u32_or_nat (a * 65536 + b * 256) c (by omega) (by omega)
  rw [show a * 65536 + b * 256 = 2 ^ 8 * (a * 256 + b) from by omega, ← Nat.two_pow_add_eq_or_of_lt (by omega)] at this
  rw [show ((a * 65536 + b * 256 : Nat) : Int) = ((2 ^ 8 * (a * 256 + b) : Nat) : Int) from by omega, this]; omega

theorem and63 (n : Nat) (h : n < 4294967296) : bits BinOp.and IntKind.u32 (n : Int) 63 = ((n % 64 : Nat) : Int) := by
  have := u32_and_nat n 63 h (by decide)
  rw [show (63 : Nat) = 2 ^ 6 - 1 from rfl, Nat.and_two_pow_sub_one_eq_mod] at this
  exact this

def lets : ByteArray := { data := #[65, 66, 67, 68, 69, 70, 71, 72, 73, 74, 75, 76, 77, 78, 79, 80, 81, 82, 83, 84, 85, 86, 87, 88, 89, 90, 97, 98, 99, 100, 101, 102, 103, 104, 105, 106, 107, 108, 109, 110, 111, 112, 113, 114, 115, 116, 117, 118, 119, 120, 121, 122, 48, 49, 50, 51, 52, 53, 54, 55, 56, 57, 43, 47] }

theorem run_let (k : IntKind) (n : Nat) (h : n < 64) (w : World) : (Instr.index 9 (.string { data := #[65, 66, 67, 68, 69, 70, 71, 72, 73, 74, 75, 76, 77, 78, 79, 80, 81, 82, 83, 84, 85, 86, 87, 88, 89, 90, 97, 98, 99, 100, 101, 102, 103, 104, 105, 106, 107, 108, 109, 110, 111, 112, 113, 114, 115, 116, 117, 118, 119, 120, 121, 122, 48, 49, 50, 51, 52, 53, 54, 55, 56, 57, 43, 47] }) (.int k (n : Int))).run Tryd.prog w = .ok (.int .u8 (let64 n)) w := by
  have key : ∀ n : Fin 64, ((lets[n.val]'(by exact n.isLt)).toNat : Int) = let64 n.val := by decide +kernel
  have h2 : (0 : Int) ≤ (n : Int) ∧ (n : Int) < lets.size := ⟨by omega, by exact Int.ofNat_lt.2 h⟩
  show (Instr.index 9 (.string lets) (.int k (n : Int))).run Tryd.prog w = _
  rw [run_index_string w 9 _ _ _ Tryd.underlying9, dif_pos h2]
  exact congrArg (fun z => Result.ok (Value.int IntKind.u8 z) w) (key ⟨n, h⟩)
end Go.Proofs.YtgechifbbhipaaaDoor
