/- digest: the turning of a word; plain words. No condition but the sizes. -/
import Derived.Test.YteheibgdjpkeaaaTab
namespace Go.Proofs.Yteheibgdjpkeaaa
open Go.RowKit

theorem and31 (s : Nat) (h : s < 32) : bits BinOp.and IntKind.u64 (s : Int) 31 = (s : Int) := by
  have e1 := u64_and_nat s 31 (by omega) (by omega)
  have e2 : s &&& 31 = s % 2 ^ 5 := Nat.and_two_pow_sub_one_eq_mod s 5
  rw [e2, Nat.mod_eq_of_lt h] at e1
  exact e1

/-- a word turned by s. -/
def rotl (x s : Nat) : Nat := (x * 2 ^ s % 4294967296) ||| (x / 2 ^ (32 - s))
theorem rotl_lt (x s : Nat) (hx : x < 4294967296) : rotl x s < 4294967296 :=
  or_lt _ _ (Nat.mod_lt _ (by decide)) (Nat.lt_of_le_of_lt (Nat.div_le_self _ _) hx)
theorem rotl_or (x s : Nat) (hx : x < 4294967296) : bits BinOp.or IntKind.u32 ((x : Int) * 2 ^ s % 4294967296) ((x : Int) / 2 ^ (32 - s)) = ((rotl x s : Nat) : Int) := by
  have e := u32_or_nat (x * 2 ^ s % 4294967296) (x / 2 ^ (32 - s)) (Nat.mod_lt _ (by decide)) (Nat.lt_of_le_of_lt (Nat.div_le_self _ _) hx)
  have e1 : ((x * 2 ^ s % 4294967296 : Nat) : Int) = (x : Int) * 2 ^ s % 4294967296 := by simp only [Int.natCast_emod, Int.natCast_mul, Int.natCast_pow]; rfl
  have e2 : ((x / 2 ^ (32 - s) : Nat) : Int) = (x : Int) / 2 ^ (32 - s) := by simp only [Int.natCast_pow, Int.natCast_ediv]; rfl
  rw [e1, e2] at e
  exact e

theorem ret_u32 {a b : Int} (h : a = b) : Ending.returned (.int .u32 a) = Ending.returned (.int .u32 b) := by rw [h]

set_option maxHeartbeats 1000000 in
theorem rot_any (x s : Nat) (hx : x < 4294967296) (h1 : 1 ≤ s) (h2 : s < 32) (w : World) :
    Calls Try.prog 54 #[.int .u32 (x : Int), .int .i64 (s : Int)] w fun e w' => e = .returned (.int .u32 ((rotl x s : Nat) : Int)) ∧ w = w' := by
  have e1 := and31 s h2
  have H := Lib.hid (rotl_or x s hx)
  go_enter Try.func54, Try.ntmps54
  go_wp2
  go_ret
  exact ⟨ret_u32 H.out, rfl⟩

/-- the reference's digit of sixteen. -/
def halfN (c : Nat) : Nat := if 97 ≤ c then c - 97 + 10 else c - 48
theorem half_any (c : UInt8) (h : (48 ≤ c.toNat ∧ c.toNat ≤ 57) ∨ (97 ≤ c.toNat ∧ c.toNat ≤ 102)) (w : World) :
    Calls Try.prog 65 #[.int .u8 (c.toNat : Int)] w fun e w' => e = .returned (.int .u32 ((halfN c.toNat : Nat) : Int)) ∧ w = w' := by
  generalize c.toNat = n at *
  by_cases hc : 97 ≤ n
  · have HF : Hid (halfN n = n - 97 + 10) := by unfold Hid halfN; rw [if_pos hc]
    have h1 : 97 ≤ (n : Int) := by omega
    have h2 : (n : Int) ≤ 102 := by omega
    go_enter Try.func65, Try.ntmps65
    go_wp2
    go_ret
    exact ⟨ret_u32 (by rw [HF.out]; omega), rfl⟩
  · have HF : Hid (halfN n = n - 48) := by unfold Hid halfN; rw [if_neg hc]
    have h1 : ¬ 97 ≤ (n : Int) := by omega
    have h2 : 48 ≤ (n : Int) := by omega
    have h3 : (n : Int) ≤ 57 := by omega
    go_enter Try.func65, Try.ntmps65
    go_wp2
    go_ret
    exact ⟨ret_u32 (by rw [HF.out]; omega), rfl⟩
end Go.Proofs.Yteheibgdjpkeaaa
