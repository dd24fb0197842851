/- figure.Unhex and the reference's: both to one plain function. No condition but the string's size. -/
import Derived.Test.YtiakmaleiholnaaShelf
import Derived.Test.YtiakmaleiholnaaHex
namespace Go.Proofs.Ytiakmaleiholnaa
open Go.RowKit

def hexDigits : List UInt8 := [48, 49, 50, 51, 52, 53, 54, 55, 56, 57, 65, 66, 67, 68, 69, 70]
def hv (q : UInt8) : Int := Lib.indexByte hexDigits q

theorem hv_all : ∀ n : Fin 256, -1 ≤ hv (UInt8.ofNat n.val) ∧ hv (UInt8.ofNat n.val) ≤ 15 := by decide +kernel
theorem hv_bd (q : UInt8) : -1 ≤ hv q ∧ hv q ≤ 15 := by
  have := hv_all ⟨q.toNat, q.toNat_lt⟩
  simpa using this

theorem idx_hex (q : UInt8) (w : World) : Calls Try.prog 53 #[.string { data := #[48, 49, 50, 51, 52, 53, 54, 55, 56, 57, 65, 66, 67, 68, 69, 70] }, .int .u8 (q.toNat : Int)] w fun e w' => e = .returned (.int .i64 (hv q)) ∧ w = w' := by
  refine (Try.strings_IndexByte _ _ _).mono fun e w' ⟨he, hw⟩ => ⟨?_, hw.symm⟩
  rw [he]
  congr 2
  have : ((q.toNat : Int)).toNat.toUInt8 = q := by simp
  rw [this]; rfl

def pp (l : List UInt8) : List Int := (List.range ((l.length + 1) / 2)).map fun j => hv (l[2 * j]?.getD 0) * 16 + (if 2 * j + 1 < l.length then hv (l[2 * j + 1]?.getD 0) else 0)

theorem pp_len (l : List UInt8) : (pp l).length = (l.length + 1) / 2 := by simp [pp]
theorem pp_get (l : List UInt8) (j : Nat) (h : j < (l.length + 1) / 2) : (pp l)[j]? = some (hv (l[2 * j]?.getD 0) * 16 + (if 2 * j + 1 < l.length then hv (l[2 * j + 1]?.getD 0) else 0)) := by
  simp [pp, h]

theorem pp_even (l : List UInt8) (c : UInt8) (h : l.length % 2 = 0) : pp (l ++ [c]) = pp l ++ [hv c * 16] := by
  have hp := pp_len l
  apply List.ext_getElem?
  intro j
  by_cases hj : j < l.length / 2
  · rw [List.getElem?_append_left (l₁ := pp l) (by omega), pp_get _ _ (by simp; omega), pp_get _ _ (by omega),
      List.getElem?_append_left (l₁ := l) (by omega), List.getElem?_append_left (l₁ := l) (by omega), if_pos (by simp; omega), if_pos (by omega)]
  · by_cases hj2 : j = l.length / 2
    · subst hj2
      rw [List.getElem?_append_right (l₁ := pp l) (by omega), pp_get _ _ (by simp; omega), List.getElem?_append_right (l₁ := l) (by omega), if_neg (by simp; omega),
        show l.length / 2 - (pp l).length = 0 from by omega, show 2 * (l.length / 2) - l.length = 0 from by omega]
      simp
    · rw [List.getElem?_eq_none (by rw [pp_len]; simp; omega), List.getElem?_eq_none (by simp; omega)]

theorem pp_last (l : List UInt8) (h : l.length % 2 = 1) : (pp l)[l.length / 2]? = some (hv (l[l.length - 1]?.getD 0) * 16) := by
  rw [pp_get _ _ (by omega), if_neg (by omega), show 2 * (l.length / 2) = l.length - 1 from by omega]; simp

theorem pp_odd (l : List UInt8) (c : UInt8) (h : l.length % 2 = 1) : pp (l ++ [c]) = (pp l).set (l.length / 2) (hv (l[l.length - 1]?.getD 0) * 16 + hv c) := by
  apply List.ext_getElem?
  intro j
  by_cases hj : j < l.length / 2
  · rw [pp_get _ _ (by simp; omega), List.getElem?_set_ne (by omega), pp_get _ _ (by omega),
      List.getElem?_append_left (by omega), List.getElem?_append_left (by omega), if_pos (by simp; omega), if_pos (by omega)]
  · by_cases hj2 : j = l.length / 2
    · subst hj2
      rw [pp_get _ _ (by simp; omega), List.getElem?_set_self (by rw [pp_len]; omega), if_pos (by simp; omega), List.getElem?_append_left (by omega), List.getElem?_append_right (by omega)]
      simp [show 2 * (l.length / 2) = l.length - 1 from by omega, show l.length - 1 + 1 - l.length = 0 from by omega]
    · rw [List.getElem?_eq_none (by rw [pp_len]; simp; omega), List.getElem?_eq_none (by simp [pp_len]; omega)]

/-- what Unhex answers -/
def unh (s : ByteArray) : List Int × Int :=
  if s.data.toList.any (fun c => decide (hv c < 0)) then ([], 3) else if s.size % 2 = 1 then ([], 1) else (pp s.data.toList, 0)

theorem or_low (a b : Int) (h1 : 0 ≤ a) (h2 : a ≤ 15) (h3 : 0 ≤ b) (h4 : b ≤ 15) : bits BinOp.or IntKind.u8 (a * 16) b = a * 16 + b := by
  rw [u8_or _ _ (by omega) (by omega) (by omega) (by omega)]
  have e : (a * 16).toNat = 2 ^ 4 * a.toNat := by omega
  rw [e, ← Nat.two_pow_add_eq_or_of_lt (by omega)]
  omega
end Go.Proofs.Ytiakmaleiholnaa
