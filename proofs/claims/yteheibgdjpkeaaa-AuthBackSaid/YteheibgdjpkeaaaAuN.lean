/- auth: Nonce, the program's and the reference's. No condition. -/
import Derived.Test.YteheibgdjpkeaaaAuL
import Derived.Test.YteheibgdjpkeaaaRev
namespace Go.Proofs.Yteheibgdjpkeaaa
open Go.RowKit

def le8 (n k : Nat) : List Int := (List.range k).map fun j => ((n / 256 ^ j % 256 : Nat) : Int)
def be8 (n k : Nat) : List Int := (List.range k).map fun j => ((n / 2 ^ (56 - 8 * j) % 256 : Nat) : Int)
theorem le8_len (n k : Nat) : (le8 n k).length = k := by simp [le8]
theorem be8_len (n k : Nat) : (be8 n k).length = k := by simp [be8]
theorem le8_succ (n k : Nat) : le8 n (k + 1) = le8 n k ++ [((n / 256 ^ k % 256 : Nat) : Int)] := by simp [le8, List.range_succ]
theorem be8_succ (n k : Nat) : be8 n (k + 1) = be8 n k ++ [((n / 2 ^ (56 - 8 * k) % 256 : Nat) : Int)] := by simp [be8, List.range_succ]
theorem le_be (n : Nat) : (le8 n 8).reverse = be8 n 8 := by
  have r8 : List.range 8 = [0, 1, 2, 3, 4, 5, 6, 7] := rfl
  unfold le8 be8
  rw [r8]
  rfl
def nonceB (n : Nat) : ByteArray := encB (strOfNums (be8 n 8))

set_option maxRecDepth 100000 in
set_option maxHeartbeats 4000000 in
theorem nonce_any (n : Nat) (hn : n < 18446744073709551616) (w : World) : Calls Try.prog 29 #[.int .u64 (n : Int)] w fun e w' => e = .returned (.string (nonceB n)) ∧ Below w.heap.size w w' := by
  have c1 : Hid (∀ w, Calls Try.prog 49 #[.string (strOfNums (be8 n 8))] w fun e w' => e = .returned (.string (nonceB n)) ∧ Below w.heap.size w w') := fun w => enc_any _ w (by rw [strOfNums_size, be8_len]; omega)
  have HLB := Lib.hid (le_be n)
  generalize nonceB n = R at *
  go_enter Try.func29, Try.ntmps29
  go_wp2
  go_loopw [0, 3, 4] (fun nv b i wr => ∃ (k : Nat) (a : Option Addr) (c : Nat), k ≤ 8 ∧ i = .int .i64 (k : Int) ∧ nv = .int .u64 ((n / 256 ^ k : Nat) : Int) ∧ b = .slice a k c ∧ wr.ownsRow w.heap.size 5 1 (.slice a k c) k ((le8 n k).map (Value.int .u8)) ∧ Below w.heap.size w wr) (fun _ _ i _ => 8 - (intOf i).toNat)
  case atStart => exact ⟨0, none, 0, by omega, rfl, by simp, rfl, World.ownsRow_nil _ _ _ _, Below.refl _ _⟩
  case round =>
    obtain ⟨k, a, c, hk, rfl, rfl, rfl, hown, hb⟩ := hrel
    have hsz := hb.size
    by_cases hlt : k < 8
    · have HS := Lib.hid (le8_succ n k)
      have HD : Hid (n / 256 ^ (k + 1) = n / 256 ^ k / 256) := by unfold Hid; rw [Nat.pow_succ, Nat.div_div_eq_div_mul]
      have hm : n / 256 ^ k < 18446744073709551616 := Nat.lt_of_le_of_lt (Nat.div_le_self _ _) hn
      have g1 : k + 1 ≤ maxLen := by simp [maxLen]; omega
      have g2 : (k + 1) * 1 ≤ 140737488355328 := by omega
      have HX := Lib.hid hown
      have HB := Lib.hid hb
      generalize n / 256 ^ k = m at *
      clear hown hb
      go_wp2_with (at_builtin; go_must (refine wpList_app1 _ _ rfl _ _ 34 5 _ _ S34 rfl w.heap.size _ _ _ rfl rfl rfl HX.out g1 g2 hsz ?_); intro a' c' w4 hown4 hgr4 _ hb4)
      have HO : Hid (w4.ownsRow w.heap.size 5 1 (.slice a' (k + 1) c') (k + 1) ((le8 n (k + 1)).map (Value.int .u8))) := by
        unfold Hid; rw [HS.out, List.map_append]
        have e : ((m % 256 : Nat) : Int) = (m : Int) % 256 := by omega
        rw [e]; exact hown4
      have HB4 := Lib.hid (HB.out.trans hb4)
      clear hown4 hgr4 hb4
      go_roundw
      case rel => exact ⟨k + 1, a', c', by omega, by go_num, by rw [HD.out]; go_num, rfl, HO.out, HB4.out⟩
      case measure => simp [intOf]; omega
    · obtain rfl : k = 8 := by omega
      have HX := Lib.hid hown
      have HB := Lib.hid hb
      have cR := Lib.hid (reverse_any w.heap.size a 8 c (le8 n 8) wr (by omega) hown)
      rw [HLB.out] at cR
      clear hown hb
      go_wp2_with fail
      refine cR.out.mono ?_
      rintro e w5 ⟨rfl, hown5, hb5⟩
      go_wp2_with (with_reducible refine wpList_str _ rfl _ 34 9 5 rfl Try.underlying34 Try.underlying9 Try.underlying5 w.heap.size _ _ _ (be8 n 8) rfl hown5 ?_)
      refine (c1.out _).mono ?_
      rintro e w6 ⟨rfl, hb6⟩
      go_wp2_with fail
      go_ret
      have hb' := HB.out.trans hb5
      exact ⟨rfl, hb'.trans (hb6.mono hb'.size)⟩

set_option maxRecDepth 100000 in
set_option maxHeartbeats 4000000 in
theorem refNonce_any (n : Nat) (hn : n < 18446744073709551616) (w : World) : Calls Try.prog 30 #[.int .u64 (n : Int)] w fun e w' => e = .returned (.string (nonceB n)) ∧ Below w.heap.size w w' := by
  have c1 : Hid (∀ w, Calls Try.prog 45 #[.string (strOfNums (be8 n 8))] w fun e w' => e = .returned (.string (nonceB n)) ∧ Below w.heap.size w w') := fun w => refEnc_any _ w (by rw [strOfNums_size, be8_len]; omega)
  generalize nonceB n = R at *
  go_enter Try.func30, Try.ntmps30
  go_wp2
  go_loopw [3, 4] (fun b i wr => ∃ (k : Nat) (a : Option Addr) (c : Nat), k ≤ 8 ∧ i = .int .i64 (56 - 8 * (k : Int)) ∧ b = .slice a k c ∧ wr.ownsRow w.heap.size 5 1 (.slice a k c) k ((be8 n k).map (Value.int .u8)) ∧ Below w.heap.size w wr) (fun _ i _ => (intOf i + 8).toNat)
  case atStart => exact ⟨0, none, 0, by omega, by simp, rfl, World.ownsRow_nil _ _ _ _, Below.refl _ _⟩
  case round =>
    obtain ⟨k, a, c, hk, rfl, rfl, hown, hb⟩ := hrel
    have hsz := hb.size
    have key : k = 0 ∨ k = 1 ∨ k = 2 ∨ k = 3 ∨ k = 4 ∨ k = 5 ∨ k = 6 ∨ k = 7 ∨ k = 8 := by omega
    clear hk
    rcases key with rfl | rfl | rfl | rfl | rfl | rfl | rfl | rfl | rfl
    case inr.inr.inr.inr.inr.inr.inr.inr =>
      have HX := Lib.hid hown
      have HB := Lib.hid hb
      clear hown hb
      go_wp2_with (with_reducible refine wpList_str _ rfl _ 34 9 5 rfl Try.underlying34 Try.underlying9 Try.underlying5 w.heap.size _ _ _ (be8 n 8) rfl HX.out ?_)
      refine (c1.out _).mono ?_
      rintro e w6 ⟨rfl, hb6⟩
      go_wp2_with fail
      go_ret
      exact ⟨rfl, HB.out.trans (hb6.mono HB.out.size)⟩
    case inl =>
      have HS := Lib.hid (be8_succ n 0)
      have HX := Lib.hid hown
      have HB := Lib.hid hb
      clear hown hb
      go_wp2_with (at_builtin; go_must (refine wpList_app1 _ _ rfl _ _ 34 5 _ _ S34 rfl w.heap.size _ _ _ rfl rfl rfl HX.out (by decide) (by decide) hsz ?_); intro a' c' w4 hown4 hgr4 _ hb4)
      have HO : Hid (w4.ownsRow w.heap.size 5 1 (.slice a' 1 c') 1 ((be8 n 1).map (Value.int .u8))) := by
        unfold Hid; rw [HS.out, List.map_append]
        have e : ((n / 2 ^ (56 - 8 * 0) % 256 : Nat) : Int) = (n : Int) / 72057594037927936 := by simp only [Nat.reduceMul, Nat.reduceSub, Nat.reducePow]; omega
        rw [e]; exact hown4
      have HB4 := Lib.hid (HB.out.trans hb4)
      clear hown4 hgr4 hb4
      go_roundw
      case rel => exact ⟨1, a', c', by omega, rfl, rfl, HO.out, HB4.out⟩
      case measure => simp [intOf]
    case inr.inl =>
      have HS := Lib.hid (be8_succ n 1)
      have HX := Lib.hid hown
      have HB := Lib.hid hb
      clear hown hb
      go_wp2_with (at_builtin; go_must (refine wpList_app1 _ _ rfl _ _ 34 5 _ _ S34 rfl w.heap.size _ _ _ rfl rfl rfl HX.out (by decide) (by decide) hsz ?_); intro a' c' w4 hown4 hgr4 _ hb4)
      have HO : Hid (w4.ownsRow w.heap.size 5 1 (.slice a' 2 c') 2 ((be8 n 2).map (Value.int .u8))) := by
        unfold Hid; rw [HS.out, List.map_append]
        have e : ((n / 2 ^ (56 - 8 * 1) % 256 : Nat) : Int) = (n : Int) / 281474976710656 % 256 := by simp only [Nat.reduceMul, Nat.reduceSub, Nat.reducePow]; omega
        rw [e]; exact hown4
      have HB4 := Lib.hid (HB.out.trans hb4)
      clear hown4 hgr4 hb4
      go_roundw
      case rel => exact ⟨2, a', c', by omega, rfl, rfl, HO.out, HB4.out⟩
      case measure => simp [intOf]
    case inr.inr.inl =>
      have HS := Lib.hid (be8_succ n 2)
      have HX := Lib.hid hown
      have HB := Lib.hid hb
      clear hown hb
      go_wp2_with (at_builtin; go_must (refine wpList_app1 _ _ rfl _ _ 34 5 _ _ S34 rfl w.heap.size _ _ _ rfl rfl rfl HX.out (by decide) (by decide) hsz ?_); intro a' c' w4 hown4 hgr4 _ hb4)
      have HO : Hid (w4.ownsRow w.heap.size 5 1 (.slice a' 3 c') 3 ((be8 n 3).map (Value.int .u8))) := by
        unfold Hid; rw [HS.out, List.map_append]
        have e : ((n / 2 ^ (56 - 8 * 2) % 256 : Nat) : Int) = (n : Int) / 1099511627776 % 256 := by simp only [Nat.reduceMul, Nat.reduceSub, Nat.reducePow]; omega
        rw [e]; exact hown4
      have HB4 := Lib.hid (HB.out.trans hb4)
      clear hown4 hgr4 hb4
      go_roundw
      case rel => exact ⟨3, a', c', by omega, rfl, rfl, HO.out, HB4.out⟩
      case measure => simp [intOf]
    case inr.inr.inr.inl =>
      have HS := Lib.hid (be8_succ n 3)
      have HX := Lib.hid hown
      have HB := Lib.hid hb
      clear hown hb
      go_wp2_with (at_builtin; go_must (refine wpList_app1 _ _ rfl _ _ 34 5 _ _ S34 rfl w.heap.size _ _ _ rfl rfl rfl HX.out (by decide) (by decide) hsz ?_); intro a' c' w4 hown4 hgr4 _ hb4)
      have HO : Hid (w4.ownsRow w.heap.size 5 1 (.slice a' 4 c') 4 ((be8 n 4).map (Value.int .u8))) := by
        unfold Hid; rw [HS.out, List.map_append]
        have e : ((n / 2 ^ (56 - 8 * 3) % 256 : Nat) : Int) = (n : Int) / 4294967296 % 256 := by simp only [Nat.reduceMul, Nat.reduceSub, Nat.reducePow]; omega
        rw [e]; exact hown4
      have HB4 := Lib.hid (HB.out.trans hb4)
      clear hown4 hgr4 hb4
      go_roundw
      case rel => exact ⟨4, a', c', by omega, rfl, rfl, HO.out, HB4.out⟩
      case measure => simp [intOf]
    case inr.inr.inr.inr.inl =>
      have HS := Lib.hid (be8_succ n 4)
      have HX := Lib.hid hown
      have HB := Lib.hid hb
      clear hown hb
      go_wp2_with (at_builtin; go_must (refine wpList_app1 _ _ rfl _ _ 34 5 _ _ S34 rfl w.heap.size _ _ _ rfl rfl rfl HX.out (by decide) (by decide) hsz ?_); intro a' c' w4 hown4 hgr4 _ hb4)
      have HO : Hid (w4.ownsRow w.heap.size 5 1 (.slice a' 5 c') 5 ((be8 n 5).map (Value.int .u8))) := by
        unfold Hid; rw [HS.out, List.map_append]
        have e : ((n / 2 ^ (56 - 8 * 4) % 256 : Nat) : Int) = (n : Int) / 16777216 % 256 := by simp only [Nat.reduceMul, Nat.reduceSub, Nat.reducePow]; omega
        rw [e]; exact hown4
      have HB4 := Lib.hid (HB.out.trans hb4)
      clear hown4 hgr4 hb4
      go_roundw
      case rel => exact ⟨5, a', c', by omega, rfl, rfl, HO.out, HB4.out⟩
      case measure => simp [intOf]
    case inr.inr.inr.inr.inr.inl =>
      have HS := Lib.hid (be8_succ n 5)
      have HX := Lib.hid hown
      have HB := Lib.hid hb
      clear hown hb
      go_wp2_with (at_builtin; go_must (refine wpList_app1 _ _ rfl _ _ 34 5 _ _ S34 rfl w.heap.size _ _ _ rfl rfl rfl HX.out (by decide) (by decide) hsz ?_); intro a' c' w4 hown4 hgr4 _ hb4)
      have HO : Hid (w4.ownsRow w.heap.size 5 1 (.slice a' 6 c') 6 ((be8 n 6).map (Value.int .u8))) := by
        unfold Hid; rw [HS.out, List.map_append]
        have e : ((n / 2 ^ (56 - 8 * 5) % 256 : Nat) : Int) = (n : Int) / 65536 % 256 := by simp only [Nat.reduceMul, Nat.reduceSub, Nat.reducePow]; omega
        rw [e]; exact hown4
      have HB4 := Lib.hid (HB.out.trans hb4)
      clear hown4 hgr4 hb4
      go_roundw
      case rel => exact ⟨6, a', c', by omega, rfl, rfl, HO.out, HB4.out⟩
      case measure => simp [intOf]
    case inr.inr.inr.inr.inr.inr.inl =>
      have HS := Lib.hid (be8_succ n 6)
      have HX := Lib.hid hown
      have HB := Lib.hid hb
      clear hown hb
      go_wp2_with (at_builtin; go_must (refine wpList_app1 _ _ rfl _ _ 34 5 _ _ S34 rfl w.heap.size _ _ _ rfl rfl rfl HX.out (by decide) (by decide) hsz ?_); intro a' c' w4 hown4 hgr4 _ hb4)
      have HO : Hid (w4.ownsRow w.heap.size 5 1 (.slice a' 7 c') 7 ((be8 n 7).map (Value.int .u8))) := by
        unfold Hid; rw [HS.out, List.map_append]
        have e : ((n / 2 ^ (56 - 8 * 6) % 256 : Nat) : Int) = (n : Int) / 256 % 256 := by simp only [Nat.reduceMul, Nat.reduceSub, Nat.reducePow]; omega
        rw [e]; exact hown4
      have HB4 := Lib.hid (HB.out.trans hb4)
      clear hown4 hgr4 hb4
      go_roundw
      case rel => exact ⟨7, a', c', by omega, rfl, rfl, HO.out, HB4.out⟩
      case measure => simp [intOf]
    case inr.inr.inr.inr.inr.inr.inr.inl =>
      have HS := Lib.hid (be8_succ n 7)
      have HX := Lib.hid hown
      have HB := Lib.hid hb
      clear hown hb
      go_wp2_with (at_builtin; go_must (refine wpList_app1 _ _ rfl _ _ 34 5 _ _ S34 rfl w.heap.size _ _ _ rfl rfl rfl HX.out (by decide) (by decide) hsz ?_); intro a' c' w4 hown4 hgr4 _ hb4)
      have HO : Hid (w4.ownsRow w.heap.size 5 1 (.slice a' 8 c') 8 ((be8 n 8).map (Value.int .u8))) := by
        unfold Hid; rw [HS.out, List.map_append]
        have e : ((n / 2 ^ (56 - 8 * 7) % 256 : Nat) : Int) = (n : Int) % 256 := by simp only [Nat.reduceMul, Nat.reduceSub, Nat.reducePow]; omega
        rw [e]; exact hown4
      have HB4 := Lib.hid (HB.out.trans hb4)
      clear hown4 hgr4 hb4
      go_roundw
      case rel => exact ⟨8, a', c', by omega, rfl, rfl, HO.out, HB4.out⟩
      case measure => simp [intOf]
end Go.Proofs.Yteheibgdjpkeaaa
