/- digest: words as bytes. No condition but the words' size. -/
import Derived.Test.YteheibgdjpkeaaaKit3
import Derived.Test.YteheibgdjpkeaaaRBlk
namespace Go.Proofs.Yteheibgdjpkeaaa
open Go.RowKit

def ub (n : Nat) : UInt8 := UInt8.ofNat (n % 256)
theorem ub_toNat (n : Nat) : (ub n).toNat = n % 256 := by unfold ub; simp
/-- a word's four bytes -/
def le4 (n : Nat) : List UInt8 := [ub n, ub (n / 256), ub (n / 65536), ub (n / 16777216)]
def textSt (q : St) : List UInt8 := le4 q.a ++ le4 q.b ++ le4 q.c ++ le4 q.d
theorem textSt_len (q : St) : (textSt q).length = 16 := by simp [textSt, le4]
def mkS (l : List UInt8) : ByteArray := ⟨l.toArray⟩
theorem mkS_list (l : List UInt8) : (mkS l).data.toList = l := by simp [mkS]
theorem mkS_size (l : List UInt8) : (mkS l).size = l.length := by simp [mkS, ByteArray.size]
theorem mkS_append (l m : List UInt8) : mkS l ++ mkS m = mkS (l ++ m) := by
  apply ByteArray.ext; simp [mkS]
theorem le4_nums (n : Nat) (hn : n < 4294967296) : strOfNums [(n : Int) % 256, (n : Int) / 256 % 256, (n : Int) / 65536 % 256, (n : Int) / 16777216] = mkS (le4 n) := by
  have h : ∀ m : Nat, UInt8.ofNat ((m : Int) % 256).toNat = ub m := fun m => by
    unfold ub; congr 1
  simp only [strOfNums, mkS, le4, List.map_cons, List.map_nil]
  have e1 : (n : Int) / 256 % 256 = ((n / 256 : Nat) : Int) % 256 := by omega
  have e2 : (n : Int) / 65536 % 256 = ((n / 65536 : Nat) : Int) % 256 := by omega
  have e4 : (n : Int) / 16777216 = ((n / 16777216 : Nat) : Int) % 256 := by omega
  rw [e1, e2, e4, h, h, h, h]

set_option maxRecDepth 100000 in
set_option maxHeartbeats 1000000 in
theorem le_any (n : Nat) (hn : n < 4294967296) (w : World) : Calls Try.prog 36 #[.int .u32 (n : Int)] w fun e w' => e = .returned (.string (mkS (le4 n))) ∧ Below w.heap.size w w' := by
  have HL := Lib.hid (le4_nums n hn)
  have own : (w.alloc (.cells #[.int .u8 ((n : Int) % 256), .int .u8 ((n : Int) / 256 % 256), .int .u8 ((n : Int) / 65536 % 256), .int .u8 ((n : Int) / 16777216)] 5)).ownsRow w.heap.size 5 1 (.slice (some ⟨w.heap.size, 0, none⟩) 4 4) 4 ([(n : Int) % 256, (n : Int) / 256 % 256, (n : Int) / 65536 % 256, (n : Int) / 16777216].map (Value.int .u8)) := owns_lit w w.heap.size 5 ([(n : Int) % 256, (n : Int) / 256 % 256, (n : Int) / 65536 % 256, (n : Int) / 16777216].map (Value.int .u8)) (Nat.le_refl _) (by simp [maxLen])
  have HO := Lib.hid own
  clear own
  go_enter Try.func36, Try.ntmps36
  go_wp2_with (refine wpList_str _ rfl _ 34 9 5 rfl Try.underlying34 Try.underlying9 Try.underlying5 w.heap.size _ 4 4 [(n : Int) % 256, (n : Int) / 256 % 256, (n : Int) / 65536 % 256, (n : Int) / 16777216] rfl HO.out ?_)
  go_ret
  exact ⟨ret_bytes' HL.out, (Below.refl _ _).alloc (Nat.le_refl _) _⟩
end Go.Proofs.Yteheibgdjpkeaaa
