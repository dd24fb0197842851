/- works, and MbintOrder: the walks. No condition. -/
import Derived.Test.YtiakmaleiholnaaMbPlain
namespace Go.Proofs.Ytiakmaleiholnaa
open Go.RowKit

def exA : ByteArray := { data := #[130, 44, 97, 98, 0] }
def exB : ByteArray := { data := #[128, 1] }
theorem exA_num : numV exA 0 0 = (300, 2, 0) := by decide +kernel
theorem exA_text : textV exA 2 0 = ({ data := #[97, 98] }, 5, 0) := by decide +kernel
theorem exB_num : numV exB 0 0 = (0, 0, 3) := by decide +kernel
theorem ex300 : strOfNums (mbw 300) = { data := #[130, 44] } := by decide +kernel

set_option maxHeartbeats 1000000 in
theorem works2_any (w : World) : Calls Try.prog 36 #[] w fun e w' => e = .returned (.bool true) ∧ Below w.heap.size w w' := by
  have n1 : ∀ (b : Nat) (W : World), Rd W b exA 0 0 → Calls Try.prog 38 #[.pointer (some ⟨b, 0, none⟩)] W fun e w' => e = .returned (.int .u32 300) ∧ Rd w' b exA 2 0 ∧ Only b W w' := fun b W h => by
    have := number_any b exA 0 0 W h (Nat.zero_le _) (by decide); rw [exA_num] at this; exact this
  have n2 : ∀ (b : Nat) (W : World), Rd W b exA 2 0 → Calls Try.prog 46 #[.pointer (some ⟨b, 0, none⟩)] W fun e w' => e = .returned (.string { data := #[97, 98] }) ∧ Rd w' b exA 5 0 ∧ Only b W w' := fun b W h => by
    have := text2_any b exA 2 0 W h (by decide) (by decide); rw [exA_text] at this; exact this
  have n3 : ∀ (b : Nat) (W : World), Rd W b exB 0 0 → Calls Try.prog 38 #[.pointer (some ⟨b, 0, none⟩)] W fun e w' => e = .returned (.int .u32 0) ∧ Rd w' b exB 0 3 ∧ Only b W w' := fun b W h => by
    have := number_any b exB 0 0 W h (Nat.zero_le _) (by decide); rw [exB_num] at this; exact this
  have n4 := fun (W : World) => mbWrite_any 300 W (by decide)
  rw [ex300] at n4
  have N1 := Lib.hid n1
  have N2 := Lib.hid n2
  have N3 := Lib.hid n3
  have N4 := Lib.hid n4
  clear n1 n2 n3 n4
  go_enter Try.func36, Try.ntmps36
  go_wp2_with fail
  refine (new_any exA _).mono ?_
  rintro e w1 ⟨rfl, rfl⟩
  have h1 := Rd.new w exA 85
  have b1 := Lib.hid ((Below.refl w.heap.size w).alloc (Nat.le_refl _) (.cells #[.string exA, .int .i64 0, .int .i64 0] 85))
  generalize w.alloc (.cells #[.string exA, .int .i64 0, .int .i64 0] 85) = W1 at *
  have hle := b1.out.size
  go_wp2_with fail
  refine (N1.out _ _ h1).mono ?_
  rintro e w2 ⟨rfl, h2, o2⟩
  have b2 := Lib.hid (b1.out.trans (o2.below (Nat.le_refl _) hle))
  clear h1 o2
  go_wp2_with fail
  refine (N2.out _ _ h2).mono ?_
  rintro e w3 ⟨rfl, h3, o3⟩
  have b3 := Lib.hid (b2.out.trans (o3.below (Nat.le_refl _) b2.out.size))
  clear h2 o3
  go_wp2_with fail
  refine (err_any _ _ _ _ _ h3).mono ?_
  rintro e w4 ⟨rfl, m, rfl⟩
  have b4 := Lib.hid (b3.out.trans (below_drewN _ w3 m))
  clear h3
  generalize w3.drewN m = w4 at *
  go_wp2_with fail
  refine (new_any exB _).mono ?_
  rintro e w5 ⟨rfl, rfl⟩
  have h5 := Rd.new w4 exB 85
  have b5 := Lib.hid (b4.out.alloc b4.out.size (.cells #[.string exB, .int .i64 0, .int .i64 0] 85))
  have hle4 := b4.out.size
  generalize w4.alloc (.cells #[.string exB, .int .i64 0, .int .i64 0] 85) = W5 at *
  go_wp2_with fail
  refine (N3.out _ _ h5).mono ?_
  rintro e w6 ⟨rfl, h6, o6⟩
  have b6 := Lib.hid (b5.out.trans (o6.below hle4 b5.out.size))
  clear h5 o6
  go_wp2_with fail
  refine (err_any _ _ _ _ _ h6).mono ?_
  rintro e w7 ⟨rfl, m2, rfl⟩
  have b7 := Lib.hid (b6.out.trans (below_drewN _ w6 m2))
  clear h6
  generalize w6.drewN m2 = w7 at *
  go_wp2_with (go_at_call 21; refine (N4.out _).mono ?_; rintro e w8 ⟨rfl, b8⟩)
  go_ret
  exact ⟨rfl, b7.out.trans (b8.mono b7.out.size)⟩

theorem less_of {l m : List UInt8} : Op.bytesLess l m = decide (l.map UInt8.toNat < m.map UInt8.toNat) := by
  induction l generalizing m with
  | nil => cases m <;> simp [Op.bytesLess]
  | cons a l ih =>
    cases m with
    | nil => simp [Op.bytesLess]
    | cons b m =>
      rw [Op.bytesLess, ih, Bool.eq_iff_iff]
      simp [List.cons_lt_cons_iff, UInt8.lt_iff_toNat_lt, ← UInt8.toNat_inj]
end Go.Proofs.Ytiakmaleiholnaa
