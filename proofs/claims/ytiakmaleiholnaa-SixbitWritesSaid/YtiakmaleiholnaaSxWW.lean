/- SixbitWrites: the walk. No condition. -/
import Derived.Test.YtiakmaleiholnaaEncW
import Derived.Test.YtiakmaleiholnaaREncW
namespace Go.Proofs.Ytiakmaleiholnaa
open Go.RowKit

theorem enc_a : strOfNums (encS ({ data := #[97] } : ByteArray).data.toList) = { data := #[89, 81, 61, 61] } := by decide +kernel

set_option maxHeartbeats 1000000 in
theorem sixbitWrites_walk (s : ByteArray) (_ : s.size ≤ 140737488351232) (w : World) :
    Calls Try.prog 10 #[.string s] w fun e w' => e = .returned (.bool true) ∧ Below w.heap.size w w' := by
  by_cases hbig : 3000 < s.size
  · have hbig' : (3000 : Int) < s.size := by omega
    go_enter Try.func10, Try.ntmps10
    go_wp2
    go_ret
    exact ⟨rfl, Below.refl _ _⟩
  · have hbig' : ¬ (3000 : Int) < s.size := by omega
    have hbig2 : decide (3000 < s.size) = false := by simp; omega
    have c1 := Lib.hid (fun w => encode_any s w (by omega))
    have c2 := Lib.hid (fun w => refEncode_any s w (by omega))
    have c3 := fun w => encode_any { data := #[97] } w (by decide)
    rw [enc_a] at c3
    have C3 := Lib.hid c3
    clear c3
    generalize strOfNums (encS s.data.toList) = E at *
    go_enter Try.func10, Try.ntmps10
    go_wp2_with fail
    refine (c1.out _).mono ?_
    rintro e w1 ⟨rfl, b1⟩
    go_wp2_with fail
    refine (c2.out _).mono ?_
    rintro e w2 ⟨rfl, b2⟩
    go_wp2_with fail
    refine (C3.out _).mono ?_
    rintro e w3 ⟨rfl, b3⟩
    go_wp2_with fail
    go_ret
    exact ⟨rfl, b1.trans ((b2.mono b1.size).trans (b3.mono (Nat.le_trans b1.size b2.size)))⟩
end Go.Proofs.Ytiakmaleiholnaa
