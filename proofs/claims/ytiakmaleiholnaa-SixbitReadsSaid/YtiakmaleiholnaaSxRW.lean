/- SixbitReads: the walk. No condition. -/
import Derived.Test.YtiakmaleiholnaaDecS
namespace Go.Proofs.Ytiakmaleiholnaa
open Go.RowKit

set_option maxHeartbeats 1000000 in
theorem sixbitReads_walk (s : ByteArray) (_ : s.size ≤ 140737488351232) (w : World) :
    Calls Try.prog 9 #[.string s] w fun e w' => e = .returned (.bool true) ∧ Below w.heap.size w w' := by
  by_cases hbig : 3000 < s.size
  · have hbig' : (3000 : Int) < s.size := by omega
    go_enter Try.func9, Try.ntmps9
    go_wp2
    go_ret
    exact ⟨rfl, Below.refl _ _⟩
  · have hbig' : ¬ (3000 : Int) < s.size := by omega
    have c1 := Lib.hid (fun w => decode_any s w (by omega))
    have c2 := Lib.hid (fun w => refDecode_any s w (by omega))
    rw [prun_rtake] at c1
    generalize strOfNums (rtake [] s.data.toList).1 = E at *
    generalize (rtake [] s.data.toList).2 = n at *
    go_enter Try.func9, Try.ntmps9
    go_wp2_with fail
    refine (c1.out _).mono ?_
    rintro e w1 ⟨rfl, b1⟩
    go_wp2_with fail
    refine (c2.out _).mono ?_
    rintro e w2 ⟨rfl, b2⟩
    go_wp2_with fail
    go_ret
    exact ⟨rfl, b1.trans (b2.mono b1.size)⟩
end Go.Proofs.Ytiakmaleiholnaa
