/- digest: the walks of its laws. -/
import Derived.Test.YteheibgdjpkeaaaRMac
import Derived.Test.YteheibgdjpkeaaaHex
namespace Go.Proofs.Yteheibgdjpkeaaa
open Go.RowKit

theorem abc_hex : strOfNums (hexL (mkS (md5 [97, 98, 99])).data.toList) = { data := #[57, 48, 48, 49, 53, 48, 57, 56, 51, 67, 68, 50, 52, 70, 66, 48, 68, 54, 57, 54, 51, 70, 55, 68, 50, 56, 69, 49, 55, 70, 55, 50] } := by
  rw [abc_sum]; decide +kernel

set_option maxRecDepth 100000 in
set_option maxHeartbeats 4000000 in
theorem sums_walk (s : ByteArray) (_ : s.size ≤ 140737488351232) (w : World) : Calls Try.prog 3 #[.string s] w fun e w' => e = .returned (.bool true) ∧ Below w.heap.size w w' := by
  by_cases hbig : 5000 < s.size
  · have hbig' : (5000 : Int) < s.size := by omega
    go_enter Try.func3, Try.ntmps3
    go_wp2
    go_ret
    exact ⟨rfl, Below.refl _ _⟩
  · have hbig' : ¬ (5000 : Int) < s.size := by omega
    have c1 := Lib.hid (fun w => sum_any s (by omega) w)
    have c2 := Lib.hid (fun w => refSum_any s (by omega) w)
    have c3 : Hid (∀ w, Calls Try.prog 10 #[.string { data := #[97, 98, 99] }] w fun e w' => e = .returned (.string (mkS (md5 [97, 98, 99]))) ∧ Below w.heap.size w w') := fun w => sum_any _ (by decide) w
    have c4 : Hid (∀ w, Calls Try.prog 12 #[.string (mkS (md5 [97, 98, 99]))] w fun e w' => e = .returned (.string { data := #[57, 48, 48, 49, 53, 48, 57, 56, 51, 67, 68, 50, 52, 70, 66, 48, 68, 54, 57, 54, 51, 70, 55, 68, 50, 56, 69, 49, 55, 70, 55, 50] }) ∧ Below w.heap.size w w') := fun w => by
      rw [← abc_hex]
      exact refHex_any _ w (by rw [mkS_size, md5_len]; omega)
    generalize mkS (md5 s.data.toList) = R at *
    generalize mkS (md5 [97, 98, 99]) = Q at *
    go_enter Try.func3, Try.ntmps3
    go_wp2_with fail
    refine (c1.out _).mono ?_
    rintro e w1 ⟨rfl, hb1⟩
    go_wp2_with fail
    refine (c2.out _).mono ?_
    rintro e w2 ⟨rfl, hb2⟩
    go_wp2_with fail
    refine (c3.out _).mono ?_
    rintro e w3 ⟨rfl, hb3⟩
    go_wp2_with fail
    refine (c4.out _).mono ?_
    rintro e w4 ⟨rfl, hb4⟩
    go_wp2_with fail
    go_ret
    have s1 := hb1.size
    have s2 := hb2.size
    have s3 := hb3.size
    exact ⟨rfl, ((hb1.trans (hb2.mono s1)).trans (hb3.mono (by omega))).trans (hb4.mono (by omega))⟩

set_option maxRecDepth 100000 in
set_option maxHeartbeats 4000000 in
theorem macs_walk (key : ByteArray) (_ : key.size ≤ 140737488351232) (s : ByteArray) (_ : s.size ≤ 140737488351232) (w : World) : Calls Try.prog 5 #[.string key, .string s] w fun e w' => e = .returned (.bool true) ∧ Below w.heap.size w w' := by
  by_cases hbig : 3000 < s.size
  · have hbig' : (3000 : Int) < s.size := by omega
    go_enter Try.func5, Try.ntmps5
    go_wp2
    go_ret
    exact ⟨rfl, Below.refl _ _⟩
  have hbig' : ¬ (3000 : Int) < s.size := by omega
  by_cases hk : 3000 < key.size
  · have hk' : (3000 : Int) < key.size := by omega
    go_enter Try.func5, Try.ntmps5
    go_wp2
    go_ret
    exact ⟨rfl, Below.refl _ _⟩
  · have hk' : ¬ (3000 : Int) < key.size := by omega
    have c1 := Lib.hid (fun w => mac_any key s (by omega) (by omega) w)
    have c2 := Lib.hid (fun w => refMac_any key s (by omega) (by omega) w)
    have c3 : Hid (∀ w, Calls Try.prog 17 #[.string { data := #[] }, .string { data := #[] }] w fun e w' => e = .returned (.string (mkS (macL [] []))) ∧ Below w.heap.size w w') := fun w => mac_any _ _ (by decide) (by decide) w
    have hz : ((mkS (macL [] [])).size : Int) = 16 := by rw [mkS_size, macL_len]; rfl
    generalize mkS (macL key.data.toList s.data.toList) = R at *
    generalize mkS (macL [] []) = Q at *
    go_enter Try.func5, Try.ntmps5
    go_wp2_with fail
    refine (c1.out _).mono ?_
    rintro e w1 ⟨rfl, hb1⟩
    go_wp2_with fail
    refine (c2.out _).mono ?_
    rintro e w2 ⟨rfl, hb2⟩
    go_wp2_with fail
    refine (c3.out _).mono ?_
    rintro e w3 ⟨rfl, hb3⟩
    go_wp2_with fail
    go_ret
    have s1 := hb1.size
    have s2 := hb2.size
    exact ⟨rfl, (hb1.trans (hb2.mono s1)).trans (hb3.mono (by omega))⟩
end Go.Proofs.Yteheibgdjpkeaaa
