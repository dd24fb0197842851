/- the reference's Lines: the walk. No condition but the text's size. -/
import Derived.Test.YtiakmaleiholnaaPcs
namespace Go.Proofs.Ytiakmaleiholnaa
open Go.RowKit


set_option maxHeartbeats 1000000 in
theorem refLines_k (s : ByteArray) (k : Nat) (hk1 : 1 ≤ k) (w : World) (hs : s.size ≤ 1000000) :
    Calls Try.prog 19 #[.string s, .int .i64 (k : Int)] w fun e w' => ∃ a c, e = .returned (.slice a (chk k s).length c) ∧
      w'.ownsRow w.heap.size 9 1 (.slice a (chk k s).length c) (chk k s).length ((chk k s).map Value.string) ∧ Below w.heap.size w w' := by
  obtain ⟨L, hL⟩ : ∃ L, chk k s = L := ⟨_, rfl⟩
  have HL := Lib.hid hL
  rw [hL]
  clear hL
  have hkk : (1 : Int) ≤ (k : Int) := by omega
  go_enter Try.func19, Try.ntmps19
  go_wp2_with fail
  go_loopw [0, 5] (fun r l wr => ∃ (R : ByteArray) (pre : List ByteArray) (a : Option Addr) (c : Nat), r = .string R ∧ l = .slice a pre.length c ∧ R.size ≤ s.size ∧ pre.length + R.size ≤ s.size ∧ wr.ownsRow w.heap.size 9 1 (.slice a pre.length c) pre.length (pre.map Value.string) ∧ Below w.heap.size w wr ∧ Hid (pre ++ chk k R = L)) (fun r _ _ => match r with | .string R => R.size | _ => 0)
  case atStart => exact ⟨s, [], none, 0, rfl, rfl, Nat.le_refl _, by simp, World.ownsRow_nil _ _ _ _, Below.refl _ _, HL.out⟩
  case round =>
    obtain ⟨R, pre, a, c, rfl, rfl, hR, hpR, hown, hb, HP⟩ := hrel
    have hsz := hb.size
    have g1 : pre.length + 1 ≤ maxLen := by simp [maxLen]; omega
    have g2 : (pre.length + 1) * 16 ≤ 140737488355328 := by omega
    by_cases hlt : k < R.size
    · have HC : Hid (chk k R = R.extract 0 k :: chk k (R.extract k R.size)) := by unfold Hid; rw [chk_cons hk1 (by omega), Nat.min_eq_left (by omega)]
      have HP2 : Hid ((pre ++ [R.extract 0 k]) ++ chk k (R.extract k R.size) = L) := by unfold Hid; rw [← HP.out, HC.out]; simp
      have hsz2 : (R.extract k R.size).size = R.size - k := by simp
      have HS2 := Lib.hid hsz2
      have HX := Lib.hid hown
      have HB := Lib.hid hb
      have hlt' : ((k : Int) : Int) ≤ (R.size : Int) := by omega
      clear hsz2 hown hb HP HC
      go_wp2_with (at_builtin; go_must (refine wpList_app1 _ _ rfl _ _ 27 9 _ _ S27 rfl w.heap.size _ _ _ rfl rfl rfl HX.out g1 g2 hsz ?_); intro a' c' w1 hown1 hgr1 _ hb1)
      have HO := Lib.hid hown1
      have HB2 := Lib.hid (HB.out.trans hb1)
      clear hown1 hgr1 hb1
      go_wp2_with fail
      go_roundw
      case rel => exact ⟨_, pre ++ [R.extract 0 k], a', c', rfl, by simp, by rw [HS2.out]; omega, by rw [HS2.out]; simp; omega, by simpa using HO.out, HB2.out, HP2.out⟩
      case measure => simp; omega
    · by_cases hz : R.size = 0
      · have HP2 : Hid (L = pre) := by unfold Hid; rw [← HP.out, chk_nil hz, List.append_nil]
        have hre := empty_of_size R hz
        subst hre
        have HX := Lib.hid hown
        have HB := Lib.hid hb
        clear hown hb HP
        go_wp2_with fail
        go_ret
        exact ⟨a, c, by rw [HP2.out]; rfl, by rw [HP2.out]; exact HX.out, HB.out⟩
      · have hne : R.toList.isEmpty = false := by
          rw [ByteArray.toList_eq, List.isEmpty_eq_false_iff]; intro h; apply hz; rw [← len_toList, h]; rfl
        have hall : R.extract 0 R.size = R := by simp
        have hemp : R.extract R.size R.size = ByteArray.empty := by apply empty_of_size; simp
        have HP2 : Hid (L = pre ++ [R]) := by unfold Hid; rw [← HP.out, chk_cons hk1 hz, Nat.min_eq_right (by omega), hall, hemp, chk_nil (by rfl)]
        have HX := Lib.hid hown
        have HB := Lib.hid hb
        clear hown hb HP hall hemp
        go_wp2_with (at_builtin; go_must (refine wpList_app1 _ _ rfl _ _ 27 9 _ _ S27 rfl w.heap.size _ _ _ rfl rfl rfl HX.out g1 g2 hsz ?_); intro a' c' w1 hown1 hgr1 _ hb1)
        go_ret
        exact ⟨a', c', by rw [HP2.out]; simp, by rw [HP2.out]; simpa using hown1, HB.out.trans hb1⟩

set_option maxHeartbeats 1000000 in
theorem refLines_one (s : ByteArray) (width : Int) (hw : width < 1) (w : World) (hs : s.size ≤ 1000000) :
    Calls Try.prog 19 #[.string s, .int .i64 width] w fun e w' => ∃ a c, e = .returned (.slice a (chk 1 s).length c) ∧
      w'.ownsRow w.heap.size 9 1 (.slice a (chk 1 s).length c) (chk 1 s).length ((chk 1 s).map Value.string) ∧ Below w.heap.size w w' := by
  obtain ⟨L, hL⟩ : ∃ L, chk 1 s = L := ⟨_, rfl⟩
  have HL := Lib.hid hL
  rw [hL]
  clear hL
  have hw' := hw
  go_enter Try.func19, Try.ntmps19
  go_wp2_with fail
  go_loopw [0, 5] (fun r l wr => ∃ (R : ByteArray) (pre : List ByteArray) (a : Option Addr) (c : Nat), r = .string R ∧ l = .slice a pre.length c ∧ R.size ≤ s.size ∧ pre.length + R.size ≤ s.size ∧ wr.ownsRow w.heap.size 9 1 (.slice a pre.length c) pre.length (pre.map Value.string) ∧ Below w.heap.size w wr ∧ Hid (pre ++ chk 1 R = L)) (fun r _ _ => match r with | .string R => R.size | _ => 0)
  case atStart => exact ⟨s, [], none, 0, rfl, rfl, Nat.le_refl _, by simp, World.ownsRow_nil _ _ _ _, Below.refl _ _, HL.out⟩
  case round =>
    obtain ⟨R, pre, a, c, rfl, rfl, hR, hpR, hown, hb, HP⟩ := hrel
    have hsz := hb.size
    have g1 : pre.length + 1 ≤ maxLen := by simp [maxLen]; omega
    have g2 : (pre.length + 1) * 16 ≤ 140737488355328 := by omega
    by_cases hlt : 1 < R.size
    · have HC : Hid (chk 1 R = R.extract 0 1 :: chk 1 (R.extract 1 R.size)) := by unfold Hid; rw [chk_cons (Nat.le_refl 1) (by omega), Nat.min_eq_left (by omega)]
      have HP2 : Hid ((pre ++ [R.extract 0 1]) ++ chk 1 (R.extract 1 R.size) = L) := by unfold Hid; rw [← HP.out, HC.out]; simp
      have hsz2 : (R.extract 1 R.size).size = R.size - 1 := by simp
      have HS2 := Lib.hid hsz2
      have HX := Lib.hid hown
      have HB := Lib.hid hb
      have hlt' : (1 : Int) ≤ (R.size : Int) := by omega
      clear hsz2 hown hb HP HC
      go_wp2_with (at_builtin; go_must (refine wpList_app1 _ _ rfl _ _ 27 9 _ _ S27 rfl w.heap.size _ _ _ rfl rfl rfl HX.out g1 g2 hsz ?_); intro a' c' w1 hown1 hgr1 _ hb1)
      have HO := Lib.hid hown1
      have HB2 := Lib.hid (HB.out.trans hb1)
      clear hown1 hgr1 hb1
      go_wp2_with fail
      go_roundw
      case rel => exact ⟨_, pre ++ [R.extract 0 1], a', c', rfl, by simp, by rw [HS2.out]; omega, by rw [HS2.out]; simp; omega, by simpa using HO.out, HB2.out, HP2.out⟩
      case measure => simp; omega
    · by_cases hz : R.size = 0
      · have HP2 : Hid (L = pre) := by unfold Hid; rw [← HP.out, chk_nil hz, List.append_nil]
        have hre := empty_of_size R hz
        subst hre
        have HX := Lib.hid hown
        have HB := Lib.hid hb
        clear hown hb HP
        go_wp2_with fail
        go_ret
        exact ⟨a, c, by rw [HP2.out]; rfl, by rw [HP2.out]; exact HX.out, HB.out⟩
      · have hne : R.toList.isEmpty = false := by
          rw [ByteArray.toList_eq, List.isEmpty_eq_false_iff]; intro h; apply hz; rw [← len_toList, h]; rfl
        have hall : R.extract 0 R.size = R := by simp
        have hemp : R.extract R.size R.size = ByteArray.empty := by apply empty_of_size; simp
        have HP2 : Hid (L = pre ++ [R]) := by unfold Hid; rw [← HP.out, chk_cons (Nat.le_refl 1) hz, Nat.min_eq_right (by omega), hall, hemp, chk_nil (by rfl)]
        have HX := Lib.hid hown
        have HB := Lib.hid hb
        clear hown hb HP hall hemp
        go_wp2_with (at_builtin; go_must (refine wpList_app1 _ _ rfl _ _ 27 9 _ _ S27 rfl w.heap.size _ _ _ rfl rfl rfl HX.out g1 g2 hsz ?_); intro a' c' w1 hown1 hgr1 _ hb1)
        go_ret
        exact ⟨a', c', by rw [HP2.out]; simp, by rw [HP2.out]; simpa using hown1, HB.out.trans hb1⟩

theorem refLines_any (s : ByteArray) (width : Int) (w : World) (hs : s.size ≤ 1000000) :
    Calls Try.prog 19 #[.string s, .int .i64 width] w fun e w' => ∃ a c, e = .returned (.slice a (chk (wd width) s).length c) ∧
      w'.ownsRow w.heap.size 9 1 (.slice a (chk (wd width) s).length c) (chk (wd width) s).length ((chk (wd width) s).map Value.string) ∧ Below w.heap.size w w' := by
  by_cases h : width < 1
  · have e : wd width = 1 := by unfold wd; omega
    rw [e]
    exact refLines_one s width h w hs
  · have e : width = (wd width : Int) := by unfold wd; omega
    have := refLines_k s (wd width) (wd_pos width) w hs
    rw [← e] at this
    exact this
end Go.Proofs.Ytiakmaleiholnaa
