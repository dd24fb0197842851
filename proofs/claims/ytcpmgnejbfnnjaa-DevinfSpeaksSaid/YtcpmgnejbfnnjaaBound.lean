/- bound.Piece and bound.Messages: plain functions and their walks. No condition. -/
import Derived.Test.YtcpmgnejbfnnjaaProg
import Derived.Test.YtcpmgnejbfnnjaaKit
namespace Go.Proofs.Ytcpmgnejbfnnjaa
open Go.RowKit

def pcv (size : Int) (tok : Bool) : Int × Int :=
  if 12000 < size ∨ (tok = true ∧ size < 700) ∨ (tok = false ∧ size < 2000) then (0, 2) else if tok = true then (size - 650, 0) else (3 * (size - 1500) / 4, 0)

def msgv (items bytes size : Int) (tok : Bool) : Int × Int :=
  if items < 0 ∨ 65536 < items ∨ bytes < 0 ∨ 16777216 < bytes then (0, 2) else if (pcv size tok).2 ≠ 0 then (0, (pcv size tok).2) else (10 + 6 * items + 2 * bytes / (pcv size tok).1, 0)

theorem pcv_cases (size : Int) (tok : Bool) : pcv size tok = (0, 2) ∨ ∃ p, pcv size tok = (p, 0) ∧ 50 ≤ p ∧ p ≤ 12000 := by
  unfold pcv
  split
  · exact .inl rfl
  · rename_i h
    cases tok
    · exact .inr ⟨_, rfl, by simp at h; omega, by simp at h; omega⟩
    · exact .inr ⟨_, rfl, by simp at h; omega, by simp at h; omega⟩

theorem ret_two {p : Int × Int} {a b : Int} (h : p = (a, b)) : Ending.returned (.tuple #[.int .i64 a, .int .i64 b]) = Ending.returned (.tuple #[.int .i64 p.1, .int .i64 p.2]) := by subst h; rfl

theorem piece_any (size : Int) (tok : Bool) (w : World) (h0 : -9223372036854775808 ≤ size) (h1 : size ≤ 9223372036854775807) :
    Calls Try.prog 22 #[.int .i64 size, .bool tok] w fun e w' => e = .returned (.tuple #[.int .i64 (pcv size tok).1, .int .i64 (pcv size tok).2]) ∧ w = w' := by
  by_cases g1 : 12000 < size
  · have hf : pcv size tok = (0, 2) := by unfold pcv; rw [if_pos (.inl g1)]
    have HF := Lib.hid hf
    clear hf
    go_enter Try.func22, Try.ntmps22
    go_wp2
    go_ret2
    exact ⟨ret_two HF.out, rfl⟩
  · cases tok
    · by_cases g2 : size < 2000
      · have hf : pcv size false = (0, 2) := by unfold pcv; rw [if_pos (.inr (.inr ⟨rfl, g2⟩))]
        have HF := Lib.hid hf
        clear hf
        go_enter Try.func22, Try.ntmps22
        go_wp2
        go_ret2
        exact ⟨ret_two HF.out, rfl⟩
      · have hf : pcv size false = (3 * (size - 1500) / 4, 0) := by unfold pcv; rw [if_neg (by simp; omega), if_neg (by simp)]
        have HF := Lib.hid hf
        clear hf
        go_enter Try.func22, Try.ntmps22
        go_wp2
        go_ret2
        exact ⟨ret_two HF.out, rfl⟩
    · by_cases g2 : size < 700
      · have hf : pcv size true = (0, 2) := by unfold pcv; rw [if_pos (.inr (.inl ⟨rfl, g2⟩))]
        have HF := Lib.hid hf
        clear hf
        go_enter Try.func22, Try.ntmps22
        go_wp2
        go_ret2
        exact ⟨ret_two HF.out, rfl⟩
      · have hf : pcv size true = (size - 650, 0) := by unfold pcv; rw [if_neg (by simp; omega), if_pos rfl]
        have HF := Lib.hid hf
        clear hf
        go_enter Try.func22, Try.ntmps22
        go_wp2
        go_ret2
        exact ⟨ret_two HF.out, rfl⟩

set_option maxHeartbeats 1000000 in
theorem messages_any (items bytes size : Int) (tok : Bool) (w : World) (h0 : -9223372036854775808 ≤ size) (h1 : size ≤ 9223372036854775807) :
    Calls Try.prog 11 #[.int .i64 items, .int .i64 bytes, .int .i64 size, .bool tok] w fun e w' => e = .returned (.tuple #[.int .i64 (msgv items bytes size tok).1, .int .i64 (msgv items bytes size tok).2]) ∧ w = w' := by
  by_cases hbad : items < 0 ∨ 65536 < items ∨ bytes < 0 ∨ 16777216 < bytes
  · have hf : msgv items bytes size tok = (0, 2) := by unfold msgv; rw [if_pos hbad]
    have HF := Lib.hid hf
    clear hf
    have key : items < 0 ∨ (0 ≤ items ∧ 65536 < items) ∨ (0 ≤ items ∧ items ≤ 65536 ∧ bytes < 0) ∨ (0 ≤ items ∧ items ≤ 65536 ∧ 0 ≤ bytes ∧ 16777216 < bytes) := by omega
    clear hbad
    rcases key with k1 | ⟨k1, k2⟩ | ⟨k1, k2, k3⟩ | ⟨k1, k2, k3, k4⟩
    all_goals
      go_enter Try.func11, Try.ntmps11
      go_wp2_with fail
      go_ret2
      exact ⟨ret_two HF.out, rfl⟩
  · have k1 : 0 ≤ items := by omega
    have k2 : items ≤ 65536 := by omega
    have k3 : 0 ≤ bytes := by omega
    have k4 : bytes ≤ 16777216 := by omega
    have c := Lib.hid (fun w => piece_any size tok w h0 h1)
    have hm : msgv items bytes size tok = if (pcv size tok).2 ≠ 0 then (0, (pcv size tok).2) else (10 + 6 * items + 2 * bytes / (pcv size tok).1, 0) := by unfold msgv; rw [if_neg hbad]
    clear hbad
    rcases pcv_cases size tok with hp | ⟨p, hp, p1, p2⟩
    · rw [hp] at hm c
      have HF := Lib.hid hm
      clear hm hp
      go_enter Try.func11, Try.ntmps11
      go_wp2_with (go_at_call 22; with_reducible refine (c.out _).mono ?_; rintro e w' ⟨rfl, rfl⟩)
      go_ret2
      exact ⟨ret_two HF.out, rfl⟩
    · rw [hp] at hm c
      have HF := Lib.hid hm
      have q1 : 0 ≤ 2 * bytes / p := Int.ediv_nonneg (by omega) (by omega)
      have q2 : 2 * bytes / p ≤ 33554432 := Int.le_trans (Int.ediv_le_self p (by omega)) (by omega)
      clear hm hp
      go_enter Try.func11, Try.ntmps11
      go_wp2_with (go_at_call 22; with_reducible refine (c.out _).mono ?_; rintro e w' ⟨rfl, rfl⟩)
      go_ret2
      exact ⟨ret_two HF.out, rfl⟩

theorem works36_any (w : World) : Calls Try.prog 10 #[] w fun e w' => e = .returned (.bool true) ∧ w = w' := by
  have c := Lib.hid (fun w => messages_any 1 50 700 true w (by omega) (by omega))
  have hv : msgv 1 50 700 true = (18, 0) := by decide
  rw [hv] at c
  clear hv
  go_enter Try.func10, Try.ntmps10
  go_wp2_with (go_at_call 11; with_reducible refine (c.out _).mono ?_; rintro e w' ⟨rfl, rfl⟩)
  go_ret
  exact ⟨rfl, rfl⟩
end Go.Proofs.Ytcpmgnejbfnnjaa
