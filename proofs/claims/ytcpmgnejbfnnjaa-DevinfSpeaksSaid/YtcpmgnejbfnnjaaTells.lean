/- BoundTells: Great, the reference's Piece and Messages, and the law's walk. No condition. -/
import Derived.Test.YtcpmgnejbfnnjaaSides
import Derived.Test.YtcpmgnejbfnnjaaBound
import Derived.Deep.Slices
import Derived.Deep.Fields
import Derived.ChangeSame
import Derived.Deep.QuietTactic
import Derived.BigQuiet
import Derived.Outline
import Derived.ProofKit
import Derived.OpenShut
import Derived.Lib.SmallJoins
import Derived.RangeFuncOwn
namespace Go.Proofs.Ytcpmgnejbfnnjaa
open Go.RowKit

theorem refPiece_any (size : Int) (tok : Bool) (w : World) (h0 : -9223372036854775808 ≤ size) (h1 : size ≤ 9223372036854775807) :
    Calls Try.prog 23 #[.int .i64 size, .bool tok] w fun e w' => e = .returned (.tuple #[.int .i64 (pcv size tok).1, .int .i64 (pcv size tok).2]) ∧ w = w' := by
  cases tok
  · by_cases g2 : size < 2000
    · have hf : pcv size false = (0, 2) := by unfold pcv; rw [if_pos (.inr (.inr ⟨rfl, g2⟩))]
      have HF := Lib.hid hf
      clear hf
      go_enter Try.func23, Try.ntmps23
      go_wp2
      go_ret2
      exact ⟨ret_two HF.out, rfl⟩
    · by_cases g1 : 12000 < size
      · have hf : pcv size false = (0, 2) := by unfold pcv; rw [if_pos (.inl g1)]
        have HF := Lib.hid hf
        clear hf
        go_enter Try.func23, Try.ntmps23
        go_wp2
        go_ret2
        exact ⟨ret_two HF.out, rfl⟩
      · have hf : pcv size false = (3 * (size - 1500) / 4, 0) := by unfold pcv; rw [if_neg (by simp; omega), if_neg (by simp)]
        have HF := Lib.hid hf
        clear hf
        go_enter Try.func23, Try.ntmps23
        go_wp2
        go_ret2
        exact ⟨ret_two (by rw [HF.out, Int.mul_comm]), rfl⟩
  · by_cases g2 : size < 700
    · have hf : pcv size true = (0, 2) := by unfold pcv; rw [if_pos (.inr (.inl ⟨rfl, g2⟩))]
      have HF := Lib.hid hf
      clear hf
      go_enter Try.func23, Try.ntmps23
      go_wp2
      go_ret2
      exact ⟨ret_two HF.out, rfl⟩
    · by_cases g1 : 12000 < size
      · have hf : pcv size true = (0, 2) := by unfold pcv; rw [if_pos (.inl g1)]
        have HF := Lib.hid hf
        clear hf
        go_enter Try.func23, Try.ntmps23
        go_wp2
        go_ret2
        exact ⟨ret_two HF.out, rfl⟩
      · have hf : pcv size true = (size - 650, 0) := by unfold pcv; rw [if_neg (by simp; omega), if_pos rfl]
        have HF := Lib.hid hf
        clear hf
        go_enter Try.func23, Try.ntmps23
        go_wp2
        go_ret2
        exact ⟨ret_two HF.out, rfl⟩

set_option maxHeartbeats 1000000 in
theorem refMessages_any (items bytes size : Int) (tok : Bool) (w : World) (h0 : -9223372036854775808 ≤ size) (h1 : size ≤ 9223372036854775807) :
    Calls Try.prog 24 #[.int .i64 items, .int .i64 bytes, .int .i64 size, .bool tok] w fun e w' => e = .returned (.tuple #[.int .i64 (msgv items bytes size tok).1, .int .i64 (msgv items bytes size tok).2]) ∧ w = w' := by
  by_cases hbad : items < 0 ∨ 65536 < items ∨ bytes < 0 ∨ 16777216 < bytes
  · have hf : msgv items bytes size tok = (0, 2) := by unfold msgv; rw [if_pos hbad]
    have HF := Lib.hid hf
    clear hf
    have key : items < 0 ∨ (0 ≤ items ∧ 65536 < items) ∨ (0 ≤ items ∧ items ≤ 65536 ∧ bytes < 0) ∨ (0 ≤ items ∧ items ≤ 65536 ∧ 0 ≤ bytes ∧ 16777216 < bytes) := by omega
    clear hbad
    rcases key with k1 | ⟨k1, k2⟩ | ⟨k1, k2, k3⟩ | ⟨k1, k2, k3, k4⟩
    all_goals
      go_enter Try.func24, Try.ntmps24
      go_wp2_with fail
      go_ret2
      exact ⟨ret_two HF.out, rfl⟩
  · have k1 : 0 ≤ items := by omega
    have k2 : items ≤ 65536 := by omega
    have k3 : 0 ≤ bytes := by omega
    have k4 : bytes ≤ 16777216 := by omega
    have c := Lib.hid (fun w => refPiece_any size tok w h0 h1)
    have hm : msgv items bytes size tok = if (pcv size tok).2 ≠ 0 then (0, (pcv size tok).2) else (10 + 6 * items + 2 * bytes / (pcv size tok).1, 0) := by unfold msgv; rw [if_neg hbad]
    clear hbad
    rcases pcv_cases size tok with hp | ⟨p, hp, p1, p2⟩
    · rw [hp] at hm c
      have HF := Lib.hid hm
      clear hm hp
      go_enter Try.func24, Try.ntmps24
      go_wp2_with (go_at_call 23; with_reducible refine (c.out _).mono ?_; rintro e w' ⟨rfl, rfl⟩)
      go_ret2
      exact ⟨ret_two HF.out, rfl⟩
    · rw [hp] at hm c
      have HF := Lib.hid hm
      have q1 : 0 ≤ 2 * bytes / p := Int.ediv_nonneg (by omega) (by omega)
      have q2 : 2 * bytes / p ≤ 33554432 := Int.le_trans (Int.ediv_le_self p (by omega)) (by omega)
      clear hm hp
      go_enter Try.func24, Try.ntmps24
      go_wp2_with (go_at_call 23; with_reducible refine (c.out _).mono ?_; rintro e w' ⟨rfl, rfl⟩)
      go_ret2
      exact ⟨ret_two HF.out, rfl⟩

def SomeBool (B : Nat) (w : World) (e : Ending) (w' : World) : Prop := ∃ b : Bool, e = .returned (.bool b) ∧ Below B w w'

theorem below_drewN (B : Nat) (w : World) (n : Nat) : Below B w (w.drewN n) := ⟨rfl, rfl, rfl, Nat.le_refl _, fun _ _ => rfl⟩

set_option maxRecDepth 100000 in
set_option maxHeartbeats 1000000 in
theorem great35_any (e g p r : Option Addr) (en gn pn rn ec gc pc rc : Nat) (T U X Y : Nat → ByteArray) (w : World) (hE : Row4 w e en T) (hR : Row9 w r rn U X Y) (ne : en ≤ maxLen) (ng : gn ≤ maxLen) (np : pn ≤ maxLen) (nr : rn ≤ maxLen) :
    Calls Try.prog 19 #[.agg #[.slice e en ec, .slice g gn gc, .slice p pn pc, .slice r rn rc]] w (SomeBool w.heap.size w) := by
  have HE := Lib.hid hE
  have HR := Lib.hid hR
  clear hE hR
  simp only [maxLen] at ne ng np nr
  have hbox := Box4.new w (.slice e en ec) (.slice g gn gc) (.slice p pn pc) (.slice r rn rc) 46
  by_cases big : 100 < en ∨ 100 < gn ∨ 100 < pn ∨ 150 < rn
  · have key : 100 < en ∨ (en ≤ 100 ∧ 100 < gn) ∨ (en ≤ 100 ∧ gn ≤ 100 ∧ 100 < pn) ∨ (en ≤ 100 ∧ gn ≤ 100 ∧ pn ≤ 100 ∧ 150 < rn) := by omega
    clear big
    rcases key with k1 | ⟨k1, k2⟩ | ⟨k1, k2, k3⟩ | ⟨k1, k2, k3, k4⟩
    all_goals
      go_enter Try.func19, Try.ntmps19
      go_wp2_with fail
      go_ret
      exact ⟨true, rfl, (Below.refl _ _).alloc (Nat.le_refl _) _⟩
  · have k1 : en ≤ 100 := by omega
    have k2 : gn ≤ 100 := by omega
    have k3 : pn ≤ 100 := by omega
    have k4 : rn ≤ 150 := by omega
    have l1 : decide (100 < en) = false := by simp; omega
    have l2 : decide (100 < gn) = false := by simp; omega
    have l3 : decide (100 < pn) = false := by simp; omega
    have l4 : decide (150 < rn) = false := by simp; omega
    clear big
    go_enter Try.func19, Try.ntmps19
    go_wp2_with fail
    go_loop [3, 4] (fun n i => ∃ (k : Nat) (x : Int), k ≤ en ∧ i = .int .i64 k ∧ n = .int .i64 x) (fun _ i => en - (intOf i).toNat)
    case atStart => exact ⟨0, 0, Nat.zero_le _, rfl, rfl⟩
    case round =>
      obtain ⟨k, x, hk, rfl, rfl⟩ := hrel
      by_cases hlt : k < en
      · obtain ⟨b, o, x0, x1, x2, rfl, hl, h0, h1, h2, h3⟩ := HE.out k hlt
        generalize T k = t at *
        go_wp2
        · go_ret
          exact ⟨true, rfl, (Below.refl _ _).alloc (Nat.le_refl _) _⟩
        · go_round
          case rel => exact ⟨k + 1, _, by omega, by go_num, rfl⟩
          case measure => simp [intOf]; omega
      · obtain rfl : k = en := by omega
        go_wp2
        obtain ⟨wo, hwo⟩ : ∃ wo, wo = w.alloc (.cells #[.slice e k ec, .slice g gn gc, .slice p pn pc, .slice r rn rc] 46) := ⟨_, rfl⟩
        have hb0 : Below w.heap.size w wo := by rw [hwo]; exact (Below.refl _ _).alloc (Nat.le_refl _) _
        have hz0 : w.heap.size < wo.heap.size := by rw [hwo]; simp
        rw [← hwo]
        rw [← hwo] at hbox
        clear hwo
        go_loopw [3, 5] (fun n i wr => ∃ (m : Nat) (y : Int), m ≤ rn ∧ i = .int .i64 m ∧ n = .int .i64 y ∧ Below w.heap.size w wr ∧ w.heap.size < wr.heap.size ∧ Box4 wr w.heap.size (.slice e k ec) (.slice g gn gc) (.slice p pn pc) (.slice r rn rc)) (fun _ i _ => rn - (intOf i).toNat)
        case atStart => exact ⟨0, x, Nat.zero_le _, rfl, rfl, hb0, hz0, hbox⟩
        clear hb0 hz0 hbox
        case round =>
          obtain ⟨m, y, hm, rfl, rfl, hb, hz, c0, c1, c2, c3⟩ := hrel
          by_cases hlt : m < rn
          · obtain ⟨b, o, x0, x1, x2, x4, x5, x7, rfl, hl, h0, h1, h2, h3, h4, h5, h6, h7, h8⟩ := (HR.out.below hb) m hlt
            generalize U m = t at *
            generalize X m = t2 at *
            generalize Y m = t3 at *
            go_wp2
            have m0 : (0 : Int) ≤ (m : Int) := by omega
            have m1 : (m : Int) < rn := by omega
            go_quiet (fail)
            rename_i nq
            go_wp2
            · go_ret
              exact ⟨true, rfl, hb.trans (below_drewN _ _ nq)⟩
            · go_roundw
              case rel => exact ⟨m + 1, _, by omega, by go_num, rfl, hb.trans (below_drewN _ _ nq), hz, c0, c1, c2, c3⟩
              case measure => simp [intOf]; omega
          · go_wp2
            go_ret
            exact ⟨false, rfl, hb⟩
end Go.Proofs.Ytcpmgnejbfnnjaa
