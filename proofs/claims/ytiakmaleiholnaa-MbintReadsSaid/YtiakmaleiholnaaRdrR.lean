/- The reference's reader: Byte, Number, Bytes, Text. No condition but the text's size. -/
import Derived.Test.YtiakmaleiholnaaRdrO
import Derived.IntWalk
namespace Go.Proofs.Ytiakmaleiholnaa
open Go.RowKit

theorem refByte_any (b : Nat) (s : ByteArray) (i : Nat) (e0 : Int) (w : World) (h : Rd w b s i e0) (hi : i ≤ s.size) (hs : s.size ≤ 140737488355328) :
    Calls Try.prog 42 #[.pointer (some ⟨b, 0, none⟩)] w fun e w' => e = .returned (.int .u8 (byteV s i e0).1) ∧ Rd w' b s (byteV s i e0).2.1 (byteV s i e0).2.2 ∧ Only b w w' := by
  have H := Lib.hid h
  have d0 := h.c0
  have d1 := h.c1
  have d2 := h.c2
  have g1 := h.f1
  have g2 := h.f2
  clear h
  by_cases he : e0 = 0
  · subst he
    by_cases hlt : i < s.size
    · have hv : byteV s i 0 = ((s[i].toNat : Int), i + 1, 0) := by
        unfold byteV; rw [if_neg (by simp), if_pos hlt, bat_get s i hlt]; rfl
      rw [hv]
      clear hv
      go_enter Try.func42, Try.ntmps42
      go_wp2
      go_quiet (fail)
      rename_i nq
      go_wp2
      have H3 := (H.out.drewN nq).setAt (i + 1)
      have HO := Lib.hid ((Only.drewN b w nq).trans (Only.set b 1 _ (.int .i64 ((i + 1 : Nat) : Int))))
      rw [show ((i + 1 : Nat) : Int) = (i : Int) + 1 from by omega] at H3 HO
      clear d0 d1 d2 g1 g2
      generalize (w.drewN nq).setCell ⟨b, 1, none⟩ (.int .i64 ((i : Int) + 1)) = w2 at *
      have d0 := H3.c0
      have d1 := H3.c1
      have HH := Lib.hid H3
      rw [show ((i + 1 : Nat) : Int) = (i : Int) + 1 from by omega] at d1
      have hA : IntKind.i64.wrap ((i : Int) + 1 - 1) = (i : Int) := (IntWalk.i64_in _ (by omega)).trans (by omega)
      have hA0 : (0 : Int) ≤ (i : Int) := by omega
      have hA1 : (i : Int) < s.size := by omega
      clear H3
      go_quiet (fail)
      go_wp2
      go_ret
      exact ⟨rfl, HH.out.drewN _, HO.out.trans (Only.drewN _ _ _)⟩
    · have hv : byteV s i 0 = (0, i, 1) := by unfold byteV; rw [if_neg (by simp), if_neg hlt]
      rw [hv]
      clear hv
      go_enter Try.func42, Try.ntmps42
      go_wp2
      go_quiet (fail)
      go_wp2
      go_ret
      exact ⟨rfl, (H.out.drewN _).setErr 1, (Only.drewN _ _ _).trans (Only.set _ _ _ _)⟩
  · have hv : byteV s i e0 = (0, i, e0) := by unfold byteV; rw [if_pos he]
    have hzb : (e0 == 0) = false := by simpa using he
    rw [hv]
    clear he hv
    go_enter Try.func42, Try.ntmps42
    go_wp2
    go_ret
    exact ⟨rfl, H.out, Only.refl _ _⟩
end Go.Proofs.Ytiakmaleiholnaa
