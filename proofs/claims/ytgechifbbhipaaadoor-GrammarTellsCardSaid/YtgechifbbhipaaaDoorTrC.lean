/- tree: names and what may be shown, both; check of an element itself, the program's. No condition but sizes and the tables. -/
import Derived.Test.YtgechifbbhipaaaDoorTrL
set_option linter.unusedVariables false
set_option linter.unusedSimpArgs false
namespace Go.Proofs.YtgechifbbhipaaaDoor
open Go.RowKit

def badN (s : ByteArray) : Bool := s.data.toList.any fun c => (!namB c.toNat)
def badS (s : ByteArray) : Bool := s.data.toList.any fun c => (!shoB c.toNat)
def nameB (s : ByteArray) : Bool := decide (s.size ≠ 0) && (decide (s.size ≤ 32) && (letB (gb s 0) && !badN s))
def shownB (s : ByteArray) : Bool := (ltS s).2 && !badS s
theorem emptyB (s : ByteArray) (h : s.size = 0) : s.toList.isEmpty = true := by
  rw [ByteArray.toList_eq, List.isEmpty_iff]; exact List.eq_nil_of_length_eq_zero (by rw [len_toList]; exact h)

set_option maxRecDepth 100000 in
set_option maxHeartbeats 4000000 in
theorem named_any (s : ByteArray) (hs : s.size ≤ 140737488355328) (w : World) : Calls Tryd.prog 181 #[.string s] w fun e w' => e = .returned (.bool (nameB s)) ∧ Below w.heap.size w w' := by
  by_cases h0 : s.size = 0
  · have hR : nameB s = false := by simp [nameB, h0]
    have he := emptyB s h0
    rw [hR]
    clear h0 hR
    go_enter Tryd.func181, Tryd.ntmps181
    go_wp2
    go_ret
    exact ⟨rfl, Below.refl _ _⟩
  · have he := not_empty s h0
    by_cases h1 : s.size ≤ 32
    · have i1 : (s.size : Int) ≤ 32 := by omega
      have hrd := run_gb s 0 (by omega)
      have hgl := gb_lt s 0
      have cL := Lib.hid (fun w => letter_any (gb s 0) hgl w)
      cases hl : letB (gb s 0) with
      | false =>
        have hR : nameB s = false := by simp [nameB, hl]
        rw [hR]
        rw [hl] at cL
        clear hR hl
        generalize gb s 0 = c at *
        have hrd0 : ∀ w, (Instr.index 9 (.string s) (.int .i64 0)).run Tryd.prog w = .ok (.int .u8 (c : Int)) w := hrd
        clear hrd
        go_enter Tryd.func181, Tryd.ntmps181
        go_wp2_with (go_at_call 201; refine (cL.out _).mono ?_; rintro e w1 ⟨rfl, rfl⟩)
        go_ret
        exact ⟨rfl, Below.refl _ _⟩
      | true =>
        have hR : nameB s = !badN s := by simp [nameB, hl, h0, h1]
        have cC := Lib.hid (fun cap w h => conN_any s w.heap.size cap hs (bytesW s 5 w) h)
        have hcv := fun w => run_bytesW (P := Tryd.prog) 9 136 5 Tryd.underlying9 Tryd.underlying136 Tryd.underlying5 s w
        rw [hR]
        rw [hl] at cL
        clear hR hl
        generalize gb s 0 = c at *
        have hrd0 : ∀ w, (Instr.index 9 (.string s) (.int .i64 0)).run Tryd.prog w = .ok (.int .u8 (c : Int)) w := hrd
        clear hrd
        have HB : Hid (∀ w, Below w.heap.size w (bytesW s 5 w)) := bytesW_below s 5
        have HS : Hid (∀ w, Src (bytesW s 5 w) w.heap.size s) := bytesW_src s 5
        unfold badN
        generalize (s.data.toList.any fun c => (!namB c.toNat)) = q at *
        go_enter Tryd.func181, Tryd.ntmps181
        go_wp2_with (first | (go_at_call 201; refine (cL.out _).mono ?_; rintro e w1 ⟨rfl, rfl⟩) | (go_at_call 202; refine (cC.out _ _ (HS.out _)).mono ?_; rintro e w1 ⟨rfl, rfl⟩))
        go_ret
        exact ⟨rfl, HB.out _⟩
    · have i1 : ¬ (s.size : Int) ≤ 32 := by omega
      have hR : nameB s = false := by simp [nameB, h1]
      rw [hR]
      clear hR
      go_enter Tryd.func181, Tryd.ntmps181
      go_wp2
      go_ret
      exact ⟨rfl, Below.refl _ _⟩

set_option maxRecDepth 100000 in
set_option maxHeartbeats 4000000 in
theorem shown_any (s : ByteArray) (hs : s.size ≤ 1000000) (w : World) (hT : Lib.Utf8Tabs 2 3 w) : Calls Tryd.prog 182 #[.string s] w fun e w' => e = .returned (.bool (shownB s)) ∧ Below w.heap.size w w' := by
  have cV := Lib.hid (valid_any s hs w hT)
  cases hv : (ltS s).2 with
  | false =>
    have hR : shownB s = false := by simp [shownB, hv]
    rw [hR]
    rw [hv] at cV
    clear hR hv
    go_enter Tryd.func182, Tryd.ntmps182
    go_wp2_with (go_at_call 204; refine cV.out.mono ?_; rintro e w1 ⟨rfl, hb1⟩)
    go_ret
    exact ⟨rfl, hb1⟩
  | true =>
    have hR : shownB s = !badS s := by simp [shownB, hv]
    have cC := Lib.hid (fun cap w h => conS_any s w.heap.size cap (by omega) (bytesW s 5 w) h)
    have hcv := fun w => run_bytesW (P := Tryd.prog) 9 136 5 Tryd.underlying9 Tryd.underlying136 Tryd.underlying5 s w
    rw [hR]
    rw [hv] at cV
    clear hR hv
    have HB : Hid (∀ w, Below w.heap.size w (bytesW s 5 w)) := bytesW_below s 5
    have HS : Hid (∀ w, Src (bytesW s 5 w) w.heap.size s) := bytesW_src s 5
    unfold badS
    generalize (s.data.toList.any fun c => (!shoB c.toNat)) = q at *
    go_enter Tryd.func182, Tryd.ntmps182
    go_wp2_with (first | (go_at_call 204; refine cV.out.mono ?_; rintro e w1 ⟨rfl, hb1⟩) | (go_at_call 202; refine (cC.out _ _ (HS.out _)).mono ?_; rintro e w2 ⟨rfl, rfl⟩))
    go_ret
    exact ⟨rfl, hb1.trans ((HB.out _).mono hb1.size)⟩

set_option maxRecDepth 100000 in
set_option maxHeartbeats 4000000 in
theorem refShown_any (s : ByteArray) (hs : s.size ≤ 1000000) (w : World) : Calls Tryd.prog 101 #[.string s] w fun e w' => e = .returned (.bool (shownB s)) ∧ Below w.heap.size w w' := by
  have cV := Lib.hid (refValid_any s hs w)
  have hY : Hid (∀ i (h : i < s.size), shoB s[i].toNat = false → shownB s = false) := fun i h hp => by
    have : badS s = true := List.any_eq_true.2 ⟨s[i], Array.mem_def.1 (Array.getElem_mem (xs := s.data) (i := i) h), by rw [hp]; rfl⟩
    simp [shownB, this]
  have hN : Hid ((∀ i (h : i < s.size), shoB s[i].toNat = true) → shownB s = (ltS s).2) := fun h => by
    have : badS s = false := by
      unfold badS
      rw [List.any_eq_false]
      intro x hx
      obtain ⟨i, hi, rfl⟩ := List.getElem_of_mem hx
      rw [len_toList] at hi
      have := h i hi
      simp only [Bool.not_eq_true, Bool.not_eq_false']
      exact this
    simp [shownB, this]
  generalize shownB s = v at *
  generalize (ltS s).2 = q at *
  go_enter Tryd.func101, Tryd.ntmps101
  go_wp2_with fail
  go_loopw [3] (fun iv wr => ∃ i : Nat, i ≤ s.size ∧ iv = .int .i64 (i : Int) ∧ Hid (∀ j (h : j < s.size), j < i → shoB s[j].toNat = true) ∧ w = wr) (fun iv _ => s.size - (intOf iv).toNat)
  case atStart => exact ⟨0, Nat.zero_le _, rfl, fun _ _ h => absurd h (Nat.not_lt_zero _), rfl⟩
  case round =>
    obtain ⟨i, hi, rfl, HI, rfl⟩ := hrel
    by_cases hlt : i < s.size
    · have k1 : (i : Int) < (s.size : Int) := by omega
      have hrd := run_gb s i hlt
      have hge := gb_eq s i hlt
      have hst : Hid (shoB (gb s i) = true → ∀ j (h : j < s.size), j < i + 1 → shoB s[j].toNat = true) := fun hp j h hj => by
        by_cases e : j = i
        · subst e; rw [gb_eq s j h]; exact hp
        · exact HI.out j h (by omega)
      have hno : Hid (shoB (gb s i) = false → v = false) := fun hp => hY.out i hlt (by rw [hge]; exact hp)
      clear hge
      generalize gb s i = c at *
      by_cases h1 : c < 32
      · have i1 : (c : Int) < 32 := by omega
        by_cases h2 : c = 9
        · subst h2
          have HI2 := Lib.hid (hst.out rfl)
          have i2 : (((9 : Nat) : Int) != 9) = false := by decide
          clear hst hno
          go_wp2_with fail
          go_roundw
          case rel => exact ⟨i + 1, by omega, by go_num, HI2, trivial⟩
          case measure => simp [intOf]; omega
        · have i2 : ((c : Int) != 9) = true := by rw [bne_iff_ne]; omega
          by_cases h3 : c = 10
          · subst h3
            have HI2 := Lib.hid (hst.out rfl)
            clear hst hno
            go_wp2_with fail
            go_roundw
            case rel => exact ⟨i + 1, by omega, by go_num, HI2, trivial⟩
            case measure => simp [intOf]; omega
          · have i3 : ((c : Int) != 10) = true := by rw [bne_iff_ne]; omega
            have hv := Lib.hid (hno.out (by simp [shoB]; omega))
            clear hst hno
            go_wp2_with fail
            go_ret
            exact ⟨by rw [hv.out]; rfl, Below.refl _ _⟩
      · have i1 : ¬ (c : Int) < 32 := by omega
        have HI2 := Lib.hid (hst.out (by simp [shoB]; omega))
        clear hst hno
        go_wp2_with fail
        go_roundw
        case rel => exact ⟨i + 1, by omega, by go_num, HI2, trivial⟩
        case measure => simp [intOf]; omega
    · have k1 : ¬ (i : Int) < (s.size : Int) := by omega
      have hv := Lib.hid (hN.out (fun j h => HI.out j h (by omega)))
      clear hY hN
      go_wp2_with (go_at_call 150; refine cV.out.mono ?_; rintro e w1 ⟨rfl, hb1⟩)
      go_ret
      exact ⟨by rw [hv.out]; rfl, hb1⟩
end Go.Proofs.YtgechifbbhipaaaDoor
