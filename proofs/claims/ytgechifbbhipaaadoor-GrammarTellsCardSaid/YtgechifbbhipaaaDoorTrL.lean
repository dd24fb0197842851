/- tree: a name, and what may be shown, letter by letter: both, and IndexFunc over bytes. No condition but sizes. -/
import Derived.Test.YtgechifbbhipaaaDoorTrP
import Derived.Test.YtgechifbbhipaaaDoorChT
import Derived.Deep.QuietTactic
set_option linter.unusedVariables false
set_option linter.unusedSimpArgs false
namespace Go.Proofs.YtgechifbbhipaaaDoor
open Go.RowKit

def letB (c : Nat) : Bool := (65 ≤ c && c ≤ 90) || (97 ≤ c && c ≤ 122)
def namB (c : Nat) : Bool := letB c || (48 ≤ c && c ≤ 57)
def shoB (c : Nat) : Bool := !(c < 32 && c != 9 && c != 10)

theorem letter_any (c : Nat) (hc : c < 256) (w : World) : Calls Tryd.prog 201 #[.int .u8 (c : Int)] w fun e w' => e = .returned (.bool (letB c)) ∧ w = w' := by
  by_cases h1 : 65 ≤ c
  · have i1 : (65 : Int) ≤ c := by omega
    by_cases h2 : c ≤ 90
    · have i2 : (c : Int) ≤ 90 := by omega
      have hR : letB c = true := by simp [letB]; omega
      rw [hR]; go_enter Tryd.func201, Tryd.ntmps201; go_wp2; go_ret; exact ⟨rfl, rfl⟩
    · have i2 : ¬ (c : Int) ≤ 90 := by omega
      have d2 : decide (c ≤ 90) = false := by simp; omega
      by_cases h3 : 97 ≤ c
      · have i3 : (97 : Int) ≤ c := by omega
        by_cases h4 : c ≤ 122
        · have i4 : (c : Int) ≤ 122 := by omega
          have hR : letB c = true := by simp [letB]; omega
          rw [hR]; go_enter Tryd.func201, Tryd.ntmps201; go_wp2; go_ret; exact ⟨rfl, rfl⟩
        · have i4 : ¬ (c : Int) ≤ 122 := by omega
          have hR : letB c = false := by simp [letB]; omega
          rw [hR]; go_enter Tryd.func201, Tryd.ntmps201; go_wp2; go_ret; exact ⟨rfl, rfl⟩
      · have i3 : ¬ (97 : Int) ≤ c := by omega
        have hR : letB c = false := by simp [letB]; omega
        rw [hR]; go_enter Tryd.func201, Tryd.ntmps201; go_wp2; go_ret; exact ⟨rfl, rfl⟩
  · have i1 : ¬ (65 : Int) ≤ c := by omega
    have i3 : ¬ (97 : Int) ≤ c := by omega
    have hR : letB c = false := by simp [letB]; omega
    rw [hR]; go_enter Tryd.func201, Tryd.ntmps201; go_wp2; go_ret; exact ⟨rfl, rfl⟩

theorem refLetter_any (c : Nat) (hc : c < 256) (w : World) : Calls Tryd.prog 149 #[.int .u8 (c : Int)] w fun e w' => e = .returned (.bool (letB c)) ∧ w = w' := by
  by_cases h1 : 65 ≤ c
  · have i1 : (65 : Int) ≤ c := by omega
    by_cases h2 : c ≤ 90
    · have i2 : (c : Int) ≤ 90 := by omega
      have hR : letB c = true := by simp [letB]; omega
      rw [hR]; go_enter Tryd.func149, Tryd.ntmps149; go_wp2; go_ret; exact ⟨rfl, rfl⟩
    · have i2 : ¬ (c : Int) ≤ 90 := by omega
      have d2 : decide (c ≤ 90) = false := by simp; omega
      by_cases h3 : 97 ≤ c
      · have i3 : (97 : Int) ≤ c := by omega
        by_cases h4 : c ≤ 122
        · have i4 : (c : Int) ≤ 122 := by omega
          have hR : letB c = true := by simp [letB]; omega
          rw [hR]; go_enter Tryd.func149, Tryd.ntmps149; go_wp2; go_ret; exact ⟨rfl, rfl⟩
        · have i4 : ¬ (c : Int) ≤ 122 := by omega
          have hR : letB c = false := by simp [letB]; omega
          rw [hR]; go_enter Tryd.func149, Tryd.ntmps149; go_wp2; go_ret; exact ⟨rfl, rfl⟩
      · have i3 : ¬ (97 : Int) ≤ c := by omega
        have hR : letB c = false := by simp [letB]; omega
        rw [hR]; go_enter Tryd.func149, Tryd.ntmps149; go_wp2; go_ret; exact ⟨rfl, rfl⟩
  · have i1 : ¬ (65 : Int) ≤ c := by omega
    have i3 : ¬ (97 : Int) ≤ c := by omega
    have hR : letB c = false := by simp [letB]; omega
    rw [hR]; go_enter Tryd.func149, Tryd.ntmps149; go_wp2; go_ret; exact ⟨rfl, rfl⟩

theorem named1_any (c : Nat) (hc : c < 256) (w : World) : Calls Tryd.prog 203 #[.int .u8 (c : Int)] w fun e w' => e = .returned (.bool (!namB c)) ∧ w = w' := by
  have cL := Lib.hid (fun w => letter_any c hc w)
  unfold namB
  cases h : letB c with
  | true =>
    rw [h] at cL
    clear h
    go_enter Tryd.func203, Tryd.ntmps203
    go_wp2_with (go_at_call 201; refine (cL.out _).mono ?_; rintro e w1 ⟨rfl, rfl⟩)
    go_ret
    exact ⟨rfl, rfl⟩
  | false =>
    rw [h] at cL
    clear h
    by_cases h1 : c < 48
    · have i1 : (c : Int) < 48 := by omega
      have hR : (!(false || (decide (48 ≤ c) && decide (c ≤ 57)))) = true := by simp; omega
      rw [hR]
      go_enter Tryd.func203, Tryd.ntmps203
      go_wp2_with (go_at_call 201; refine (cL.out _).mono ?_; rintro e w1 ⟨rfl, rfl⟩)
      go_ret
      exact ⟨rfl, rfl⟩
    · have i1 : ¬ (c : Int) < 48 := by omega
      by_cases h2 : 57 < c
      · have i2 : (57 : Int) < c := by omega
        have hR : (!(false || (decide (48 ≤ c) && decide (c ≤ 57)))) = true := by simp; omega
        rw [hR]
        go_enter Tryd.func203, Tryd.ntmps203
        go_wp2_with (go_at_call 201; refine (cL.out _).mono ?_; rintro e w1 ⟨rfl, rfl⟩)
        go_ret
        exact ⟨rfl, rfl⟩
      · have i2 : ¬ (57 : Int) < c := by omega
        have hR : (!(false || (decide (48 ≤ c) && decide (c ≤ 57)))) = false := by simp; omega
        rw [hR]
        go_enter Tryd.func203, Tryd.ntmps203
        go_wp2_with (go_at_call 201; refine (cL.out _).mono ?_; rintro e w1 ⟨rfl, rfl⟩)
        go_ret
        exact ⟨by show Ending.returned (.bool (decide ((c : Int) < 48) || decide ((57 : Int) < (c : Int)))) = _; rw [decide_eq_false (by omega : ¬ (c : Int) < 48), decide_eq_false (by omega : ¬ (57 : Int) < (c : Int))]; rfl, rfl⟩
theorem shown1_any (c : Nat) (hc : c < 256) (w : World) : Calls Tryd.prog 205 #[.int .u8 (c : Int)] w fun e w' => e = .returned (.bool (!shoB c)) ∧ w = w' := by
  have _ := hc
  by_cases h1 : c < 32
  · have i1 : (c : Int) < 32 := by omega
    by_cases h2 : c = 9
    · subst h2
      go_enter Tryd.func205, Tryd.ntmps205; go_wp2; go_ret; exact ⟨rfl, rfl⟩
    · have i2 : ((c : Int) != 9) = true := by rw [bne_iff_ne]; omega
      by_cases h3 : c = 10
      · subst h3
        go_enter Tryd.func205, Tryd.ntmps205; go_wp2; go_ret; exact ⟨rfl, rfl⟩
      · have i3 : ((c : Int) != 10) = true := by rw [bne_iff_ne]; omega
        have hR : (!shoB c) = true := by simp [shoB]; omega
        rw [hR]
        go_enter Tryd.func205, Tryd.ntmps205; go_wp2; go_ret; exact ⟨rfl, rfl⟩
  · have i1 : ¬ (c : Int) < 32 := by omega
    have hR : (!shoB c) = false := by simp [shoB]; omega
    rw [hR]
    go_enter Tryd.func205, Tryd.ntmps205; go_wp2; go_ret; exact ⟨rfl, rfl⟩

set_option maxRecDepth 100000 in
set_option maxHeartbeats 4000000 in
theorem idxN_any (s : ByteArray) (b cap : Nat) (hs : s.size ≤ 140737488355328) (w : World) (hS : Src w b s) : Calls Tryd.prog 211 #[.slice (some ⟨b, 0, none⟩) s.size cap, .func (.func 203) #[] #[]] w fun e w' => (∃ r : Int, e = .returned (.int .i64 r) ∧ decide (0 ≤ r) = s.data.toList.any fun c => (!namB c.toNat)) ∧ w = w' := by
  have HS := Lib.hid hS
  have hY : Hid (∀ i (h : i < s.size), (!namB s[i].toNat) = true → (s.data.toList.any fun c => (!namB c.toNat)) = true) := fun i h hp => List.any_eq_true.2 ⟨s[i], Array.mem_def.1 (Array.getElem_mem (xs := s.data) (i := i) h), hp⟩
  have hN : Hid ((∀ i (h : i < s.size), (!namB s[i].toNat) = false) → (s.data.toList.any fun c => (!namB c.toNat)) = false) := fun h => by
    rw [List.any_eq_false]
    intro x hx
    obtain ⟨i, hi, rfl⟩ := List.getElem_of_mem hx
    rw [len_toList] at hi
    have := h i hi
    simp only [Bool.not_eq_true]
    exact this
  generalize (s.data.toList.any fun c => (!namB c.toNat)) = v at *
  clear hS
  go_enter Tryd.func211, Tryd.ntmps211
  go_wp2_with fail
  go_loopw [5, 8] (fun _ iv wr => ∃ i : Nat, i ≤ s.size ∧ iv = .int .i64 (i : Int) ∧ Hid (∀ j (h : j < s.size), j < i → (!namB s[j].toNat) = false) ∧ w = wr) (fun _ iv _ => s.size - (intOf iv).toNat)
  case atStart => exact ⟨0, Nat.zero_le _, rfl, fun _ _ h => absurd h (Nat.not_lt_zero _), rfl⟩
  case round =>
    obtain ⟨i, hi, rfl, HI, rfl⟩ := hrel
    by_cases hlt : i < s.size
    · have hc := HS.out i hlt
      have hcl : s[i].toNat < 256 := UInt8.toNat_lt _
      have c1 := Lib.hid (fun w => named1_any s[i].toNat hcl w)
      have k0 : (0 : Int) ≤ (i : Int) := by omega
      have k1 : (i : Int) < (s.size : Int) := by omega
      have k2 : decide (i < s.size) = true := by simp; omega
      cases hp : (!namB s[i].toNat) with
      | true =>
        have hv := hY.out i hlt hp
        rw [hp] at c1
        generalize s[i].toNat = c at *
        clear hp
        go_wp2_with (go_at_call 203; refine (c1.out _).mono ?_; rintro e w1 ⟨rfl, rfl⟩)
        go_ret
        exact ⟨⟨_, rfl, by first | (rw [hv]; simp) | simp⟩, rfl⟩
      | false =>
        have HI2 : Hid (∀ j (h : j < s.size), j < i + 1 → (!namB s[j].toNat) = false) := fun j h hj => by
          by_cases e : j = i
          · subst e; exact hp
          · exact HI.out j h (by omega)
        rw [hp] at c1
        generalize s[i].toNat = c at *
        clear hp
        go_wp2_with (go_at_call 203; refine (c1.out _).mono ?_; rintro e w1 ⟨rfl, rfl⟩)
        go_roundw
        case rel => exact ⟨i + 1, by omega, by go_num, HI2, trivial⟩
        case measure => simp [intOf]; omega
    · have k1 : ¬ (i : Int) < (s.size : Int) := by omega
      have k2 : decide (i < s.size) = false := by simp; omega
      have hv := hN.out (fun j h => HI.out j h (by omega))
      go_wp2_with fail
      go_ret
      exact ⟨⟨_, rfl, by first | (rw [hv]; rfl) | decide⟩, rfl⟩
theorem conN_any (s : ByteArray) (b cap : Nat) (hs : s.size ≤ 140737488355328) (w : World) (hS : Src w b s) : Calls Tryd.prog 202 #[.slice (some ⟨b, 0, none⟩) s.size cap, .func (.func 203) #[] #[]] w fun e w' => e = .returned (.bool (s.data.toList.any fun c => (!namB c.toNat))) ∧ w = w' := by
  have c1 := Lib.hid (idxN_any s b cap hs w hS)
  generalize (s.data.toList.any fun c => (!namB c.toNat)) = v at *
  go_enter Tryd.func202, Tryd.ntmps202
  go_wp2_with (go_at_call 211; refine c1.out.mono ?_; rintro e w1 ⟨⟨r, rfl, hr⟩, rfl⟩)
  go_ret
  exact ⟨by rw [← hr]; rfl, rfl⟩

set_option maxRecDepth 100000 in
set_option maxHeartbeats 4000000 in
theorem idxS_any (s : ByteArray) (b cap : Nat) (hs : s.size ≤ 140737488355328) (w : World) (hS : Src w b s) : Calls Tryd.prog 211 #[.slice (some ⟨b, 0, none⟩) s.size cap, .func (.func 205) #[] #[]] w fun e w' => (∃ r : Int, e = .returned (.int .i64 r) ∧ decide (0 ≤ r) = s.data.toList.any fun c => (!shoB c.toNat)) ∧ w = w' := by
  have HS := Lib.hid hS
  have hY : Hid (∀ i (h : i < s.size), (!shoB s[i].toNat) = true → (s.data.toList.any fun c => (!shoB c.toNat)) = true) := fun i h hp => List.any_eq_true.2 ⟨s[i], Array.mem_def.1 (Array.getElem_mem (xs := s.data) (i := i) h), hp⟩
  have hN : Hid ((∀ i (h : i < s.size), (!shoB s[i].toNat) = false) → (s.data.toList.any fun c => (!shoB c.toNat)) = false) := fun h => by
    rw [List.any_eq_false]
    intro x hx
    obtain ⟨i, hi, rfl⟩ := List.getElem_of_mem hx
    rw [len_toList] at hi
    have := h i hi
    simp only [Bool.not_eq_true]
    exact this
  generalize (s.data.toList.any fun c => (!shoB c.toNat)) = v at *
  clear hS
  go_enter Tryd.func211, Tryd.ntmps211
  go_wp2_with fail
  go_loopw [5, 8] (fun _ iv wr => ∃ i : Nat, i ≤ s.size ∧ iv = .int .i64 (i : Int) ∧ Hid (∀ j (h : j < s.size), j < i → (!shoB s[j].toNat) = false) ∧ w = wr) (fun _ iv _ => s.size - (intOf iv).toNat)
  case atStart => exact ⟨0, Nat.zero_le _, rfl, fun _ _ h => absurd h (Nat.not_lt_zero _), rfl⟩
  case round =>
    obtain ⟨i, hi, rfl, HI, rfl⟩ := hrel
    by_cases hlt : i < s.size
    · have hc := HS.out i hlt
      have hcl : s[i].toNat < 256 := UInt8.toNat_lt _
      have c1 := Lib.hid (fun w => shown1_any s[i].toNat hcl w)
      have k0 : (0 : Int) ≤ (i : Int) := by omega
      have k1 : (i : Int) < (s.size : Int) := by omega
      have k2 : decide (i < s.size) = true := by simp; omega
      cases hp : (!shoB s[i].toNat) with
      | true =>
        have hv := hY.out i hlt hp
        rw [hp] at c1
        generalize s[i].toNat = c at *
        clear hp
        go_wp2_with (go_at_call 205; refine (c1.out _).mono ?_; rintro e w1 ⟨rfl, rfl⟩)
        go_ret
        exact ⟨⟨_, rfl, by first | (rw [hv]; simp) | simp⟩, rfl⟩
      | false =>
        have HI2 : Hid (∀ j (h : j < s.size), j < i + 1 → (!shoB s[j].toNat) = false) := fun j h hj => by
          by_cases e : j = i
          · subst e; exact hp
          · exact HI.out j h (by omega)
        rw [hp] at c1
        generalize s[i].toNat = c at *
        clear hp
        go_wp2_with (go_at_call 205; refine (c1.out _).mono ?_; rintro e w1 ⟨rfl, rfl⟩)
        go_roundw
        case rel => exact ⟨i + 1, by omega, by go_num, HI2, trivial⟩
        case measure => simp [intOf]; omega
    · have k1 : ¬ (i : Int) < (s.size : Int) := by omega
      have k2 : decide (i < s.size) = false := by simp; omega
      have hv := hN.out (fun j h => HI.out j h (by omega))
      go_wp2_with fail
      go_ret
      exact ⟨⟨_, rfl, by first | (rw [hv]; rfl) | decide⟩, rfl⟩
theorem conS_any (s : ByteArray) (b cap : Nat) (hs : s.size ≤ 140737488355328) (w : World) (hS : Src w b s) : Calls Tryd.prog 202 #[.slice (some ⟨b, 0, none⟩) s.size cap, .func (.func 205) #[] #[]] w fun e w' => e = .returned (.bool (s.data.toList.any fun c => (!shoB c.toNat))) ∧ w = w' := by
  have c1 := Lib.hid (idxS_any s b cap hs w hS)
  generalize (s.data.toList.any fun c => (!shoB c.toNat)) = v at *
  go_enter Tryd.func202, Tryd.ntmps202
  go_wp2_with (go_at_call 211; refine c1.out.mono ?_; rintro e w1 ⟨⟨r, rfl, hr⟩, rfl⟩)
  go_ret
  exact ⟨by rw [← hr]; rfl, rfl⟩
end Go.Proofs.YtgechifbbhipaaaDoor
