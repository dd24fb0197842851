/- trees in plain Lean: elements and what is within them, in order. No condition. -/
import Derived.Test.YtgechifbbhipaaaDoorKit
import Derived.Test.YtgechifbbhipaaaDoorChP
import Derived.Deep.QuietTactic
set_option linter.unusedVariables false
set_option linter.unusedSimpArgs false
namespace Go.Proofs.YtgechifbbhipaaaDoor
open Go.RowKit

/-- an element: page, name, text, opaque, kids -/
inductive Tr where
  | mk (page : Int) (name text : ByteArray) (opq : Bool) (kids : List Tr)
namespace Tr
def page : Tr → Int | .mk p _ _ _ _ => p
def name : Tr → ByteArray | .mk _ n _ _ _ => n
def text : Tr → ByteArray | .mk _ _ t _ _ => t
def opq : Tr → Bool | .mk _ _ _ o _ => o
def kids : Tr → List Tr | .mk _ _ _ _ ks => ks
end Tr

mutual
/-- how deep -/
def hT : Tr → Nat | .mk _ _ _ _ ks => hL ks + 1
def hL : List Tr → Nat | [] => 0 | k :: ks => max (hT k) (hL ks)
end
mutual
/-- an element, and all within it, in order, with how deep each lies -/
def preT (most : Nat) : Nat → Tr → List (Nat × Tr)
  | d, .mk p n t o ks => if most < d then [] else (d, .mk p n t o ks) :: preL most (d + 1) ks
def preL (most : Nat) : Nat → List Tr → List (Nat × Tr)
  | _, [] => []
  | d, k :: ks => preT most d k ++ preL most d ks
end
theorem hL_mem {ks : List Tr} {k : Tr} (h : k ∈ ks) : hT k ≤ hL ks := by
  induction ks with
  | nil => cases h
  | cons a l ih =>
    rw [hL]
    rcases List.mem_cons.1 h with rfl | h
    · exact Nat.le_max_left _ _
    · exact Nat.le_trans (ih h) (Nat.le_max_right _ _)
theorem hT_kid {e k : Tr} (h : k ∈ e.kids) : hT k < hT e := by
  cases e with
  | mk p n t o ks => rw [hT]; exact Nat.lt_succ_of_le (hL_mem h)
theorem preT_deep {most d : Nat} {e : Tr} (h : most < d) : preT most d e = [] := by
  cases e; rw [preT, if_pos h]
theorem preT_in {most d : Nat} {e : Tr} (h : ¬ most < d) : preT most d e = (d, e) :: preL most (d + 1) e.kids := by
  cases e; rw [preT, if_neg h]; rfl
theorem preL_snoc (most d : Nat) (a : List Tr) (k : Tr) : preL most d (a ++ [k]) = preL most d a ++ preT most d k := by
  induction a with
  | nil => simp [preL]
  | cons x l ih => rw [List.cons_append, preL, preL, ih, List.append_assoc]
theorem preL_deep {most d : Nat} (h : most < d) (ks : List Tr) : preL most d ks = [] := by
  induction ks with
  | nil => rfl
  | cons x l ih => rw [preL, preT_deep h, ih]; rfl
end Go.Proofs.YtgechifbbhipaaaDoor

/- tree: a name, and what may be shown, letter by letter: both, and IndexFunc over bytes. No condition but sizes. -/
set_option linter.unusedVariables false
set_option linter.unusedSimpArgs false
namespace Go.Proofs.YtgechifbbhipaaaDoor
open Go.RowKit

def letB (c : Nat) : Bool := (65 ≤ c && c ≤ 90) || (97 ≤ c && c ≤ 122)
def namB (c : Nat) : Bool := letB c || (48 ≤ c && c ≤ 57)
def shoB (c : Nat) : Bool := !(c < 32 && c != 9 && c != 10)

theorem letter_any (c : Nat) (hc : c < 256) (w : World) : Calls Tryd.prog 201 #[.int .u8 (c : Int)] w fun e w' => e = .returned (.bool (letB c)) ∧ w = w' := by
  by_cases h1 : 65 ≤ c
  · have i1 : (65 : Int) ≤ c := by omega
    by_cases h2 : c ≤ 90
    · have i2 : (c : Int) ≤ 90 := by omega
      have hR : letB c = true := by simp [letB]; omega
      rw [hR]; go_enter Tryd.func201, Tryd.ntmps201; go_wp2; go_ret; exact ⟨rfl, rfl⟩
    · have i2 : ¬ (c : Int) ≤ 90 := by omega
      have d2 : decide (c ≤ 90) = false := by simp; omega
      by_cases h3 : 97 ≤ c
      · have i3 : (97 : Int) ≤ c := by omega
        by_cases h4 : c ≤ 122
        · have i4 : (c : Int) ≤ 122 := by omega
          have hR : letB c = true := by simp [letB]; omega
          rw [hR]; go_enter Tryd.func201, Tryd.ntmps201; go_wp2; go_ret; exact ⟨rfl, rfl⟩
        · have i4 : ¬ (c : Int) ≤ 122 := by omega
          have hR : letB c = false := by simp [letB]; omega
          rw [hR]; go_enter Tryd.func201, Tryd.ntmps201; go_wp2; go_ret; exact ⟨rfl, rfl⟩
      · have i3 : ¬ (97 : Int) ≤ c := by omega
        have hR : letB c = false := by simp [letB]; omega
        rw [hR]; go_enter Tryd.func201, Tryd.ntmps201; go_wp2; go_ret; exact ⟨rfl, rfl⟩
  · have i1 : ¬ (65 : Int) ≤ c := by omega
    have i3 : ¬ (97 : Int) ≤ c := by omega
    have hR : letB c = false := by simp [letB]; omega
    rw [hR]; go_enter Tryd.func201, Tryd.ntmps201; go_wp2; go_ret; exact ⟨rfl, rfl⟩

theorem refLetter_any (c : Nat) (hc : c < 256) (w : World) : Calls Tryd.prog 149 #[.int .u8 (c : Int)] w fun e w' => e = .returned (.bool (letB c)) ∧ w = w' := by
  by_cases h1 : 65 ≤ c
  · have i1 : (65 : Int) ≤ c := by omega
    by_cases h2 : c ≤ 90
    · have i2 : (c : Int) ≤ 90 := by omega
      have hR : letB c = true := by simp [letB]; omega
      rw [hR]; go_enter Tryd.func149, Tryd.ntmps149; go_wp2; go_ret; exact ⟨rfl, rfl⟩
    · have i2 : ¬ (c : Int) ≤ 90 := by omega
      have d2 : decide (c ≤ 90) = false := by simp; omega
      by_cases h3 : 97 ≤ c
      · have i3 : (97 : Int) ≤ c := by omega
        by_cases h4 : c ≤ 122
        · have i4 : (c : Int) ≤ 122 := by omega
          have hR : letB c = true := by simp [letB]; omega
          rw [hR]; go_enter Tryd.func149, Tryd.ntmps149; go_wp2; go_ret; exact ⟨rfl, rfl⟩
        · have i4 : ¬ (c : Int) ≤ 122 := by omega
          have hR : letB c = false := by simp [letB]; omega
          rw [hR]; go_enter Tryd.func149, Tryd.ntmps149; go_wp2; go_ret; exact ⟨rfl, rfl⟩
      · have i3 : ¬ (97 : Int) ≤ c := by omega
        have hR : letB c = false := by simp [letB]; omega
        rw [hR]; go_enter Tryd.func149, Tryd.ntmps149; go_wp2; go_ret; exact ⟨rfl, rfl⟩
  · have i1 : ¬ (65 : Int) ≤ c := by omega
    have i3 : ¬ (97 : Int) ≤ c := by omega
    have hR : letB c = false := by simp [letB]; omega
    rw [hR]; go_enter Tryd.func149, Tryd.ntmps149; go_wp2; go_ret; exact ⟨rfl, rfl⟩

theorem named1_any (c : Nat) (hc : c < 256) (w : World) : Calls Tryd.prog 203 #[.int .u8 (c : Int)] w fun e w' => e = .returned (.bool (!namB c)) ∧ w = w' := by
  have cL := Lib.hid (fun w => letter_any c hc w)
  unfold namB
  cases h : letB c with
  | true =>
    rw [h] at cL
    clear h
    go_enter Tryd.func203, Tryd.ntmps203
    go_wp2_with (go_at_call 201; refine (cL.out _).mono ?_; rintro e w1 ⟨rfl, rfl⟩)
    go_ret
    exact ⟨rfl, rfl⟩
  | false =>
    rw [h] at cL
    clear h
    by_cases h1 : c < 48
    · have i1 : (c : Int) < 48 := by omega
      have hR : (!(false || (decide (48 ≤ c) && decide (c ≤ 57)))) = true := by simp; omega
      rw [hR]
      go_enter Tryd.func203, Tryd.ntmps203
      go_wp2_with (go_at_call 201; refine (cL.out _).mono ?_; rintro e w1 ⟨rfl, rfl⟩)
      go_ret
      exact ⟨rfl, rfl⟩
    · have i1 : ¬ (c : Int) < 48 := by omega
      by_cases h2 : 57 < c
      · have i2 : (57 : Int) < c := by omega
        have hR : (!(false || (decide (48 ≤ c) && decide (c ≤ 57)))) = true := by simp; omega
        rw [hR]
        go_enter Tryd.func203, Tryd.ntmps203
        go_wp2_with (go_at_call 201; refine (cL.out _).mono ?_; rintro e w1 ⟨rfl, rfl⟩)
        go_ret
        exact ⟨rfl, rfl⟩
      · have i2 : ¬ (57 : Int) < c := by omega
        have hR : (!(false || (decide (48 ≤ c) && decide (c ≤ 57)))) = false := by simp; omega
        rw [hR]
        go_enter Tryd.func203, Tryd.ntmps203
        go_wp2_with (go_at_call 201; refine (cL.out _).mono ?_; rintro e w1 ⟨rfl, rfl⟩)
        go_ret
        exact ⟨by show Ending.returned (.bool (decide ((c : Int) < 48) || decide ((57 : Int) < (c : Int)))) = _; rw [decide_eq_false (by omega : ¬ (c : Int) < 48), decide_eq_false (by omega : ¬ (57 : Int) < (c : Int))]; rfl, rfl⟩
theorem shown1_any (c : Nat) (hc : c < 256) (w : World) : Calls Tryd.prog 205 #[.int .u8 (c : Int)] w fun e w' => e = .returned (.bool (!shoB c)) ∧ w = w' := by
  have _ := hc
  by_cases h1 : c < 32
  · have i1 : (c : Int) < 32 := by omega
    by_cases h2 : c = 9
    · subst h2
      go_enter Tryd.func205, Tryd.ntmps205; go_wp2; go_ret; exact ⟨rfl, rfl⟩
    · have i2 : ((c : Int) != 9) = true := by rw [bne_iff_ne]; omega
      by_cases h3 : c = 10
      · subst h3
        go_enter Tryd.func205, Tryd.ntmps205; go_wp2; go_ret; exact ⟨rfl, rfl⟩
      · have i3 : ((c : Int) != 10) = true := by rw [bne_iff_ne]; omega
        have hR : (!shoB c) = true := by simp [shoB]; omega
        rw [hR]
        go_enter Tryd.func205, Tryd.ntmps205; go_wp2; go_ret; exact ⟨rfl, rfl⟩
  · have i1 : ¬ (c : Int) < 32 := by omega
    have hR : (!shoB c) = false := by simp [shoB]; omega
    rw [hR]
    go_enter Tryd.func205, Tryd.ntmps205; go_wp2; go_ret; exact ⟨rfl, rfl⟩

set_option maxRecDepth 100000 in
set_option maxHeartbeats 4000000 in
theorem idxN_any (s : ByteArray) (b cap : Nat) (hs : s.size ≤ 140737488355328) (w : World) (hS : Src w b s) : Calls Tryd.prog 211 #[.slice (some ⟨b, 0, none⟩) s.size cap, .func (.func 203) #[] #[]] w fun e w' => (∃ r : Int, e = .returned (.int .i64 r) ∧ decide (0 ≤ r) = s.data.toList.any fun c => (!namB c.toNat)) ∧ w = w' := by
  have HS := Lib.hid hS
  have hY : Hid (∀ i (h : i < s.size), (!namB s[i].toNat) = true → (s.data.toList.any fun c => (!namB c.toNat)) = true) := fun i h hp => List.any_eq_true.2 ⟨s[i], Array.mem_def.1 (Array.getElem_mem (xs := s.data) (i := i) h), hp⟩
  have hN : Hid ((∀ i (h : i < s.size), (!namB s[i].toNat) = false) → (s.data.toList.any fun c => (!namB c.toNat)) = false) := fun h => by
    rw [List.any_eq_false]
    intro x hx
    obtain ⟨i, hi, rfl⟩ := List.getElem_of_mem hx
    rw [len_toList] at hi
    have := h i hi
    simp only [Bool.not_eq_true]
    exact this
  generalize (s.data.toList.any fun c => (!namB c.toNat)) = v at *
  clear hS
  go_enter Tryd.func211, Tryd.ntmps211
  go_wp2_with fail
  go_loopw [5, 8] (fun _ iv wr => ∃ i : Nat, i ≤ s.size ∧ iv = .int .i64 (i : Int) ∧ Hid (∀ j (h : j < s.size), j < i → (!namB s[j].toNat) = false) ∧ w = wr) (fun _ iv _ => s.size - (intOf iv).toNat)
  case atStart => exact ⟨0, Nat.zero_le _, rfl, fun _ _ h => absurd h (Nat.not_lt_zero _), rfl⟩
  case round =>
    obtain ⟨i, hi, rfl, HI, rfl⟩ := hrel
    by_cases hlt : i < s.size
    · have hc := HS.out i hlt
      have hcl : s[i].toNat < 256 := UInt8.toNat_lt _
      have c1 := Lib.hid (fun w => named1_any s[i].toNat hcl w)
      have k0 : (0 : Int) ≤ (i : Int) := by omega
      have k1 : (i : Int) < (s.size : Int) := by omega
      have k2 : decide (i < s.size) = true := by simp; omega
      cases hp : (!namB s[i].toNat) with
      | true =>
        have hv := hY.out i hlt hp
        rw [hp] at c1
        generalize s[i].toNat = c at *
        clear hp
        go_wp2_with (go_at_call 203; refine (c1.out _).mono ?_; rintro e w1 ⟨rfl, rfl⟩)
        go_ret
        exact ⟨⟨_, rfl, by first | (rw [hv]; simp) | simp⟩, rfl⟩
      | false =>
        have HI2 : Hid (∀ j (h : j < s.size), j < i + 1 → (!namB s[j].toNat) = false) := fun j h hj => by
          by_cases e : j = i
          · subst e; exact hp
          · exact HI.out j h (by omega)
        rw [hp] at c1
        generalize s[i].toNat = c at *
        clear hp
        go_wp2_with (go_at_call 203; refine (c1.out _).mono ?_; rintro e w1 ⟨rfl, rfl⟩)
        go_roundw
        case rel => exact ⟨i + 1, by omega, by go_num, HI2, trivial⟩
        case measure => simp [intOf]; omega
    · have k1 : ¬ (i : Int) < (s.size : Int) := by omega
      have k2 : decide (i < s.size) = false := by simp; omega
      have hv := hN.out (fun j h => HI.out j h (by omega))
      go_wp2_with fail
      go_ret
      exact ⟨⟨_, rfl, by first | (rw [hv]; rfl) | decide⟩, rfl⟩
theorem conN_any (s : ByteArray) (b cap : Nat) (hs : s.size ≤ 140737488355328) (w : World) (hS : Src w b s) : Calls Tryd.prog 202 #[.slice (some ⟨b, 0, none⟩) s.size cap, .func (.func 203) #[] #[]] w fun e w' => e = .returned (.bool (s.data.toList.any fun c => (!namB c.toNat))) ∧ w = w' := by
  have c1 := Lib.hid (idxN_any s b cap hs w hS)
  generalize (s.data.toList.any fun c => (!namB c.toNat)) = v at *
  go_enter Tryd.func202, Tryd.ntmps202
  go_wp2_with (go_at_call 211; refine c1.out.mono ?_; rintro e w1 ⟨⟨r, rfl, hr⟩, rfl⟩)
  go_ret
  exact ⟨by rw [← hr]; rfl, rfl⟩

set_option maxRecDepth 100000 in
set_option maxHeartbeats 4000000 in
theorem idxS_any (s : ByteArray) (b cap : Nat) (hs : s.size ≤ 140737488355328) (w : World) (hS : Src w b s) : Calls Tryd.prog 211 #[.slice (some ⟨b, 0, none⟩) s.size cap, .func (.func 205) #[] #[]] w fun e w' => (∃ r : Int, e = .returned (.int .i64 r) ∧ decide (0 ≤ r) = s.data.toList.any fun c => (!shoB c.toNat)) ∧ w = w' := by
  have HS := Lib.hid hS
  have hY : Hid (∀ i (h : i < s.size), (!shoB s[i].toNat) = true → (s.data.toList.any fun c => (!shoB c.toNat)) = true) := fun i h hp => List.any_eq_true.2 ⟨s[i], Array.mem_def.1 (Array.getElem_mem (xs := s.data) (i := i) h), hp⟩
  have hN : Hid ((∀ i (h : i < s.size), (!shoB s[i].toNat) = false) → (s.data.toList.any fun c => (!shoB c.toNat)) = false) := fun h => by
    rw [List.any_eq_false]
    intro x hx
    obtain ⟨i, hi, rfl⟩ := List.getElem_of_mem hx
    rw [len_toList] at hi
    have := h i hi
    simp only [Bool.not_eq_true]
    exact this
  generalize (s.data.toList.any fun c => (!shoB c.toNat)) = v at *
  clear hS
  go_enter Tryd.func211, Tryd.ntmps211
  go_wp2_with fail
  go_loopw [5, 8] (fun _ iv wr => ∃ i : Nat, i ≤ s.size ∧ iv = .int .i64 (i : Int) ∧ Hid (∀ j (h : j < s.size), j < i → (!shoB s[j].toNat) = false) ∧ w = wr) (fun _ iv _ => s.size - (intOf iv).toNat)
  case atStart => exact ⟨0, Nat.zero_le _, rfl, fun _ _ h => absurd h (Nat.not_lt_zero _), rfl⟩
  case round =>
    obtain ⟨i, hi, rfl, HI, rfl⟩ := hrel
    by_cases hlt : i < s.size
    · have hc := HS.out i hlt
      have hcl : s[i].toNat < 256 := UInt8.toNat_lt _
      have c1 := Lib.hid (fun w => shown1_any s[i].toNat hcl w)
      have k0 : (0 : Int) ≤ (i : Int) := by omega
      have k1 : (i : Int) < (s.size : Int) := by omega
      have k2 : decide (i < s.size) = true := by simp; omega
      cases hp : (!shoB s[i].toNat) with
      | true =>
        have hv := hY.out i hlt hp
        rw [hp] at c1
        generalize s[i].toNat = c at *
        clear hp
        go_wp2_with (go_at_call 205; refine (c1.out _).mono ?_; rintro e w1 ⟨rfl, rfl⟩)
        go_ret
        exact ⟨⟨_, rfl, by first | (rw [hv]; simp) | simp⟩, rfl⟩
      | false =>
        have HI2 : Hid (∀ j (h : j < s.size), j < i + 1 → (!shoB s[j].toNat) = false) := fun j h hj => by
          by_cases e : j = i
          · subst e; exact hp
          · exact HI.out j h (by omega)
        rw [hp] at c1
        generalize s[i].toNat = c at *
        clear hp
        go_wp2_with (go_at_call 205; refine (c1.out _).mono ?_; rintro e w1 ⟨rfl, rfl⟩)
        go_roundw
        case rel => exact ⟨i + 1, by omega, by go_num, HI2, trivial⟩
        case measure => simp [intOf]; omega
    · have k1 : ¬ (i : Int) < (s.size : Int) := by omega
      have k2 : decide (i < s.size) = false := by simp; omega
      have hv := hN.out (fun j h => HI.out j h (by omega))
      go_wp2_with fail
      go_ret
      exact ⟨⟨_, rfl, by first | (rw [hv]; rfl) | decide⟩, rfl⟩
theorem conS_any (s : ByteArray) (b cap : Nat) (hs : s.size ≤ 140737488355328) (w : World) (hS : Src w b s) : Calls Tryd.prog 202 #[.slice (some ⟨b, 0, none⟩) s.size cap, .func (.func 205) #[] #[]] w fun e w' => e = .returned (.bool (s.data.toList.any fun c => (!shoB c.toNat))) ∧ w = w' := by
  have c1 := Lib.hid (idxS_any s b cap hs w hS)
  generalize (s.data.toList.any fun c => (!shoB c.toNat)) = v at *
  go_enter Tryd.func202, Tryd.ntmps202
  go_wp2_with (go_at_call 211; refine c1.out.mono ?_; rintro e w1 ⟨⟨r, rfl, hr⟩, rfl⟩)
  go_ret
  exact ⟨by rw [← hr]; rfl, rfl⟩
end Go.Proofs.YtgechifbbhipaaaDoor

/- tree: names and what may be shown, both; check of an element itself, the program's. No condition but sizes and the tables. -/
set_option linter.unusedVariables false
set_option linter.unusedSimpArgs false
namespace Go.Proofs.YtgechifbbhipaaaDoor
open Go.RowKit

def badN (s : ByteArray) : Bool := s.data.toList.any fun c => (!namB c.toNat)
def badS (s : ByteArray) : Bool := s.data.toList.any fun c => (!shoB c.toNat)
def nameB (s : ByteArray) : Bool := decide (s.size ≠ 0) && (decide (s.size ≤ 32) && (letB (gb s 0) && !badN s))
def shownB (s : ByteArray) : Bool := (ltS s).2 && !badS s
theorem emptyB (s : ByteArray) (h : s.size = 0) : s.toList.isEmpty = true := by
  rw [ByteArray.toList_eq, List.isEmpty_iff]; exact List.eq_nil_of_length_eq_zero (by rw [len_toList]; exact h)

set_option maxRecDepth 100000 in
set_option maxHeartbeats 4000000 in
theorem named_any (s : ByteArray) (hs : s.size ≤ 140737488355328) (w : World) : Calls Tryd.prog 181 #[.string s] w fun e w' => e = .returned (.bool (nameB s)) ∧ Below w.heap.size w w' := by
  by_cases h0 : s.size = 0
  · have hR : nameB s = false := by simp [nameB, h0]
    have he := emptyB s h0
    rw [hR]
    clear h0 hR
    go_enter Tryd.func181, Tryd.ntmps181
    go_wp2
    go_ret
    exact ⟨rfl, Below.refl _ _⟩
  · have he := not_empty s h0
    by_cases h1 : s.size ≤ 32
    · have i1 : (s.size : Int) ≤ 32 := by omega
      have hrd := run_gb s 0 (by omega)
      have hgl := gb_lt s 0
      have cL := Lib.hid (fun w => letter_any (gb s 0) hgl w)
      cases hl : letB (gb s 0) with
      | false =>
        have hR : nameB s = false := by simp [nameB, hl]
        rw [hR]
        rw [hl] at cL
        clear hR hl
        generalize gb s 0 = c at *
        have hrd0 : ∀ w, (Instr.index 9 (.string s) (.int .i64 0)).run Tryd.prog w = .ok (.int .u8 (c : Int)) w := hrd
        clear hrd
        go_enter Tryd.func181, Tryd.ntmps181
        go_wp2_with (go_at_call 201; refine (cL.out _).mono ?_; rintro e w1 ⟨rfl, rfl⟩)
        go_ret
        exact ⟨rfl, Below.refl _ _⟩
      | true =>
        have hR : nameB s = !badN s := by simp [nameB, hl, h0, h1]
        have cC := Lib.hid (fun cap w h => conN_any s w.heap.size cap hs (bytesW s 5 w) h)
        have hcv := fun w => run_bytesW (P := Tryd.prog) 9 136 5 Tryd.underlying9 Tryd.underlying136 Tryd.underlying5 s w
        rw [hR]
        rw [hl] at cL
        clear hR hl
        generalize gb s 0 = c at *
        have hrd0 : ∀ w, (Instr.index 9 (.string s) (.int .i64 0)).run Tryd.prog w = .ok (.int .u8 (c : Int)) w := hrd
        clear hrd
        have HB : Hid (∀ w, Below w.heap.size w (bytesW s 5 w)) := bytesW_below s 5
        have HS : Hid (∀ w, Src (bytesW s 5 w) w.heap.size s) := bytesW_src s 5
        unfold badN
        generalize (s.data.toList.any fun c => (!namB c.toNat)) = q at *
        go_enter Tryd.func181, Tryd.ntmps181
        go_wp2_with (first | (go_at_call 201; refine (cL.out _).mono ?_; rintro e w1 ⟨rfl, rfl⟩) | (go_at_call 202; refine (cC.out _ _ (HS.out _)).mono ?_; rintro e w1 ⟨rfl, rfl⟩))
        go_ret
        exact ⟨rfl, HB.out _⟩
    · have i1 : ¬ (s.size : Int) ≤ 32 := by omega
      have hR : nameB s = false := by simp [nameB, h1]
      rw [hR]
      clear hR
      go_enter Tryd.func181, Tryd.ntmps181
      go_wp2
      go_ret
      exact ⟨rfl, Below.refl _ _⟩

set_option maxRecDepth 100000 in
set_option maxHeartbeats 4000000 in
theorem shown_any (s : ByteArray) (hs : s.size ≤ 1000000) (w : World) (hT : Lib.Utf8Tabs 2 3 w) : Calls Tryd.prog 182 #[.string s] w fun e w' => e = .returned (.bool (shownB s)) ∧ Below w.heap.size w w' := by
  have cV := Lib.hid (valid_any s hs w hT)
  cases hv : (ltS s).2 with
  | false =>
    have hR : shownB s = false := by simp [shownB, hv]
    rw [hR]
    rw [hv] at cV
    clear hR hv
    go_enter Tryd.func182, Tryd.ntmps182
    go_wp2_with (go_at_call 204; refine cV.out.mono ?_; rintro e w1 ⟨rfl, hb1⟩)
    go_ret
    exact ⟨rfl, hb1⟩
  | true =>
    have hR : shownB s = !badS s := by simp [shownB, hv]
    have cC := Lib.hid (fun cap w h => conS_any s w.heap.size cap (by omega) (bytesW s 5 w) h)
    have hcv := fun w => run_bytesW (P := Tryd.prog) 9 136 5 Tryd.underlying9 Tryd.underlying136 Tryd.underlying5 s w
    rw [hR]
    rw [hv] at cV
    clear hR hv
    have HB : Hid (∀ w, Below w.heap.size w (bytesW s 5 w)) := bytesW_below s 5
    have HS : Hid (∀ w, Src (bytesW s 5 w) w.heap.size s) := bytesW_src s 5
    unfold badS
    generalize (s.data.toList.any fun c => (!shoB c.toNat)) = q at *
    go_enter Tryd.func182, Tryd.ntmps182
    go_wp2_with (first | (go_at_call 204; refine cV.out.mono ?_; rintro e w1 ⟨rfl, hb1⟩) | (go_at_call 202; refine (cC.out _ _ (HS.out _)).mono ?_; rintro e w2 ⟨rfl, rfl⟩))
    go_ret
    exact ⟨rfl, hb1.trans ((HB.out _).mono hb1.size)⟩

set_option maxRecDepth 100000 in
set_option maxHeartbeats 4000000 in
theorem refShown_any (s : ByteArray) (hs : s.size ≤ 1000000) (w : World) : Calls Tryd.prog 101 #[.string s] w fun e w' => e = .returned (.bool (shownB s)) ∧ Below w.heap.size w w' := by
  have cV := Lib.hid (refValid_any s hs w)
  have hY : Hid (∀ i (h : i < s.size), shoB s[i].toNat = false → shownB s = false) := fun i h hp => by
    have : badS s = true := List.any_eq_true.2 ⟨s[i], Array.mem_def.1 (Array.getElem_mem (xs := s.data) (i := i) h), by rw [hp]; rfl⟩
    simp [shownB, this]
  have hN : Hid ((∀ i (h : i < s.size), shoB s[i].toNat = true) → shownB s = (ltS s).2) := fun h => by
    have : badS s = false := by
      unfold badS
      rw [List.any_eq_false]
      intro x hx
      obtain ⟨i, hi, rfl⟩ := List.getElem_of_mem hx
      rw [len_toList] at hi
      have := h i hi
      simp only [Bool.not_eq_true, Bool.not_eq_false']
      exact this
    simp [shownB, this]
  generalize shownB s = v at *
  generalize (ltS s).2 = q at *
  go_enter Tryd.func101, Tryd.ntmps101
  go_wp2_with fail
  go_loopw [3] (fun iv wr => ∃ i : Nat, i ≤ s.size ∧ iv = .int .i64 (i : Int) ∧ Hid (∀ j (h : j < s.size), j < i → shoB s[j].toNat = true) ∧ w = wr) (fun iv _ => s.size - (intOf iv).toNat)
  case atStart => exact ⟨0, Nat.zero_le _, rfl, fun _ _ h => absurd h (Nat.not_lt_zero _), rfl⟩
  case round =>
    obtain ⟨i, hi, rfl, HI, rfl⟩ := hrel
    by_cases hlt : i < s.size
    · have k1 : (i : Int) < (s.size : Int) := by omega
      have hrd := run_gb s i hlt
      have hge := gb_eq s i hlt
      have hst : Hid (shoB (gb s i) = true → ∀ j (h : j < s.size), j < i + 1 → shoB s[j].toNat = true) := fun hp j h hj => by
        by_cases e : j = i
        · subst e; rw [gb_eq s j h]; exact hp
        · exact HI.out j h (by omega)
      have hno : Hid (shoB (gb s i) = false → v = false) := fun hp => hY.out i hlt (by rw [hge]; exact hp)
      clear hge
      generalize gb s i = c at *
      by_cases h1 : c < 32
      · have i1 : (c : Int) < 32 := by omega
        by_cases h2 : c = 9
        · subst h2
          have HI2 := Lib.hid (hst.out rfl)
          have i2 : (((9 : Nat) : Int) != 9) = false := by decide
          clear hst hno
          go_wp2_with fail
          go_roundw
          case rel => exact ⟨i + 1, by omega, by go_num, HI2, trivial⟩
          case measure => simp [intOf]; omega
        · have i2 : ((c : Int) != 9) = true := by rw [bne_iff_ne]; omega
          by_cases h3 : c = 10
          · subst h3
            have HI2 := Lib.hid (hst.out rfl)
            clear hst hno
            go_wp2_with fail
            go_roundw
            case rel => exact ⟨i + 1, by omega, by go_num, HI2, trivial⟩
            case measure => simp [intOf]; omega
          · have i3 : ((c : Int) != 10) = true := by rw [bne_iff_ne]; omega
            have hv := Lib.hid (hno.out (by simp [shoB]; omega))
            clear hst hno
            go_wp2_with fail
            go_ret
            exact ⟨by rw [hv.out]; rfl, Below.refl _ _⟩
      · have i1 : ¬ (c : Int) < 32 := by omega
        have HI2 := Lib.hid (hst.out (by simp [shoB]; omega))
        clear hst hno
        go_wp2_with fail
        go_roundw
        case rel => exact ⟨i + 1, by omega, by go_num, HI2, trivial⟩
        case measure => simp [intOf]; omega
    · have k1 : ¬ (i : Int) < (s.size : Int) := by omega
      have hv := Lib.hid (hN.out (fun j h => HI.out j h (by omega)))
      clear hY hN
      go_wp2_with (go_at_call 150; refine cV.out.mono ?_; rintro e w1 ⟨rfl, hb1⟩)
      go_ret
      exact ⟨by rw [hv.out]; rfl, hb1⟩
end Go.Proofs.YtgechifbbhipaaaDoor

/- tree: the reference's Name; check of an element itself. No condition but sizes and the tables. -/
set_option linter.unusedVariables false
set_option linter.unusedSimpArgs false
namespace Go.Proofs.YtgechifbbhipaaaDoor
open Go.RowKit

set_option maxRecDepth 100000 in
set_option maxHeartbeats 4000000 in
theorem refName_any (s : ByteArray) (w : World) : Calls Tryd.prog 100 #[.string s] w fun e w' => e = .returned (.bool (nameB s)) ∧ w = w' := by
  by_cases h0 : s.size = 0
  · have hR : nameB s = false := by simp [nameB, h0]
    have he := emptyB s h0
    rw [hR]
    clear h0 hR
    go_enter Tryd.func100, Tryd.ntmps100
    go_wp2
    go_ret
    exact ⟨rfl, rfl⟩
  have he := not_empty s h0
  by_cases h1 : s.size ≤ 32
  case neg =>
    have i1 : ¬ (s.size : Int) ≤ 32 := by omega
    have hR : nameB s = false := by simp [nameB, h1]
    rw [hR]
    clear hR
    go_enter Tryd.func100, Tryd.ntmps100
    go_wp2
    go_ret
    exact ⟨rfl, rfl⟩
  have i1 : (s.size : Int) ≤ 32 := by omega
  have hrd := run_gb s 0 (by omega)
  have hgl := gb_lt s 0
  have cL := Lib.hid (fun w => refLetter_any (gb s 0) hgl w)
  have hrd0 : ∀ w, (Instr.index 9 (.string s) (.int .i64 0)).run Tryd.prog w = .ok (.int .u8 (gb s 0 : Int)) w := hrd
  clear hrd
  cases hl : letB (gb s 0) with
  | false =>
    have hR : nameB s = false := by simp [nameB, hl]
    rw [hR]
    rw [hl] at cL
    clear hR hl
    generalize gb s 0 = c at *
    go_enter Tryd.func100, Tryd.ntmps100
    go_wp2_with (go_at_call 149; refine (cL.out _).mono ?_; rintro e w1 ⟨rfl, rfl⟩)
    go_ret
    exact ⟨rfl, rfl⟩
  | true =>
    have hR : nameB s = !badN s := by simp [nameB, hl, h0, h1]
    rw [hl] at cL
    rw [hR]
    have hY : Hid (∀ i (h : i < s.size), namB s[i].toNat = false → (!badN s) = false) := fun i h hp => by
      have : badN s = true := List.any_eq_true.2 ⟨s[i], Array.mem_def.1 (Array.getElem_mem (xs := s.data) (i := i) h), by rw [hp]; rfl⟩
      rw [this]; rfl
    have hN : Hid ((∀ i (h : i < s.size), namB s[i].toNat = true) → (!badN s) = true) := fun h => by
      have : badN s = false := by
        unfold badN
        rw [List.any_eq_false]
        intro x hx
        obtain ⟨i, hi, rfl⟩ := List.getElem_of_mem hx
        rw [len_toList] at hi
        have := h i hi
        simp only [Bool.not_eq_true, Bool.not_eq_false']
        exact this
      rw [this]; rfl
    generalize (!badN s) = v at *
    clear hR hl
    generalize gb s 0 = c0 at *
    go_enter Tryd.func100, Tryd.ntmps100
    go_wp2_with (go_at_call 149; refine (cL.out _).mono ?_; rintro e w1 ⟨rfl, rfl⟩)
    clear hrd0 cL
    go_loopw [3] (fun iv wr => ∃ i : Nat, i ≤ s.size ∧ iv = .int .i64 (i : Int) ∧ Hid (∀ j (h : j < s.size), j < i → namB s[j].toNat = true) ∧ w = wr) (fun iv _ => s.size - (intOf iv).toNat)
    case atStart => exact ⟨0, Nat.zero_le _, rfl, fun _ _ h => absurd h (Nat.not_lt_zero _), rfl⟩
    case round =>
      obtain ⟨i, hi, rfl, HI, rfl⟩ := hrel
      by_cases hlt : i < s.size
      · have k1 : (i : Int) < (s.size : Int) := by omega
        have hrd := run_gb s i hlt
        have hge := gb_eq s i hlt
        have hgl := gb_lt s i
        have cL := Lib.hid (fun w => refLetter_any (gb s i) hgl w)
        have hst : Hid (namB (gb s i) = true → ∀ j (h : j < s.size), j < i + 1 → namB s[j].toNat = true) := fun hp j h hj => by
          by_cases e : j = i
          · subst e; rw [gb_eq s j h]; exact hp
          · exact HI.out j h (by omega)
        have hno : Hid (namB (gb s i) = false → v = false) := fun hp => hY.out i hlt (by rw [hge]; exact hp)
        unfold namB at hst hno
        clear hge
        generalize gb s i = c at *
        cases hl : letB c with
        | true =>
          have HI2 := Lib.hid (hst.out (by rw [hl]; rfl))
          rw [hl] at cL
          clear hst hno hl
          go_wp2_with (go_at_call 149; refine (cL.out _).mono ?_; rintro e w1 ⟨rfl, rfl⟩)
          go_roundw
          case rel => exact ⟨i + 1, by omega, by go_num, HI2, trivial⟩
          case measure => simp [intOf]; omega
        | false =>
          rw [hl] at cL
          by_cases h2 : c < 48
          · have i2 : (c : Int) < 48 := by omega
            have hv := Lib.hid (hno.out (by rw [hl]; simp; omega))
            clear hst hno hl
            go_wp2_with (go_at_call 149; refine (cL.out _).mono ?_; rintro e w1 ⟨rfl, rfl⟩)
            go_ret
            exact ⟨by rw [hv.out]; rfl, rfl⟩
          · have i2 : ¬ (c : Int) < 48 := by omega
            by_cases h3 : 57 < c
            · have i3 : (57 : Int) < c := by omega
              have hv := Lib.hid (hno.out (by rw [hl]; simp; omega))
              clear hst hno hl
              go_wp2_with (go_at_call 149; refine (cL.out _).mono ?_; rintro e w1 ⟨rfl, rfl⟩)
              go_ret
              exact ⟨by rw [hv.out]; rfl, rfl⟩
            · have i3 : ¬ (57 : Int) < c := by omega
              have HI2 := Lib.hid (hst.out (by rw [hl]; simp; omega))
              clear hst hno hl
              go_wp2_with (go_at_call 149; refine (cL.out _).mono ?_; rintro e w1 ⟨rfl, rfl⟩)
              go_roundw
              case rel => exact ⟨i + 1, by omega, by go_num, HI2, trivial⟩
              case measure => simp [intOf]; omega
      · have k1 : ¬ (i : Int) < (s.size : Int) := by omega
        have hv := Lib.hid (hN.out (fun j h => HI.out j h (by omega)))
        clear hY hN
        go_wp2_with fail
        go_ret
        exact ⟨by rw [hv.out]; rfl, rfl⟩

/-- an element's cells -/
def elC (p : Int) (nm tx : ByteArray) (o : Bool) (a : Option Addr) (n c : Nat) : Array Value := #[.int .i64 p, .string nm, .string tx, .bool o, .slice a n c]
/-- what is wrong with an element itself -/
def chkV (p : Int) (nm tx : ByteArray) (o : Bool) (n : Nat) : Int :=
  if p < 0 ∨ 3 ≤ p then 5 else if nameB nm = false then 14 else if 200 < n then 4 else if 0 < n ∧ tx.size ≠ 0 then 7 else if 4000 < tx.size then 8 else if (o = true ∧ tx.size = 0) ∨ (o = false ∧ shownB tx = false) then 3 else 0

theorem box5 {w w1 : World} (p : Int) (nm tx : ByteArray) (o : Bool) (v : Value) (hb : Below (w.heap.size + 1) (w.alloc (.cells #[.int .i64 p, .string nm, .string tx, .bool o, v] 46)) w1) :
    w1.cell? ⟨w.heap.size, 0, none⟩ = some (.int .i64 p) ∧ w1.cell? ⟨w.heap.size, 1, none⟩ = some (.string nm) ∧ w1.cell? ⟨w.heap.size, 2, none⟩ = some (.string tx) ∧ w1.cell? ⟨w.heap.size, 3, none⟩ = some (.bool o) ∧ w1.cell? ⟨w.heap.size, 4, none⟩ = some v := by
  have h : ∀ k, w1.cell? ⟨w.heap.size, k, none⟩ = (w.alloc (.cells #[.int .i64 p, .string nm, .string tx, .bool o, v] 46)).cell? ⟨w.heap.size, k, none⟩ := fun k => hb.cell (p := ⟨w.heap.size, k, none⟩) (by show w.heap.size < _; omega)
  refine ⟨?_, ?_, ?_, ?_, ?_⟩ <;> (rw [h, World.cell?_alloc_at _ _ _ _ rfl]; rfl)

set_option maxRecDepth 100000 in
set_option maxHeartbeats 4000000 in
theorem check_any (p : Int) (nm tx : ByteArray) (o : Bool) (a : Option Addr) (n c : Nat) (hnm : nm.size ≤ 140737488355328) (w : World) (hT : Lib.Utf8Tabs 2 3 w) :
    Calls Tryd.prog 146 #[.agg #[.int .i64 p, .string nm, .string tx, .bool o, .slice a n c]] w fun e w' => e = .returned (.int .i64 (chkV p nm tx o n)) ∧ Below w.heap.size w w' := by
  have cN := Lib.hid (fun w => named_any nm hnm w)
  have HR : Hid (chkV p nm tx o n = if p < 0 ∨ 3 ≤ p then 5 else if nameB nm = false then 14 else if 200 < n then 4 else if 0 < n ∧ tx.size ≠ 0 then 7 else if 4000 < tx.size then 8 else if (o = true ∧ tx.size = 0) ∨ (o = false ∧ shownB tx = false) then 3 else 0) := rfl
  generalize chkV p nm tx o n = R at *
  have HTW : Hid (∀ w1, Below w.heap.size w w1 → Lib.Utf8Tabs 2 3 w1) := fun w1 h => Utf8Tabs_below hT h
  clear hT
  by_cases h1 : p < 0
  · have hr := Lib.hid (HR.out.trans (if_pos (.inl h1)))
    clear HR
    go_enter Tryd.func146, Tryd.ntmps146
    go_wp2
    go_ret
    exact ⟨by rw [hr.out]; rfl, (Below.refl _ _).alloc (Nat.le_refl _) _⟩
  by_cases h2 : 3 ≤ p
  · have hr := Lib.hid (HR.out.trans (if_pos (.inr h2)))
    clear HR
    go_enter Tryd.func146, Tryd.ntmps146
    go_wp2
    go_ret
    exact ⟨by rw [hr.out]; rfl, (Below.refl _ _).alloc (Nat.le_refl _) _⟩
  have HR2 := Lib.hid (HR.out.trans (if_neg (by omega)))
  clear HR
  cases hn : nameB nm with
  | false =>
    have hr := Lib.hid (HR2.out.trans (if_pos hn))
    rw [hn] at cN
    clear HR2 hn
    go_enter Tryd.func146, Tryd.ntmps146
    go_wp2_with (go_at_call 181; refine (cN.out _).mono ?_; rintro e w1 ⟨rfl, hb1⟩)
    go_ret
    exact ⟨by rw [hr.out]; rfl, ((Below.refl _ w).alloc (Nat.le_refl _) _).trans (hb1.mono (by simp))⟩
  | true =>
    have HR3 := Lib.hid (HR2.out.trans (if_neg (by rw [hn]; simp)))
    rw [hn] at cN
    clear HR2 hn
    have A46 : True := trivial
    by_cases h3 : 200 < n
    · have j3 : (200 : Int) < n := by omega
      have hr := Lib.hid (HR3.out.trans (if_pos h3))
      clear HR3
      go_enter Tryd.func146, Tryd.ntmps146
      go_wp2_with (go_at_call 181; refine (cN.out _).mono ?_; rintro e w1 ⟨rfl, hb1⟩; simp only [World.size_alloc] at hb1; obtain ⟨d0, d1, d2, d3, d4⟩ := box5 p nm tx o _ hb1)
      go_ret
      exact ⟨by rw [hr.out]; rfl, ((Below.refl _ w).alloc (Nat.le_refl _) _).trans (hb1.mono (by simp))⟩
    have HR4 := Lib.hid (HR3.out.trans (if_neg h3))
    have j3 : ¬ (200 : Int) < n := by omega
    clear HR3
    by_cases h4 : 0 < n ∧ tx.size ≠ 0
    · have hr := Lib.hid (HR4.out.trans (if_pos h4))
      have j4 : (0 : Int) < n := by omega
      have he := not_empty tx h4.2
      clear HR4
      go_enter Tryd.func146, Tryd.ntmps146
      go_wp2_with (go_at_call 181; refine (cN.out _).mono ?_; rintro e w1 ⟨rfl, hb1⟩; simp only [World.size_alloc] at hb1; obtain ⟨d0, d1, d2, d3, d4⟩ := box5 p nm tx o _ hb1)
      go_ret
      exact ⟨by rw [hr.out]; rfl, ((Below.refl _ w).alloc (Nat.le_refl _) _).trans (hb1.mono (by simp))⟩
    have HR5 := Lib.hid (HR4.out.trans (if_neg h4))
    clear HR4
    by_cases hn0 : n = 0
    · have j4 : ¬ (0 : Int) < (n : Int) := by omega
      have d4' : decide (0 < n) = false := by simp; omega
      by_cases h5 : 4000 < tx.size
      · have j5 : (4000 : Int) < tx.size := by omega
        have hr := Lib.hid (HR5.out.trans (if_pos h5))
        clear HR5 hn0
        go_enter Tryd.func146, Tryd.ntmps146
        go_wp2_with (go_at_call 181; refine (cN.out _).mono ?_; rintro e w1 ⟨rfl, hb1⟩; simp only [World.size_alloc] at hb1; obtain ⟨d0, d1, d2, d3, d4⟩ := box5 p nm tx _ _ hb1)
        go_ret
        exact ⟨by rw [hr.out]; rfl, ((Below.refl _ w).alloc (Nat.le_refl _) _).trans (hb1.mono (by simp))⟩
      have j5 : ¬ (4000 : Int) < tx.size := by omega
      have HR6 := Lib.hid (HR5.out.trans (if_neg h5))
      clear HR5 hn0
      cases o with
      | true =>
        by_cases h6 : tx.size = 0
        · have he := emptyB tx h6
          have hr := Lib.hid (HR6.out.trans (if_pos (.inl ⟨rfl, h6⟩)))
          clear HR6 h6
          go_enter Tryd.func146, Tryd.ntmps146
          go_wp2_with (go_at_call 181; refine (cN.out _).mono ?_; rintro e w1 ⟨rfl, hb1⟩; simp only [World.size_alloc] at hb1; obtain ⟨d0, d1, d2, d3, d4⟩ := box5 p nm tx _ _ hb1)
          go_ret
          exact ⟨by rw [hr.out]; rfl, ((Below.refl _ w).alloc (Nat.le_refl _) _).trans (hb1.mono (by simp))⟩
        · have he := not_empty tx h6
          have hr := Lib.hid (HR6.out.trans (if_neg (by simp [h6])))
          clear HR6 h6
          go_enter Tryd.func146, Tryd.ntmps146
          go_wp2_with (go_at_call 181; refine (cN.out _).mono ?_; rintro e w1 ⟨rfl, hb1⟩; simp only [World.size_alloc] at hb1; obtain ⟨d0, d1, d2, d3, d4⟩ := box5 p nm tx _ _ hb1)
          go_ret
          exact ⟨by rw [hr.out]; rfl, ((Below.refl _ w).alloc (Nat.le_refl _) _).trans (hb1.mono (by simp))⟩
      | false =>
        have cS := Lib.hid (fun w h => shown_any tx (by omega) w h)
        cases hsh : shownB tx with
        | false =>
          have hr := Lib.hid (HR6.out.trans (if_pos (.inr ⟨rfl, hsh⟩)))
          rw [hsh] at cS
          clear HR6 hsh
          go_enter Tryd.func146, Tryd.ntmps146
          go_wp2_with (first | (go_at_call 181; refine (cN.out _).mono ?_; rintro e w1 ⟨rfl, hb1⟩; simp only [World.size_alloc] at hb1; obtain ⟨d0, d1, d2, d3, d4⟩ := box5 p nm tx _ _ hb1) | (go_at_call 182; refine (cS.out _ (HTW.out _ (((Below.refl _ w).alloc (Nat.le_refl _) _).trans (hb1.mono (by simp))))).mono ?_; rintro e w2 ⟨rfl, hb2⟩))
          go_ret
          exact ⟨by rw [hr.out]; rfl, (((Below.refl _ w).alloc (Nat.le_refl _) _).trans (hb1.mono (by simp))).trans (hb2.mono (by have := hb1.size; simp only [World.size_alloc] at this ⊢; omega))⟩
        | true =>
          have hr := Lib.hid (HR6.out.trans (if_neg (by rw [hsh]; simp)))
          rw [hsh] at cS
          clear HR6 hsh
          go_enter Tryd.func146, Tryd.ntmps146
          go_wp2_with (first | (go_at_call 181; refine (cN.out _).mono ?_; rintro e w1 ⟨rfl, hb1⟩; simp only [World.size_alloc] at hb1; obtain ⟨d0, d1, d2, d3, d4⟩ := box5 p nm tx _ _ hb1) | (go_at_call 182; refine (cS.out _ (HTW.out _ (((Below.refl _ w).alloc (Nat.le_refl _) _).trans (hb1.mono (by simp))))).mono ?_; rintro e w2 ⟨rfl, hb2⟩))
          go_ret
          exact ⟨by rw [hr.out]; rfl, (((Below.refl _ w).alloc (Nat.le_refl _) _).trans (hb1.mono (by simp))).trans (hb2.mono (by have := hb1.size; simp only [World.size_alloc] at this ⊢; omega))⟩
    · have j4 : (0 : Int) < (n : Int) := by omega
      have h6 : tx.size = 0 := by omega
      have he := emptyB tx h6
      have j5 : ¬ (4000 : Int) < tx.size := by omega
      have HR6 := Lib.hid (HR5.out.trans (if_neg (by omega)))
      clear HR5 hn0
      cases o with
      | true =>
        have hr := Lib.hid (HR6.out.trans (if_pos (.inl ⟨rfl, h6⟩)))
        clear HR6
        go_enter Tryd.func146, Tryd.ntmps146
        go_wp2_with (go_at_call 181; refine (cN.out _).mono ?_; rintro e w1 ⟨rfl, hb1⟩; simp only [World.size_alloc] at hb1; obtain ⟨d0, d1, d2, d3, d4⟩ := box5 p nm tx _ _ hb1)
        go_ret
        exact ⟨by rw [hr.out]; rfl, ((Below.refl _ w).alloc (Nat.le_refl _) _).trans (hb1.mono (by simp))⟩
      | false =>
        have cS := Lib.hid (fun w h => shown_any tx (by omega) w h)
        cases hsh : shownB tx with
        | false =>
          have hr := Lib.hid (HR6.out.trans (if_pos (.inr ⟨rfl, hsh⟩)))
          rw [hsh] at cS
          clear HR6 hsh
          go_enter Tryd.func146, Tryd.ntmps146
          go_wp2_with (first | (go_at_call 181; refine (cN.out _).mono ?_; rintro e w1 ⟨rfl, hb1⟩; simp only [World.size_alloc] at hb1; obtain ⟨d0, d1, d2, d3, d4⟩ := box5 p nm tx _ _ hb1) | (go_at_call 182; refine (cS.out _ (HTW.out _ (((Below.refl _ w).alloc (Nat.le_refl _) _).trans (hb1.mono (by simp))))).mono ?_; rintro e w2 ⟨rfl, hb2⟩))
          go_ret
          exact ⟨by rw [hr.out]; rfl, (((Below.refl _ w).alloc (Nat.le_refl _) _).trans (hb1.mono (by simp))).trans (hb2.mono (by have := hb1.size; simp only [World.size_alloc] at this ⊢; omega))⟩
        | true =>
          have hr := Lib.hid (HR6.out.trans (if_neg (by rw [hsh]; simp)))
          rw [hsh] at cS
          clear HR6 hsh
          go_enter Tryd.func146, Tryd.ntmps146
          go_wp2_with (first | (go_at_call 181; refine (cN.out _).mono ?_; rintro e w1 ⟨rfl, hb1⟩; simp only [World.size_alloc] at hb1; obtain ⟨d0, d1, d2, d3, d4⟩ := box5 p nm tx _ _ hb1) | (go_at_call 182; refine (cS.out _ (HTW.out _ (((Below.refl _ w).alloc (Nat.le_refl _) _).trans (hb1.mono (by simp))))).mono ?_; rintro e w2 ⟨rfl, hb2⟩))
          go_ret
          exact ⟨by rw [hr.out]; rfl, (((Below.refl _ w).alloc (Nat.le_refl _) _).trans (hb1.mono (by simp))).trans (hb2.mono (by have := hb1.size; simp only [World.size_alloc] at this ⊢; omega))⟩
end Go.Proofs.YtgechifbbhipaaaDoor
