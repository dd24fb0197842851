/- tree: the reference's Name; check of an element itself. No condition but sizes and the tables. -/
import Derived.Test.YtgechifbbhipaaaDoorTrC
set_option linter.unusedVariables false
set_option linter.unusedSimpArgs false
namespace Go.Proofs.YtgechifbbhipaaaDoor
open Go.RowKit

set_option maxRecDepth 100000 in
set_option maxHeartbeats 4000000 in
theorem refName_any (s : ByteArray) (w : World) : Calls Tryd.prog 100 #[.string s] w fun e w' => e = .returned (.bool (nameB s)) ∧ w = w' := by
  by_cases h0 : s.size = 0
  · have hR : nameB s = false := by simp [nameB, h0]
    have he := emptyB s h0
    rw [hR]
    clear h0 hR
    go_enter Tryd.func100, Tryd.ntmps100
    go_wp2
    go_ret
    exact ⟨rfl, rfl⟩
  have he := not_empty s h0
  by_cases h1 : s.size ≤ 32
  case neg =>
    have i1 : ¬ (s.size : Int) ≤ 32 := by omega
    have hR : nameB s = false := by simp [nameB, h1]
    rw [hR]
    clear hR
    go_enter Tryd.func100, Tryd.ntmps100
    go_wp2
    go_ret
    exact ⟨rfl, rfl⟩
  have i1 : (s.size : Int) ≤ 32 := by omega
  have hrd := run_gb s 0 (by omega)
  have hgl := gb_lt s 0
  have cL := Lib.hid (fun w => refLetter_any (gb s 0) hgl w)
  have hrd0 : ∀ w, (Instr.index 9 (.string s) (.int .i64 0)).run Tryd.prog w = .ok (.int .u8 (gb s 0 : Int)) w := hrd
  clear hrd
  cases hl : letB (gb s 0) with
  | false =>
    have hR : nameB s = false := by simp [nameB, hl]
    rw [hR]
    rw [hl] at cL
    clear hR hl
    generalize gb s 0 = c at *
    go_enter Tryd.func100, Tryd.ntmps100
    go_wp2_with (go_at_call 149; refine (cL.out _).mono ?_; rintro e w1 ⟨rfl, rfl⟩)
    go_ret
    exact ⟨rfl, rfl⟩
  | true =>
    have hR : nameB s = !badN s := by simp [nameB, hl, h0, h1]
    rw [hl] at cL
    rw [hR]
    have hY : Hid (∀ i (h : i < s.size), namB s[i].toNat = false → (!badN s) = false) := fun i h hp => by
      have : badN s = true := List.any_eq_true.2 ⟨s[i], Array.mem_def.1 (Array.getElem_mem (xs := s.data) (i := i) h), by rw [hp]; rfl⟩
      rw [this]; rfl
    have hN : Hid ((∀ i (h : i < s.size), namB s[i].toNat = true) → (!badN s) = true) := fun h => by
      have : badN s = false := by
        unfold badN
        rw [List.any_eq_false]
        intro x hx
        obtain ⟨i, hi, rfl⟩ := List.getElem_of_mem hx
        rw [len_toList] at hi
        have := h i hi
        simp only [Bool.not_eq_true, Bool.not_eq_false']
        exact this
      rw [this]; rfl
    generalize (!badN s) = v at *
    clear hR hl
    generalize gb s 0 = c0 at *
    go_enter Tryd.func100, Tryd.ntmps100
    go_wp2_with (go_at_call 149; refine (cL.out _).mono ?_; rintro e w1 ⟨rfl, rfl⟩)
    clear hrd0 cL
    go_loopw [3] (fun iv wr => ∃ i : Nat, i ≤ s.size ∧ iv = .int .i64 (i : Int) ∧ Hid (∀ j (h : j < s.size), j < i → namB s[j].toNat = true) ∧ w = wr) (fun iv _ => s.size - (intOf iv).toNat)
    case atStart => exact ⟨0, Nat.zero_le _, rfl, fun _ _ h => absurd h (Nat.not_lt_zero _), rfl⟩
    case round =>
      obtain ⟨i, hi, rfl, HI, rfl⟩ := hrel
      by_cases hlt : i < s.size
      · have k1 : (i : Int) < (s.size : Int) := by omega
        have hrd := run_gb s i hlt
        have hge := gb_eq s i hlt
        have hgl := gb_lt s i
        have cL := Lib.hid (fun w => refLetter_any (gb s i) hgl w)
        have hst : Hid (namB (gb s i) = true → ∀ j (h : j < s.size), j < i + 1 → namB s[j].toNat = true) := fun hp j h hj => by
          by_cases e : j = i
          · subst e; rw [gb_eq s j h]; exact hp
          · exact HI.out j h (by omega)
        have hno : Hid (namB (gb s i) = false → v = false) := fun hp => hY.out i hlt (by rw [hge]; exact hp)
        unfold namB at hst hno
        clear hge
        generalize gb s i = c at *
        cases hl : letB c with
        | true =>
          have HI2 := Lib.hid (hst.out (by rw [hl]; rfl))
          rw [hl] at cL
          clear hst hno hl
          go_wp2_with (go_at_call 149; refine (cL.out _).mono ?_; rintro e w1 ⟨rfl, rfl⟩)
          go_roundw
          case rel => exact ⟨i + 1, by omega, by go_num, HI2, trivial⟩
          case measure => simp [intOf]; omega
        | false =>
          rw [hl] at cL
          by_cases h2 : c < 48
          · have i2 : (c : Int) < 48 := by omega
            have hv := Lib.hid (hno.out (by rw [hl]; simp; omega))
            clear hst hno hl
            go_wp2_with (go_at_call 149; refine (cL.out _).mono ?_; rintro e w1 ⟨rfl, rfl⟩)
            go_ret
            exact ⟨by rw [hv.out]; rfl, rfl⟩
          · have i2 : ¬ (c : Int) < 48 := by omega
            by_cases h3 : 57 < c
            · have i3 : (57 : Int) < c := by omega
              have hv := Lib.hid (hno.out (by rw [hl]; simp; omega))
              clear hst hno hl
              go_wp2_with (go_at_call 149; refine (cL.out _).mono ?_; rintro e w1 ⟨rfl, rfl⟩)
              go_ret
              exact ⟨by rw [hv.out]; rfl, rfl⟩
            · have i3 : ¬ (57 : Int) < c := by omega
              have HI2 := Lib.hid (hst.out (by rw [hl]; simp; omega))
              clear hst hno hl
              go_wp2_with (go_at_call 149; refine (cL.out _).mono ?_; rintro e w1 ⟨rfl, rfl⟩)
              go_roundw
              case rel => exact ⟨i + 1, by omega, by go_num, HI2, trivial⟩
              case measure => simp [intOf]; omega
      · have k1 : ¬ (i : Int) < (s.size : Int) := by omega
        have hv := Lib.hid (hN.out (fun j h => HI.out j h (by omega)))
        clear hY hN
        go_wp2_with fail
        go_ret
        exact ⟨by rw [hv.out]; rfl, rfl⟩

/-- an element's cells -/
def elC (p : Int) (nm tx : ByteArray) (o : Bool) (a : Option Addr) (n c : Nat) : Array Value := #[.int .i64 p, .string nm, .string tx, .bool o, .slice a n c]
/-- what is wrong with an element itself -/
def chkV (p : Int) (nm tx : ByteArray) (o : Bool) (n : Nat) : Int :=
  if p < 0 ∨ 3 ≤ p then 5 else if nameB nm = false then 14 else if 200 < n then 4 else if 0 < n ∧ tx.size ≠ 0 then 7 else if 4000 < tx.size then 8 else if (o = true ∧ tx.size = 0) ∨ (o = false ∧ shownB tx = false) then 3 else 0

theorem box5 {w w1 : World} (p : Int) (nm tx : ByteArray) (o : Bool) (v : Value) (hb : Below (w.heap.size + 1) (w.alloc (.cells #[.int .i64 p, .string nm, .string tx, .bool o, v] 46)) w1) :
    w1.cell? ⟨w.heap.size, 0, none⟩ = some (.int .i64 p) ∧ w1.cell? ⟨w.heap.size, 1, none⟩ = some (.string nm) ∧ w1.cell? ⟨w.heap.size, 2, none⟩ = some (.string tx) ∧ w1.cell? ⟨w.heap.size, 3, none⟩ = some (.bool o) ∧ w1.cell? ⟨w.heap.size, 4, none⟩ = some v := by
  have h : ∀ k, w1.cell? ⟨w.heap.size, k, none⟩ = (w.alloc (.cells #[.int .i64 p, .string nm, .string tx, .bool o, v] 46)).cell? ⟨w.heap.size, k, none⟩ := fun k => hb.cell (p := ⟨w.heap.size, k, none⟩) (by show w.heap.size < _; omega)
  refine ⟨?_, ?_, ?_, ?_, ?_⟩ <;> (rw [h, World.cell?_alloc_at _ _ _ _ rfl]; rfl)

set_option maxRecDepth 100000 in
set_option maxHeartbeats 4000000 in
theorem check_any (p : Int) (nm tx : ByteArray) (o : Bool) (a : Option Addr) (n c : Nat) (hnm : nm.size ≤ 140737488355328) (w : World) (hT : Lib.Utf8Tabs 2 3 w) :
    Calls Tryd.prog 146 #[.agg #[.int .i64 p, .string nm, .string tx, .bool o, .slice a n c]] w fun e w' => e = .returned (.int .i64 (chkV p nm tx o n)) ∧ Below w.heap.size w w' := by
  have cN := Lib.hid (fun w => named_any nm hnm w)
  have HR : Hid (chkV p nm tx o n = if p < 0 ∨ 3 ≤ p then 5 else if nameB nm = false then 14 else if 200 < n then 4 else if 0 < n ∧ tx.size ≠ 0 then 7 else if 4000 < tx.size then 8 else if (o = true ∧ tx.size = 0) ∨ (o = false ∧ shownB tx = false) then 3 else 0) := rfl
  generalize chkV p nm tx o n = R at *
  have HTW : Hid (∀ w1, Below w.heap.size w w1 → Lib.Utf8Tabs 2 3 w1) := fun w1 h => Utf8Tabs_below hT h
  clear hT
  by_cases h1 : p < 0
  · have hr := Lib.hid (HR.out.trans (if_pos (.inl h1)))
    clear HR
    go_enter Tryd.func146, Tryd.ntmps146
    go_wp2
    go_ret
    exact ⟨by rw [hr.out]; rfl, (Below.refl _ _).alloc (Nat.le_refl _) _⟩
  by_cases h2 : 3 ≤ p
  · have hr := Lib.hid (HR.out.trans (if_pos (.inr h2)))
    clear HR
    go_enter Tryd.func146, Tryd.ntmps146
    go_wp2
    go_ret
    exact ⟨by rw [hr.out]; rfl, (Below.refl _ _).alloc (Nat.le_refl _) _⟩
  have HR2 := Lib.hid (HR.out.trans (if_neg (by omega)))
  clear HR
  cases hn : nameB nm with
  | false =>
    have hr := Lib.hid (HR2.out.trans (if_pos hn))
    rw [hn] at cN
    clear HR2 hn
    go_enter Tryd.func146, Tryd.ntmps146
    go_wp2_with (go_at_call 181; refine (cN.out _).mono ?_; rintro e w1 ⟨rfl, hb1⟩)
    go_ret
    exact ⟨by rw [hr.out]; rfl, ((Below.refl _ w).alloc (Nat.le_refl _) _).trans (hb1.mono (by simp))⟩
  | true =>
    have HR3 := Lib.hid (HR2.out.trans (if_neg (by rw [hn]; simp)))
    rw [hn] at cN
    clear HR2 hn
    have A46 : True := trivial
    by_cases h3 : 200 < n
    · have j3 : (200 : Int) < n := by omega
      have hr := Lib.hid (HR3.out.trans (if_pos h3))
      clear HR3
      go_enter Tryd.func146, Tryd.ntmps146
      go_wp2_with (go_at_call 181; refine (cN.out _).mono ?_; rintro e w1 ⟨rfl, hb1⟩; simp only [World.size_alloc] at hb1; obtain ⟨d0, d1, d2, d3, d4⟩ := box5 p nm tx o _ hb1)
      go_ret
      exact ⟨by rw [hr.out]; rfl, ((Below.refl _ w).alloc (Nat.le_refl _) _).trans (hb1.mono (by simp))⟩
    have HR4 := Lib.hid (HR3.out.trans (if_neg h3))
    have j3 : ¬ (200 : Int) < n := by omega
    clear HR3
    by_cases h4 : 0 < n ∧ tx.size ≠ 0
    · have hr := Lib.hid (HR4.out.trans (if_pos h4))
      have j4 : (0 : Int) < n := by omega
      have he := not_empty tx h4.2
      clear HR4
      go_enter Tryd.func146, Tryd.ntmps146
      go_wp2_with (go_at_call 181; refine (cN.out _).mono ?_; rintro e w1 ⟨rfl, hb1⟩; simp only [World.size_alloc] at hb1; obtain ⟨d0, d1, d2, d3, d4⟩ := box5 p nm tx o _ hb1)
      go_ret
      exact ⟨by rw [hr.out]; rfl, ((Below.refl _ w).alloc (Nat.le_refl _) _).trans (hb1.mono (by simp))⟩
    have HR5 := Lib.hid (HR4.out.trans (if_neg h4))
    clear HR4
    by_cases hn0 : n = 0
    · have j4 : ¬ (0 : Int) < (n : Int) := by omega
      have d4' : decide (0 < n) = false := by simp; omega
      by_cases h5 : 4000 < tx.size
      · have j5 : (4000 : Int) < tx.size := by omega
        have hr := Lib.hid (HR5.out.trans (if_pos h5))
        clear HR5 hn0
        go_enter Tryd.func146, Tryd.ntmps146
        go_wp2_with (go_at_call 181; refine (cN.out _).mono ?_; rintro e w1 ⟨rfl, hb1⟩; simp only [World.size_alloc] at hb1; obtain ⟨d0, d1, d2, d3, d4⟩ := box5 p nm tx _ _ hb1)
        go_ret
        exact ⟨by rw [hr.out]; rfl, ((Below.refl _ w).alloc (Nat.le_refl _) _).trans (hb1.mono (by simp))⟩
      have j5 : ¬ (4000 : Int) < tx.size := by omega
      have HR6 := Lib.hid (HR5.out.trans (if_neg h5))
      clear HR5 hn0
      cases o with
      | true =>
        by_cases h6 : tx.size = 0
        · have he := emptyB tx h6
          have hr := Lib.hid (HR6.out.trans (if_pos (.inl ⟨rfl, h6⟩)))
          clear HR6 h6
          go_enter Tryd.func146, Tryd.ntmps146
          go_wp2_with (go_at_call 181; refine (cN.out _).mono ?_; rintro e w1 ⟨rfl, hb1⟩; simp only [World.size_alloc] at hb1; obtain ⟨d0, d1, d2, d3, d4⟩ := box5 p nm tx _ _ hb1)
          go_ret
          exact ⟨by rw [hr.out]; rfl, ((Below.refl _ w).alloc (Nat.le_refl _) _).trans (hb1.mono (by simp))⟩
        · have he := not_empty tx h6
          have hr := Lib.hid (HR6.out.trans (if_neg (by simp [h6])))
          clear HR6 h6
          go_enter Tryd.func146, Tryd.ntmps146
          go_wp2_with (go_at_call 181; refine (cN.out _).mono ?_; rintro e w1 ⟨rfl, hb1⟩; simp only [World.size_alloc] at hb1; obtain ⟨d0, d1, d2, d3, d4⟩ := box5 p nm tx _ _ hb1)
          go_ret
          exact ⟨by rw [hr.out]; rfl, ((Below.refl _ w).alloc (Nat.le_refl _) _).trans (hb1.mono (by simp))⟩
      | false =>
        have cS := Lib.hid (fun w h => shown_any tx (by omega) w h)
        cases hsh : shownB tx with
        | false =>
          have hr := Lib.hid (HR6.out.trans (if_pos (.inr ⟨rfl, hsh⟩)))
          rw [hsh] at cS
          clear HR6 hsh
          go_enter Tryd.func146, Tryd.ntmps146
          go_wp2_with (first | (go_at_call 181; refine (cN.out _).mono ?_; rintro e w1 ⟨rfl, hb1⟩; simp only [World.size_alloc] at hb1; obtain ⟨d0, d1, d2, d3, d4⟩ := box5 p nm tx _ _ hb1) | (go_at_call 182; refine (cS.out _ (HTW.out _ (((Below.refl _ w).alloc (Nat.le_refl _) _).trans (hb1.mono (by simp))))).mono ?_; rintro e w2 ⟨rfl, hb2⟩))
          go_ret
          exact ⟨by rw [hr.out]; rfl, (((Below.refl _ w).alloc (Nat.le_refl _) _).trans (hb1.mono (by simp))).trans (hb2.mono (by have := hb1.size; simp only [World.size_alloc] at this ⊢; omega))⟩
        | true =>
          have hr := Lib.hid (HR6.out.trans (if_neg (by rw [hsh]; simp)))
          rw [hsh] at cS
          clear HR6 hsh
          go_enter Tryd.func146, Tryd.ntmps146
          go_wp2_with (first | (go_at_call 181; refine (cN.out _).mono ?_; rintro e w1 ⟨rfl, hb1⟩; simp only [World.size_alloc] at hb1; obtain ⟨d0, d1, d2, d3, d4⟩ := box5 p nm tx _ _ hb1) | (go_at_call 182; refine (cS.out _ (HTW.out _ (((Below.refl _ w).alloc (Nat.le_refl _) _).trans (hb1.mono (by simp))))).mono ?_; rintro e w2 ⟨rfl, hb2⟩))
          go_ret
          exact ⟨by rw [hr.out]; rfl, (((Below.refl _ w).alloc (Nat.le_refl _) _).trans (hb1.mono (by simp))).trans (hb2.mono (by have := hb1.size; simp only [World.size_alloc] at this ⊢; omega))⟩
    · have j4 : (0 : Int) < (n : Int) := by omega
      have h6 : tx.size = 0 := by omega
      have he := emptyB tx h6
      have j5 : ¬ (4000 : Int) < tx.size := by omega
      have HR6 := Lib.hid (HR5.out.trans (if_neg (by omega)))
      clear HR5 hn0
      cases o with
      | true =>
        have hr := Lib.hid (HR6.out.trans (if_pos (.inl ⟨rfl, h6⟩)))
        clear HR6
        go_enter Tryd.func146, Tryd.ntmps146
        go_wp2_with (go_at_call 181; refine (cN.out _).mono ?_; rintro e w1 ⟨rfl, hb1⟩; simp only [World.size_alloc] at hb1; obtain ⟨d0, d1, d2, d3, d4⟩ := box5 p nm tx _ _ hb1)
        go_ret
        exact ⟨by rw [hr.out]; rfl, ((Below.refl _ w).alloc (Nat.le_refl _) _).trans (hb1.mono (by simp))⟩
      | false =>
        have cS := Lib.hid (fun w h => shown_any tx (by omega) w h)
        cases hsh : shownB tx with
        | false =>
          have hr := Lib.hid (HR6.out.trans (if_pos (.inr ⟨rfl, hsh⟩)))
          rw [hsh] at cS
          clear HR6 hsh
          go_enter Tryd.func146, Tryd.ntmps146
          go_wp2_with (first | (go_at_call 181; refine (cN.out _).mono ?_; rintro e w1 ⟨rfl, hb1⟩; simp only [World.size_alloc] at hb1; obtain ⟨d0, d1, d2, d3, d4⟩ := box5 p nm tx _ _ hb1) | (go_at_call 182; refine (cS.out _ (HTW.out _ (((Below.refl _ w).alloc (Nat.le_refl _) _).trans (hb1.mono (by simp))))).mono ?_; rintro e w2 ⟨rfl, hb2⟩))
          go_ret
          exact ⟨by rw [hr.out]; rfl, (((Below.refl _ w).alloc (Nat.le_refl _) _).trans (hb1.mono (by simp))).trans (hb2.mono (by have := hb1.size; simp only [World.size_alloc] at this ⊢; omega))⟩
        | true =>
          have hr := Lib.hid (HR6.out.trans (if_neg (by rw [hsh]; simp)))
          rw [hsh] at cS
          clear HR6 hsh
          go_enter Tryd.func146, Tryd.ntmps146
          go_wp2_with (first | (go_at_call 181; refine (cN.out _).mono ?_; rintro e w1 ⟨rfl, hb1⟩; simp only [World.size_alloc] at hb1; obtain ⟨d0, d1, d2, d3, d4⟩ := box5 p nm tx _ _ hb1) | (go_at_call 182; refine (cS.out _ (HTW.out _ (((Below.refl _ w).alloc (Nat.le_refl _) _).trans (hb1.mono (by simp))))).mono ?_; rintro e w2 ⟨rfl, hb2⟩))
          go_ret
          exact ⟨by rw [hr.out]; rfl, (((Below.refl _ w).alloc (Nat.le_refl _) _).trans (hb1.mono (by simp))).trans (hb2.mono (by have := hb1.size; simp only [World.size_alloc] at this ⊢; omega))⟩
end Go.Proofs.YtgechifbbhipaaaDoor
