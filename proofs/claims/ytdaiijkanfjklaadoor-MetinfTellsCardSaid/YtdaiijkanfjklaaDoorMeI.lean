/- metinf: ContainsFunc over texts and numbers. No condition but how many. -/
import Derived.Test.YtdaiijkanfjklaaDoorTrY
namespace Go.Proofs.YtdaiijkanfjklaaDoor
open Go.RowKit

set_option maxRecDepth 100000 in
set_option maxHeartbeats 4000000 in
theorem idx32_any (q : ByteArray → Bool) (l : List ByteArray) (b cap : Nat) (hs : l.length ≤ 1000000) (w : World) (hS : ∀ i (h : i < l.length), w.cell? ⟨b, i, none⟩ = some (.string l[i]))
    (cF : ∀ i (h : i < l.length) (X : World), Below w.heap.size w X → Calls Tryd.prog 32 #[.string l[i]] X fun r w' => r = .returned (.bool (q l[i])) ∧ Below X.heap.size X w') :
    Calls Tryd.prog 50 #[.slice (some ⟨b, 0, none⟩) l.length cap, .func (.func 32) #[] #[]] w fun e w' => (∃ r : Int, e = .returned (.int .i64 r) ∧ decide (0 ≤ r) = l.any q) ∧ Below w.heap.size w w' := by
  have hY : Hid (∀ i (h : i < l.length), q l[i] = true → l.any q = true) := fun i h hp => List.any_eq_true.2 ⟨l[i], List.getElem_mem h, hp⟩
  have hN : Hid ((∀ i (h : i < l.length), q l[i] = false) → l.any q = false) := fun h => by
    rw [List.any_eq_false]
    intro x hx
    obtain ⟨i, hi, rfl⟩ := List.getElem_of_mem hx
    simp only [Bool.not_eq_true]
    exact h i hi
  generalize l.any q = v at *
  have HS := Lib.hid hS
  have HF := Lib.hid cF
  clear hS cF
  generalize hnn : l.length = n at hs ⊢
  have HNN := Lib.hid hnn
  clear hnn
  have hnl : n ≤ 140737488355328 := Nat.le_trans hs (by decide)
  go_enter Tryd.func50, Tryd.ntmps50
  go_wp2_with fail
  go_loopw [5, 8] (fun _ iv wr => ∃ i : Nat, i ≤ n ∧ iv = .int .i64 (i : Int) ∧ Hid (∀ j (h : j < l.length), j < i → q l[j] = false) ∧ Hid (Below w.heap.size w wr)) (fun _ iv _ => n - (intOf iv).toNat)
  case atStart => exact ⟨0, Nat.zero_le _, rfl, fun _ _ h => absurd h (Nat.not_lt_zero _), Below.refl _ _⟩
  case round =>
    obtain ⟨i, hi, rfl, HI, HB⟩ := hrel
    by_cases hlt : i < n
    · have hil : i < l.length := by rw [HNN.out]; exact hlt
      have hc0 := HS.out i hil
      have hc : wr.cell? ⟨b, i, none⟩ = some (.string l[i]) := (HB.out.cell (p := ⟨b, i, none⟩) (World.block_lt_of_cell? _ _ hc0)).trans hc0
      have c1 := Lib.hid (HF.out i hil wr HB.out)
      have k0 : (0 : Int) ≤ (i : Int) := by omega
      have k1 : (i : Int) < (n : Int) := by omega
      have k2 : decide (i < n) = true := by simp; omega
      have hst : Hid (q l[i] = false → ∀ j (h : j < l.length), j < i + 1 → q l[j] = false) := fun hp j h hj => by
        by_cases e : j = i
        · subst e; exact hp
        · exact HI.out j h (by omega)
      have hyi := Lib.hid (hY.out i hil)
      clear hc0 HI
      generalize q l[i] = t at *
      generalize l[i] = x at *
      cases t with
      | true =>
        have HV := Lib.hid (hyi.out rfl)
        clear hst hyi
        go_wp2_with (go_at_call 32; (with_reducible refine c1.out.mono ?_); rintro e w1 ⟨rfl, hb1⟩)
        go_ret
        exact ⟨⟨_, rfl, by rw [HV.out]; simp⟩, HB.out.trans (hb1.mono HB.out.size)⟩
      | false =>
        have HI2 := Lib.hid (hst.out rfl)
        have HW1 : Hid (wrap64 ((i : Int) + 1) = (i : Int) + 1) := by unfold Hid wrap64; omega
        clear hst hyi
        go_wp2_with (go_at_call 32; (with_reducible refine c1.out.mono ?_); rintro e w1 ⟨rfl, hb1⟩)
        go_roundw
        case rel => exact ⟨i + 1, by omega, by go_num, HI2, HB.out.trans (hb1.mono HB.out.size)⟩
        case measure => simp [intOf]; omega
    · have k1 : ¬ (i : Int) < (n : Int) := by omega
      have k2 : decide (i < n) = false := by simp; omega
      have HV := Lib.hid (hN.out (fun j h => HI.out j h (by rw [HNN.out] at h; omega)))
      go_wp2_with fail
      go_ret
      exact ⟨⟨_, rfl, by rw [HV.out]; decide⟩, HB.out⟩
theorem con32_any (q : ByteArray → Bool) (l : List ByteArray) (b cap : Nat) (hs : l.length ≤ 1000000) (w : World) (hS : ∀ i (h : i < l.length), w.cell? ⟨b, i, none⟩ = some (.string l[i]))
    (cF : ∀ i (h : i < l.length) (X : World), Below w.heap.size w X → Calls Tryd.prog 32 #[.string l[i]] X fun r w' => r = .returned (.bool (q l[i])) ∧ Below X.heap.size X w') :
    Calls Tryd.prog 30 #[.slice (some ⟨b, 0, none⟩) l.length cap, .func (.func 32) #[] #[]] w fun e w' => e = .returned (.bool (l.any q)) ∧ Below w.heap.size w w' := by
  have c1 := Lib.hid (idx32_any q l b cap hs w hS cF)
  generalize l.any q = v at *
  clear hS cF
  generalize l.length = n at *
  go_enter Tryd.func30, Tryd.ntmps30
  go_wp2_with (go_at_call 50; refine c1.out.mono ?_; rintro e w1 ⟨⟨r, rfl, hr⟩, hb1⟩)
  go_ret
  exact ⟨by rw [← hr]; rfl, hb1⟩

set_option maxRecDepth 100000 in
set_option maxHeartbeats 4000000 in
theorem idx33_any (q : ByteArray → Bool) (l : List ByteArray) (b cap : Nat) (hs : l.length ≤ 1000000) (w : World) (hS : ∀ i (h : i < l.length), w.cell? ⟨b, i, none⟩ = some (.string l[i]))
    (cF : ∀ i (h : i < l.length) (X : World), Below w.heap.size w X → Calls Tryd.prog 33 #[.string l[i]] X fun r w' => r = .returned (.bool (q l[i])) ∧ Below X.heap.size X w') :
    Calls Tryd.prog 50 #[.slice (some ⟨b, 0, none⟩) l.length cap, .func (.func 33) #[] #[]] w fun e w' => (∃ r : Int, e = .returned (.int .i64 r) ∧ decide (0 ≤ r) = l.any q) ∧ Below w.heap.size w w' := by
  have hY : Hid (∀ i (h : i < l.length), q l[i] = true → l.any q = true) := fun i h hp => List.any_eq_true.2 ⟨l[i], List.getElem_mem h, hp⟩
  have hN : Hid ((∀ i (h : i < l.length), q l[i] = false) → l.any q = false) := fun h => by
    rw [List.any_eq_false]
    intro x hx
    obtain ⟨i, hi, rfl⟩ := List.getElem_of_mem hx
    simp only [Bool.not_eq_true]
    exact h i hi
  generalize l.any q = v at *
  have HS := Lib.hid hS
  have HF := Lib.hid cF
  clear hS cF
  generalize hnn : l.length = n at hs ⊢
  have HNN := Lib.hid hnn
  clear hnn
  have hnl : n ≤ 140737488355328 := Nat.le_trans hs (by decide)
  go_enter Tryd.func50, Tryd.ntmps50
  go_wp2_with fail
  go_loopw [5, 8] (fun _ iv wr => ∃ i : Nat, i ≤ n ∧ iv = .int .i64 (i : Int) ∧ Hid (∀ j (h : j < l.length), j < i → q l[j] = false) ∧ Hid (Below w.heap.size w wr)) (fun _ iv _ => n - (intOf iv).toNat)
  case atStart => exact ⟨0, Nat.zero_le _, rfl, fun _ _ h => absurd h (Nat.not_lt_zero _), Below.refl _ _⟩
  case round =>
    obtain ⟨i, hi, rfl, HI, HB⟩ := hrel
    by_cases hlt : i < n
    · have hil : i < l.length := by rw [HNN.out]; exact hlt
      have hc0 := HS.out i hil
      have hc : wr.cell? ⟨b, i, none⟩ = some (.string l[i]) := (HB.out.cell (p := ⟨b, i, none⟩) (World.block_lt_of_cell? _ _ hc0)).trans hc0
      have c1 := Lib.hid (HF.out i hil wr HB.out)
      have k0 : (0 : Int) ≤ (i : Int) := by omega
      have k1 : (i : Int) < (n : Int) := by omega
      have k2 : decide (i < n) = true := by simp; omega
      have hst : Hid (q l[i] = false → ∀ j (h : j < l.length), j < i + 1 → q l[j] = false) := fun hp j h hj => by
        by_cases e : j = i
        · subst e; exact hp
        · exact HI.out j h (by omega)
      have hyi := Lib.hid (hY.out i hil)
      clear hc0 HI
      generalize q l[i] = t at *
      generalize l[i] = x at *
      cases t with
      | true =>
        have HV := Lib.hid (hyi.out rfl)
        clear hst hyi
        go_wp2_with (go_at_call 33; (with_reducible refine c1.out.mono ?_); rintro e w1 ⟨rfl, hb1⟩)
        go_ret
        exact ⟨⟨_, rfl, by rw [HV.out]; simp⟩, HB.out.trans (hb1.mono HB.out.size)⟩
      | false =>
        have HI2 := Lib.hid (hst.out rfl)
        have HW1 : Hid (wrap64 ((i : Int) + 1) = (i : Int) + 1) := by unfold Hid wrap64; omega
        clear hst hyi
        go_wp2_with (go_at_call 33; (with_reducible refine c1.out.mono ?_); rintro e w1 ⟨rfl, hb1⟩)
        go_roundw
        case rel => exact ⟨i + 1, by omega, by go_num, HI2, HB.out.trans (hb1.mono HB.out.size)⟩
        case measure => simp [intOf]; omega
    · have k1 : ¬ (i : Int) < (n : Int) := by omega
      have k2 : decide (i < n) = false := by simp; omega
      have HV := Lib.hid (hN.out (fun j h => HI.out j h (by rw [HNN.out] at h; omega)))
      go_wp2_with fail
      go_ret
      exact ⟨⟨_, rfl, by rw [HV.out]; decide⟩, HB.out⟩
theorem con33_any (q : ByteArray → Bool) (l : List ByteArray) (b cap : Nat) (hs : l.length ≤ 1000000) (w : World) (hS : ∀ i (h : i < l.length), w.cell? ⟨b, i, none⟩ = some (.string l[i]))
    (cF : ∀ i (h : i < l.length) (X : World), Below w.heap.size w X → Calls Tryd.prog 33 #[.string l[i]] X fun r w' => r = .returned (.bool (q l[i])) ∧ Below X.heap.size X w') :
    Calls Tryd.prog 30 #[.slice (some ⟨b, 0, none⟩) l.length cap, .func (.func 33) #[] #[]] w fun e w' => e = .returned (.bool (l.any q)) ∧ Below w.heap.size w w' := by
  have c1 := Lib.hid (idx33_any q l b cap hs w hS cF)
  generalize l.any q = v at *
  clear hS cF
  generalize l.length = n at *
  go_enter Tryd.func30, Tryd.ntmps30
  go_wp2_with (go_at_call 50; refine c1.out.mono ?_; rintro e w1 ⟨⟨r, rfl, hr⟩, hb1⟩)
  go_ret
  exact ⟨by rw [← hr]; rfl, hb1⟩

set_option maxRecDepth 100000 in
set_option maxHeartbeats 4000000 in
theorem idx35_any (q : Int → Bool) (l : List Int) (b cap : Nat) (hs : l.length ≤ 1000000) (w : World) (hS : ∀ i (h : i < l.length), w.cell? ⟨b, i, none⟩ = some (.int .i64 l[i]))
    (cF : ∀ i (h : i < l.length) (X : World), Below w.heap.size w X → Calls Tryd.prog 35 #[.int .i64 l[i]] X fun r w' => r = .returned (.bool (q l[i])) ∧ Below X.heap.size X w') :
    Calls Tryd.prog 51 #[.slice (some ⟨b, 0, none⟩) l.length cap, .func (.func 35) #[] #[]] w fun e w' => (∃ r : Int, e = .returned (.int .i64 r) ∧ decide (0 ≤ r) = l.any q) ∧ Below w.heap.size w w' := by
  have hY : Hid (∀ i (h : i < l.length), q l[i] = true → l.any q = true) := fun i h hp => List.any_eq_true.2 ⟨l[i], List.getElem_mem h, hp⟩
  have hN : Hid ((∀ i (h : i < l.length), q l[i] = false) → l.any q = false) := fun h => by
    rw [List.any_eq_false]
    intro x hx
    obtain ⟨i, hi, rfl⟩ := List.getElem_of_mem hx
    simp only [Bool.not_eq_true]
    exact h i hi
  generalize l.any q = v at *
  have HS := Lib.hid hS
  have HF := Lib.hid cF
  clear hS cF
  generalize hnn : l.length = n at hs ⊢
  have HNN := Lib.hid hnn
  clear hnn
  have hnl : n ≤ 140737488355328 := Nat.le_trans hs (by decide)
  go_enter Tryd.func51, Tryd.ntmps51
  go_wp2_with fail
  go_loopw [5, 8] (fun _ iv wr => ∃ i : Nat, i ≤ n ∧ iv = .int .i64 (i : Int) ∧ Hid (∀ j (h : j < l.length), j < i → q l[j] = false) ∧ Hid (Below w.heap.size w wr)) (fun _ iv _ => n - (intOf iv).toNat)
  case atStart => exact ⟨0, Nat.zero_le _, rfl, fun _ _ h => absurd h (Nat.not_lt_zero _), Below.refl _ _⟩
  case round =>
    obtain ⟨i, hi, rfl, HI, HB⟩ := hrel
    by_cases hlt : i < n
    · have hil : i < l.length := by rw [HNN.out]; exact hlt
      have hc0 := HS.out i hil
      have hc : wr.cell? ⟨b, i, none⟩ = some (.int .i64 l[i]) := (HB.out.cell (p := ⟨b, i, none⟩) (World.block_lt_of_cell? _ _ hc0)).trans hc0
      have c1 := Lib.hid (HF.out i hil wr HB.out)
      have k0 : (0 : Int) ≤ (i : Int) := by omega
      have k1 : (i : Int) < (n : Int) := by omega
      have k2 : decide (i < n) = true := by simp; omega
      have hst : Hid (q l[i] = false → ∀ j (h : j < l.length), j < i + 1 → q l[j] = false) := fun hp j h hj => by
        by_cases e : j = i
        · subst e; exact hp
        · exact HI.out j h (by omega)
      have hyi := Lib.hid (hY.out i hil)
      clear hc0 HI
      generalize q l[i] = t at *
      generalize l[i] = x at *
      cases t with
      | true =>
        have HV := Lib.hid (hyi.out rfl)
        clear hst hyi
        go_wp2_with (go_at_call 35; (with_reducible refine c1.out.mono ?_); rintro e w1 ⟨rfl, hb1⟩)
        go_ret
        exact ⟨⟨_, rfl, by rw [HV.out]; simp⟩, HB.out.trans (hb1.mono HB.out.size)⟩
      | false =>
        have HI2 := Lib.hid (hst.out rfl)
        have HW1 : Hid (wrap64 ((i : Int) + 1) = (i : Int) + 1) := by unfold Hid wrap64; omega
        clear hst hyi
        go_wp2_with (go_at_call 35; (with_reducible refine c1.out.mono ?_); rintro e w1 ⟨rfl, hb1⟩)
        go_roundw
        case rel => exact ⟨i + 1, by omega, by go_num, HI2, HB.out.trans (hb1.mono HB.out.size)⟩
        case measure => simp [intOf]; omega
    · have k1 : ¬ (i : Int) < (n : Int) := by omega
      have k2 : decide (i < n) = false := by simp; omega
      have HV := Lib.hid (hN.out (fun j h => HI.out j h (by rw [HNN.out] at h; omega)))
      go_wp2_with fail
      go_ret
      exact ⟨⟨_, rfl, by rw [HV.out]; decide⟩, HB.out⟩
theorem con35_any (q : Int → Bool) (l : List Int) (b cap : Nat) (hs : l.length ≤ 1000000) (w : World) (hS : ∀ i (h : i < l.length), w.cell? ⟨b, i, none⟩ = some (.int .i64 l[i]))
    (cF : ∀ i (h : i < l.length) (X : World), Below w.heap.size w X → Calls Tryd.prog 35 #[.int .i64 l[i]] X fun r w' => r = .returned (.bool (q l[i])) ∧ Below X.heap.size X w') :
    Calls Tryd.prog 34 #[.slice (some ⟨b, 0, none⟩) l.length cap, .func (.func 35) #[] #[]] w fun e w' => e = .returned (.bool (l.any q)) ∧ Below w.heap.size w w' := by
  have c1 := Lib.hid (idx35_any q l b cap hs w hS cF)
  generalize l.any q = v at *
  clear hS cF
  generalize l.length = n at *
  go_enter Tryd.func34, Tryd.ntmps34
  go_wp2_with (go_at_call 51; refine c1.out.mono ?_; rintro e w1 ⟨⟨r, rfl, hr⟩, hb1⟩)
  go_ret
  exact ⟨by rw [← hr]; rfl, hb1⟩

end Go.Proofs.YtdaiijkanfjklaaDoor
