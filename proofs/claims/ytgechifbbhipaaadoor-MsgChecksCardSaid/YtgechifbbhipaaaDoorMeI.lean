/- metinf: ContainsFunc over texts and numbers. No condition but how many. -/
import Derived.Test.YtgechifbbhipaaaDoorTrX
import Derived.Test.YtgechifbbhipaaaDoorTrN
import Derived.Test.YtgechifbbhipaaaDoorTrZ
set_option linter.unusedVariables false
set_option linter.unusedSimpArgs false
namespace Go.Proofs.YtgechifbbhipaaaDoor
open Go.RowKit

set_option maxRecDepth 100000 in
set_option maxHeartbeats 4000000 in
theorem idx32_any (q : ByteArray → Bool) (l : List ByteArray) (b cap : Nat) (hs : l.length ≤ 1000000) (w : World) (hS : ∀ i (h : i < l.length), w.cell? ⟨b, i, none⟩ = some (.string l[i]))
    (cF : ∀ i (h : i < l.length) (X : World), Below w.heap.size w X → Calls Tryd.prog 112 #[.string l[i]] X fun r w' => r = .returned (.bool (q l[i])) ∧ Below X.heap.size X w') :
    Calls Tryd.prog 155 #[.slice (some ⟨b, 0, none⟩) l.length cap, .func (.func 112) #[] #[]] w fun e w' => (∃ r : Int, e = .returned (.int .i64 r) ∧ decide (0 ≤ r) = l.any q) ∧ Below w.heap.size w w' := by
  have hY : Hid (∀ i (h : i < l.length), q l[i] = true → l.any q = true) := fun i h hp => List.any_eq_true.2 ⟨l[i], List.getElem_mem h, hp⟩
  have hN : Hid ((∀ i (h : i < l.length), q l[i] = false) → l.any q = false) := fun h => by
    rw [List.any_eq_false]
    intro x hx
    obtain ⟨i, hi, rfl⟩ := List.getElem_of_mem hx
    simp only [Bool.not_eq_true]
    exact h i hi
  generalize l.any q = v at *
  have HS := Lib.hid hS
  have HF := Lib.hid cF
  clear hS cF
  generalize hnn : l.length = n at hs ⊢
  have HNN := Lib.hid hnn
  clear hnn
  have hnl : n ≤ 140737488355328 := Nat.le_trans hs (by decide)
  go_enter Tryd.func155, Tryd.ntmps155
  go_wp2_with fail
  go_loopw [5, 8] (fun _ iv wr => ∃ i : Nat, i ≤ n ∧ iv = .int .i64 (i : Int) ∧ Hid (∀ j (h : j < l.length), j < i → q l[j] = false) ∧ Hid (Below w.heap.size w wr)) (fun _ iv _ => n - (intOf iv).toNat)
  case atStart => exact ⟨0, Nat.zero_le _, rfl, fun _ _ h => absurd h (Nat.not_lt_zero _), Below.refl _ _⟩
  case round =>
    obtain ⟨i, hi, rfl, HI, HB⟩ := hrel
    by_cases hlt : i < n
    · have hil : i < l.length := by rw [HNN.out]; exact hlt
      have hc0 := HS.out i hil
      have hc : wr.cell? ⟨b, i, none⟩ = some (.string l[i]) := (HB.out.cell (p := ⟨b, i, none⟩) (World.block_lt_of_cell? _ _ hc0)).trans hc0
      have c1 := Lib.hid (HF.out i hil wr HB.out)
      have k0 : (0 : Int) ≤ (i : Int) := by omega
      have k1 : (i : Int) < (n : Int) := by omega
      have k2 : decide (i < n) = true := by simp; omega
      have hst : Hid (q l[i] = false → ∀ j (h : j < l.length), j < i + 1 → q l[j] = false) := fun hp j h hj => by
        by_cases e : j = i
        · subst e; exact hp
        · exact HI.out j h (by omega)
      have hyi := Lib.hid (hY.out i hil)
      clear hc0 HI
      generalize q l[i] = t at *
      generalize l[i] = x at *
      cases t with
      | true =>
        have HV := Lib.hid (hyi.out rfl)
        clear hst hyi
        go_wp2_with (go_at_call 112; (with_reducible refine c1.out.mono ?_); rintro e w1 ⟨rfl, hb1⟩)
        go_ret
        exact ⟨⟨_, rfl, by rw [HV.out]; simp⟩, HB.out.trans (hb1.mono HB.out.size)⟩
      | false =>
        have HI2 := Lib.hid (hst.out rfl)
        have HW1 : Hid (wrap64 ((i : Int) + 1) = (i : Int) + 1) := by unfold Hid wrap64; omega
        clear hst hyi
        go_wp2_with (go_at_call 112; (with_reducible refine c1.out.mono ?_); rintro e w1 ⟨rfl, hb1⟩)
        go_roundw
        case rel => exact ⟨i + 1, by omega, by go_num, HI2, HB.out.trans (hb1.mono HB.out.size)⟩
        case measure => simp [intOf]; omega
    · have k1 : ¬ (i : Int) < (n : Int) := by omega
      have k2 : decide (i < n) = false := by simp; omega
      have HV := Lib.hid (hN.out (fun j h => HI.out j h (by rw [HNN.out] at h; omega)))
      go_wp2_with fail
      go_ret
      exact ⟨⟨_, rfl, by rw [HV.out]; decide⟩, HB.out⟩
theorem con32_any (q : ByteArray → Bool) (l : List ByteArray) (b cap : Nat) (hs : l.length ≤ 1000000) (w : World) (hS : ∀ i (h : i < l.length), w.cell? ⟨b, i, none⟩ = some (.string l[i]))
    (cF : ∀ i (h : i < l.length) (X : World), Below w.heap.size w X → Calls Tryd.prog 112 #[.string l[i]] X fun r w' => r = .returned (.bool (q l[i])) ∧ Below X.heap.size X w') :
    Calls Tryd.prog 110 #[.slice (some ⟨b, 0, none⟩) l.length cap, .func (.func 112) #[] #[]] w fun e w' => e = .returned (.bool (l.any q)) ∧ Below w.heap.size w w' := by
  have c1 := Lib.hid (idx32_any q l b cap hs w hS cF)
  generalize l.any q = v at *
  clear hS cF
  generalize l.length = n at *
  go_enter Tryd.func110, Tryd.ntmps110
  go_wp2_with (go_at_call 155; refine c1.out.mono ?_; rintro e w1 ⟨⟨r, rfl, hr⟩, hb1⟩)
  go_ret
  exact ⟨by rw [← hr]; rfl, hb1⟩

set_option maxRecDepth 100000 in
set_option maxHeartbeats 4000000 in
theorem idx33_any (q : ByteArray → Bool) (l : List ByteArray) (b cap : Nat) (hs : l.length ≤ 1000000) (w : World) (hS : ∀ i (h : i < l.length), w.cell? ⟨b, i, none⟩ = some (.string l[i]))
    (cF : ∀ i (h : i < l.length) (X : World), Below w.heap.size w X → Calls Tryd.prog 113 #[.string l[i]] X fun r w' => r = .returned (.bool (q l[i])) ∧ Below X.heap.size X w') :
    Calls Tryd.prog 155 #[.slice (some ⟨b, 0, none⟩) l.length cap, .func (.func 113) #[] #[]] w fun e w' => (∃ r : Int, e = .returned (.int .i64 r) ∧ decide (0 ≤ r) = l.any q) ∧ Below w.heap.size w w' := by
  have hY : Hid (∀ i (h : i < l.length), q l[i] = true → l.any q = true) := fun i h hp => List.any_eq_true.2 ⟨l[i], List.getElem_mem h, hp⟩
  have hN : Hid ((∀ i (h : i < l.length), q l[i] = false) → l.any q = false) := fun h => by
    rw [List.any_eq_false]
    intro x hx
    obtain ⟨i, hi, rfl⟩ := List.getElem_of_mem hx
    simp only [Bool.not_eq_true]
    exact h i hi
  generalize l.any q = v at *
  have HS := Lib.hid hS
  have HF := Lib.hid cF
  clear hS cF
  generalize hnn : l.length = n at hs ⊢
  have HNN := Lib.hid hnn
  clear hnn
  have hnl : n ≤ 140737488355328 := Nat.le_trans hs (by decide)
  go_enter Tryd.func155, Tryd.ntmps155
  go_wp2_with fail
  go_loopw [5, 8] (fun _ iv wr => ∃ i : Nat, i ≤ n ∧ iv = .int .i64 (i : Int) ∧ Hid (∀ j (h : j < l.length), j < i → q l[j] = false) ∧ Hid (Below w.heap.size w wr)) (fun _ iv _ => n - (intOf iv).toNat)
  case atStart => exact ⟨0, Nat.zero_le _, rfl, fun _ _ h => absurd h (Nat.not_lt_zero _), Below.refl _ _⟩
  case round =>
    obtain ⟨i, hi, rfl, HI, HB⟩ := hrel
    by_cases hlt : i < n
    · have hil : i < l.length := by rw [HNN.out]; exact hlt
      have hc0 := HS.out i hil
      have hc : wr.cell? ⟨b, i, none⟩ = some (.string l[i]) := (HB.out.cell (p := ⟨b, i, none⟩) (World.block_lt_of_cell? _ _ hc0)).trans hc0
      have c1 := Lib.hid (HF.out i hil wr HB.out)
      have k0 : (0 : Int) ≤ (i : Int) := by omega
      have k1 : (i : Int) < (n : Int) := by omega
      have k2 : decide (i < n) = true := by simp; omega
      have hst : Hid (q l[i] = false → ∀ j (h : j < l.length), j < i + 1 → q l[j] = false) := fun hp j h hj => by
        by_cases e : j = i
        · subst e; exact hp
        · exact HI.out j h (by omega)
      have hyi := Lib.hid (hY.out i hil)
      clear hc0 HI
      generalize q l[i] = t at *
      generalize l[i] = x at *
      cases t with
      | true =>
        have HV := Lib.hid (hyi.out rfl)
        clear hst hyi
        go_wp2_with (go_at_call 113; (with_reducible refine c1.out.mono ?_); rintro e w1 ⟨rfl, hb1⟩)
        go_ret
        exact ⟨⟨_, rfl, by rw [HV.out]; simp⟩, HB.out.trans (hb1.mono HB.out.size)⟩
      | false =>
        have HI2 := Lib.hid (hst.out rfl)
        have HW1 : Hid (wrap64 ((i : Int) + 1) = (i : Int) + 1) := by unfold Hid wrap64; omega
        clear hst hyi
        go_wp2_with (go_at_call 113; (with_reducible refine c1.out.mono ?_); rintro e w1 ⟨rfl, hb1⟩)
        go_roundw
        case rel => exact ⟨i + 1, by omega, by go_num, HI2, HB.out.trans (hb1.mono HB.out.size)⟩
        case measure => simp [intOf]; omega
    · have k1 : ¬ (i : Int) < (n : Int) := by omega
      have k2 : decide (i < n) = false := by simp; omega
      have HV := Lib.hid (hN.out (fun j h => HI.out j h (by rw [HNN.out] at h; omega)))
      go_wp2_with fail
      go_ret
      exact ⟨⟨_, rfl, by rw [HV.out]; decide⟩, HB.out⟩
theorem con33_any (q : ByteArray → Bool) (l : List ByteArray) (b cap : Nat) (hs : l.length ≤ 1000000) (w : World) (hS : ∀ i (h : i < l.length), w.cell? ⟨b, i, none⟩ = some (.string l[i]))
    (cF : ∀ i (h : i < l.length) (X : World), Below w.heap.size w X → Calls Tryd.prog 113 #[.string l[i]] X fun r w' => r = .returned (.bool (q l[i])) ∧ Below X.heap.size X w') :
    Calls Tryd.prog 110 #[.slice (some ⟨b, 0, none⟩) l.length cap, .func (.func 113) #[] #[]] w fun e w' => e = .returned (.bool (l.any q)) ∧ Below w.heap.size w w' := by
  have c1 := Lib.hid (idx33_any q l b cap hs w hS cF)
  generalize l.any q = v at *
  clear hS cF
  generalize l.length = n at *
  go_enter Tryd.func110, Tryd.ntmps110
  go_wp2_with (go_at_call 155; refine c1.out.mono ?_; rintro e w1 ⟨⟨r, rfl, hr⟩, hb1⟩)
  go_ret
  exact ⟨by rw [← hr]; rfl, hb1⟩

set_option maxRecDepth 100000 in
set_option maxHeartbeats 4000000 in
theorem idx35_any (q : Int → Bool) (l : List Int) (b cap : Nat) (hs : l.length ≤ 1000000) (w : World) (hS : ∀ i (h : i < l.length), w.cell? ⟨b, i, none⟩ = some (.int .i64 l[i]))
    (cF : ∀ i (h : i < l.length) (X : World), Below w.heap.size w X → Calls Tryd.prog 115 #[.int .i64 l[i]] X fun r w' => r = .returned (.bool (q l[i])) ∧ Below X.heap.size X w') :
    Calls Tryd.prog 156 #[.slice (some ⟨b, 0, none⟩) l.length cap, .func (.func 115) #[] #[]] w fun e w' => (∃ r : Int, e = .returned (.int .i64 r) ∧ decide (0 ≤ r) = l.any q) ∧ Below w.heap.size w w' := by
  have hY : Hid (∀ i (h : i < l.length), q l[i] = true → l.any q = true) := fun i h hp => List.any_eq_true.2 ⟨l[i], List.getElem_mem h, hp⟩
  have hN : Hid ((∀ i (h : i < l.length), q l[i] = false) → l.any q = false) := fun h => by
    rw [List.any_eq_false]
    intro x hx
    obtain ⟨i, hi, rfl⟩ := List.getElem_of_mem hx
    simp only [Bool.not_eq_true]
    exact h i hi
  generalize l.any q = v at *
  have HS := Lib.hid hS
  have HF := Lib.hid cF
  clear hS cF
  generalize hnn : l.length = n at hs ⊢
  have HNN := Lib.hid hnn
  clear hnn
  have hnl : n ≤ 140737488355328 := Nat.le_trans hs (by decide)
  go_enter Tryd.func156, Tryd.ntmps156
  go_wp2_with fail
  go_loopw [5, 8] (fun _ iv wr => ∃ i : Nat, i ≤ n ∧ iv = .int .i64 (i : Int) ∧ Hid (∀ j (h : j < l.length), j < i → q l[j] = false) ∧ Hid (Below w.heap.size w wr)) (fun _ iv _ => n - (intOf iv).toNat)
  case atStart => exact ⟨0, Nat.zero_le _, rfl, fun _ _ h => absurd h (Nat.not_lt_zero _), Below.refl _ _⟩
  case round =>
    obtain ⟨i, hi, rfl, HI, HB⟩ := hrel
    by_cases hlt : i < n
    · have hil : i < l.length := by rw [HNN.out]; exact hlt
      have hc0 := HS.out i hil
      have hc : wr.cell? ⟨b, i, none⟩ = some (.int .i64 l[i]) := (HB.out.cell (p := ⟨b, i, none⟩) (World.block_lt_of_cell? _ _ hc0)).trans hc0
      have c1 := Lib.hid (HF.out i hil wr HB.out)
      have k0 : (0 : Int) ≤ (i : Int) := by omega
      have k1 : (i : Int) < (n : Int) := by omega
      have k2 : decide (i < n) = true := by simp; omega
      have hst : Hid (q l[i] = false → ∀ j (h : j < l.length), j < i + 1 → q l[j] = false) := fun hp j h hj => by
        by_cases e : j = i
        · subst e; exact hp
        · exact HI.out j h (by omega)
      have hyi := Lib.hid (hY.out i hil)
      clear hc0 HI
      generalize q l[i] = t at *
      generalize l[i] = x at *
      cases t with
      | true =>
        have HV := Lib.hid (hyi.out rfl)
        clear hst hyi
        go_wp2_with (go_at_call 115; (with_reducible refine c1.out.mono ?_); rintro e w1 ⟨rfl, hb1⟩)
        go_ret
        exact ⟨⟨_, rfl, by rw [HV.out]; simp⟩, HB.out.trans (hb1.mono HB.out.size)⟩
      | false =>
        have HI2 := Lib.hid (hst.out rfl)
        have HW1 : Hid (wrap64 ((i : Int) + 1) = (i : Int) + 1) := by unfold Hid wrap64; omega
        clear hst hyi
        go_wp2_with (go_at_call 115; (with_reducible refine c1.out.mono ?_); rintro e w1 ⟨rfl, hb1⟩)
        go_roundw
        case rel => exact ⟨i + 1, by omega, by go_num, HI2, HB.out.trans (hb1.mono HB.out.size)⟩
        case measure => simp [intOf]; omega
    · have k1 : ¬ (i : Int) < (n : Int) := by omega
      have k2 : decide (i < n) = false := by simp; omega
      have HV := Lib.hid (hN.out (fun j h => HI.out j h (by rw [HNN.out] at h; omega)))
      go_wp2_with fail
      go_ret
      exact ⟨⟨_, rfl, by rw [HV.out]; decide⟩, HB.out⟩
theorem con35_any (q : Int → Bool) (l : List Int) (b cap : Nat) (hs : l.length ≤ 1000000) (w : World) (hS : ∀ i (h : i < l.length), w.cell? ⟨b, i, none⟩ = some (.int .i64 l[i]))
    (cF : ∀ i (h : i < l.length) (X : World), Below w.heap.size w X → Calls Tryd.prog 115 #[.int .i64 l[i]] X fun r w' => r = .returned (.bool (q l[i])) ∧ Below X.heap.size X w') :
    Calls Tryd.prog 114 #[.slice (some ⟨b, 0, none⟩) l.length cap, .func (.func 115) #[] #[]] w fun e w' => e = .returned (.bool (l.any q)) ∧ Below w.heap.size w w' := by
  have c1 := Lib.hid (idx35_any q l b cap hs w hS cF)
  generalize l.any q = v at *
  clear hS cF
  generalize l.length = n at *
  go_enter Tryd.func114, Tryd.ntmps114
  go_wp2_with (go_at_call 156; refine c1.out.mono ?_; rintro e w1 ⟨⟨r, rfl, hr⟩, hb1⟩)
  go_ret
  exact ⟨by rw [← hr]; rfl, hb1⟩

end Go.Proofs.YtgechifbbhipaaaDoor

/- metinf: what is wrong with what is said, both. No condition but sizes and the tables. -/
set_option linter.unusedVariables false
set_option linter.unusedSimpArgs false
namespace Go.Proofs.YtgechifbbhipaaaDoor
open Go.RowKit

def metaN : ByteArray := { data := #[77, 101, 116, 97] }
def longB (s : ByteArray) : Bool := decide ((200 : Int) < (s.size : Int))
def badL (s : ByteArray) : Bool := chkA (.mk 1 metaN s false []) != 0
def badC (n : Int) : Bool := decide (n < 0) || decide (268435456 < n)
/-- what is wrong with a Meta -/
def chkM (fo ty : ByteArray) (sz ve : Int) (la ne no : ByteArray) (mm mo : Int) : Int :=
  if [fo, ty, no, la, ne].any longB = true then 8 else if [fo, ty, no, la, ne].any badL = true then 3 else if [sz, ve, mm, mo].any badC = true then 2 else if la.size ≠ 0 ∧ ne.size = 0 then 7 else 0

theorem check1_any (s : ByteArray) (w : World) : Calls Tryd.prog 112 #[.string s] w fun r w' => r = .returned (.bool (longB s)) ∧ Below w.heap.size w w' := by
  unfold longB
  go_enter Tryd.func112, Tryd.ntmps112
  go_wp2
  go_ret
  exact ⟨rfl, Below.refl _ _⟩
theorem check2_any (s : ByteArray) (hs : s.size ≤ 1000000) (w : World) (hT : Lib.Utf8Tabs 2 3 w) : Calls Tryd.prog 113 #[.string s] w fun r w' => r = .returned (.bool (badL s)) ∧ Below w.heap.size w w' := by
  have hs2 : s.size ≤ reachT := by simp only [reachT]; omega
  have hL : ∀ X, AtT X X.heap.size (.mk 1 metaN s false []) (.agg #[.int .i64 1, .string metaN, .string s, .bool false, .slice none 0 0]) := fun X => by
    unfold AtT; exact ⟨by decide, hs2, by decide, none, 0, rfl, by unfold AtL; trivial, Nat.le_refl _⟩
  have c7 := Lib.hid (fun X (hX : Below w.heap.size w X) => checkA_any _ _ X (hL X) (Utf8Tabs_below hT hX))
  unfold badL
  clear hL hT hs hs2
  generalize chkA (.mk 1 metaN s false []) = q at *
  have c11 := Lib.hid (fun X => leaf_any 1 metaN s X)
  unfold metaN at *
  go_enter Tryd.func113, Tryd.ntmps113
  go_wp2_with (first | (go_at_call 63; refine (c11.out _).mono ?_; rintro r w1 ⟨rfl, hb1⟩) | (go_at_call 96; refine (c7.out _ hb1).mono ?_; rintro r w2 ⟨rfl, hb2⟩))
  go_ret
  exact ⟨rfl, hb1.trans (hb2.mono hb1.size)⟩
theorem check3_any (n : Int) (w : World) : Calls Tryd.prog 115 #[.int .i64 n] w fun r w' => r = .returned (.bool (badC n)) ∧ Below w.heap.size w w' := by
  unfold badC
  by_cases h : n < 0
  · have hd : decide (n < 0) = true := by simpa using h
    go_enter Tryd.func115, Tryd.ntmps115
    go_wp2
    go_ret
    exact ⟨by simp; exact .inl h, Below.refl _ _⟩
  · have hd : decide (n < 0) = false := by simpa using h
    go_enter Tryd.func115, Tryd.ntmps115
    go_wp2
    go_ret
    exact ⟨by simp, Below.refl _ _⟩

/-- a row of texts that was laid -/
theorem row_texts (w : World) (l : List ByteArray) (t : TypeId) : ∀ i (h : i < l.length), (w.alloc (.cells (l.map Value.string).toArray t)).cell? ⟨w.heap.size, i, none⟩ = some (.string l[i]) := fun i h => by
  rw [World.cell?_alloc_at _ _ _ _ rfl]; simp [h]
theorem row_ints (w : World) (l : List Int) (t : TypeId) : ∀ i (h : i < l.length), (w.alloc (.cells (l.map (Value.int .i64)).toArray t)).cell? ⟨w.heap.size, i, none⟩ = some (.int .i64 l[i]) := fun i h => by
  rw [World.cell?_alloc_at _ _ _ _ rfl]; simp [h]

theorem texts_any (fo ty : ByteArray) (sz ve : Int) (la ne no : ByteArray) (mm mo : Int) (w : World) : Calls Tryd.prog 111 #[.agg #[.string fo, .string ty, .int .i64 sz, .int .i64 ve, .string la, .string ne, .string no, .int .i64 mm, .int .i64 mo]] w fun r w' => r = .returned (.slice (some ⟨w.heap.size + 1, 0, none⟩) 5 5) ∧
    (∀ i (h : i < [fo, ty, no, la, ne].length), w'.cell? ⟨w.heap.size + 1, i, none⟩ = some (.string [fo, ty, no, la, ne][i])) ∧ Below w.heap.size w w' := by
  have HR := Lib.hid (row_texts (w.alloc (.cells #[.string fo, .string ty, .int .i64 sz, .int .i64 ve, .string la, .string ne, .string no, .int .i64 mm, .int .i64 mo] 23)) [fo, ty, no, la, ne] 9)
  have HB : Hid (Below w.heap.size w ((w.alloc (.cells #[.string fo, .string ty, .int .i64 sz, .int .i64 ve, .string la, .string ne, .string no, .int .i64 mm, .int .i64 mo] 23)).alloc (.cells #[.string fo, .string ty, .string no, .string la, .string ne] 9))) := ((Below.refl _ w).alloc (Nat.le_refl _) _).alloc (by simp) _
  go_enter Tryd.func111, Tryd.ntmps111
  go_wp2
  go_ret
  exact ⟨rfl, fun i h => by have := HR.out i h; rwa [World.size_alloc] at this, HB.out⟩

set_option maxRecDepth 100000 in
set_option maxHeartbeats 4000000 in
theorem metCheck_any (fo ty : ByteArray) (sz ve : Int) (la ne no : ByteArray) (mm mo : Int) (h1 : fo.size ≤ 1000000) (h2 : ty.size ≤ 1000000) (h3 : no.size ≤ 1000000) (h4 : la.size ≤ 1000000) (h5 : ne.size ≤ 1000000) (w : World) (hT : Lib.Utf8Tabs 2 3 w) :
    Calls Tryd.prog 42 #[.agg #[.string fo, .string ty, .int .i64 sz, .int .i64 ve, .string la, .string ne, .string no, .int .i64 mm, .int .i64 mo]] w fun r w' => r = .returned (.int .i64 (chkM fo ty sz ve la ne no mm mo)) ∧ Below w.heap.size w w' := by
  have hs : ∀ i (h : i < [fo, ty, no, la, ne].length), [fo, ty, no, la, ne][i].size ≤ 1000000 := fun i h => by
    match i, h with
    | 0, _ => exact h1
    | 1, _ => exact h2
    | 2, _ => exact h3
    | 3, _ => exact h4
    | 4, _ => exact h5
  have c31 := Lib.hid (fun X => texts_any fo ty sz ve la ne no mm mo X)
  have cA := Lib.hid (fun (b : Nat) X (hS : ∀ i (h : i < [fo, ty, no, la, ne].length), X.cell? ⟨b, i, none⟩ = some (.string [fo, ty, no, la, ne][i])) => con32_any longB [fo, ty, no, la, ne] b 5 (by simp) X hS (fun i h Y _ => check1_any _ Y))
  have cB := Lib.hid (fun (b : Nat) X (hX : Below w.heap.size w X) (hS : ∀ i (h : i < [fo, ty, no, la, ne].length), X.cell? ⟨b, i, none⟩ = some (.string [fo, ty, no, la, ne][i])) => con33_any badL [fo, ty, no, la, ne] b 5 (by simp) X hS (fun i h Y hY => check2_any _ (hs i h) Y (Utf8Tabs_below hT (hX.trans (hY.mono hX.size)))))
  have cC := Lib.hid (fun (b : Nat) X (hS : ∀ i (h : i < [sz, ve, mm, mo].length), X.cell? ⟨b, i, none⟩ = some (.int .i64 [sz, ve, mm, mo][i])) => con35_any badC [sz, ve, mm, mo] b 4 (by simp) X hS (fun i h Y _ => check3_any _ Y))
  have HR : Hid (∀ X : World, ∀ i (h : i < [sz, ve, mm, mo].length), (X.alloc (.cells #[.int .i64 sz, .int .i64 ve, .int .i64 mm, .int .i64 mo] 3)).cell? ⟨X.heap.size, i, none⟩ = some (.int .i64 [sz, ve, mm, mo][i])) := fun X => row_ints X [sz, ve, mm, mo] 3
  have hal : Below w.heap.size w (w.alloc (.cells #[.string fo, .string ty, .int .i64 sz, .int .i64 ve, .string la, .string ne, .string no, .int .i64 mm, .int .i64 mo] 23)) := (Below.refl _ w).alloc (Nat.le_refl _) _
  have HAl := Lib.hid hal
  have HBx : Hid (∀ X : World, Below (w.heap.size + 1) (w.alloc (.cells #[.string fo, .string ty, .int .i64 sz, .int .i64 ve, .string la, .string ne, .string no, .int .i64 mm, .int .i64 mo] 23)) X → ∀ j v, (#[.string fo, .string ty, .int .i64 sz, .int .i64 ve, .string la, .string ne, .string no, .int .i64 mm, .int .i64 mo] : Array Value)[j]? = some v → X.cell? ⟨w.heap.size, j, none⟩ = some v) := fun X hX j v hv => by
    rw [hX.cell (p := ⟨w.heap.size, j, none⟩) (Nat.lt_succ_self _), World.cell?_alloc_at _ _ _ _ rfl]; exact hv
  have HE : Hid (chkM fo ty sz ve la ne no mm mo = if [fo, ty, no, la, ne].any longB = true then 8 else if [fo, ty, no, la, ne].any badL = true then 3 else if [sz, ve, mm, mo].any badC = true then 2 else if la.size ≠ 0 ∧ ne.size = 0 then 7 else 0) := rfl
  clear hs h1 h2 h3 h4 h5 hT hal
  generalize chkM fo ty sz ve la ne no mm mo = R at *
  generalize [fo, ty, no, la, ne].any longB = t1 at *
  generalize [fo, ty, no, la, ne].any badL = t2 at *
  generalize [sz, ve, mm, mo].any badC = t3 at *
  have HSz : Hid ((w.alloc (.cells #[.string fo, .string ty, .int .i64 sz, .int .i64 ve, .string la, .string ne, .string no, .int .i64 mm, .int .i64 mo] 23)).heap.size = w.heap.size + 1) := World.size_alloc _ _
  obtain ⟨W, hW⟩ : ∃ W, w.alloc (.cells #[.string fo, .string ty, .int .i64 sz, .int .i64 ve, .string la, .string ne, .string no, .int .i64 mm, .int .i64 mo] 23) = W := ⟨_, rfl⟩
  rw [hW] at HAl HBx HSz
  have HW := Lib.hid hW
  clear hW
  have y0 := HBx.out _ (Below.refl _ _) 0 _ rfl; have y1 := HBx.out _ (Below.refl _ _) 1 _ rfl; have y2 := HBx.out _ (Below.refl _ _) 2 _ rfl; have y3 := HBx.out _ (Below.refl _ _) 3 _ rfl; have y4 := HBx.out _ (Below.refl _ _) 4 _ rfl; have y5 := HBx.out _ (Below.refl _ _) 5 _ rfl; have y6 := HBx.out _ (Below.refl _ _) 6 _ rfl; have y7 := HBx.out _ (Below.refl _ _) 7 _ rfl; have y8 := HBx.out _ (Below.refl _ _) 8 _ rfl
  cases t1 with
  | true =>
    go_enter Tryd.func42, Tryd.ntmps42
    go_wp2_with fail
    rw [HW.out]
    go_wp2_with (first | (go_at_call 111; (with_reducible refine (c31.out _).mono ?_); rintro r w1 ⟨rfl, hS1, hb1⟩; have HS1 := Lib.hid hS1; have B1 := Lib.hid (hb1.mono (Nat.le_of_eq HSz.out.symm)); clear hS1 hb1) | (go_at_call 110; refine (cA.out _ _ HS1.out).mono ?_; rintro r w2 ⟨rfl, hb2⟩; have B2 := Lib.hid (B1.out.trans (hb2.mono (by have := B1.out.size; rw [HSz.out] at this; exact this))); clear hb2; have y0 := HBx.out _ B2.out 0 _ rfl; have y1 := HBx.out _ B2.out 1 _ rfl; have y2 := HBx.out _ B2.out 2 _ rfl; have y3 := HBx.out _ B2.out 3 _ rfl; have y4 := HBx.out _ B2.out 4 _ rfl; have y5 := HBx.out _ B2.out 5 _ rfl; have y6 := HBx.out _ B2.out 6 _ rfl; have y7 := HBx.out _ B2.out 7 _ rfl; have y8 := HBx.out _ B2.out 8 _ rfl))
    go_ret
    exact ⟨by rw [HE.out]; rfl, HAl.out.trans (B2.out.mono (Nat.le_succ _))⟩
  | false =>
    cases t2 with
    | true =>
      go_enter Tryd.func42, Tryd.ntmps42
      go_wp2_with fail
      rw [HW.out]
      go_wp2_with (first | (go_at_call 111; (with_reducible refine (c31.out _).mono ?_); rintro r w1 ⟨rfl, hS1, hb1⟩; have HS1 := Lib.hid hS1; have B1 := Lib.hid (hb1.mono (Nat.le_of_eq HSz.out.symm)); clear hS1 hb1) | (go_at_call 110; refine (cA.out _ _ HS1.out).mono ?_; rintro r w2 ⟨rfl, hb2⟩; have B2 := Lib.hid (B1.out.trans (hb2.mono (by have := B1.out.size; rw [HSz.out] at this; exact this))); clear hb2; have y0 := HBx.out _ B2.out 0 _ rfl; have y1 := HBx.out _ B2.out 1 _ rfl; have y2 := HBx.out _ B2.out 2 _ rfl; have y3 := HBx.out _ B2.out 3 _ rfl; have y4 := HBx.out _ B2.out 4 _ rfl; have y5 := HBx.out _ B2.out 5 _ rfl; have y6 := HBx.out _ B2.out 6 _ rfl; have y7 := HBx.out _ B2.out 7 _ rfl; have y8 := HBx.out _ B2.out 8 _ rfl) | (go_at_call 111; (with_reducible refine (c31.out _).mono ?_); rintro r w3 ⟨rfl, hS3, hb3⟩; have HS3 := Lib.hid hS3; have B3 := Lib.hid (B2.out.trans (hb3.mono (by have := B2.out.size; rw [HSz.out] at this; exact this))); clear hS3 hb3) | (go_at_call 110; refine (cB.out _ _ (HAl.out.trans (B3.out.mono (by omega))) HS3.out).mono ?_; rintro r w4 ⟨rfl, hb4⟩; have B4 := Lib.hid (B3.out.trans (hb4.mono (by have := B3.out.size; rw [HSz.out] at this; exact this))); clear hb4; have z0 := HBx.out _ B4.out 0 _ rfl; have z1 := HBx.out _ B4.out 1 _ rfl; have z2 := HBx.out _ B4.out 2 _ rfl; have z3 := HBx.out _ B4.out 3 _ rfl; have z4 := HBx.out _ B4.out 4 _ rfl; have z5 := HBx.out _ B4.out 5 _ rfl; have z6 := HBx.out _ B4.out 6 _ rfl; have z7 := HBx.out _ B4.out 7 _ rfl; have z8 := HBx.out _ B4.out 8 _ rfl))
      go_ret
      exact ⟨by rw [HE.out]; rfl, HAl.out.trans (B4.out.mono (Nat.le_succ _))⟩
    | false =>
      cases t3 with
      | true =>
        go_enter Tryd.func42, Tryd.ntmps42
        go_wp2_with fail
        rw [HW.out]
        go_wp2_with (first | (go_at_call 111; (with_reducible refine (c31.out _).mono ?_); rintro r w1 ⟨rfl, hS1, hb1⟩; have HS1 := Lib.hid hS1; have B1 := Lib.hid (hb1.mono (Nat.le_of_eq HSz.out.symm)); clear hS1 hb1) | (go_at_call 110; refine (cA.out _ _ HS1.out).mono ?_; rintro r w2 ⟨rfl, hb2⟩; have B2 := Lib.hid (B1.out.trans (hb2.mono (by have := B1.out.size; rw [HSz.out] at this; exact this))); clear hb2; have y0 := HBx.out _ B2.out 0 _ rfl; have y1 := HBx.out _ B2.out 1 _ rfl; have y2 := HBx.out _ B2.out 2 _ rfl; have y3 := HBx.out _ B2.out 3 _ rfl; have y4 := HBx.out _ B2.out 4 _ rfl; have y5 := HBx.out _ B2.out 5 _ rfl; have y6 := HBx.out _ B2.out 6 _ rfl; have y7 := HBx.out _ B2.out 7 _ rfl; have y8 := HBx.out _ B2.out 8 _ rfl) | (go_at_call 111; (with_reducible refine (c31.out _).mono ?_); rintro r w3 ⟨rfl, hS3, hb3⟩; have HS3 := Lib.hid hS3; have B3 := Lib.hid (B2.out.trans (hb3.mono (by have := B2.out.size; rw [HSz.out] at this; exact this))); clear hS3 hb3) | (go_at_call 110; refine (cB.out _ _ (HAl.out.trans (B3.out.mono (by omega))) HS3.out).mono ?_; rintro r w4 ⟨rfl, hb4⟩; have B4 := Lib.hid (B3.out.trans (hb4.mono (by have := B3.out.size; rw [HSz.out] at this; exact this))); clear hb4; have z0 := HBx.out _ B4.out 0 _ rfl; have z1 := HBx.out _ B4.out 1 _ rfl; have z2 := HBx.out _ B4.out 2 _ rfl; have z3 := HBx.out _ B4.out 3 _ rfl; have z4 := HBx.out _ B4.out 4 _ rfl; have z5 := HBx.out _ B4.out 5 _ rfl; have z6 := HBx.out _ B4.out 6 _ rfl; have z7 := HBx.out _ B4.out 7 _ rfl; have z8 := HBx.out _ B4.out 8 _ rfl) | (go_at_call 114; refine (cC.out _ _ (HR.out _)).mono ?_; rintro r w5 ⟨rfl, hb5⟩; have B5 := Lib.hid (((B4.out.alloc (by have := B4.out.size; rw [HSz.out] at this; exact this) _)).trans (hb5.mono (by have := B4.out.size; rw [HSz.out] at this; simp; omega))); clear hb5; have u0 := HBx.out _ B5.out 0 _ rfl; have u1 := HBx.out _ B5.out 1 _ rfl; have u2 := HBx.out _ B5.out 2 _ rfl; have u3 := HBx.out _ B5.out 3 _ rfl; have u4 := HBx.out _ B5.out 4 _ rfl; have u5 := HBx.out _ B5.out 5 _ rfl; have u6 := HBx.out _ B5.out 6 _ rfl; have u7 := HBx.out _ B5.out 7 _ rfl; have u8 := HBx.out _ B5.out 8 _ rfl))
        go_ret
        exact ⟨by rw [HE.out]; rfl, HAl.out.trans (B5.out.mono (Nat.le_succ _))⟩
      | false =>
        by_cases hl : la.size = 0
        · have i1 := emptyB la hl
          have HL := Lib.hid hl
          clear hl
          go_enter Tryd.func42, Tryd.ntmps42
          go_wp2_with fail
          rw [HW.out]
          go_wp2_with (first | (go_at_call 111; (with_reducible refine (c31.out _).mono ?_); rintro r w1 ⟨rfl, hS1, hb1⟩; have HS1 := Lib.hid hS1; have B1 := Lib.hid (hb1.mono (Nat.le_of_eq HSz.out.symm)); clear hS1 hb1) | (go_at_call 110; refine (cA.out _ _ HS1.out).mono ?_; rintro r w2 ⟨rfl, hb2⟩; have B2 := Lib.hid (B1.out.trans (hb2.mono (by have := B1.out.size; rw [HSz.out] at this; exact this))); clear hb2; have y0 := HBx.out _ B2.out 0 _ rfl; have y1 := HBx.out _ B2.out 1 _ rfl; have y2 := HBx.out _ B2.out 2 _ rfl; have y3 := HBx.out _ B2.out 3 _ rfl; have y4 := HBx.out _ B2.out 4 _ rfl; have y5 := HBx.out _ B2.out 5 _ rfl; have y6 := HBx.out _ B2.out 6 _ rfl; have y7 := HBx.out _ B2.out 7 _ rfl; have y8 := HBx.out _ B2.out 8 _ rfl) | (go_at_call 111; (with_reducible refine (c31.out _).mono ?_); rintro r w3 ⟨rfl, hS3, hb3⟩; have HS3 := Lib.hid hS3; have B3 := Lib.hid (B2.out.trans (hb3.mono (by have := B2.out.size; rw [HSz.out] at this; exact this))); clear hS3 hb3) | (go_at_call 110; refine (cB.out _ _ (HAl.out.trans (B3.out.mono (by omega))) HS3.out).mono ?_; rintro r w4 ⟨rfl, hb4⟩; have B4 := Lib.hid (B3.out.trans (hb4.mono (by have := B3.out.size; rw [HSz.out] at this; exact this))); clear hb4; have z0 := HBx.out _ B4.out 0 _ rfl; have z1 := HBx.out _ B4.out 1 _ rfl; have z2 := HBx.out _ B4.out 2 _ rfl; have z3 := HBx.out _ B4.out 3 _ rfl; have z4 := HBx.out _ B4.out 4 _ rfl; have z5 := HBx.out _ B4.out 5 _ rfl; have z6 := HBx.out _ B4.out 6 _ rfl; have z7 := HBx.out _ B4.out 7 _ rfl; have z8 := HBx.out _ B4.out 8 _ rfl) | (go_at_call 114; refine (cC.out _ _ (HR.out _)).mono ?_; rintro r w5 ⟨rfl, hb5⟩; have B5 := Lib.hid (((B4.out.alloc (by have := B4.out.size; rw [HSz.out] at this; exact this) _)).trans (hb5.mono (by have := B4.out.size; rw [HSz.out] at this; simp; omega))); clear hb5; have u0 := HBx.out _ B5.out 0 _ rfl; have u1 := HBx.out _ B5.out 1 _ rfl; have u2 := HBx.out _ B5.out 2 _ rfl; have u3 := HBx.out _ B5.out 3 _ rfl; have u4 := HBx.out _ B5.out 4 _ rfl; have u5 := HBx.out _ B5.out 5 _ rfl; have u6 := HBx.out _ B5.out 6 _ rfl; have u7 := HBx.out _ B5.out 7 _ rfl; have u8 := HBx.out _ B5.out 8 _ rfl))
          go_ret
          exact ⟨by rw [HE.out]; simp [HL.out], HAl.out.trans (B5.out.mono (Nat.le_succ _))⟩
        · have i1 := not_empty la hl
          have HL := Lib.hid hl
          clear hl
          by_cases hn : ne.size = 0
          · have i2 := emptyB ne hn
            have HN := Lib.hid hn
            clear hn
            go_enter Tryd.func42, Tryd.ntmps42
            go_wp2_with fail
            rw [HW.out]
            go_wp2_with (first | (go_at_call 111; (with_reducible refine (c31.out _).mono ?_); rintro r w1 ⟨rfl, hS1, hb1⟩; have HS1 := Lib.hid hS1; have B1 := Lib.hid (hb1.mono (Nat.le_of_eq HSz.out.symm)); clear hS1 hb1) | (go_at_call 110; refine (cA.out _ _ HS1.out).mono ?_; rintro r w2 ⟨rfl, hb2⟩; have B2 := Lib.hid (B1.out.trans (hb2.mono (by have := B1.out.size; rw [HSz.out] at this; exact this))); clear hb2; have y0 := HBx.out _ B2.out 0 _ rfl; have y1 := HBx.out _ B2.out 1 _ rfl; have y2 := HBx.out _ B2.out 2 _ rfl; have y3 := HBx.out _ B2.out 3 _ rfl; have y4 := HBx.out _ B2.out 4 _ rfl; have y5 := HBx.out _ B2.out 5 _ rfl; have y6 := HBx.out _ B2.out 6 _ rfl; have y7 := HBx.out _ B2.out 7 _ rfl; have y8 := HBx.out _ B2.out 8 _ rfl) | (go_at_call 111; (with_reducible refine (c31.out _).mono ?_); rintro r w3 ⟨rfl, hS3, hb3⟩; have HS3 := Lib.hid hS3; have B3 := Lib.hid (B2.out.trans (hb3.mono (by have := B2.out.size; rw [HSz.out] at this; exact this))); clear hS3 hb3) | (go_at_call 110; refine (cB.out _ _ (HAl.out.trans (B3.out.mono (by omega))) HS3.out).mono ?_; rintro r w4 ⟨rfl, hb4⟩; have B4 := Lib.hid (B3.out.trans (hb4.mono (by have := B3.out.size; rw [HSz.out] at this; exact this))); clear hb4; have z0 := HBx.out _ B4.out 0 _ rfl; have z1 := HBx.out _ B4.out 1 _ rfl; have z2 := HBx.out _ B4.out 2 _ rfl; have z3 := HBx.out _ B4.out 3 _ rfl; have z4 := HBx.out _ B4.out 4 _ rfl; have z5 := HBx.out _ B4.out 5 _ rfl; have z6 := HBx.out _ B4.out 6 _ rfl; have z7 := HBx.out _ B4.out 7 _ rfl; have z8 := HBx.out _ B4.out 8 _ rfl) | (go_at_call 114; refine (cC.out _ _ (HR.out _)).mono ?_; rintro r w5 ⟨rfl, hb5⟩; have B5 := Lib.hid (((B4.out.alloc (by have := B4.out.size; rw [HSz.out] at this; exact this) _)).trans (hb5.mono (by have := B4.out.size; rw [HSz.out] at this; simp; omega))); clear hb5; have u0 := HBx.out _ B5.out 0 _ rfl; have u1 := HBx.out _ B5.out 1 _ rfl; have u2 := HBx.out _ B5.out 2 _ rfl; have u3 := HBx.out _ B5.out 3 _ rfl; have u4 := HBx.out _ B5.out 4 _ rfl; have u5 := HBx.out _ B5.out 5 _ rfl; have u6 := HBx.out _ B5.out 6 _ rfl; have u7 := HBx.out _ B5.out 7 _ rfl; have u8 := HBx.out _ B5.out 8 _ rfl))
            go_ret
            exact ⟨by rw [HE.out]; simp [HL.out, HN.out], HAl.out.trans (B5.out.mono (Nat.le_succ _))⟩
          · have i2 := not_empty ne hn
            have HN := Lib.hid hn
            clear hn
            go_enter Tryd.func42, Tryd.ntmps42
            go_wp2_with fail
            rw [HW.out]
            go_wp2_with (first | (go_at_call 111; (with_reducible refine (c31.out _).mono ?_); rintro r w1 ⟨rfl, hS1, hb1⟩; have HS1 := Lib.hid hS1; have B1 := Lib.hid (hb1.mono (Nat.le_of_eq HSz.out.symm)); clear hS1 hb1) | (go_at_call 110; refine (cA.out _ _ HS1.out).mono ?_; rintro r w2 ⟨rfl, hb2⟩; have B2 := Lib.hid (B1.out.trans (hb2.mono (by have := B1.out.size; rw [HSz.out] at this; exact this))); clear hb2; have y0 := HBx.out _ B2.out 0 _ rfl; have y1 := HBx.out _ B2.out 1 _ rfl; have y2 := HBx.out _ B2.out 2 _ rfl; have y3 := HBx.out _ B2.out 3 _ rfl; have y4 := HBx.out _ B2.out 4 _ rfl; have y5 := HBx.out _ B2.out 5 _ rfl; have y6 := HBx.out _ B2.out 6 _ rfl; have y7 := HBx.out _ B2.out 7 _ rfl; have y8 := HBx.out _ B2.out 8 _ rfl) | (go_at_call 111; (with_reducible refine (c31.out _).mono ?_); rintro r w3 ⟨rfl, hS3, hb3⟩; have HS3 := Lib.hid hS3; have B3 := Lib.hid (B2.out.trans (hb3.mono (by have := B2.out.size; rw [HSz.out] at this; exact this))); clear hS3 hb3) | (go_at_call 110; refine (cB.out _ _ (HAl.out.trans (B3.out.mono (by omega))) HS3.out).mono ?_; rintro r w4 ⟨rfl, hb4⟩; have B4 := Lib.hid (B3.out.trans (hb4.mono (by have := B3.out.size; rw [HSz.out] at this; exact this))); clear hb4; have z0 := HBx.out _ B4.out 0 _ rfl; have z1 := HBx.out _ B4.out 1 _ rfl; have z2 := HBx.out _ B4.out 2 _ rfl; have z3 := HBx.out _ B4.out 3 _ rfl; have z4 := HBx.out _ B4.out 4 _ rfl; have z5 := HBx.out _ B4.out 5 _ rfl; have z6 := HBx.out _ B4.out 6 _ rfl; have z7 := HBx.out _ B4.out 7 _ rfl; have z8 := HBx.out _ B4.out 8 _ rfl) | (go_at_call 114; refine (cC.out _ _ (HR.out _)).mono ?_; rintro r w5 ⟨rfl, hb5⟩; have B5 := Lib.hid (((B4.out.alloc (by have := B4.out.size; rw [HSz.out] at this; exact this) _)).trans (hb5.mono (by have := B4.out.size; rw [HSz.out] at this; simp; omega))); clear hb5; have u0 := HBx.out _ B5.out 0 _ rfl; have u1 := HBx.out _ B5.out 1 _ rfl; have u2 := HBx.out _ B5.out 2 _ rfl; have u3 := HBx.out _ B5.out 3 _ rfl; have u4 := HBx.out _ B5.out 4 _ rfl; have u5 := HBx.out _ B5.out 5 _ rfl; have u6 := HBx.out _ B5.out 6 _ rfl; have u7 := HBx.out _ B5.out 7 _ rfl; have u8 := HBx.out _ B5.out 8 _ rfl))
            go_ret
            exact ⟨by rw [HE.out]; simp [HL.out, HN.out], HAl.out.trans (B5.out.mono (Nat.le_succ _))⟩
end Go.Proofs.YtgechifbbhipaaaDoor

/- metinf: the reference's Check. No condition but sizes. -/
set_option linter.unusedVariables false
set_option linter.unusedSimpArgs false
namespace Go.Proofs.YtgechifbbhipaaaDoor
open Go.RowKit

def hidB (s : ByteArray) : Bool := !shownB s
/-- what is wrong with a Meta, as the reference has it -/
def chkR (T : List ByteArray) (I : List Int) (la ne : ByteArray) : Int :=
  if T.any longB = true then 8 else if T.any hidB = true then 3 else if I.any badC = true then 2 else if la.size ≠ 0 ∧ ne.size = 0 then 7 else 0

theorem any_true {α : Type} {l : List α} {q : α → Bool} {i : Nat} (h : i < l.length) (hq : q l[i] = true) : l.any q = true := List.any_eq_true.2 ⟨l[i], List.getElem_mem h, hq⟩
theorem any_false {α : Type} {l : List α} {q : α → Bool} (h : ∀ j (hj : j < l.length), q l[j] = false) : l.any q = false := by
  rw [List.any_eq_false]
  intro x hx
  obtain ⟨i, hi, rfl⟩ := List.getElem_of_mem hx
  simp only [Bool.not_eq_true]
  exact h i hi

theorem badL_eq (s : ByteArray) (hs : longB s = false) : badL s = hidB s := by
  have h2 : s.size ≤ 4000 := by unfold longB at hs; rw [decide_eq_false_iff_not] at hs; omega
  have hp : preT 13 1 (.mk 1 metaN s false []) = [(1, .mk 1 metaN s false [])] := by rw [preT_in (by omega)]; show _ :: preL 13 2 [] = _; rw [preL]
  have hp2 : preT 5000 1 (.mk 1 metaN s false []) = [(1, .mk 1 metaN s false [])] := by rw [preT_in (by omega)]; show _ :: preL 5000 2 [] = _; rw [preL]
  have hh : hT (.mk 1 metaN s false []) ≤ 12 := by rw [hT, hL]; decide
  have hc : chkA (.mk 1 metaN s false []) = chkV 1 metaN s false 0 := by
    rw [chkA_of hh (by rw [hp2]; simp), hp, firstC]
    show (if chkV 1 metaN s false 0 = 0 then firstC [] else chkV 1 metaN s false 0) = _
    split
    · rename_i h; rw [h]; rfl
    · rfl
  unfold badL hidB
  rw [hc]
  unfold chkV
  have hn : nameB metaN = true := by decide
  simp only [hn]
  cases h : shownB s <;> simp <;> omega
theorem chkM_eq (fo ty : ByteArray) (sz ve : Int) (la ne no : ByteArray) (mm mo : Int) : chkM fo ty sz ve la ne no mm mo = chkR [fo, ty, no, la, ne] [sz, ve, mm, mo] la ne := by
  unfold chkM chkR
  cases h : [fo, ty, no, la, ne].any longB with
  | true => simp
  | false =>
    have e : [fo, ty, no, la, ne].any badL = [fo, ty, no, la, ne].any hidB := by
      rw [List.any_eq_false] at h
      rw [Bool.eq_iff_iff, List.any_eq_true, List.any_eq_true]
      constructor
      · rintro ⟨x, hx, hb⟩; exact ⟨x, hx, by rw [← badL_eq x (by simpa using h x hx)]; exact hb⟩
      · rintro ⟨x, hx, hb⟩; exact ⟨x, hx, by rw [badL_eq x (by simpa using h x hx)]; exact hb⟩
    rw [e]

theorem cell_allocG2 {w : World} {ad : Addr} {u : Value} (h : w.cell? ad = some u) (o : Obj) : (w.alloc o).cell? ad = some u := by
  rw [← h]; exact World.cell?_of_block (Below.heap_alloc _ _ _ (World.block_lt_of_cell? _ _ h))
set_option maxRecDepth 100000 in
set_option maxHeartbeats 8000000 in
theorem refMet_any (fo ty : ByteArray) (sz ve : Int) (la ne no : ByteArray) (mm mo : Int) (h1 : fo.size ≤ 1000000) (h2 : ty.size ≤ 1000000) (h3 : no.size ≤ 1000000) (h4 : la.size ≤ 1000000) (h5 : ne.size ≤ 1000000) (w : World) :
    Calls Tryd.prog 39 #[.agg #[.string fo, .string ty, .int .i64 sz, .int .i64 ve, .string la, .string ne, .string no, .int .i64 mm, .int .i64 mo]] w fun r w' => r = .returned (.int .i64 (chkM fo ty sz ve la ne no mm mo)) ∧ Below w.heap.size w w' := by
  rw [chkM_eq]
  have hs : ∀ i (h : i < [fo, ty, no, la, ne].length), [fo, ty, no, la, ne][i].size ≤ 1000000 := fun i h => by
    match i, h with
    | 0, _ => exact h1
    | 1, _ => exact h2
    | 2, _ => exact h3
    | 3, _ => exact h4
    | 4, _ => exact h5
  have hR := row_texts (w.alloc (.cells #[.string fo, .string ty, .int .i64 sz, .int .i64 ve, .string la, .string ne, .string no, .int .i64 mm, .int .i64 mo] 23)) [fo, ty, no, la, ne] 9
  rw [World.size_alloc] at hR
  obtain ⟨W2, hW2⟩ : ∃ W2, (w.alloc (.cells #[.string fo, .string ty, .int .i64 sz, .int .i64 ve, .string la, .string ne, .string no, .int .i64 mm, .int .i64 mo] 23)).alloc (.cells #[.string fo, .string ty, .string no, .string la, .string ne] 9) = W2 := ⟨_, rfl⟩
  have hR2 : ∀ i (h : i < [fo, ty, no, la, ne].length), W2.cell? ⟨w.heap.size + 1, i, none⟩ = some (.string [fo, ty, no, la, ne][i]) := by rw [← hW2]; exact hR
  have hB2 : Below w.heap.size w W2 := by rw [← hW2]; exact ((Below.refl _ w).alloc (Nat.le_refl _) _).alloc (by simp) _
  have hZ2 : W2.heap.size = w.heap.size + 2 := by rw [← hW2]; simp
  have hBx : ∀ j v, (#[.string fo, .string ty, .int .i64 sz, .int .i64 ve, .string la, .string ne, .string no, .int .i64 mm, .int .i64 mo] : Array Value)[j]? = some v → W2.cell? ⟨w.heap.size, j, none⟩ = some v := fun j v hv => by
    rw [← hW2]; exact cell_allocG2 ((World.cell?_alloc_at _ _ _ _ rfl).trans hv) _
  have HRI : Hid (∀ X : World, ∀ i (h : i < [sz, ve, mm, mo].length), (X.alloc (.cells #[.int .i64 sz, .int .i64 ve, .int .i64 mm, .int .i64 mo] 3)).cell? ⟨X.heap.size, i, none⟩ = some (.int .i64 [sz, ve, mm, mo][i])) := fun X => row_ints X [sz, ve, mm, mo] 3
  have hl5 : [fo, ty, no, la, ne].length = 5 := rfl
  have hl4 : [sz, ve, mm, mo].length = 4 := rfl
  have y4 := hBx 4 _ rfl
  have y5 := hBx 5 _ rfl
  clear hR h1 h2 h3 h4 h5
  generalize [fo, ty, no, la, ne] = T at *
  generalize hII : [sz, ve, mm, mo] = I at *
  clear hII
  have HW2 := Lib.hid hW2
  have HR2 := Lib.hid hR2
  have HB2 := Lib.hid hB2
  have HZ2 := Lib.hid hZ2
  have HBx := Lib.hid hBx
  have HS := Lib.hid hs
  have H5 := Lib.hid hl5
  have H4 := Lib.hid hl4
  have HE : Hid (chkR T I la ne = if T.any longB = true then 8 else if T.any hidB = true then 3 else if I.any badC = true then 2 else if la.size ≠ 0 ∧ ne.size = 0 then 7 else 0) := rfl
  generalize chkR T I la ne = R at *
  clear hW2 hR2 hB2 hZ2 hBx hs hl5 hl4
  go_enter Tryd.func39, Tryd.ntmps39
  go_wp2_with fail
  rw [HW2.out]
  go_loopw [4] (fun iv wr => ∃ i : Nat, i ≤ 5 ∧ iv = .int .i64 (i : Int) ∧ Hid (∀ j (h : j < T.length), j < i → longB T[j] = false) ∧ W2 = wr) (fun iv _ => 5 - (intOf iv).toNat)
  case atStart => exact ⟨0, Nat.zero_le _, rfl, fun _ _ h => absurd h (Nat.not_lt_zero _), rfl⟩
  case round =>
    obtain ⟨i, hi, rfl, HI, rfl⟩ := hrel
    by_cases hlt : i < 5
    · have hil : i < T.length := by rw [H5.out]; exact hlt
      have hc := HR2.out i hil
      have k0 : (0 : Int) ≤ (i : Int) := by omega
      have k1 : (i : Int) < 5 := by omega
      have k2 : decide (i < 5) = true := by simp; omega
      by_cases hq : (200 : Int) < (T[i].size : Int)
      · have HT : Hid (T.any longB = true) := any_true hil (by unfold longB; exact decide_eq_true hq)
        generalize T[i] = x at *
        go_wp2_with fail
        go_ret
        exact ⟨by rw [HE.out, if_pos HT.out] <;> rfl, HB2.out⟩
      · have HI2 : Hid (∀ j (h : j < T.length), j < i + 1 → longB T[j] = false) := fun j h hj => by
          by_cases e : j = i
          · subst e; unfold longB; exact decide_eq_false hq
          · exact HI.out j h (by omega)
        generalize T[i] = x at *
        go_wp2_with fail
        go_roundw
        case rel => exact ⟨i + 1, by omega, by go_num, HI2, by first | trivial | rfl⟩
        case measure => simp [intOf]; omega
    · have k1 : ¬ (i : Int) < 5 := by omega
      have k2 : decide (i < 5) = false := by simp; omega
      have HA : Hid (T.any longB = false) := any_false (fun j h => HI.out j h (by rw [H5.out] at h; omega))
      clear HI hi hlt
      go_wp2_with fail
      go_loopw [5] (fun iv wr => ∃ i : Nat, i ≤ 5 ∧ iv = .int .i64 (i : Int) ∧ Hid (∀ j (h : j < T.length), j < i → hidB T[j] = false) ∧ Hid (Below (w.heap.size + 2) W2 wr)) (fun iv _ => 5 - (intOf iv).toNat)
      case atStart => exact ⟨0, Nat.zero_le _, rfl, fun _ _ h => absurd h (Nat.not_lt_zero _), Below.refl _ _⟩
      case round =>
        obtain ⟨i, hi, rfl, HI, HBr⟩ := hrel
        clear y4 y5
        by_cases hlt : i < 5
        · have hil : i < T.length := by rw [H5.out]; exact hlt
          have hc := (HBr.out.cell (p := ⟨w.heap.size + 1, i, none⟩) (Nat.lt_succ_self _)).trans (HR2.out i hil)
          have k0 : (0 : Int) ≤ (i : Int) := by omega
          have k1 : (i : Int) < 5 := by omega
          have k2 : decide (i < 5) = true := by simp; omega
          have c27 := refShown_any T[i] (HS.out i hil) wr
          have HBz : Hid (w.heap.size + 2 ≤ wr.heap.size) := by have := HBr.out.size; rw [HZ2.out] at this; exact this
          have HY : Hid (hidB T[i] = true → T.any hidB = true) := fun h => any_true hil h
          have HI2 : Hid (hidB T[i] = false → ∀ j (h : j < T.length), j < i + 1 → hidB T[j] = false) := fun hp j h hj => by
            by_cases e : j = i
            · subst e; exact hp
            · exact HI.out j h (by omega)
          have hsh : hidB T[i] = !shownB T[i] := rfl
          rw [hsh] at HY HI2
          generalize shownB T[i] = q at *
          generalize T[i] = x at *
          have c27 := Lib.hid c27
          clear hsh HI
          cases q with
          | false =>
            have HT := Lib.hid (HY.out rfl)
            clear HY HI2
            go_wp2_with (go_at_call 101; (with_reducible refine c27.out.mono ?_); rintro r w1 ⟨rfl, hb1⟩)
            go_ret
            exact ⟨by rw [HE.out, if_neg (by rw [HA.out]; decide), if_pos HT.out] <;> rfl, HB2.out.trans ((HBr.out.trans (hb1.mono HBz.out)).mono (by omega))⟩
          | true =>
            have HI3 := Lib.hid (HI2.out rfl)
            clear HY HI2
            go_wp2_with (go_at_call 101; (with_reducible refine c27.out.mono ?_); rintro r w1 ⟨rfl, hb1⟩)
            go_roundw
            case rel => exact ⟨i + 1, by omega, by go_num, HI3, HBr.out.trans (hb1.mono HBz.out)⟩
            case measure => simp [intOf]; omega
        · have k1 : ¬ (i : Int) < 5 := by omega
          have k2 : decide (i < 5) = false := by simp; omega
          have HA2 : Hid (T.any hidB = false) := any_false (fun j h => HI.out j h (by rw [H5.out] at h; omega))
          have x2 := (HBr.out.cell (p := ⟨w.heap.size, 2, none⟩) (Nat.lt_succ_of_lt (Nat.lt_succ_self _))).trans (HBx.out 2 _ rfl)
          have x3 := (HBr.out.cell (p := ⟨w.heap.size, 3, none⟩) (Nat.lt_succ_of_lt (Nat.lt_succ_self _))).trans (HBx.out 3 _ rfl)
          have x7 := (HBr.out.cell (p := ⟨w.heap.size, 7, none⟩) (Nat.lt_succ_of_lt (Nat.lt_succ_self _))).trans (HBx.out 7 _ rfl)
          have x8 := (HBr.out.cell (p := ⟨w.heap.size, 8, none⟩) (Nat.lt_succ_of_lt (Nat.lt_succ_self _))).trans (HBx.out 8 _ rfl)
          have x4 := (HBr.out.cell (p := ⟨w.heap.size, 4, none⟩) (Nat.lt_succ_of_lt (Nat.lt_succ_self _))).trans (HBx.out 4 _ rfl)
          have x5 := (HBr.out.cell (p := ⟨w.heap.size, 5, none⟩) (Nat.lt_succ_of_lt (Nat.lt_succ_self _))).trans (HBx.out 5 _ rfl)
          have HBz : Hid (w.heap.size + 2 ≤ wr.heap.size) := by have := HBr.out.size; rw [HZ2.out] at this; exact this
          have HR3 := Lib.hid (HRI.out wr)
          have HB3 : Hid (Below w.heap.size w (wr.alloc (.cells #[.int .i64 sz, .int .i64 ve, .int .i64 mm, .int .i64 mo] 3))) := (HB2.out.trans (HBr.out.mono (by omega))).alloc (by have := HBz.out; omega) _
          clear HI hi hlt
          go_wp2_with fail
          have z4 : (wr.alloc (.cells #[.int .i64 sz, .int .i64 ve, .int .i64 mm, .int .i64 mo] 3)).cell? ⟨w.heap.size, 4, none⟩ = some (.string la) := cell_allocG2 x4 _
          have z5 : (wr.alloc (.cells #[.int .i64 sz, .int .i64 ve, .int .i64 mm, .int .i64 mo] 3)).cell? ⟨w.heap.size, 5, none⟩ = some (.string ne) := cell_allocG2 x5 _
          have hrow := wr.heap.size
          clear x2 x3 x4 x5 x7 x8 hrow
          generalize hW4 : wr.alloc (.cells #[.int .i64 sz, .int .i64 ve, .int .i64 mm, .int .i64 mo] 3) = W4 at *
          clear hW4
          go_loopw [7] (fun iv wx => ∃ i : Nat, i ≤ 4 ∧ iv = .int .i64 (i : Int) ∧ Hid (∀ j (h : j < I.length), j < i → badC I[j] = false) ∧ W4 = wx) (fun iv _ => 4 - (intOf iv).toNat)
          case atStart => exact ⟨0, Nat.zero_le _, rfl, fun _ _ h => absurd h (Nat.not_lt_zero _), rfl⟩
          case round =>
            obtain ⟨i, hi, rfl, HI, rfl⟩ := hrel
            by_cases hlt : i < 4
            · have hil : i < I.length := by rw [H4.out]; exact hlt
              have hc := HR3.out i hil
              have k0 : (0 : Int) ≤ (i : Int) := by omega
              have k1 : (i : Int) < 4 := by omega
              have k2 : decide (i < 4) = true := by simp; omega
              have HY : Hid (badC I[i] = true → I.any badC = true) := fun h => any_true hil h
              have HI2 : Hid (badC I[i] = false → ∀ j (h : j < I.length), j < i + 1 → badC I[j] = false) := fun hp j h hj => by
                by_cases e : j = i
                · subst e; exact hp
                · exact HI.out j h (by omega)
              generalize I[i] = x at *
              clear HI
              by_cases hx : x < 0
              · have HT := Lib.hid (HY.out (by unfold badC; rw [decide_eq_true hx]; rfl))
                clear HY HI2
                go_wp2_with fail
                go_ret
                exact ⟨by rw [HE.out, if_neg (by rw [HA.out]; decide), if_neg (by rw [HA2.out]; decide), if_pos HT.out] <;> rfl, HB3.out⟩
              · by_cases hx2 : 268435456 < x
                · have HT := Lib.hid (HY.out (by unfold badC; rw [decide_eq_true hx2, Bool.or_true]))
                  clear HY HI2
                  go_wp2_with fail
                  go_ret
                  exact ⟨by rw [HE.out, if_neg (by rw [HA.out]; decide), if_neg (by rw [HA2.out]; decide), if_pos HT.out] <;> rfl, HB3.out⟩
                · have HI3 := Lib.hid (HI2.out (by unfold badC; rw [decide_eq_false hx, decide_eq_false hx2]; rfl))
                  clear HY HI2
                  go_wp2_with fail
                  go_roundw
                  case rel => exact ⟨i + 1, by omega, by go_num, HI3, by first | trivial | rfl⟩
                  case measure => simp [intOf]; omega
            · have k1 : ¬ (i : Int) < 4 := by omega
              have k2 : decide (i < 4) = false := by simp; omega
              have HA3 : Hid (I.any badC = false) := any_false (fun j h => HI.out j h (by rw [H4.out] at h; omega))
              clear HI hi hlt
              by_cases hl : la.size = 0
              · have i1 := emptyB la hl
                have HL := Lib.hid hl
                clear hl
                go_wp2_with fail
                go_ret
                exact ⟨by rw [HE.out, if_neg (by rw [HA.out]; decide), if_neg (by rw [HA2.out]; decide), if_neg (by rw [HA3.out]; decide)]; simp [HL.out], HB3.out⟩
              · have i1 := not_empty la hl
                have HL := Lib.hid hl
                clear hl
                by_cases hn : ne.size = 0
                · have i2 := emptyB ne hn
                  have HN := Lib.hid hn
                  clear hn
                  go_wp2_with fail
                  go_ret
                  exact ⟨by rw [HE.out, if_neg (by rw [HA.out]; decide), if_neg (by rw [HA2.out]; decide), if_neg (by rw [HA3.out]; decide)]; simp [HL.out, HN.out], HB3.out⟩
                · have i2 := not_empty ne hn
                  have HN := Lib.hid hn
                  clear hn
                  go_wp2_with fail
                  go_ret
                  exact ⟨by rw [HE.out, if_neg (by rw [HA.out]; decide), if_neg (by rw [HA2.out]; decide), if_neg (by rw [HA3.out]; decide)]; simp [HL.out, HN.out], HB3.out⟩
end Go.Proofs.YtgechifbbhipaaaDoor
