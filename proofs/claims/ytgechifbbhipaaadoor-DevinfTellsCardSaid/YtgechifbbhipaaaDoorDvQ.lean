/- devinf: words, forms, kinds of sync; both sides. No condition but the tables. -/
import Derived.Test.YtgechifbbhipaaaDoorDvP
import Derived.BigGuardPart
set_option linter.unusedVariables false
set_option linter.unusedSimpArgs false
namespace Go.Proofs.YtgechifbbhipaaaDoor
open Go.RowKit

def manN : ByteArray := { data := #[77, 97, 110] }
theorem chk_man (s : ByteArray) (h2 : s.size ≤ 4000) : (chkA (.mk 2 manN s false []) == 0) = shownB s := by
  have hp : preT 13 1 (.mk 2 manN s false []) = [(1, .mk 2 manN s false [])] := by rw [preT_in (by omega)]; show _ :: preL 13 2 [] = _; rw [preL]
  have hp2 : preT 5000 1 (.mk 2 manN s false []) = [(1, .mk 2 manN s false [])] := by rw [preT_in (by omega)]; show _ :: preL 5000 2 [] = _; rw [preL]
  have hh : hT (.mk 2 manN s false []) ≤ 12 := by rw [hT, hL]; decide
  have hc : chkA (.mk 2 manN s false []) = chkV 2 manN s false 0 := by
    rw [chkA_of hh (by rw [hp2]; simp), hp, firstC]
    show (if chkV 2 manN s false 0 = 0 then firstC [] else chkV 2 manN s false 0) = _
    split
    · rename_i h; rw [h]; rfl
    · rfl
  rw [hc]
  unfold chkV
  have hn : nameB manN = true := by decide
  simp only [hn]
  cases h : shownB s <;> simp <;> omega
/-- may a text stand as a word -/
def wordB (s : ByteArray) : Bool := (!s.toList.isEmpty) && (decide ((s.size : Int) ≤ 60) && shownB s)
def mayW (s : ByteArray) : Bool := s.toList.isEmpty || wordB s
theorem word_any (s : ByteArray) (w : World) (hT : Lib.Utf8Tabs 2 3 w) : Calls Tryd.prog 75 #[.string s] w fun r w' => r = .returned (.bool (wordB s)) ∧ Below w.heap.size w w' := by
  cases h0 : s.toList.isEmpty with
  | true =>
    have hR : wordB s = false := by unfold wordB; rw [h0]; rfl
    rw [hR]
    go_enter Tryd.func75, Tryd.ntmps75
    go_wp2
    go_ret
    exact ⟨rfl, Below.refl _ _⟩
  | false =>
    cases h1 : decide ((s.size : Int) ≤ 60) with
    | false =>
      have hR : wordB s = false := by unfold wordB; rw [h0, h1]; rfl
      rw [hR]
      go_enter Tryd.func75, Tryd.ntmps75
      go_wp2
      go_ret
      exact ⟨rfl, Below.refl _ _⟩
    | true =>
      have hs : s.size ≤ 60 := by rw [decide_eq_true_eq] at h1; omega
      have hs2 : s.size ≤ reachT := by simp only [reachT]; omega
      have hL : ∀ X, AtT X X.heap.size (.mk 2 manN s false []) (.agg #[.int .i64 2, .string manN, .string s, .bool false, .slice none 0 0]) := fun X => by
        unfold AtT; exact ⟨by decide, hs2, by decide, none, 0, rfl, by unfold AtL; trivial, Nat.le_refl _⟩
      have c7 := Lib.hid (fun X (hX : Below w.heap.size w X) => checkA_any _ _ X (hL X) (Utf8Tabs_below hT hX))
      have hR : wordB s = (chkA (.mk 2 manN s false []) == 0) := by unfold wordB; rw [h0, h1, chk_man s (by omega)]; rfl
      rw [hR]
      clear hL hT hs hs2 hR
      generalize chkA (.mk 2 manN s false []) = q at *
      have c11 := Lib.hid (fun X => leaf_any 2 manN s X)
      unfold manN at *
      go_enter Tryd.func75, Tryd.ntmps75
      go_wp2_with (first | (go_at_call 63; refine (c11.out _).mono ?_; rintro r w1 ⟨rfl, hb1⟩) | (go_at_call 96; refine (c7.out _ hb1).mono ?_; rintro r w2 ⟨rfl, hb2⟩))
      go_ret
      exact ⟨rfl, hb1.trans (hb2.mono hb1.size)⟩
theorem refWord_any (s : ByteArray) (w : World) : Calls Tryd.prog 78 #[.string s] w fun r w' => r = .returned (.bool (wordB s)) ∧ Below w.heap.size w w' := by
  cases h0 : s.toList.isEmpty with
  | true =>
    have hR : wordB s = false := by unfold wordB; rw [h0]; rfl
    rw [hR]
    go_enter Tryd.func78, Tryd.ntmps78
    go_wp2
    go_ret
    exact ⟨rfl, Below.refl _ _⟩
  | false =>
    cases h1 : decide ((s.size : Int) ≤ 60) with
    | false =>
      have hR : wordB s = false := by unfold wordB; rw [h0, h1]; rfl
      rw [hR]
      go_enter Tryd.func78, Tryd.ntmps78
      go_wp2
      go_ret
      exact ⟨rfl, Below.refl _ _⟩
    | true =>
      have cS := Lib.hid (refShown_any s (by rw [decide_eq_true_eq] at h1; omega) w)
      have hR : wordB s = shownB s := by unfold wordB; rw [h0, h1]; rfl
      rw [hR]
      generalize shownB s = q at *
      go_enter Tryd.func78, Tryd.ntmps78
      go_wp2_with (go_at_call 101; refine cS.out.mono ?_; rintro r w1 ⟨rfl, hb1⟩)
      go_ret
      exact ⟨rfl, hb1⟩
theorem mayW_any (s : ByteArray) (w : World) (hT : Lib.Utf8Tabs 2 3 w) : Calls Tryd.prog 74 #[.string s] w fun r w' => r = .returned (.bool (mayW s)) ∧ Below w.heap.size w w' := by
  have cS := Lib.hid (word_any s w hT)
  cases h0 : s.toList.isEmpty with
  | true =>
    have hR : mayW s = true := by unfold mayW; rw [h0]; rfl
    rw [hR]
    clear cS
    go_enter Tryd.func74, Tryd.ntmps74
    go_wp2
    go_ret
    exact ⟨rfl, Below.refl _ _⟩
  | false =>
    have hR : mayW s = wordB s := by unfold mayW; rw [h0]; rfl
    rw [hR]
    generalize wordB s = q at *
    go_enter Tryd.func74, Tryd.ntmps74
    go_wp2_with (go_at_call 75; refine cS.out.mono ?_; rintro r w1 ⟨rfl, hb1⟩)
    go_ret
    exact ⟨rfl, hb1⟩
theorem refMayW_any (s : ByteArray) (w : World) : Calls Tryd.prog 77 #[.string s] w fun r w' => r = .returned (.bool (mayW s)) ∧ Below w.heap.size w w' := by
  have cS := Lib.hid (refWord_any s w)
  cases h0 : s.toList.isEmpty with
  | true =>
    have hR : mayW s = true := by unfold mayW; rw [h0]; rfl
    rw [hR]
    clear cS
    go_enter Tryd.func77, Tryd.ntmps77
    go_wp2
    go_ret
    exact ⟨rfl, Below.refl _ _⟩
  | false =>
    have hR : mayW s = wordB s := by unfold mayW; rw [h0]; rfl
    rw [hR]
    generalize wordB s = q at *
    go_enter Tryd.func77, Tryd.ntmps77
    go_wp2_with (go_at_call 78; refine cS.out.mono ?_; rintro r w1 ⟨rfl, hb1⟩)
    go_ret
    exact ⟨rfl, hb1⟩
/-- is a form as it should be -/
def formB (f : Fm) : Bool := wordB f.ty && wordB f.ve
def formsB (l : List Fm) : Bool := decide (1 ≤ (l.length : Int)) && (decide ((l.length : Int) ≤ 6) && !l.any fun f => !formB f)
theorem form_any (f : Fm) (w : World) (hT : Lib.Utf8Tabs 2 3 w) : Calls Tryd.prog 165 #[.agg #[.string f.ty, .string f.ve]] w fun r w' => r = .returned (.bool (!formB f)) ∧ Below w.heap.size w w' := by
  have cM := Lib.hid (fun s X (hX : Below w.heap.size w X) => word_any s X (Utf8Tabs_below hT hX))
  obtain ⟨ty, ve⟩ := f
  have hE : Hid ((!formB ⟨ty, ve⟩) = (!(wordB ty && wordB ve))) := rfl
  have KK := Lib.hid (Sd.start w #[.string ty, .string ve] 100)
  have KB := KK.out.bel
  clear hT
  rw [hE.out]
  cases h1 : wordB ty with
  | false =>
    go_enter Tryd.func165, Tryd.ntmps165
    go_wp2_with (go_at_call 75; (with_reducible refine (cM.out _ _ KB).mono ?_); rintro r X ⟨rfl, hb⟩; have KK := Lib.hid (KK.out.below hb); have KB := KK.out.bel; have y1 := blk_cell KK.out.blk 1 _ rfl)
    go_ret
    exact ⟨rfl, KB⟩
  | true =>
    go_enter Tryd.func165, Tryd.ntmps165
    go_wp2_with (go_at_call 75; (with_reducible refine (cM.out _ _ KB).mono ?_); rintro r X ⟨rfl, hb⟩; have KK := Lib.hid (KK.out.below hb); have KB := KK.out.bel; have y1 := blk_cell KK.out.blk 1 _ rfl)
    go_ret
    exact ⟨by simp [h1], KB⟩
theorem kind_any (k : Int) (w : World) : Calls Tryd.prog 133 #[.int .i64 k] w fun r w' => r = .returned (.bool (decide (k < 1) || decide (k > 99))) ∧ w' = w := by
  by_cases h : k < 1
  · go_enter Tryd.func133, Tryd.ntmps133
    go_wp2
    go_ret
    exact ⟨by simp [h], rfl⟩
  · go_enter Tryd.func133, Tryd.ntmps133
    go_wp2
    go_ret
    exact ⟨by simp [h]; intro; omega, rfl⟩
set_option maxRecDepth 100000 in
set_option maxHeartbeats 4000000 in
theorem idxF_any (q : Fm → Bool) (l : List Fm) (a : Option Addr) (cap : Nat) (hs : l.length ≤ 1000000) (w : World) (hS : AtF w w.heap.size a l)
    (cF : ∀ i (h : i < l.length) (X : World), Below w.heap.size w X → Calls Tryd.prog 165 #[.agg #[.string l[i].ty, .string l[i].ve]] X fun r w' => r = .returned (.bool (q l[i])) ∧ Below X.heap.size X w') :
    Calls Tryd.prog 192 #[.slice a l.length cap, .func (.func 165) #[] #[]] w fun e w' => (∃ r : Int, e = .returned (.int .i64 r) ∧ decide (0 ≤ r) = l.any q) ∧ Below w.heap.size w w' := by
  have hY : Hid (∀ i (h : i < l.length), q l[i] = true → l.any q = true) := fun i h hp => List.any_eq_true.2 ⟨l[i], List.getElem_mem h, hp⟩
  have hN : Hid ((∀ i (h : i < l.length), q l[i] = false) → l.any q = false) := fun h => anyB_false h
  generalize l.any q = v at *
  have HS := Lib.hid hS
  have HF := Lib.hid cF
  clear hS cF
  generalize hnn : l.length = n at hs ⊢
  have HNN := Lib.hid hnn
  clear hnn
  have hnl : n ≤ 140737488355328 := Nat.le_trans hs (by decide)
  go_enter Tryd.func192, Tryd.ntmps192
  go_wp2_with fail
  go_loopw [5, 8] (fun _ iv wr => ∃ i : Nat, i ≤ n ∧ iv = .int .i64 (i : Int) ∧ Hid (∀ j (h : j < l.length), j < i → q l[j] = false) ∧ Hid (Below w.heap.size w wr)) (fun _ iv _ => n - (intOf iv).toNat)
  case atStart => exact ⟨0, Nat.zero_le _, rfl, fun _ _ h => absurd h (Nat.not_lt_zero _), Below.refl _ _⟩
  case round =>
    obtain ⟨i, hi, rfl, HI, HB⟩ := hrel
    by_cases hlt : i < n
    · have hil : i < l.length := by rw [HNN.out]; exact hlt
      obtain ⟨b, o, rfl, hbl, hc0⟩ := HS.out i hil
      have c1 := Lib.hid (HF.out i hil wr HB.out)
      have k0 : (0 : Int) ≤ (i : Int) := by omega
      have k1 : (i : Int) < (n : Int) := by omega
      have k2 : decide (i < n) = true := by simp; omega
      have hst : Hid (q l[i] = false → ∀ j (h : j < l.length), j < i + 1 → q l[j] = false) := fun hp j h hj => by
        by_cases e : j = i
        · subst e; exact hp
        · exact HI.out j h (by omega)
      have hyi := Lib.hid (hY.out i hil)
      have hc : wr.rangeAt b (o + i * 2) [.string l[i].ty, .string l[i].ve] := fun j u hu => (HB.out.cell (p := ⟨b, o + i * 2 + j, none⟩) hbl).trans (hc0 j u hu)
      have y0 := hc 0 _ rfl
      have y1 := hc 1 _ rfl
      simp only [Nat.add_zero] at y0
      clear hc0 hc hbl HI
      generalize q l[i] = t at *
      generalize l[i] = x at *
      cases t with
      | true =>
        have HV := Lib.hid (hyi.out rfl)
        clear hst hyi
        go_wp2_with (go_at_call 165; (with_reducible refine c1.out.mono ?_); rintro e w1 ⟨rfl, hb1⟩)
        go_ret
        exact ⟨⟨_, rfl, by rw [HV.out]; simp⟩, HB.out.trans (hb1.mono HB.out.size)⟩
      | false =>
        have HI2 := Lib.hid (hst.out rfl)
        have HW1 : Hid (wrap64 ((i : Int) + 1) = (i : Int) + 1) := by unfold Hid wrap64; omega
        clear hst hyi
        go_wp2_with (go_at_call 165; (with_reducible refine c1.out.mono ?_); rintro e w1 ⟨rfl, hb1⟩)
        go_roundw
        case rel => exact ⟨i + 1, by omega, by go_num, HI2, HB.out.trans (hb1.mono HB.out.size)⟩
        case measure => simp [intOf]; omega
    · have k1 : ¬ (i : Int) < (n : Int) := by omega
      have k2 : decide (i < n) = false := by simp; omega
      have HV := Lib.hid (hN.out (fun j h => HI.out j h (by rw [HNN.out] at h; omega)))
      go_wp2_with fail
      go_ret
      exact ⟨⟨_, rfl, by rw [HV.out]; decide⟩, HB.out⟩
theorem conF_any (q : Fm → Bool) (l : List Fm) (a : Option Addr) (cap : Nat) (hs : l.length ≤ 1000000) (w : World) (hS : AtF w w.heap.size a l)
    (cF : ∀ i (h : i < l.length) (X : World), Below w.heap.size w X → Calls Tryd.prog 165 #[.agg #[.string l[i].ty, .string l[i].ve]] X fun r w' => r = .returned (.bool (q l[i])) ∧ Below X.heap.size X w') :
    Calls Tryd.prog 164 #[.slice a l.length cap, .func (.func 165) #[] #[]] w fun e w' => e = .returned (.bool (l.any q)) ∧ Below w.heap.size w w' := by
  have c1 := Lib.hid (idxF_any q l a cap hs w hS cF)
  generalize l.any q = v at *
  clear hS cF
  generalize l.length = n at *
  go_enter Tryd.func164, Tryd.ntmps164
  go_wp2_with (go_at_call 192; refine c1.out.mono ?_; rintro e w1 ⟨⟨r, rfl, hr⟩, hb1⟩)
  go_ret
  exact ⟨by rw [← hr]; rfl, hb1⟩
set_option maxRecDepth 100000 in
set_option maxHeartbeats 4000000 in
theorem idxK_any (q : Int → Bool) (l : List Int) (a : Option Addr) (cap : Nat) (hs : l.length ≤ 1000000) (w : World) (hS : AtI w w.heap.size a l)
    (cF : ∀ i (h : i < l.length) (X : World), Below w.heap.size w X → Calls Tryd.prog 133 #[.int .i64 l[i]] X fun r w' => r = .returned (.bool (q l[i])) ∧ w' = X) :
    Calls Tryd.prog 156 #[.slice a l.length cap, .func (.func 133) #[] #[]] w fun e w' => (∃ r : Int, e = .returned (.int .i64 r) ∧ decide (0 ≤ r) = l.any q) ∧ Below w.heap.size w w' := by
  have hY : Hid (∀ i (h : i < l.length), q l[i] = true → l.any q = true) := fun i h hp => List.any_eq_true.2 ⟨l[i], List.getElem_mem h, hp⟩
  have hN : Hid ((∀ i (h : i < l.length), q l[i] = false) → l.any q = false) := fun h => anyB_false h
  generalize l.any q = v at *
  have HS := Lib.hid hS
  have HF := Lib.hid cF
  clear hS cF
  generalize hnn : l.length = n at hs ⊢
  have HNN := Lib.hid hnn
  clear hnn
  have hnl : n ≤ 140737488355328 := Nat.le_trans hs (by decide)
  go_enter Tryd.func156, Tryd.ntmps156
  go_wp2_with fail
  go_loopw [5, 8] (fun _ iv wr => ∃ i : Nat, i ≤ n ∧ iv = .int .i64 (i : Int) ∧ Hid (∀ j (h : j < l.length), j < i → q l[j] = false) ∧ Hid (Below w.heap.size w wr)) (fun _ iv _ => n - (intOf iv).toNat)
  case atStart => exact ⟨0, Nat.zero_le _, rfl, fun _ _ h => absurd h (Nat.not_lt_zero _), Below.refl _ _⟩
  case round =>
    obtain ⟨i, hi, rfl, HI, HB⟩ := hrel
    by_cases hlt : i < n
    · have hil : i < l.length := by rw [HNN.out]; exact hlt
      obtain ⟨b, o, rfl, hbl, hc0⟩ := HS.out i hil
      have c1 := Lib.hid (HF.out i hil wr HB.out)
      have k0 : (0 : Int) ≤ (i : Int) := by omega
      have k1 : (i : Int) < (n : Int) := by omega
      have k2 : decide (i < n) = true := by simp; omega
      have hst : Hid (q l[i] = false → ∀ j (h : j < l.length), j < i + 1 → q l[j] = false) := fun hp j h hj => by
        by_cases e : j = i
        · subst e; exact hp
        · exact HI.out j h (by omega)
      have hyi := Lib.hid (hY.out i hil)
      have hc : wr.rangeAt b (o + i * 1) [.int .i64 l[i]] := fun j u hu => (HB.out.cell (p := ⟨b, o + i * 1 + j, none⟩) hbl).trans (hc0 j u hu)
      have y0 := hc 0 _ rfl
      simp only [Nat.add_zero, Nat.mul_one] at y0
      clear hc0 hc hbl HI
      generalize q l[i] = t at *
      generalize l[i] = x at *
      cases t with
      | true =>
        have HV := Lib.hid (hyi.out rfl)
        clear hst hyi
        go_wp2_with (go_at_call 133; (with_reducible refine c1.out.mono ?_); rintro e w1 ⟨rfl, rfl⟩)
        go_ret
        exact ⟨⟨_, rfl, by rw [HV.out]; simp⟩, HB.out⟩
      | false =>
        have HI2 := Lib.hid (hst.out rfl)
        have HW1 : Hid (wrap64 ((i : Int) + 1) = (i : Int) + 1) := by unfold Hid wrap64; omega
        clear hst hyi
        go_wp2_with (go_at_call 133; (with_reducible refine c1.out.mono ?_); rintro e w1 ⟨rfl, rfl⟩)
        go_roundw
        case rel => exact ⟨i + 1, by omega, by go_num, HI2, HB.out⟩
        case measure => simp [intOf]; omega
    · have k1 : ¬ (i : Int) < (n : Int) := by omega
      have k2 : decide (i < n) = false := by simp; omega
      have HV := Lib.hid (hN.out (fun j h => HI.out j h (by rw [HNN.out] at h; omega)))
      go_wp2_with fail
      go_ret
      exact ⟨⟨_, rfl, by rw [HV.out]; decide⟩, HB.out⟩
theorem conK_any (q : Int → Bool) (l : List Int) (a : Option Addr) (cap : Nat) (hs : l.length ≤ 1000000) (w : World) (hS : AtI w w.heap.size a l)
    (cF : ∀ i (h : i < l.length) (X : World), Below w.heap.size w X → Calls Tryd.prog 133 #[.int .i64 l[i]] X fun r w' => r = .returned (.bool (q l[i])) ∧ w' = X) :
    Calls Tryd.prog 114 #[.slice a l.length cap, .func (.func 133) #[] #[]] w fun e w' => e = .returned (.bool (l.any q)) ∧ Below w.heap.size w w' := by
  have c1 := Lib.hid (idxK_any q l a cap hs w hS cF)
  generalize l.any q = v at *
  clear hS cF
  generalize l.length = n at *
  go_enter Tryd.func114, Tryd.ntmps114
  go_wp2_with (go_at_call 156; refine c1.out.mono ?_; rintro e w1 ⟨⟨r, rfl, hr⟩, hb1⟩)
  go_ret
  exact ⟨by rw [← hr]; rfl, hb1⟩
theorem forms_any (l : List Fm) (a : Option Addr) (cap : Nat) (w : World) (hT : Lib.Utf8Tabs 2 3 w) (hS : AtF w w.heap.size a l) : Calls Tryd.prog 132 #[.slice a l.length cap] w fun r w' => r = .returned (.bool (formsB l)) ∧ Below w.heap.size w w' := by
  cases h0 : decide (1 ≤ (l.length : Int)) with
  | false =>
    have hR : formsB l = false := by unfold formsB; rw [h0]; rfl
    rw [hR]
    clear hR
    generalize l.length = n at *
    go_enter Tryd.func132, Tryd.ntmps132
    go_wp2
    go_ret
    exact ⟨rfl, Below.refl _ _⟩
  | true =>
    cases h1 : decide ((l.length : Int) ≤ 6) with
    | false =>
      have hR : formsB l = false := by unfold formsB; rw [h0, h1]; rfl
      rw [hR]
      clear hR
      generalize l.length = n at *
      go_enter Tryd.func132, Tryd.ntmps132
      go_wp2
      go_ret
      exact ⟨rfl, Below.refl _ _⟩
    | true =>
      have c1 := Lib.hid (conF_any (fun f => !formB f) l a cap (by rw [decide_eq_true_eq] at h1; omega) w hS (fun i h X hX => form_any l[i] X (Utf8Tabs_below hT hX)))
      have hR : formsB l = !(l.any fun f => !formB f) := by unfold formsB; rw [h0, h1]; rfl
      rw [hR]
      clear hR hS
      generalize (l.any fun f => !formB f) = q at *
      generalize l.length = n at *
      go_enter Tryd.func132, Tryd.ntmps132
      go_wp2_with (go_at_call 164; refine c1.out.mono ?_; rintro r w1 ⟨rfl, hb1⟩)
      go_ret
      exact ⟨rfl, hb1⟩
end Go.Proofs.YtgechifbbhipaaaDoor
