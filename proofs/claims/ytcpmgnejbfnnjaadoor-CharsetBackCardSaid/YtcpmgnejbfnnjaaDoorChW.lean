/- charset: Least, both; works. No condition but the text's size and the tables. -/
import Derived.Test.YtcpmgnejbfnnjaaDoorChG
import Derived.Test.YtcpmgnejbfnnjaaDoorChS
import Derived.Test.YtcpmgnejbfnnjaaDoorChQ
namespace Go.Proofs.YtcpmgnejbfnnjaaDoor
open Go.RowKit Go.Shelf

/-- the first charset that has all letters -/
noncomputable def lstV (s : ByteArray) : Int := if (encV 1 s).2 = 0 then 1 else if (encV 2 s).2 = 0 then 2 else if (encV 3 s).2 = 0 then 3 else 0
theorem lst_at {s : ByteArray} {j : Nat} (h1 : 1 ≤ j) (h2 : j ≤ 3) (he : (encV (j : Int) s).2 = 0) (hn : ∀ i : Nat, 1 ≤ i → i < j → (encV (i : Int) s).2 ≠ 0) : lstV s = (j : Int) := by
  unfold lstV
  rcases (show j = 1 ∨ j = 2 ∨ j = 3 by omega) with rfl | rfl | rfl
  · rw [if_pos (show (encV 1 s).2 = 0 from he)]; rfl
  · rw [if_neg (show (encV 1 s).2 ≠ 0 from hn 1 (by omega) (by omega)), if_pos (show (encV 2 s).2 = 0 from he)]; rfl
  · rw [if_neg (show (encV 1 s).2 ≠ 0 from hn 1 (by omega) (by omega)), if_neg (show (encV 2 s).2 ≠ 0 from hn 2 (by omega) (by omega)), if_pos (show (encV 3 s).2 = 0 from he)]; rfl
theorem lst_no {s : ByteArray} (hn : ∀ i : Nat, 1 ≤ i → i < 4 → (encV (i : Int) s).2 ≠ 0) : lstV s = 0 := by
  unfold lstV
  rw [if_neg (show (encV 1 s).2 ≠ 0 from hn 1 (by omega) (by omega)), if_neg (show (encV 2 s).2 ≠ 0 from hn 2 (by omega) (by omega)), if_neg (show (encV 3 s).2 ≠ 0 from hn 3 (by omega) (by omega))]
theorem str_isC (x s : ByteArray) : (x.toList == s.toList) = true ↔ x = s := by
  rw [ByteArray.toList_eq, ByteArray.toList_eq, beq_iff_eq]
  exact ⟨fun h => Go.WideShapes.bytes_inj h, fun h => by rw [h]⟩
theorem bel_nextC {a b c : World} (h : Below a.heap.size a b) (k : Below b.heap.size b c) : Below a.heap.size a c := h.trans (k.mono h.size)

set_option maxRecDepth 100000 in
set_option maxHeartbeats 4000000 in
theorem least_any (s : ByteArray) (hs : s.size ≤ 100000) (w : World) (hT : Lib.Utf8Tabs 0 1 w) : Calls Tryd.prog 19 #[.string s] w fun e w' => e = .returned (.int .i64 (lstV s)) ∧ Below w.heap.size w w' := by
  have HT := Lib.hid hT
  clear hT
  go_enter Tryd.func19, Tryd.ntmps19
  go_wp2_with fail
  go_loopw [3, 4, 5] (fun kv _ _ wr => ∃ j : Nat, 1 ≤ j ∧ j ≤ 4 ∧ kv = .int .i64 (j : Int) ∧ Hid (∀ i : Nat, 1 ≤ i → i < j → (encV (i : Int) s).2 ≠ 0) ∧ Hid (Below w.heap.size w wr)) (fun kv _ _ _ => 4 - (intOf kv).toNat)
  case atStart => exact ⟨1, Nat.le_refl _, by omega, rfl, fun i h1 h2 => by omega, Below.refl _ _⟩
  case round =>
    obtain ⟨j, hj1, hj4, rfl, HN, HB⟩ := hrel
    by_cases h3 : j ≤ 3
    · have k1 : (j : Int) ≤ 3 := by omega
      have cE := Lib.hid (enc_any (j : Int) s hs wr (Utf8Tabs_below HT.out HB.out))
      unfold EncP at cE
      by_cases he : (encV (j : Int) s).2 = 0
      · have HV := Lib.hid (lst_at hj1 h3 he HN.out)
        rw [he] at cE
        generalize encV (j : Int) s = R at *
        clear he HN
        go_wp2_with (go_at_call 17; refine cE.out.mono ?_; rintro e w5 ⟨rfl, hb5⟩)
        go_ret
        exact ⟨by rw [HV.out]; rfl, HB.out.trans (hb5.mono HB.out.size)⟩
      · have HN2 : Hid (∀ i : Nat, 1 ≤ i → i < j + 1 → (encV (i : Int) s).2 ≠ 0) := fun i h1 h2 => by
          by_cases e : i = j
          · subst e; exact he
          · exact HN.out i h1 (by omega)
        generalize encV (j : Int) s = R at *
        obtain ⟨R1, R2⟩ := R
        have hq : (R2 == 0) = false := by rw [beq_eq_false_iff_ne]; exact he
        clear he
        go_wp2_with (go_at_call 17; refine cE.out.mono ?_; rintro e w5 ⟨rfl, hb5⟩)
        go_roundw
        case rel => exact ⟨j + 1, by omega, by omega, by go_num, HN2, HB.out.trans (hb5.mono HB.out.size)⟩
        case measure => simp [intOf]; omega
    · have k1 : ¬ (j : Int) ≤ 3 := by omega
      obtain rfl : j = 4 := by omega
      have HV := Lib.hid (lst_no HN.out)
      go_wp2_with fail
      go_ret
      exact ⟨by rw [HV.out]; rfl, HB.out⟩

set_option maxRecDepth 100000 in
set_option maxHeartbeats 4000000 in
theorem refLeast_any (s : ByteArray) (hs : s.size ≤ 100000) (w : World) : Calls Tryd.prog 20 #[.string s] w fun e w' => e = .returned (.int .i64 (lstV s)) ∧ Below w.heap.size w w' := by
  go_enter Tryd.func20, Tryd.ntmps20
  go_wp2_with fail
  go_loopw [3, 4, 5] (fun kv _ _ wr => ∃ j : Nat, 1 ≤ j ∧ j ≤ 4 ∧ kv = .int .i64 (j : Int) ∧ Hid (∀ i : Nat, 1 ≤ i → i < j → (encV (i : Int) s).2 ≠ 0) ∧ Hid (Below w.heap.size w wr)) (fun kv _ _ _ => 4 - (intOf kv).toNat)
  case atStart => exact ⟨1, Nat.le_refl _, by omega, rfl, fun i h1 h2 => by omega, Below.refl _ _⟩
  case round =>
    obtain ⟨j, hj1, hj4, rfl, HN, HB⟩ := hrel
    by_cases h3 : j ≤ 3
    · have k1 : (j : Int) ≤ 3 := by omega
      have cE := Lib.hid (refEnc_any (j : Int) s hs wr)
      unfold EncP at cE
      by_cases he : (encV (j : Int) s).2 = 0
      · have HV := Lib.hid (lst_at hj1 h3 he HN.out)
        rw [he] at cE
        generalize encV (j : Int) s = R at *
        clear he HN
        go_wp2_with (go_at_call 18; refine cE.out.mono ?_; rintro e w5 ⟨rfl, hb5⟩)
        go_ret
        exact ⟨by rw [HV.out]; rfl, HB.out.trans (hb5.mono HB.out.size)⟩
      · have HN2 : Hid (∀ i : Nat, 1 ≤ i → i < j + 1 → (encV (i : Int) s).2 ≠ 0) := fun i h1 h2 => by
          by_cases e : i = j
          · subst e; exact he
          · exact HN.out i h1 (by omega)
        generalize encV (j : Int) s = R at *
        obtain ⟨R1, R2⟩ := R
        have hq : (R2 == 0) = false := by rw [beq_eq_false_iff_ne]; exact he
        clear he
        go_wp2_with (go_at_call 18; refine cE.out.mono ?_; rintro e w5 ⟨rfl, hb5⟩)
        go_roundw
        case rel => exact ⟨j + 1, by omega, by omega, by go_num, HN2, HB.out.trans (hb5.mono HB.out.size)⟩
        case measure => simp [intOf]; omega
    · have k1 : ¬ (j : Int) ≤ 3 := by omega
      obtain rfl : j = 4 := by omega
      have HV := Lib.hid (lst_no HN.out)
      go_wp2_with fail
      go_ret
      exact ⟨by rw [HV.out]; rfl, HB.out⟩

theorem dec_e9 : decV 2 { data := #[233] } = ({ data := #[195, 169] }, 0) := by
  unfold decV
  rw [if_neg (by omega), if_neg (by omega), if_pos]
  · show (mkT (decL [233]), (0 : Int)) = _
    rw [decL_cons]; rfl
  · intro i hi _
    have : i = 0 := by have h : i < 1 := hi; omega
    subst this
    exact (by decide : ((233 : Nat) : Int) ≤ 255)
theorem lt_e9 : ltS { data := #[195, 169] } = ([233], true) := by decide +kernel
theorem lt_a : ltS { data := #[97] } = ([97], true) := by decide +kernel
theorem enc_e9 : encV 1 { data := #[195, 169] } = (mkT [], 16) := by
  unfold encV
  rw [if_neg (by omega), lt_e9]
  simp only [Bool.true_eq_false, if_false]
  rw [if_neg (by omega), if_neg]
  intro h
  have := h 233 (by simp)
  exact absurd this (by decide)
theorem lst_a : lstV { data := #[97] } = 1 := by
  unfold lstV
  rw [if_pos]
  unfold encV
  rw [if_neg (by omega), lt_a]
  simp only [Bool.true_eq_false, if_false]
  rw [if_neg (by omega), if_pos]
  intro x hx
  rw [List.mem_singleton] at hx; subst hx; decide

set_option maxRecDepth 100000 in
set_option maxHeartbeats 4000000 in
theorem works_any (w : World) (hT : Lib.Utf8Tabs 0 1 w) : Calls Tryd.prog 21 #[] w fun e w' => e = .returned (.bool true) ∧ Below w.heap.size w w' := by
  have c15 := Lib.hid (fun w h => dec_any 2 { data := #[233] } (by decide) w h)
  have c17 := Lib.hid (fun w h => enc_any 1 { data := #[195, 169] } (by decide) w h)
  have c19 := Lib.hid (fun w h => least_any { data := #[97] } (by decide) w h)
  unfold EncP at c17
  rw [dec_e9] at c15
  rw [enc_e9] at c17
  rw [lst_a] at c19
  go_enter Tryd.func21, Tryd.ntmps21
  go_wp2_with (first | (go_at_call 15; (with_reducible refine (c15.out _ (by assumption)).mono ?_); rintro e w1 ⟨rfl, hb1⟩; have hT1 := Utf8Tabs_below hT hb1) | (go_at_call 17; (with_reducible refine (c17.out _ (by assumption)).mono ?_); rintro e w2 ⟨rfl, hb2⟩; have hT2 := Utf8Tabs_below hT1 hb2) | (go_at_call 19; (with_reducible refine (c19.out _ (by assumption)).mono ?_); rintro e w3 ⟨rfl, hb3⟩))
  go_ret
  exact ⟨rfl, bel_nextC (bel_nextC hb1 hb2) hb3⟩
end Go.Proofs.YtcpmgnejbfnnjaaDoor
