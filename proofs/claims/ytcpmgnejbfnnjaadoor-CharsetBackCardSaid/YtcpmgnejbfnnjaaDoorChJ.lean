/- charset: CharsetTurns and CharsetBack, the walks. No condition but the text's size and the tables. -/
import Derived.Test.YtcpmgnejbfnnjaaDoorChW
namespace Go.Proofs.YtcpmgnejbfnnjaaDoor
open Go.RowKit Go.Shelf

set_option maxRecDepth 100000 in
set_option maxHeartbeats 4000000 in
theorem turns_walk (k : Int) (s : ByteArray) (w : World) (hT : Lib.Utf8Tabs 0 1 w) : Calls Tryd.prog 5 #[.int .i64 k, .string s] w fun e w' => e = .returned (.bool true) ∧ Below w.heap.size w w' := by
  by_cases hbig : 2000 < s.size
  · have hbig' : (2000 : Int) < s.size := by omega
    go_enter Tryd.func5, Tryd.ntmps5
    go_wp2
    go_ret
    exact ⟨rfl, Below.refl _ _⟩
  · have hbig' : ¬ (2000 : Int) < s.size := by omega
    have hs : s.size ≤ 100000 := by omega
    have c15 := Lib.hid (fun w h => dec_any k s hs w h)
    have c16 := Lib.hid (fun w => refDecode_any k s hs w)
    have c17 := Lib.hid (fun w h => enc_any k s hs w h)
    have c18 := Lib.hid (fun w => refEnc_any k s hs w)
    have c19 := Lib.hid (fun w h => least_any s hs w h)
    have c20 := Lib.hid (fun w => refLeast_any s hs w)
    unfold EncP at c17 c18
    generalize decV k s = D at *
    generalize encV k s = E at *
    generalize lstV s = l at *
    obtain ⟨D1, D2⟩ := D
    obtain ⟨E1, E2⟩ := E
    have q1 := (str_isC D1 D1).2 rfl
    have q2 := (str_isC E1 E1).2 rfl
    have hB0 : Below w.heap.size w w := Below.refl _ _
    go_enter Tryd.func5, Tryd.ntmps5
    go_wp2_with (first | (go_at_call 15; (first | (with_reducible refine (c15.out _ (by assumption)).mono ?_)); rintro e w1 ⟨rfl, hb1⟩; have hT1 := Utf8Tabs_below (by assumption) hb1; have hB1 : Below w.heap.size w w1 := bel_nextC (by assumption) hb1) | (go_at_call 16; (first | (with_reducible refine (c16.out _).mono ?_)); rintro e w1 ⟨rfl, hb1⟩; have hT1 := Utf8Tabs_below (by assumption) hb1; have hB1 : Below w.heap.size w w1 := bel_nextC (by assumption) hb1) | (go_at_call 17; (first | (with_reducible refine (c17.out _ (by assumption)).mono ?_)); rintro e w1 ⟨rfl, hb1⟩; have hT1 := Utf8Tabs_below (by assumption) hb1; have hB1 : Below w.heap.size w w1 := bel_nextC (by assumption) hb1) | (go_at_call 18; (first | (with_reducible refine (c18.out _).mono ?_)); rintro e w1 ⟨rfl, hb1⟩; have hT1 := Utf8Tabs_below (by assumption) hb1; have hB1 : Below w.heap.size w w1 := bel_nextC (by assumption) hb1) | (go_at_call 19; (first | (with_reducible refine (c19.out _ (by assumption)).mono ?_)); rintro e w1 ⟨rfl, hb1⟩; have hT1 := Utf8Tabs_below (by assumption) hb1; have hB1 : Below w.heap.size w w1 := bel_nextC (by assumption) hb1) | (go_at_call 20; (first | (with_reducible refine (c20.out _).mono ?_)); rintro e w1 ⟨rfl, hb1⟩; have hT1 := Utf8Tabs_below (by assumption) hb1; have hB1 : Below w.heap.size w w1 := bel_nextC (by assumption) hb1))
    go_ret
    exact ⟨rfl, by assumption⟩

theorem enc_size (k : Int) (s : ByteArray) : (encV k s).1.size ≤ s.size := by
  have h := ltS_len s
  unfold encV
  repeat' split
  all_goals (first | (show 0 ≤ _; omega) | exact Nat.le_refl _ | (rw [mkT_size, List.length_map]; exact h) | exact Nat.zero_le _)
theorem dec_size (k : Int) (s : ByteArray) : (decV k s).1.size ≤ 4 * s.size := by
  have h := decL_len s.data.toList
  rw [len_toList] at h
  unfold decV
  repeat' split
  all_goals (first | (rw [mkT_size]; exact h) | (show s.size ≤ _; omega) | exact Nat.zero_le _)

set_option maxRecDepth 100000 in
set_option maxHeartbeats 4000000 in
theorem back_walk (k : Int) (s : ByteArray) (w : World) (hT : Lib.Utf8Tabs 0 1 w) : Calls Tryd.prog 6 #[.int .i64 k, .string s] w fun e w' => e = .returned (.bool true) ∧ Below w.heap.size w w' := by
  have c21 := Lib.hid (fun w h => works_any w h)
  have hB0 : Below w.heap.size w w := Below.refl _ _
  by_cases hbig : 2000 < s.size
  · have hbig' : (2000 : Int) < s.size := by omega
    go_enter Tryd.func6, Tryd.ntmps6
    go_wp2_with (first | (go_at_call 21; (first | (with_reducible refine (c21.out _ (by assumption)).mono ?_)); rintro e w1 ⟨rfl, hb1⟩; have hT1 := Utf8Tabs_below (by assumption) hb1; have hB1 : Below w.heap.size w w1 := bel_nextC (by assumption) hb1))
    go_ret
    exact ⟨rfl, by assumption⟩
  · have hbig' : ¬ (2000 : Int) < s.size := by omega
    have hs : s.size ≤ 100000 := by omega
    have z1 := enc_size k s
    have z2 := dec_size k s
    have c15 := Lib.hid (fun w h => dec_any k s hs w h)
    have c17 := Lib.hid (fun w h => enc_any k s hs w h)
    have c15b := Lib.hid (fun w h => dec_any k (encV k s).1 (by omega) w h)
    have c17b := Lib.hid (fun w h => enc_any k (decV k s).1 (by omega) w h)
    have c11 := Lib.hid (fun w h => valid_any (decV k s).1 (by omega) w h)
    unfold EncP at c17 c17b
    have H1 : Hid ((encV k s).2 = 0 → decV k (encV k s).1 = (s, 0)) := enc_dec k s
    have H2 : Hid ((decV k s).2 = 0 → encV k (decV k s).1 = (s, 0) ∧ (ltS (decV k s).1).2 = true) := dec_enc k s
    have q1 := (str_isC s s).2 rfl
    clear z1 z2
    by_cases h1 : (encV k s).2 = 0
    · rw [H1.out h1] at c15b
      rw [h1] at c17
      clear h1
      by_cases h2 : (decV k s).2 = 0
      · obtain ⟨e1, e2⟩ := H2.out h2
        rw [e1] at c17b
        rw [e2] at c11
        rw [h2] at c15
        clear H1 H2 h2 e1 e2
        generalize (encV k s).1 = b at *
        generalize (decV k s).1 = t at *
        go_enter Tryd.func6, Tryd.ntmps6
        go_wp2_with (first | (go_at_call 15; (first | (with_reducible refine (c15.out _ (by assumption)).mono ?_) | (with_reducible refine (c15b.out _ (by assumption)).mono ?_)); rintro e w1 ⟨rfl, hb1⟩; have hT1 := Utf8Tabs_below (by assumption) hb1; have hB1 : Below w.heap.size w w1 := bel_nextC (by assumption) hb1) | (go_at_call 17; (first | (with_reducible refine (c17.out _ (by assumption)).mono ?_) | (with_reducible refine (c17b.out _ (by assumption)).mono ?_)); rintro e w1 ⟨rfl, hb1⟩; have hT1 := Utf8Tabs_below (by assumption) hb1; have hB1 : Below w.heap.size w w1 := bel_nextC (by assumption) hb1) | (go_at_call 21; (first | (with_reducible refine (c21.out _ (by assumption)).mono ?_)); rintro e w1 ⟨rfl, hb1⟩; have hT1 := Utf8Tabs_below (by assumption) hb1; have hB1 : Below w.heap.size w w1 := bel_nextC (by assumption) hb1) | (go_at_call 11; (first | (with_reducible refine (c11.out _ (by assumption)).mono ?_)); rintro e w1 ⟨rfl, hb1⟩; have hT1 := Utf8Tabs_below (by assumption) hb1; have hB1 : Below w.heap.size w w1 := bel_nextC (by assumption) hb1))
        go_ret
        exact ⟨rfl, by assumption⟩
      · clear H1 H2 c17b c11
        generalize (encV k s).1 = b at *
        generalize (decV k s).1 = t at *
        generalize (decV k s).2 = f at *
        have hq : (f == 0) = false := by rw [beq_eq_false_iff_ne]; exact h2
        have hq2 : (f != 0) = true := by rw [bne_iff_ne]; exact h2
        clear h2
        go_enter Tryd.func6, Tryd.ntmps6
        go_wp2_with (first | (go_at_call 15; (first | (with_reducible refine (c15.out _ (by assumption)).mono ?_) | (with_reducible refine (c15b.out _ (by assumption)).mono ?_)); rintro e w1 ⟨rfl, hb1⟩; have hT1 := Utf8Tabs_below (by assumption) hb1; have hB1 : Below w.heap.size w w1 := bel_nextC (by assumption) hb1) | (go_at_call 17; (first | (with_reducible refine (c17.out _ (by assumption)).mono ?_)); rintro e w1 ⟨rfl, hb1⟩; have hT1 := Utf8Tabs_below (by assumption) hb1; have hB1 : Below w.heap.size w w1 := bel_nextC (by assumption) hb1) | (go_at_call 21; (first | (with_reducible refine (c21.out _ (by assumption)).mono ?_)); rintro e w1 ⟨rfl, hb1⟩; have hT1 := Utf8Tabs_below (by assumption) hb1; have hB1 : Below w.heap.size w w1 := bel_nextC (by assumption) hb1))
        go_ret
        exact ⟨rfl, by assumption⟩
    · clear H1 c15b
      generalize (encV k s).1 = b at *
      have hq : ((encV k s).2 == 0) = false := by rw [beq_eq_false_iff_ne]; exact h1
      clear h1
      by_cases h2 : (decV k s).2 = 0
      · obtain ⟨e1, e2⟩ := H2.out h2
        rw [e1] at c17b
        rw [e2] at c11
        rw [h2] at c15
        clear H2 h2 e1 e2
        generalize (encV k s).2 = g at *
        generalize (decV k s).1 = t at *
        go_enter Tryd.func6, Tryd.ntmps6
        go_wp2_with (first | (go_at_call 15; (first | (with_reducible refine (c15.out _ (by assumption)).mono ?_)); rintro e w1 ⟨rfl, hb1⟩; have hT1 := Utf8Tabs_below (by assumption) hb1; have hB1 : Below w.heap.size w w1 := bel_nextC (by assumption) hb1) | (go_at_call 17; (first | (with_reducible refine (c17.out _ (by assumption)).mono ?_) | (with_reducible refine (c17b.out _ (by assumption)).mono ?_)); rintro e w1 ⟨rfl, hb1⟩; have hT1 := Utf8Tabs_below (by assumption) hb1; have hB1 : Below w.heap.size w w1 := bel_nextC (by assumption) hb1) | (go_at_call 21; (first | (with_reducible refine (c21.out _ (by assumption)).mono ?_)); rintro e w1 ⟨rfl, hb1⟩; have hT1 := Utf8Tabs_below (by assumption) hb1; have hB1 : Below w.heap.size w w1 := bel_nextC (by assumption) hb1) | (go_at_call 11; (first | (with_reducible refine (c11.out _ (by assumption)).mono ?_)); rintro e w1 ⟨rfl, hb1⟩; have hT1 := Utf8Tabs_below (by assumption) hb1; have hB1 : Below w.heap.size w w1 := bel_nextC (by assumption) hb1))
        go_ret
        exact ⟨rfl, by assumption⟩
      · clear H2 c17b c11
        generalize (encV k s).2 = g at *
        generalize (decV k s).1 = t at *
        generalize (decV k s).2 = f at *
        have hq3 : (f == 0) = false := by rw [beq_eq_false_iff_ne]; exact h2
        have hq2 : (f != 0) = true := by rw [bne_iff_ne]; exact h2
        clear h2
        go_enter Tryd.func6, Tryd.ntmps6
        go_wp2_with (first | (go_at_call 15; (first | (with_reducible refine (c15.out _ (by assumption)).mono ?_)); rintro e w1 ⟨rfl, hb1⟩; have hT1 := Utf8Tabs_below (by assumption) hb1; have hB1 : Below w.heap.size w w1 := bel_nextC (by assumption) hb1) | (go_at_call 17; (first | (with_reducible refine (c17.out _ (by assumption)).mono ?_)); rintro e w1 ⟨rfl, hb1⟩; have hT1 := Utf8Tabs_below (by assumption) hb1; have hB1 : Below w.heap.size w w1 := bel_nextC (by assumption) hb1) | (go_at_call 21; (first | (with_reducible refine (c21.out _ (by assumption)).mono ?_)); rintro e w1 ⟨rfl, hb1⟩; have hT1 := Utf8Tabs_below (by assumption) hb1; have hB1 : Below w.heap.size w w1 := bel_nextC (by assumption) hb1))
        go_ret
        exact ⟨rfl, by assumption⟩
end Go.Proofs.YtcpmgnejbfnnjaaDoor
