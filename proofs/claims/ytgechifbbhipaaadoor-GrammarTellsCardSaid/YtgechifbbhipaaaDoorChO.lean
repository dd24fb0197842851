/- charset: the reference's 'one': the walk. No condition but the text's size. -/
import Derived.Test.YtgechifbbhipaaaDoorChP
set_option linter.unusedVariables false
set_option linter.unusedSimpArgs false
namespace Go.Proofs.YtgechifbbhipaaaDoor
open Go.RowKit

/-- the letter's value behind i bytes -/
def accX (x0 b1 b2 b3 i : Nat) : Nat := if i = 1 then x0 else if i = 2 then 64 * x0 + b1 % 64 else if i = 3 then 64 * (64 * x0 + b1 % 64) + b2 % 64 else 64 * (64 * (64 * x0 + b1 % 64) + b2 % 64) + b3 % 64
theorem tmod_nat (a k : Nat) : ((a : Nat) : Int).tmod ((k : Nat) : Int) = ((a % k : Nat) : Int) := by
  rw [Int.tmod_eq_emod_of_nonneg (by omega)]; omega

set_option maxRecDepth 100000 in
set_option maxHeartbeats 8000000 in
theorem one_any (s : ByteArray) (hs : s.size ≤ 1000000) (w : World) : Calls Tryd.prog 206 #[.string s] w fun e w' => e = .returned (.tuple #[.int .i64 ((oneV s).1 : Int), .int .i64 ((oneV s).2 : Int)]) ∧ w = w' := by
  by_cases hz : s.size = 0
  · have hne : s.toList.isEmpty = true := by
      rw [ByteArray.toList_eq, List.isEmpty_iff]; exact List.eq_nil_of_length_eq_zero (by rw [len_toList]; exact hz)
    have hR : oneV s = (0, 0) := by unfold oneV; rw [if_pos hz]
    rw [hR]
    go_enter Tryd.func206, Tryd.ntmps206
    go_wp2
    go_ret2
    exact ⟨rfl, rfl⟩
  · have hne := not_empty s hz
    have h0 : ∀ w : World, (Instr.index 9 (.string s) (.int .i64 0)).run Tryd.prog w = .ok (.int .u8 (gb s 0 : Int)) w := fun w => run_gb s 0 (by omega) w
    have HRd := Lib.hid (fun i (h : i < s.size) w => run_gb s i h w)
    have hv := oneV_eq s hz
    have hlt0 := gb_lt s 0
    rw [hv]
    clear hv
    generalize hc : gb s 0 = c at *
    by_cases c0 : c < 128
    · have c0' : (c : Int) < 128 := by omega
      have hR : oneN s.size c (gb s 1) (gb s 2) (gb s 3) = (c, 1) := by rw [oneN, if_pos c0]
      rw [hR]
      clear hR
      go_enter Tryd.func206, Tryd.ntmps206
      go_wp2
      go_ret2
      exact ⟨rfl, rfl⟩
    have d0 : decide ((c : Int) < 128) = false := by simp; omega
    have d0' : ¬ (c : Int) < 128 := by omega
    by_cases c2 : 192 ≤ c ∧ c < 224
    · obtain ⟨a1, a2⟩ := c2
      have i1 : (192 : Int) ≤ (c : Int) := by omega
      have i2 : (c : Int) < 224 := by omega
      skip
      have ht : (c : Int).tmod 32 = ((c % 32 : Nat) : Int) := tmod_nat c 32
      have g1 := gb_lt s 1
      have g2 := gb_lt s 2
      have g3 := gb_lt s 3
      have HSm : Hid (s.size < 2 → oneN s.size c (gb s 1) (gb s 2) (gb s 3) = (0, 0)) := fun h => by
        unfold oneN; rw [if_neg c0, if_pos ⟨a1, a2⟩, if_neg (by omega)]
      have HNo : Hid (∀ j, 1 ≤ j → j < 2 → gb s j / 64 ≠ 2 → oneN s.size c (gb s 1) (gb s 2) (gb s 3) = (0, 0)) := fun j h1 h2 h3 => by
        unfold oneN; rw [if_neg c0, if_pos ⟨a1, a2⟩, if_neg]
        rcases (show j = 1 by omega) with rfl <;> omega
      have HFi : Hid (∀ x, x = accX (c % 32) (gb s 1) (gb s 2) (gb s 3) 2 → ¬ s.size < 2 → (∀ j, 1 ≤ j → j < 2 → gb s j / 64 = 2) → oneN s.size c (gb s 1) (gb s 2) (gb s 3) = if 128 ≤ x ∧ ¬ (55296 ≤ x ∧ x < 57344) ∧ x ≤ 1114111 then (x, 2) else (0, 0)) := fun x hx hn hj => by
        have j1 := hj 1 (by omega) (by omega)
        skip
        skip
        simp only [accX, Nat.reduceEqDiff, if_false, if_true] at hx
        unfold oneN; rw [if_neg c0, if_pos ⟨a1, a2⟩]
        split
        · rw [if_pos (by omega), hx]
        · rw [if_neg (by omega)]
      have HSt : Hid (∀ x i, x = accX (c % 32) (gb s 1) (gb s 2) (gb s 3) i → 1 ≤ i → i < 2 → 64 * x + gb s i % 64 = accX (c % 32) (gb s 1) (gb s 2) (gb s 3) (i + 1) ∧ x ≤ 262143) := fun x i hx h1 h2 => by
        rcases (show i = 1 by omega) with rfl <;> simp only [accX, Nat.reduceEqDiff, Nat.reduceAdd, if_false, if_true] at hx ⊢ <;> omega
      by_cases hsz : s.size < 2
      · have hsz' : (s.size : Int) < 2 := by omega
        have hG := Lib.hid (HSm.out hsz)
        clear HSm HNo HFi HSt g1 g2 g3
        go_enter Tryd.func206, Tryd.ntmps206
        go_wp2_with fail
        go_ret2
        exact ⟨by rw [hG.out]; rfl, rfl⟩
      · have hsz' : ¬ (s.size : Int) < 2 := by omega
        have HS := Lib.hid hsz
        clear HSm g1 g2 g3 hs
        go_enter Tryd.func206, Tryd.ntmps206
        go_wp2_with fail
        go_loopw [6, 8] (fun xv iv wr => ∃ (x i : Nat), 1 ≤ i ∧ i ≤ 2 ∧ iv = .int .i64 i ∧ xv = .int .i64 x ∧ Hid (x = accX (c % 32) (gb s 1) (gb s 2) (gb s 3) i) ∧ Hid (∀ j, 1 ≤ j → j < i → gb s j / 64 = 2) ∧ wr = w) (fun _ iv _ => 2 - (intOf iv).toNat)
        case atStart => exact ⟨c % 32, 1, by omega, by omega, rfl, by push_cast; rfl, by simp [Hid, accX], fun j h1 h2 => by omega, rfl⟩
        case round =>
          obtain ⟨x, i, hi1, hi2, rfl, rfl, HX, HC, rfl⟩ := hrel
          clear ht h0
          by_cases hin : i < 2
          · have hin' : (i : Int) < 2 := by omega
            have hrd := HRd.out i (by omega)
            obtain ⟨hst, hxb⟩ := HSt.out x i HX.out hi1 hin
            have HST := Lib.hid hst
            have gi := gb_lt s i
            have HN1 := Lib.hid (HNo.out i hi1 hin)
            have hc1 : Hid (gb s i / 64 = 2 → ∀ j, 1 ≤ j → j < i + 1 → gb s j / 64 = 2) := fun h j h1 h2 => by
              by_cases hji : j = i
              · rw [hji]; exact h
              · exact HC.out j h1 (by omega)
            clear hst
            generalize gb s i = b at *
            have htm : (b : Int).tmod 64 = ((b % 64 : Nat) : Int) := tmod_nat b 64
            by_cases hct : b / 64 = 2
            · have q1 : ¬ (b : Int) < 128 := by omega
              have q2 : ¬ (192 : Int) ≤ (b : Int) := by omega
              have q3 : ¬ b < 128 := by omega
              have q4 : ¬ 192 ≤ b := by omega
              have HCn := Lib.hid (hc1.out hct)
              clear hc1 HN1
              go_wp2_with fail
              go_roundw
              case rel => exact ⟨64 * x + b % 64, i + 1, by omega, by omega, by go_num, by go_num, HST.out, HCn.out, trivial⟩
              case measure => simp [intOf]; omega
            · have hG := Lib.hid (HN1.out hct)
              clear hc1 HN1 HST
              by_cases q3 : b < 128
              · have q1 : (b : Int) < 128 := by omega
                go_wp2_with fail
                go_ret2
                exact ⟨by rw [hG.out]; rfl, rfl⟩
              · have q1 : ¬ (b : Int) < 128 := by omega
                have q2 : (192 : Int) ≤ (b : Int) := by omega
                have q4 : 192 ≤ b := by omega
                go_wp2_with fail
                go_ret2
                exact ⟨by rw [hG.out]; rfl, rfl⟩
          · have hin' : ¬ (i : Int) < 2 := by omega
            obtain rfl : i = 2 := by omega
            have hF := HFi.out x HX.out HS.out HC.out
            clear HFi HX HC HSt HNo HRd
            by_cases z1 : x < 128
            · have y1 : (x : Int) < 128 := by omega
              have hG := Lib.hid (show oneN s.size c (gb s 1) (gb s 2) (gb s 3) = (0, 0) from by rw [hF, if_neg (by omega)])
              clear hF
              go_wp2
              go_ret2
              exact ⟨by rw [hG.out]; rfl, rfl⟩
            · have y1 : ¬ (x : Int) < 128 := by omega
              by_cases z2 : 55296 ≤ x
              · have y2 : (55296 : Int) ≤ (x : Int) := by omega
                by_cases z3 : x < 57344
                · have y3 : (x : Int) < 57344 := by omega
                  have hG := Lib.hid (show oneN s.size c (gb s 1) (gb s 2) (gb s 3) = (0, 0) from by rw [hF, if_neg (by omega)])
                  clear hF
                  go_wp2
                  go_ret2
                  exact ⟨by rw [hG.out]; rfl, rfl⟩
                · have y3 : ¬ (x : Int) < 57344 := by omega
                  by_cases z4 : 1114111 < x
                  · have y4 : (1114111 : Int) < (x : Int) := by omega
                    have hG := Lib.hid (show oneN s.size c (gb s 1) (gb s 2) (gb s 3) = (0, 0) from by rw [hF, if_neg (by omega)])
                    clear hF
                    go_wp2
                    go_ret2
                    exact ⟨by rw [hG.out]; rfl, rfl⟩
                  · have y4 : ¬ (1114111 : Int) < (x : Int) := by omega
                    have hG := Lib.hid (show oneN s.size c (gb s 1) (gb s 2) (gb s 3) = (x, 2) from by rw [hF, if_pos (by omega)])
                    clear hF
                    go_wp2
                    go_ret2
                    exact ⟨by rw [hG.out]; rfl, rfl⟩
              · have y2 : ¬ (55296 : Int) ≤ (x : Int) := by omega
                have z4 : ¬ 1114111 < x := by omega
                have y4 : ¬ (1114111 : Int) < (x : Int) := by omega
                have hG := Lib.hid (show oneN s.size c (gb s 1) (gb s 2) (gb s 3) = (x, 2) from by rw [hF, if_pos (by omega)])
                clear hF
                go_wp2
                go_ret2
                exact ⟨by rw [hG.out]; rfl, rfl⟩
    have e2 : ¬ ((192 : Int) ≤ (c : Int) ∧ (c : Int) < 224) := by omega
    by_cases c3 : 224 ≤ c ∧ c < 240
    · obtain ⟨a1, a2⟩ := c3
      have i1 : (224 : Int) ≤ (c : Int) := by omega
      have i2 : (c : Int) < 240 := by omega
      have x1 : (192 : Int) ≤ (c : Int) := by omega
      have x2 : ¬ (c : Int) < 224 := by omega
      have x3 : 192 ≤ c := by omega
      have x4 : ¬ c < 224 := by omega
      have ht : (c : Int).tmod 16 = ((c % 16 : Nat) : Int) := tmod_nat c 16
      have g1 := gb_lt s 1
      have g2 := gb_lt s 2
      have g3 := gb_lt s 3
      have HSm : Hid (s.size < 3 → oneN s.size c (gb s 1) (gb s 2) (gb s 3) = (0, 0)) := fun h => by
        unfold oneN; rw [if_neg c0, if_neg c2, if_pos ⟨a1, a2⟩, if_neg (by omega)]
      have HNo : Hid (∀ j, 1 ≤ j → j < 3 → gb s j / 64 ≠ 2 → oneN s.size c (gb s 1) (gb s 2) (gb s 3) = (0, 0)) := fun j h1 h2 h3 => by
        unfold oneN; rw [if_neg c0, if_neg c2, if_pos ⟨a1, a2⟩, if_neg]
        rcases (show j = 1 ∨ j = 2 by omega) with rfl|rfl <;> omega
      have HFi : Hid (∀ x, x = accX (c % 16) (gb s 1) (gb s 2) (gb s 3) 3 → ¬ s.size < 3 → (∀ j, 1 ≤ j → j < 3 → gb s j / 64 = 2) → oneN s.size c (gb s 1) (gb s 2) (gb s 3) = if 2048 ≤ x ∧ ¬ (55296 ≤ x ∧ x < 57344) ∧ x ≤ 1114111 then (x, 3) else (0, 0)) := fun x hx hn hj => by
        have j1 := hj 1 (by omega) (by omega)
        have j2 := hj 2 (by omega) (by omega)
        skip
        simp only [accX, Nat.reduceEqDiff, if_false, if_true] at hx
        unfold oneN; rw [if_neg c0, if_neg c2, if_pos ⟨a1, a2⟩]
        split
        · rw [if_pos (by omega), hx]
        · rw [if_neg (by omega)]
      have HSt : Hid (∀ x i, x = accX (c % 16) (gb s 1) (gb s 2) (gb s 3) i → 1 ≤ i → i < 3 → 64 * x + gb s i % 64 = accX (c % 16) (gb s 1) (gb s 2) (gb s 3) (i + 1) ∧ x ≤ 262143) := fun x i hx h1 h2 => by
        rcases (show i = 1 ∨ i = 2 by omega) with rfl|rfl <;> simp only [accX, Nat.reduceEqDiff, Nat.reduceAdd, if_false, if_true] at hx ⊢ <;> omega
      by_cases hsz : s.size < 3
      · have hsz' : (s.size : Int) < 3 := by omega
        have hG := Lib.hid (HSm.out hsz)
        clear HSm HNo HFi HSt g1 g2 g3
        go_enter Tryd.func206, Tryd.ntmps206
        go_wp2_with fail
        go_ret2
        exact ⟨by rw [hG.out]; rfl, rfl⟩
      · have hsz' : ¬ (s.size : Int) < 3 := by omega
        have HS := Lib.hid hsz
        clear HSm g1 g2 g3 hs
        go_enter Tryd.func206, Tryd.ntmps206
        go_wp2_with fail
        go_loopw [6, 8] (fun xv iv wr => ∃ (x i : Nat), 1 ≤ i ∧ i ≤ 3 ∧ iv = .int .i64 i ∧ xv = .int .i64 x ∧ Hid (x = accX (c % 16) (gb s 1) (gb s 2) (gb s 3) i) ∧ Hid (∀ j, 1 ≤ j → j < i → gb s j / 64 = 2) ∧ wr = w) (fun _ iv _ => 3 - (intOf iv).toNat)
        case atStart => exact ⟨c % 16, 1, by omega, by omega, rfl, by push_cast; rfl, by simp [Hid, accX], fun j h1 h2 => by omega, rfl⟩
        case round =>
          obtain ⟨x, i, hi1, hi2, rfl, rfl, HX, HC, rfl⟩ := hrel
          clear ht h0
          by_cases hin : i < 3
          · have hin' : (i : Int) < 3 := by omega
            have hrd := HRd.out i (by omega)
            obtain ⟨hst, hxb⟩ := HSt.out x i HX.out hi1 hin
            have HST := Lib.hid hst
            have gi := gb_lt s i
            have HN1 := Lib.hid (HNo.out i hi1 hin)
            have hc1 : Hid (gb s i / 64 = 2 → ∀ j, 1 ≤ j → j < i + 1 → gb s j / 64 = 2) := fun h j h1 h2 => by
              by_cases hji : j = i
              · rw [hji]; exact h
              · exact HC.out j h1 (by omega)
            clear hst
            generalize gb s i = b at *
            have htm : (b : Int).tmod 64 = ((b % 64 : Nat) : Int) := tmod_nat b 64
            by_cases hct : b / 64 = 2
            · have q1 : ¬ (b : Int) < 128 := by omega
              have q2 : ¬ (192 : Int) ≤ (b : Int) := by omega
              have q3 : ¬ b < 128 := by omega
              have q4 : ¬ 192 ≤ b := by omega
              have HCn := Lib.hid (hc1.out hct)
              clear hc1 HN1
              go_wp2_with fail
              go_roundw
              case rel => exact ⟨64 * x + b % 64, i + 1, by omega, by omega, by go_num, by go_num, HST.out, HCn.out, trivial⟩
              case measure => simp [intOf]; omega
            · have hG := Lib.hid (HN1.out hct)
              clear hc1 HN1 HST
              by_cases q3 : b < 128
              · have q1 : (b : Int) < 128 := by omega
                go_wp2_with fail
                go_ret2
                exact ⟨by rw [hG.out]; rfl, rfl⟩
              · have q1 : ¬ (b : Int) < 128 := by omega
                have q2 : (192 : Int) ≤ (b : Int) := by omega
                have q4 : 192 ≤ b := by omega
                go_wp2_with fail
                go_ret2
                exact ⟨by rw [hG.out]; rfl, rfl⟩
          · have hin' : ¬ (i : Int) < 3 := by omega
            obtain rfl : i = 3 := by omega
            have hF := HFi.out x HX.out HS.out HC.out
            clear HFi HX HC HSt HNo HRd
            by_cases z1 : x < 2048
            · have y1 : (x : Int) < 2048 := by omega
              have hG := Lib.hid (show oneN s.size c (gb s 1) (gb s 2) (gb s 3) = (0, 0) from by rw [hF, if_neg (by omega)])
              clear hF
              go_wp2
              go_ret2
              exact ⟨by rw [hG.out]; rfl, rfl⟩
            · have y1 : ¬ (x : Int) < 2048 := by omega
              by_cases z2 : 55296 ≤ x
              · have y2 : (55296 : Int) ≤ (x : Int) := by omega
                by_cases z3 : x < 57344
                · have y3 : (x : Int) < 57344 := by omega
                  have hG := Lib.hid (show oneN s.size c (gb s 1) (gb s 2) (gb s 3) = (0, 0) from by rw [hF, if_neg (by omega)])
                  clear hF
                  go_wp2
                  go_ret2
                  exact ⟨by rw [hG.out]; rfl, rfl⟩
                · have y3 : ¬ (x : Int) < 57344 := by omega
                  by_cases z4 : 1114111 < x
                  · have y4 : (1114111 : Int) < (x : Int) := by omega
                    have hG := Lib.hid (show oneN s.size c (gb s 1) (gb s 2) (gb s 3) = (0, 0) from by rw [hF, if_neg (by omega)])
                    clear hF
                    go_wp2
                    go_ret2
                    exact ⟨by rw [hG.out]; rfl, rfl⟩
                  · have y4 : ¬ (1114111 : Int) < (x : Int) := by omega
                    have hG := Lib.hid (show oneN s.size c (gb s 1) (gb s 2) (gb s 3) = (x, 3) from by rw [hF, if_pos (by omega)])
                    clear hF
                    go_wp2
                    go_ret2
                    exact ⟨by rw [hG.out]; rfl, rfl⟩
              · have y2 : ¬ (55296 : Int) ≤ (x : Int) := by omega
                have z4 : ¬ 1114111 < x := by omega
                have y4 : ¬ (1114111 : Int) < (x : Int) := by omega
                have hG := Lib.hid (show oneN s.size c (gb s 1) (gb s 2) (gb s 3) = (x, 3) from by rw [hF, if_pos (by omega)])
                clear hF
                go_wp2
                go_ret2
                exact ⟨by rw [hG.out]; rfl, rfl⟩
    have e3 : ¬ ((224 : Int) ≤ (c : Int) ∧ (c : Int) < 240) := by omega
    by_cases c4 : 240 ≤ c ∧ c < 248
    · obtain ⟨a1, a2⟩ := c4
      have i1 : (240 : Int) ≤ (c : Int) := by omega
      have i2 : (c : Int) < 248 := by omega
      have x1 : (192 : Int) ≤ (c : Int) := by omega
      have x2 : ¬ (c : Int) < 224 := by omega
      have x3 : 192 ≤ c := by omega
      have x4 : ¬ c < 224 := by omega
      have x5 : (224 : Int) ≤ (c : Int) := by omega
      have x6 : ¬ (c : Int) < 240 := by omega
      have x7 : 224 ≤ c := by omega
      have x8 : ¬ c < 240 := by omega
      have ht : (c : Int).tmod 8 = ((c % 8 : Nat) : Int) := tmod_nat c 8
      have g1 := gb_lt s 1
      have g2 := gb_lt s 2
      have g3 := gb_lt s 3
      have HSm : Hid (s.size < 4 → oneN s.size c (gb s 1) (gb s 2) (gb s 3) = (0, 0)) := fun h => by
        unfold oneN; rw [if_neg c0, if_neg c2, if_neg c3, if_pos ⟨a1, a2⟩, if_neg (by omega)]
      have HNo : Hid (∀ j, 1 ≤ j → j < 4 → gb s j / 64 ≠ 2 → oneN s.size c (gb s 1) (gb s 2) (gb s 3) = (0, 0)) := fun j h1 h2 h3 => by
        unfold oneN; rw [if_neg c0, if_neg c2, if_neg c3, if_pos ⟨a1, a2⟩, if_neg]
        rcases (show j = 1 ∨ j = 2 ∨ j = 3 by omega) with rfl|rfl|rfl <;> omega
      have HFi : Hid (∀ x, x = accX (c % 8) (gb s 1) (gb s 2) (gb s 3) 4 → ¬ s.size < 4 → (∀ j, 1 ≤ j → j < 4 → gb s j / 64 = 2) → oneN s.size c (gb s 1) (gb s 2) (gb s 3) = if 65536 ≤ x ∧ ¬ (55296 ≤ x ∧ x < 57344) ∧ x ≤ 1114111 then (x, 4) else (0, 0)) := fun x hx hn hj => by
        have j1 := hj 1 (by omega) (by omega)
        have j2 := hj 2 (by omega) (by omega)
        have j3 := hj 3 (by omega) (by omega)
        simp only [accX, Nat.reduceEqDiff, if_false, if_true] at hx
        unfold oneN; rw [if_neg c0, if_neg c2, if_neg c3, if_pos ⟨a1, a2⟩]
        split
        · rw [if_pos (by omega), hx]
        · rw [if_neg (by omega)]
      have HSt : Hid (∀ x i, x = accX (c % 8) (gb s 1) (gb s 2) (gb s 3) i → 1 ≤ i → i < 4 → 64 * x + gb s i % 64 = accX (c % 8) (gb s 1) (gb s 2) (gb s 3) (i + 1) ∧ x ≤ 262143) := fun x i hx h1 h2 => by
        rcases (show i = 1 ∨ i = 2 ∨ i = 3 by omega) with rfl|rfl|rfl <;> simp only [accX, Nat.reduceEqDiff, Nat.reduceAdd, if_false, if_true] at hx ⊢ <;> omega
      by_cases hsz : s.size < 4
      · have hsz' : (s.size : Int) < 4 := by omega
        have hG := Lib.hid (HSm.out hsz)
        clear HSm HNo HFi HSt g1 g2 g3
        go_enter Tryd.func206, Tryd.ntmps206
        go_wp2_with fail
        go_ret2
        exact ⟨by rw [hG.out]; rfl, rfl⟩
      · have hsz' : ¬ (s.size : Int) < 4 := by omega
        have HS := Lib.hid hsz
        clear HSm g1 g2 g3 hs
        go_enter Tryd.func206, Tryd.ntmps206
        go_wp2_with fail
        go_loopw [6, 8] (fun xv iv wr => ∃ (x i : Nat), 1 ≤ i ∧ i ≤ 4 ∧ iv = .int .i64 i ∧ xv = .int .i64 x ∧ Hid (x = accX (c % 8) (gb s 1) (gb s 2) (gb s 3) i) ∧ Hid (∀ j, 1 ≤ j → j < i → gb s j / 64 = 2) ∧ wr = w) (fun _ iv _ => 4 - (intOf iv).toNat)
        case atStart => exact ⟨c % 8, 1, by omega, by omega, rfl, by push_cast; rfl, by simp [Hid, accX], fun j h1 h2 => by omega, rfl⟩
        case round =>
          obtain ⟨x, i, hi1, hi2, rfl, rfl, HX, HC, rfl⟩ := hrel
          clear ht h0
          by_cases hin : i < 4
          · have hin' : (i : Int) < 4 := by omega
            have hrd := HRd.out i (by omega)
            obtain ⟨hst, hxb⟩ := HSt.out x i HX.out hi1 hin
            have HST := Lib.hid hst
            have gi := gb_lt s i
            have HN1 := Lib.hid (HNo.out i hi1 hin)
            have hc1 : Hid (gb s i / 64 = 2 → ∀ j, 1 ≤ j → j < i + 1 → gb s j / 64 = 2) := fun h j h1 h2 => by
              by_cases hji : j = i
              · rw [hji]; exact h
              · exact HC.out j h1 (by omega)
            clear hst
            generalize gb s i = b at *
            have htm : (b : Int).tmod 64 = ((b % 64 : Nat) : Int) := tmod_nat b 64
            by_cases hct : b / 64 = 2
            · have q1 : ¬ (b : Int) < 128 := by omega
              have q2 : ¬ (192 : Int) ≤ (b : Int) := by omega
              have q3 : ¬ b < 128 := by omega
              have q4 : ¬ 192 ≤ b := by omega
              have HCn := Lib.hid (hc1.out hct)
              clear hc1 HN1
              go_wp2_with fail
              go_roundw
              case rel => exact ⟨64 * x + b % 64, i + 1, by omega, by omega, by go_num, by go_num, HST.out, HCn.out, trivial⟩
              case measure => simp [intOf]; omega
            · have hG := Lib.hid (HN1.out hct)
              clear hc1 HN1 HST
              by_cases q3 : b < 128
              · have q1 : (b : Int) < 128 := by omega
                go_wp2_with fail
                go_ret2
                exact ⟨by rw [hG.out]; rfl, rfl⟩
              · have q1 : ¬ (b : Int) < 128 := by omega
                have q2 : (192 : Int) ≤ (b : Int) := by omega
                have q4 : 192 ≤ b := by omega
                go_wp2_with fail
                go_ret2
                exact ⟨by rw [hG.out]; rfl, rfl⟩
          · have hin' : ¬ (i : Int) < 4 := by omega
            obtain rfl : i = 4 := by omega
            have hF := HFi.out x HX.out HS.out HC.out
            clear HFi HX HC HSt HNo HRd
            by_cases z1 : x < 65536
            · have y1 : (x : Int) < 65536 := by omega
              have hG := Lib.hid (show oneN s.size c (gb s 1) (gb s 2) (gb s 3) = (0, 0) from by rw [hF, if_neg (by omega)])
              clear hF
              go_wp2
              go_ret2
              exact ⟨by rw [hG.out]; rfl, rfl⟩
            · have y1 : ¬ (x : Int) < 65536 := by omega
              by_cases z2 : 55296 ≤ x
              · have y2 : (55296 : Int) ≤ (x : Int) := by omega
                by_cases z3 : x < 57344
                · have y3 : (x : Int) < 57344 := by omega
                  have hG := Lib.hid (show oneN s.size c (gb s 1) (gb s 2) (gb s 3) = (0, 0) from by rw [hF, if_neg (by omega)])
                  clear hF
                  go_wp2
                  go_ret2
                  exact ⟨by rw [hG.out]; rfl, rfl⟩
                · have y3 : ¬ (x : Int) < 57344 := by omega
                  by_cases z4 : 1114111 < x
                  · have y4 : (1114111 : Int) < (x : Int) := by omega
                    have hG := Lib.hid (show oneN s.size c (gb s 1) (gb s 2) (gb s 3) = (0, 0) from by rw [hF, if_neg (by omega)])
                    clear hF
                    go_wp2
                    go_ret2
                    exact ⟨by rw [hG.out]; rfl, rfl⟩
                  · have y4 : ¬ (1114111 : Int) < (x : Int) := by omega
                    have hG := Lib.hid (show oneN s.size c (gb s 1) (gb s 2) (gb s 3) = (x, 4) from by rw [hF, if_pos (by omega)])
                    clear hF
                    go_wp2
                    go_ret2
                    exact ⟨by rw [hG.out]; rfl, rfl⟩
              · have y2 : ¬ (55296 : Int) ≤ (x : Int) := by omega
                have z4 : ¬ 1114111 < x := by omega
                have y4 : ¬ (1114111 : Int) < (x : Int) := by omega
                have hG := Lib.hid (show oneN s.size c (gb s 1) (gb s 2) (gb s 3) = (x, 4) from by rw [hF, if_pos (by omega)])
                clear hF
                go_wp2
                go_ret2
                exact ⟨by rw [hG.out]; rfl, rfl⟩
    have e4 : ¬ ((240 : Int) ≤ (c : Int) ∧ (c : Int) < 248) := by omega
    have hR : oneN s.size c (gb s 1) (gb s 2) (gb s 3) = (0, 0) := by unfold oneN; rw [if_neg c0, if_neg c2, if_neg c3, if_neg c4]
    rw [hR]
    clear hR HRd
    by_cases k1 : c < 192
    · have k2 : ¬ (192 : Int) ≤ (c : Int) := by omega
      have k3 : ¬ (224 : Int) ≤ (c : Int) := by omega
      have k4 : ¬ (240 : Int) ≤ (c : Int) := by omega
      have k5 : ¬ 192 ≤ c := by omega
      have k6 : ¬ 224 ≤ c := by omega
      have k7 : ¬ 240 ≤ c := by omega
      clear c2 c3 c4 e2 e3 e4
      go_enter Tryd.func206, Tryd.ntmps206
      go_wp2_with fail
      go_ret2
      exact ⟨rfl, rfl⟩
    · have k2 : (192 : Int) ≤ (c : Int) := by omega
      have k3 : (224 : Int) ≤ (c : Int) := by omega
      have k4 : (240 : Int) ≤ (c : Int) := by omega
      have k5 : ¬ (c : Int) < 224 := by omega
      have k6 : ¬ (c : Int) < 240 := by omega
      have k7 : ¬ (c : Int) < 248 := by omega
      have k8 : 192 ≤ c := by omega
      have k9 : 224 ≤ c := by omega
      have l4 : 240 ≤ c := by omega
      have l5 : ¬ c < 224 := by omega
      have l6 : ¬ c < 240 := by omega
      have l7 : ¬ c < 248 := by omega
      clear c2 c3 c4 e2 e3 e4
      go_enter Tryd.func206, Tryd.ntmps206
      go_wp2_with fail
      go_ret2
      exact ⟨rfl, rfl⟩
end Go.Proofs.YtgechifbbhipaaaDoor
