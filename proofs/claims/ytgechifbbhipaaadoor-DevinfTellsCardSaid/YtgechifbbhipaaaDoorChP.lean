/- charset: the reference's 'one': the first letter of a text. No condition but the text's size. -/
import Derived.Test.YtgechifbbhipaaaDoorShelf
import Derived.Test.YtgechifbbhipaaaDoorKit
import Derived.Lib.DecodeN
import Derived.Lib.ValidU
set_option linter.unusedVariables false
set_option linter.unusedSimpArgs false
namespace Go.Proofs.YtgechifbbhipaaaDoor
open Go.RowKit

theorem not_empty (s : ByteArray) (h : s.size ≠ 0) : s.toList.isEmpty = false := by
  rw [ByteArray.toList_eq, List.isEmpty_eq_false_iff]; intro e; apply h; rw [← len_toList, e]; rfl
def gb (s : ByteArray) (i : Nat) : Nat := (s.get! i).toNat
theorem gb_lt (s : ByteArray) (i : Nat) : gb s i < 256 := UInt8.toNat_lt _
theorem gb_eq (s : ByteArray) (i : Nat) (h : i < s.size) : (s[i]).toNat = gb s i := by
  unfold gb
  congr 1
  simp only [ByteArray.get!, getElem, ByteArray.get]
  rw [getElem!_pos]
  rfl
theorem run_gb (s : ByteArray) (i : Nat) (h : i < s.size) (w : World) : (Instr.index 9 (.string s) (.int .i64 (i : Int))).run Tryd.prog w = .ok (.int .u8 (gb s i : Int)) w := by
  have h2 : (0 : Int) ≤ (i : Int) ∧ (i : Int) < s.size := ⟨by omega, by omega⟩
  rw [run_index_string w 9 _ _ _ Tryd.underlying9, dif_pos h2, ← gb_eq s i h]
  rfl
/-- the first letter and its bytes; (0, 0): it is none -/
def oneV (s : ByteArray) : Nat × Nat := if s.size = 0 then (0, 0) else if (Utf8.decode s 0).1 = 65533 ∧ (Utf8.decode s 0).2 = 1 then (0, 0) else Utf8.decode s 0
/-- the same in plain words -/
def oneN (n b0 b1 b2 b3 : Nat) : Nat × Nat :=
  if b0 < 128 then (b0, 1)
  else if 192 ≤ b0 ∧ b0 < 224 then
    if 2 ≤ n ∧ b1 / 64 = 2 ∧ 128 ≤ 64 * (b0 % 32) + b1 % 64 then (64 * (b0 % 32) + b1 % 64, 2) else (0, 0)
  else if 224 ≤ b0 ∧ b0 < 240 then
    if 3 ≤ n ∧ b1 / 64 = 2 ∧ b2 / 64 = 2 ∧ 2048 ≤ 64 * (64 * (b0 % 16) + b1 % 64) + b2 % 64 ∧ ¬ (55296 ≤ 64 * (64 * (b0 % 16) + b1 % 64) + b2 % 64 ∧ 64 * (64 * (b0 % 16) + b1 % 64) + b2 % 64 < 57344) then (64 * (64 * (b0 % 16) + b1 % 64) + b2 % 64, 3) else (0, 0)
  else if 240 ≤ b0 ∧ b0 < 248 then
    if 4 ≤ n ∧ b1 / 64 = 2 ∧ b2 / 64 = 2 ∧ b3 / 64 = 2 ∧ 65536 ≤ 64 * (64 * (64 * (b0 % 8) + b1 % 64) + b2 % 64) + b3 % 64 ∧ 64 * (64 * (64 * (b0 % 8) + b1 % 64) + b2 % 64) + b3 % 64 ≤ 1114111 then (64 * (64 * (64 * (b0 % 8) + b1 % 64) + b2 % 64) + b3 % 64, 4) else (0, 0)
  else (0, 0)

set_option maxHeartbeats 4000000 in
theorem oneN_cases (n b0 b1 b2 b3 : Nat) (c0 : ¬ b0 < 128) (h0 : b0 < 256) (h1 : b1 < 256) (h2 : b2 < 256) (h3 : b3 < 256) :
    (oneN n b0 b1 b2 b3 = (0, 0) ∧ Lib.decodeN n b0 b1 b2 b3 = (65533, 1)) ∨ (Lib.decodeN n b0 b1 b2 b3 = oneN n b0 b1 b2 b3 ∧ (oneN n b0 b1 b2 b3).2 ≠ 1) := by
  unfold oneN Lib.decodeN
  rw [if_neg c0, if_neg c0]
  repeat' split
  all_goals first
    | exact .inl ⟨rfl, rfl⟩
    | (exfalso; omega)
    | (refine .inr ⟨Prod.ext ?_ rfl, by simp⟩; show (_ : Nat) = _; omega)
theorem oneN_eq (n b0 b1 b2 b3 : Nat) (h0 : b0 < 256) (h1 : b1 < 256) (h2 : b2 < 256) (h3 : b3 < 256) : (if (Lib.decodeN n b0 b1 b2 b3).1 = 65533 ∧ (Lib.decodeN n b0 b1 b2 b3).2 = 1 then (0, 0) else Lib.decodeN n b0 b1 b2 b3) = oneN n b0 b1 b2 b3 := by
  by_cases c0 : b0 < 128
  · have : Lib.decodeN n b0 b1 b2 b3 = (b0, 1) := by rw [Lib.decodeN, if_pos c0]
    rw [this, if_neg (by simp; omega), oneN, if_pos c0]
  · rcases oneN_cases n b0 b1 b2 b3 c0 h0 h1 h2 h3 with ⟨k, k2⟩ | ⟨k, k2⟩
    · rw [k2, k, if_pos ⟨rfl, rfl⟩]
    · rw [k, if_neg (fun h => k2 h.2)]
theorem oneV_eq (s : ByteArray) (h : s.size ≠ 0) : oneV s = oneN s.size (gb s 0) (gb s 1) (gb s 2) (gb s 3) := by
  unfold oneV
  rw [if_neg h, Lib.decode_at]
  exact oneN_eq _ _ _ _ _ (gb_lt s 0) (gb_lt s 1) (gb_lt s 2) (gb_lt s 3)
end Go.Proofs.YtgechifbbhipaaaDoor

/- charset: the reference's 'one': the walk. No condition but the text's size. -/
set_option linter.unusedVariables false
set_option linter.unusedSimpArgs false
namespace Go.Proofs.YtgechifbbhipaaaDoor
open Go.RowKit

/-- the letter's value behind i bytes -/
def accX (x0 b1 b2 b3 i : Nat) : Nat := if i = 1 then x0 else if i = 2 then 64 * x0 + b1 % 64 else if i = 3 then 64 * (64 * x0 + b1 % 64) + b2 % 64 else 64 * (64 * (64 * x0 + b1 % 64) + b2 % 64) + b3 % 64
theorem tmod_nat (a k : Nat) : ((a : Nat) : Int).tmod ((k : Nat) : Int) = ((a % k : Nat) : Int) := by
  rw [Int.tmod_eq_emod_of_nonneg (by omega)]; omega

set_option maxRecDepth 100000 in
set_option maxHeartbeats 8000000 in
theorem one_any (s : ByteArray) (hs : s.size ≤ 1000000) (w : World) : Calls Tryd.prog 206 #[.string s] w fun e w' => e = .returned (.tuple #[.int .i64 ((oneV s).1 : Int), .int .i64 ((oneV s).2 : Int)]) ∧ w = w' := by
  by_cases hz : s.size = 0
  · have hne : s.toList.isEmpty = true := by
      rw [ByteArray.toList_eq, List.isEmpty_iff]; exact List.eq_nil_of_length_eq_zero (by rw [len_toList]; exact hz)
    have hR : oneV s = (0, 0) := by unfold oneV; rw [if_pos hz]
    rw [hR]
    go_enter Tryd.func206, Tryd.ntmps206
    go_wp2
    go_ret2
    exact ⟨rfl, rfl⟩
  · have hne := not_empty s hz
    have h0 : ∀ w : World, (Instr.index 9 (.string s) (.int .i64 0)).run Tryd.prog w = .ok (.int .u8 (gb s 0 : Int)) w := fun w => run_gb s 0 (by omega) w
    have HRd := Lib.hid (fun i (h : i < s.size) w => run_gb s i h w)
    have hv := oneV_eq s hz
    have hlt0 := gb_lt s 0
    rw [hv]
    clear hv
    generalize hc : gb s 0 = c at *
    by_cases c0 : c < 128
    · have c0' : (c : Int) < 128 := by omega
      have hR : oneN s.size c (gb s 1) (gb s 2) (gb s 3) = (c, 1) := by rw [oneN, if_pos c0]
      rw [hR]
      clear hR
      go_enter Tryd.func206, Tryd.ntmps206
      go_wp2
      go_ret2
      exact ⟨rfl, rfl⟩
    have d0 : decide ((c : Int) < 128) = false := by simp; omega
    have d0' : ¬ (c : Int) < 128 := by omega
    by_cases c2 : 192 ≤ c ∧ c < 224
    · obtain ⟨a1, a2⟩ := c2
      have i1 : (192 : Int) ≤ (c : Int) := by omega
      have i2 : (c : Int) < 224 := by omega
      skip
      have ht : (c : Int).tmod 32 = ((c % 32 : Nat) : Int) := tmod_nat c 32
      have g1 := gb_lt s 1
      have g2 := gb_lt s 2
      have g3 := gb_lt s 3
      have HSm : Hid (s.size < 2 → oneN s.size c (gb s 1) (gb s 2) (gb s 3) = (0, 0)) := fun h => by
        unfold oneN; rw [if_neg c0, if_pos ⟨a1, a2⟩, if_neg (by omega)]
      have HNo : Hid (∀ j, 1 ≤ j → j < 2 → gb s j / 64 ≠ 2 → oneN s.size c (gb s 1) (gb s 2) (gb s 3) = (0, 0)) := fun j h1 h2 h3 => by
        unfold oneN; rw [if_neg c0, if_pos ⟨a1, a2⟩, if_neg]
        rcases (show j = 1 by omega) with rfl <;> omega
      have HFi : Hid (∀ x, x = accX (c % 32) (gb s 1) (gb s 2) (gb s 3) 2 → ¬ s.size < 2 → (∀ j, 1 ≤ j → j < 2 → gb s j / 64 = 2) → oneN s.size c (gb s 1) (gb s 2) (gb s 3) = if 128 ≤ x ∧ ¬ (55296 ≤ x ∧ x < 57344) ∧ x ≤ 1114111 then (x, 2) else (0, 0)) := fun x hx hn hj => by
        have j1 := hj 1 (by omega) (by omega)
        skip
        skip
        simp only [accX, Nat.reduceEqDiff, if_false, if_true] at hx
        unfold oneN; rw [if_neg c0, if_pos ⟨a1, a2⟩]
        split
        · rw [if_pos (by omega), hx]
        · rw [if_neg (by omega)]
      have HSt : Hid (∀ x i, x = accX (c % 32) (gb s 1) (gb s 2) (gb s 3) i → 1 ≤ i → i < 2 → 64 * x + gb s i % 64 = accX (c % 32) (gb s 1) (gb s 2) (gb s 3) (i + 1) ∧ x ≤ 262143) := fun x i hx h1 h2 => by
        rcases (show i = 1 by omega) with rfl <;> simp only [accX, Nat.reduceEqDiff, Nat.reduceAdd, if_false, if_true] at hx ⊢ <;> omega
      by_cases hsz : s.size < 2
      · have hsz' : (s.size : Int) < 2 := by omega
        have hG := Lib.hid (HSm.out hsz)
        clear HSm HNo HFi HSt g1 g2 g3
        go_enter Tryd.func206, Tryd.ntmps206
        go_wp2_with fail
        go_ret2
        exact ⟨by rw [hG.out]; rfl, rfl⟩
      · have hsz' : ¬ (s.size : Int) < 2 := by omega
        have HS := Lib.hid hsz
        clear HSm g1 g2 g3 hs
        go_enter Tryd.func206, Tryd.ntmps206
        go_wp2_with fail
        go_loopw [6, 8] (fun xv iv wr => ∃ (x i : Nat), 1 ≤ i ∧ i ≤ 2 ∧ iv = .int .i64 i ∧ xv = .int .i64 x ∧ Hid (x = accX (c % 32) (gb s 1) (gb s 2) (gb s 3) i) ∧ Hid (∀ j, 1 ≤ j → j < i → gb s j / 64 = 2) ∧ wr = w) (fun _ iv _ => 2 - (intOf iv).toNat)
        case atStart => exact ⟨c % 32, 1, by omega, by omega, rfl, by push_cast; rfl, by simp [Hid, accX], fun j h1 h2 => by omega, rfl⟩
        case round =>
          obtain ⟨x, i, hi1, hi2, rfl, rfl, HX, HC, rfl⟩ := hrel
          clear ht h0
          by_cases hin : i < 2
          · have hin' : (i : Int) < 2 := by omega
            have hrd := HRd.out i (by omega)
            obtain ⟨hst, hxb⟩ := HSt.out x i HX.out hi1 hin
            have HST := Lib.hid hst
            have gi := gb_lt s i
            have HN1 := Lib.hid (HNo.out i hi1 hin)
            have hc1 : Hid (gb s i / 64 = 2 → ∀ j, 1 ≤ j → j < i + 1 → gb s j / 64 = 2) := fun h j h1 h2 => by
              by_cases hji : j = i
              · rw [hji]; exact h
              · exact HC.out j h1 (by omega)
            clear hst
            generalize gb s i = b at *
            have htm : (b : Int).tmod 64 = ((b % 64 : Nat) : Int) := tmod_nat b 64
            by_cases hct : b / 64 = 2
            · have q1 : ¬ (b : Int) < 128 := by omega
              have q2 : ¬ (192 : Int) ≤ (b : Int) := by omega
              have q3 : ¬ b < 128 := by omega
              have q4 : ¬ 192 ≤ b := by omega
              have HCn := Lib.hid (hc1.out hct)
              clear hc1 HN1
              go_wp2_with fail
              go_roundw
              case rel => exact ⟨64 * x + b % 64, i + 1, by omega, by omega, by go_num, by go_num, HST.out, HCn.out, trivial⟩
              case measure => simp [intOf]; omega
            · have hG := Lib.hid (HN1.out hct)
              clear hc1 HN1 HST
              by_cases q3 : b < 128
              · have q1 : (b : Int) < 128 := by omega
                go_wp2_with fail
                go_ret2
                exact ⟨by rw [hG.out]; rfl, rfl⟩
              · have q1 : ¬ (b : Int) < 128 := by omega
                have q2 : (192 : Int) ≤ (b : Int) := by omega
                have q4 : 192 ≤ b := by omega
                go_wp2_with fail
                go_ret2
                exact ⟨by rw [hG.out]; rfl, rfl⟩
          · have hin' : ¬ (i : Int) < 2 := by omega
            obtain rfl : i = 2 := by omega
            have hF := HFi.out x HX.out HS.out HC.out
            clear HFi HX HC HSt HNo HRd
            by_cases z1 : x < 128
            · have y1 : (x : Int) < 128 := by omega
              have hG := Lib.hid (show oneN s.size c (gb s 1) (gb s 2) (gb s 3) = (0, 0) from by rw [hF, if_neg (by omega)])
              clear hF
              go_wp2
              go_ret2
              exact ⟨by rw [hG.out]; rfl, rfl⟩
            · have y1 : ¬ (x : Int) < 128 := by omega
              by_cases z2 : 55296 ≤ x
              · have y2 : (55296 : Int) ≤ (x : Int) := by omega
                by_cases z3 : x < 57344
                · have y3 : (x : Int) < 57344 := by omega
                  have hG := Lib.hid (show oneN s.size c (gb s 1) (gb s 2) (gb s 3) = (0, 0) from by rw [hF, if_neg (by omega)])
                  clear hF
                  go_wp2
                  go_ret2
                  exact ⟨by rw [hG.out]; rfl, rfl⟩
                · have y3 : ¬ (x : Int) < 57344 := by omega
                  by_cases z4 : 1114111 < x
                  · have y4 : (1114111 : Int) < (x : Int) := by omega
                    have hG := Lib.hid (show oneN s.size c (gb s 1) (gb s 2) (gb s 3) = (0, 0) from by rw [hF, if_neg (by omega)])
                    clear hF
                    go_wp2
                    go_ret2
                    exact ⟨by rw [hG.out]; rfl, rfl⟩
                  · have y4 : ¬ (1114111 : Int) < (x : Int) := by omega
                    have hG := Lib.hid (show oneN s.size c (gb s 1) (gb s 2) (gb s 3) = (x, 2) from by rw [hF, if_pos (by omega)])
                    clear hF
                    go_wp2
                    go_ret2
                    exact ⟨by rw [hG.out]; rfl, rfl⟩
              · have y2 : ¬ (55296 : Int) ≤ (x : Int) := by omega
                have z4 : ¬ 1114111 < x := by omega
                have y4 : ¬ (1114111 : Int) < (x : Int) := by omega
                have hG := Lib.hid (show oneN s.size c (gb s 1) (gb s 2) (gb s 3) = (x, 2) from by rw [hF, if_pos (by omega)])
                clear hF
                go_wp2
                go_ret2
                exact ⟨by rw [hG.out]; rfl, rfl⟩
    have e2 : ¬ ((192 : Int) ≤ (c : Int) ∧ (c : Int) < 224) := by omega
    by_cases c3 : 224 ≤ c ∧ c < 240
    · obtain ⟨a1, a2⟩ := c3
      have i1 : (224 : Int) ≤ (c : Int) := by omega
      have i2 : (c : Int) < 240 := by omega
      have x1 : (192 : Int) ≤ (c : Int) := by omega
      have x2 : ¬ (c : Int) < 224 := by omega
      have x3 : 192 ≤ c := by omega
      have x4 : ¬ c < 224 := by omega
      have ht : (c : Int).tmod 16 = ((c % 16 : Nat) : Int) := tmod_nat c 16
      have g1 := gb_lt s 1
      have g2 := gb_lt s 2
      have g3 := gb_lt s 3
      have HSm : Hid (s.size < 3 → oneN s.size c (gb s 1) (gb s 2) (gb s 3) = (0, 0)) := fun h => by
        unfold oneN; rw [if_neg c0, if_neg c2, if_pos ⟨a1, a2⟩, if_neg (by omega)]
      have HNo : Hid (∀ j, 1 ≤ j → j < 3 → gb s j / 64 ≠ 2 → oneN s.size c (gb s 1) (gb s 2) (gb s 3) = (0, 0)) := fun j h1 h2 h3 => by
        unfold oneN; rw [if_neg c0, if_neg c2, if_pos ⟨a1, a2⟩, if_neg]
        rcases (show j = 1 ∨ j = 2 by omega) with rfl|rfl <;> omega
      have HFi : Hid (∀ x, x = accX (c % 16) (gb s 1) (gb s 2) (gb s 3) 3 → ¬ s.size < 3 → (∀ j, 1 ≤ j → j < 3 → gb s j / 64 = 2) → oneN s.size c (gb s 1) (gb s 2) (gb s 3) = if 2048 ≤ x ∧ ¬ (55296 ≤ x ∧ x < 57344) ∧ x ≤ 1114111 then (x, 3) else (0, 0)) := fun x hx hn hj => by
        have j1 := hj 1 (by omega) (by omega)
        have j2 := hj 2 (by omega) (by omega)
        skip
        simp only [accX, Nat.reduceEqDiff, if_false, if_true] at hx
        unfold oneN; rw [if_neg c0, if_neg c2, if_pos ⟨a1, a2⟩]
        split
        · rw [if_pos (by omega), hx]
        · rw [if_neg (by omega)]
      have HSt : Hid (∀ x i, x = accX (c % 16) (gb s 1) (gb s 2) (gb s 3) i → 1 ≤ i → i < 3 → 64 * x + gb s i % 64 = accX (c % 16) (gb s 1) (gb s 2) (gb s 3) (i + 1) ∧ x ≤ 262143) := fun x i hx h1 h2 => by
        rcases (show i = 1 ∨ i = 2 by omega) with rfl|rfl <;> simp only [accX, Nat.reduceEqDiff, Nat.reduceAdd, if_false, if_true] at hx ⊢ <;> omega
      by_cases hsz : s.size < 3
      · have hsz' : (s.size : Int) < 3 := by omega
        have hG := Lib.hid (HSm.out hsz)
        clear HSm HNo HFi HSt g1 g2 g3
        go_enter Tryd.func206, Tryd.ntmps206
        go_wp2_with fail
        go_ret2
        exact ⟨by rw [hG.out]; rfl, rfl⟩
      · have hsz' : ¬ (s.size : Int) < 3 := by omega
        have HS := Lib.hid hsz
        clear HSm g1 g2 g3 hs
        go_enter Tryd.func206, Tryd.ntmps206
        go_wp2_with fail
        go_loopw [6, 8] (fun xv iv wr => ∃ (x i : Nat), 1 ≤ i ∧ i ≤ 3 ∧ iv = .int .i64 i ∧ xv = .int .i64 x ∧ Hid (x = accX (c % 16) (gb s 1) (gb s 2) (gb s 3) i) ∧ Hid (∀ j, 1 ≤ j → j < i → gb s j / 64 = 2) ∧ wr = w) (fun _ iv _ => 3 - (intOf iv).toNat)
        case atStart => exact ⟨c % 16, 1, by omega, by omega, rfl, by push_cast; rfl, by simp [Hid, accX], fun j h1 h2 => by omega, rfl⟩
        case round =>
          obtain ⟨x, i, hi1, hi2, rfl, rfl, HX, HC, rfl⟩ := hrel
          clear ht h0
          by_cases hin : i < 3
          · have hin' : (i : Int) < 3 := by omega
            have hrd := HRd.out i (by omega)
            obtain ⟨hst, hxb⟩ := HSt.out x i HX.out hi1 hin
            have HST := Lib.hid hst
            have gi := gb_lt s i
            have HN1 := Lib.hid (HNo.out i hi1 hin)
            have hc1 : Hid (gb s i / 64 = 2 → ∀ j, 1 ≤ j → j < i + 1 → gb s j / 64 = 2) := fun h j h1 h2 => by
              by_cases hji : j = i
              · rw [hji]; exact h
              · exact HC.out j h1 (by omega)
            clear hst
            generalize gb s i = b at *
            have htm : (b : Int).tmod 64 = ((b % 64 : Nat) : Int) := tmod_nat b 64
            by_cases hct : b / 64 = 2
            · have q1 : ¬ (b : Int) < 128 := by omega
              have q2 : ¬ (192 : Int) ≤ (b : Int) := by omega
              have q3 : ¬ b < 128 := by omega
              have q4 : ¬ 192 ≤ b := by omega
              have HCn := Lib.hid (hc1.out hct)
              clear hc1 HN1
              go_wp2_with fail
              go_roundw
              case rel => exact ⟨64 * x + b % 64, i + 1, by omega, by omega, by go_num, by go_num, HST.out, HCn.out, trivial⟩
              case measure => simp [intOf]; omega
            · have hG := Lib.hid (HN1.out hct)
              clear hc1 HN1 HST
              by_cases q3 : b < 128
              · have q1 : (b : Int) < 128 := by omega
                go_wp2_with fail
                go_ret2
                exact ⟨by rw [hG.out]; rfl, rfl⟩
              · have q1 : ¬ (b : Int) < 128 := by omega
                have q2 : (192 : Int) ≤ (b : Int) := by omega
                have q4 : 192 ≤ b := by omega
                go_wp2_with fail
                go_ret2
                exact ⟨by rw [hG.out]; rfl, rfl⟩
          · have hin' : ¬ (i : Int) < 3 := by omega
            obtain rfl : i = 3 := by omega
            have hF := HFi.out x HX.out HS.out HC.out
            clear HFi HX HC HSt HNo HRd
            by_cases z1 : x < 2048
            · have y1 : (x : Int) < 2048 := by omega
              have hG := Lib.hid (show oneN s.size c (gb s 1) (gb s 2) (gb s 3) = (0, 0) from by rw [hF, if_neg (by omega)])
              clear hF
              go_wp2
              go_ret2
              exact ⟨by rw [hG.out]; rfl, rfl⟩
            · have y1 : ¬ (x : Int) < 2048 := by omega
              by_cases z2 : 55296 ≤ x
              · have y2 : (55296 : Int) ≤ (x : Int) := by omega
                by_cases z3 : x < 57344
                · have y3 : (x : Int) < 57344 := by omega
                  have hG := Lib.hid (show oneN s.size c (gb s 1) (gb s 2) (gb s 3) = (0, 0) from by rw [hF, if_neg (by omega)])
                  clear hF
                  go_wp2
                  go_ret2
                  exact ⟨by rw [hG.out]; rfl, rfl⟩
                · have y3 : ¬ (x : Int) < 57344 := by omega
                  by_cases z4 : 1114111 < x
                  · have y4 : (1114111 : Int) < (x : Int) := by omega
                    have hG := Lib.hid (show oneN s.size c (gb s 1) (gb s 2) (gb s 3) = (0, 0) from by rw [hF, if_neg (by omega)])
                    clear hF
                    go_wp2
                    go_ret2
                    exact ⟨by rw [hG.out]; rfl, rfl⟩
                  · have y4 : ¬ (1114111 : Int) < (x : Int) := by omega
                    have hG := Lib.hid (show oneN s.size c (gb s 1) (gb s 2) (gb s 3) = (x, 3) from by rw [hF, if_pos (by omega)])
                    clear hF
                    go_wp2
                    go_ret2
                    exact ⟨by rw [hG.out]; rfl, rfl⟩
              · have y2 : ¬ (55296 : Int) ≤ (x : Int) := by omega
                have z4 : ¬ 1114111 < x := by omega
                have y4 : ¬ (1114111 : Int) < (x : Int) := by omega
                have hG := Lib.hid (show oneN s.size c (gb s 1) (gb s 2) (gb s 3) = (x, 3) from by rw [hF, if_pos (by omega)])
                clear hF
                go_wp2
                go_ret2
                exact ⟨by rw [hG.out]; rfl, rfl⟩
    have e3 : ¬ ((224 : Int) ≤ (c : Int) ∧ (c : Int) < 240) := by omega
    by_cases c4 : 240 ≤ c ∧ c < 248
    · obtain ⟨a1, a2⟩ := c4
      have i1 : (240 : Int) ≤ (c : Int) := by omega
      have i2 : (c : Int) < 248 := by omega
      have x1 : (192 : Int) ≤ (c : Int) := by omega
      have x2 : ¬ (c : Int) < 224 := by omega
      have x3 : 192 ≤ c := by omega
      have x4 : ¬ c < 224 := by omega
      have x5 : (224 : Int) ≤ (c : Int) := by omega
      have x6 : ¬ (c : Int) < 240 := by omega
      have x7 : 224 ≤ c := by omega
      have x8 : ¬ c < 240 := by omega
      have ht : (c : Int).tmod 8 = ((c % 8 : Nat) : Int) := tmod_nat c 8
      have g1 := gb_lt s 1
      have g2 := gb_lt s 2
      have g3 := gb_lt s 3
      have HSm : Hid (s.size < 4 → oneN s.size c (gb s 1) (gb s 2) (gb s 3) = (0, 0)) := fun h => by
        unfold oneN; rw [if_neg c0, if_neg c2, if_neg c3, if_pos ⟨a1, a2⟩, if_neg (by omega)]
      have HNo : Hid (∀ j, 1 ≤ j → j < 4 → gb s j / 64 ≠ 2 → oneN s.size c (gb s 1) (gb s 2) (gb s 3) = (0, 0)) := fun j h1 h2 h3 => by
        unfold oneN; rw [if_neg c0, if_neg c2, if_neg c3, if_pos ⟨a1, a2⟩, if_neg]
        rcases (show j = 1 ∨ j = 2 ∨ j = 3 by omega) with rfl|rfl|rfl <;> omega
      have HFi : Hid (∀ x, x = accX (c % 8) (gb s 1) (gb s 2) (gb s 3) 4 → ¬ s.size < 4 → (∀ j, 1 ≤ j → j < 4 → gb s j / 64 = 2) → oneN s.size c (gb s 1) (gb s 2) (gb s 3) = if 65536 ≤ x ∧ ¬ (55296 ≤ x ∧ x < 57344) ∧ x ≤ 1114111 then (x, 4) else (0, 0)) := fun x hx hn hj => by
        have j1 := hj 1 (by omega) (by omega)
        have j2 := hj 2 (by omega) (by omega)
        have j3 := hj 3 (by omega) (by omega)
        simp only [accX, Nat.reduceEqDiff, if_false, if_true] at hx
        unfold oneN; rw [if_neg c0, if_neg c2, if_neg c3, if_pos ⟨a1, a2⟩]
        split
        · rw [if_pos (by omega), hx]
        · rw [if_neg (by omega)]
      have HSt : Hid (∀ x i, x = accX (c % 8) (gb s 1) (gb s 2) (gb s 3) i → 1 ≤ i → i < 4 → 64 * x + gb s i % 64 = accX (c % 8) (gb s 1) (gb s 2) (gb s 3) (i + 1) ∧ x ≤ 262143) := fun x i hx h1 h2 => by
        rcases (show i = 1 ∨ i = 2 ∨ i = 3 by omega) with rfl|rfl|rfl <;> simp only [accX, Nat.reduceEqDiff, Nat.reduceAdd, if_false, if_true] at hx ⊢ <;> omega
      by_cases hsz : s.size < 4
      · have hsz' : (s.size : Int) < 4 := by omega
        have hG := Lib.hid (HSm.out hsz)
        clear HSm HNo HFi HSt g1 g2 g3
        go_enter Tryd.func206, Tryd.ntmps206
        go_wp2_with fail
        go_ret2
        exact ⟨by rw [hG.out]; rfl, rfl⟩
      · have hsz' : ¬ (s.size : Int) < 4 := by omega
        have HS := Lib.hid hsz
        clear HSm g1 g2 g3 hs
        go_enter Tryd.func206, Tryd.ntmps206
        go_wp2_with fail
        go_loopw [6, 8] (fun xv iv wr => ∃ (x i : Nat), 1 ≤ i ∧ i ≤ 4 ∧ iv = .int .i64 i ∧ xv = .int .i64 x ∧ Hid (x = accX (c % 8) (gb s 1) (gb s 2) (gb s 3) i) ∧ Hid (∀ j, 1 ≤ j → j < i → gb s j / 64 = 2) ∧ wr = w) (fun _ iv _ => 4 - (intOf iv).toNat)
        case atStart => exact ⟨c % 8, 1, by omega, by omega, rfl, by push_cast; rfl, by simp [Hid, accX], fun j h1 h2 => by omega, rfl⟩
        case round =>
          obtain ⟨x, i, hi1, hi2, rfl, rfl, HX, HC, rfl⟩ := hrel
          clear ht h0
          by_cases hin : i < 4
          · have hin' : (i : Int) < 4 := by omega
            have hrd := HRd.out i (by omega)
            obtain ⟨hst, hxb⟩ := HSt.out x i HX.out hi1 hin
            have HST := Lib.hid hst
            have gi := gb_lt s i
            have HN1 := Lib.hid (HNo.out i hi1 hin)
            have hc1 : Hid (gb s i / 64 = 2 → ∀ j, 1 ≤ j → j < i + 1 → gb s j / 64 = 2) := fun h j h1 h2 => by
              by_cases hji : j = i
              · rw [hji]; exact h
              · exact HC.out j h1 (by omega)
            clear hst
            generalize gb s i = b at *
            have htm : (b : Int).tmod 64 = ((b % 64 : Nat) : Int) := tmod_nat b 64
            by_cases hct : b / 64 = 2
            · have q1 : ¬ (b : Int) < 128 := by omega
              have q2 : ¬ (192 : Int) ≤ (b : Int) := by omega
              have q3 : ¬ b < 128 := by omega
              have q4 : ¬ 192 ≤ b := by omega
              have HCn := Lib.hid (hc1.out hct)
              clear hc1 HN1
              go_wp2_with fail
              go_roundw
              case rel => exact ⟨64 * x + b % 64, i + 1, by omega, by omega, by go_num, by go_num, HST.out, HCn.out, trivial⟩
              case measure => simp [intOf]; omega
            · have hG := Lib.hid (HN1.out hct)
              clear hc1 HN1 HST
              by_cases q3 : b < 128
              · have q1 : (b : Int) < 128 := by omega
                go_wp2_with fail
                go_ret2
                exact ⟨by rw [hG.out]; rfl, rfl⟩
              · have q1 : ¬ (b : Int) < 128 := by omega
                have q2 : (192 : Int) ≤ (b : Int) := by omega
                have q4 : 192 ≤ b := by omega
                go_wp2_with fail
                go_ret2
                exact ⟨by rw [hG.out]; rfl, rfl⟩
          · have hin' : ¬ (i : Int) < 4 := by omega
            obtain rfl : i = 4 := by omega
            have hF := HFi.out x HX.out HS.out HC.out
            clear HFi HX HC HSt HNo HRd
            by_cases z1 : x < 65536
            · have y1 : (x : Int) < 65536 := by omega
              have hG := Lib.hid (show oneN s.size c (gb s 1) (gb s 2) (gb s 3) = (0, 0) from by rw [hF, if_neg (by omega)])
              clear hF
              go_wp2
              go_ret2
              exact ⟨by rw [hG.out]; rfl, rfl⟩
            · have y1 : ¬ (x : Int) < 65536 := by omega
              by_cases z2 : 55296 ≤ x
              · have y2 : (55296 : Int) ≤ (x : Int) := by omega
                by_cases z3 : x < 57344
                · have y3 : (x : Int) < 57344 := by omega
                  have hG := Lib.hid (show oneN s.size c (gb s 1) (gb s 2) (gb s 3) = (0, 0) from by rw [hF, if_neg (by omega)])
                  clear hF
                  go_wp2
                  go_ret2
                  exact ⟨by rw [hG.out]; rfl, rfl⟩
                · have y3 : ¬ (x : Int) < 57344 := by omega
                  by_cases z4 : 1114111 < x
                  · have y4 : (1114111 : Int) < (x : Int) := by omega
                    have hG := Lib.hid (show oneN s.size c (gb s 1) (gb s 2) (gb s 3) = (0, 0) from by rw [hF, if_neg (by omega)])
                    clear hF
                    go_wp2
                    go_ret2
                    exact ⟨by rw [hG.out]; rfl, rfl⟩
                  · have y4 : ¬ (1114111 : Int) < (x : Int) := by omega
                    have hG := Lib.hid (show oneN s.size c (gb s 1) (gb s 2) (gb s 3) = (x, 4) from by rw [hF, if_pos (by omega)])
                    clear hF
                    go_wp2
                    go_ret2
                    exact ⟨by rw [hG.out]; rfl, rfl⟩
              · have y2 : ¬ (55296 : Int) ≤ (x : Int) := by omega
                have z4 : ¬ 1114111 < x := by omega
                have y4 : ¬ (1114111 : Int) < (x : Int) := by omega
                have hG := Lib.hid (show oneN s.size c (gb s 1) (gb s 2) (gb s 3) = (x, 4) from by rw [hF, if_pos (by omega)])
                clear hF
                go_wp2
                go_ret2
                exact ⟨by rw [hG.out]; rfl, rfl⟩
    have e4 : ¬ ((240 : Int) ≤ (c : Int) ∧ (c : Int) < 248) := by omega
    have hR : oneN s.size c (gb s 1) (gb s 2) (gb s 3) = (0, 0) := by unfold oneN; rw [if_neg c0, if_neg c2, if_neg c3, if_neg c4]
    rw [hR]
    clear hR HRd
    by_cases k1 : c < 192
    · have k2 : ¬ (192 : Int) ≤ (c : Int) := by omega
      have k3 : ¬ (224 : Int) ≤ (c : Int) := by omega
      have k4 : ¬ (240 : Int) ≤ (c : Int) := by omega
      have k5 : ¬ 192 ≤ c := by omega
      have k6 : ¬ 224 ≤ c := by omega
      have k7 : ¬ 240 ≤ c := by omega
      clear c2 c3 c4 e2 e3 e4
      go_enter Tryd.func206, Tryd.ntmps206
      go_wp2_with fail
      go_ret2
      exact ⟨rfl, rfl⟩
    · have k2 : (192 : Int) ≤ (c : Int) := by omega
      have k3 : (224 : Int) ≤ (c : Int) := by omega
      have k4 : (240 : Int) ≤ (c : Int) := by omega
      have k5 : ¬ (c : Int) < 224 := by omega
      have k6 : ¬ (c : Int) < 240 := by omega
      have k7 : ¬ (c : Int) < 248 := by omega
      have k8 : 192 ≤ c := by omega
      have k9 : 224 ≤ c := by omega
      have l4 : 240 ≤ c := by omega
      have l5 : ¬ c < 224 := by omega
      have l6 : ¬ c < 240 := by omega
      have l7 : ¬ c < 248 := by omega
      clear c2 c3 c4 e2 e3 e4
      go_enter Tryd.func206, Tryd.ntmps206
      go_wp2_with fail
      go_ret2
      exact ⟨rfl, rfl⟩
end Go.Proofs.YtgechifbbhipaaaDoor

/- charset: a text's letters, in plain Lean. No condition. -/
set_option linter.unusedVariables false
set_option linter.unusedSimpArgs false
namespace Go.Proofs.YtgechifbbhipaaaDoor
open Go.RowKit

def tl (r : ByteArray) (n : Nat) : ByteArray := r.extract n r.size
theorem tl_size (r : ByteArray) (n : Nat) : (tl r n).size = r.size - n := by simp [tl]
theorem tl_list (r : ByteArray) (n : Nat) : (tl r n).data.toList = r.data.toList.drop n := by
  simp only [tl, ByteArray.data_extract, Array.toList_extract, List.extract_eq_take_drop]
  rw [List.take_of_length_le]
  rw [List.length_drop, len_toList]; omega
theorem oneN_le (n b0 b1 b2 b3 : Nat) (hn : n ≠ 0) : (oneN n b0 b1 b2 b3).2 ≤ n ∧ (oneN n b0 b1 b2 b3).2 ≤ 4 ∧ (oneN n b0 b1 b2 b3).1 ≤ 1114111 := by
  unfold oneN
  repeat' split
  all_goals (refine ⟨?_, ?_, ?_⟩ <;> simp only [] <;> omega)
theorem oneV_le (r : ByteArray) (h : r.size ≠ 0) : (oneV r).2 ≤ r.size ∧ (oneV r).2 ≤ 4 ∧ (oneV r).1 ≤ 1114111 := by
  rw [oneV_eq r h]; exact oneN_le _ _ _ _ _ h

def lt : Nat → ByteArray → List Nat × Bool
  | 0, _ => ([], true)
  | f + 1, r => if r.size = 0 then ([], true) else if (oneV r).2 = 0 then ([], false) else ((oneV r).1 :: (lt f (tl r (oneV r).2)).1, (lt f (tl r (oneV r).2)).2)
/-- a text's letters, and whether it is right -/
def ltS (r : ByteArray) : List Nat × Bool := lt r.size r
theorem lt_fuel (f g : Nat) (r : ByteArray) (hf : r.size ≤ f) (hg : r.size ≤ g) : lt f r = lt g r := by
  induction f generalizing g r with
  | zero =>
    cases g with
    | zero => rfl
    | succ g => rw [lt, lt, if_pos (by omega)]
  | succ f ih =>
    cases g with
    | zero => rw [lt, lt, if_pos (by omega)]
    | succ g =>
      rw [lt, lt]
      by_cases h1 : r.size = 0
      · rw [if_pos h1, if_pos h1]
      · rw [if_neg h1, if_neg h1]
        by_cases h2 : (oneV r).2 = 0
        · rw [if_pos h2, if_pos h2]
        · rw [if_neg h2, if_neg h2, ih g (tl r (oneV r).2) (by rw [tl_size]; omega) (by rw [tl_size]; omega)]
theorem ltS_nil (r : ByteArray) (h : r.size = 0) : ltS r = ([], true) := by unfold ltS; rw [h, lt]
theorem ltS_bad (r : ByteArray) (h : r.size ≠ 0) (h2 : (oneV r).2 = 0) : ltS r = ([], false) := by
  unfold ltS
  obtain ⟨f, hf⟩ : ∃ f, r.size = f + 1 := ⟨r.size - 1, by omega⟩
  rw [hf, lt, if_neg h, if_pos h2]
theorem ltS_more (r : ByteArray) (h : r.size ≠ 0) (h2 : (oneV r).2 ≠ 0) : ltS r = ((oneV r).1 :: (ltS (tl r (oneV r).2)).1, (ltS (tl r (oneV r).2)).2) := by
  unfold ltS
  obtain ⟨f, hf⟩ : ∃ f, r.size = f + 1 := ⟨r.size - 1, by omega⟩
  rw [hf, lt, if_neg h, if_neg h2, lt_fuel f (tl r (oneV r).2).size (tl r (oneV r).2) (by rw [tl_size]; omega) (Nat.le_refl _)]
theorem lt_len (f : Nat) (r : ByteArray) : (lt f r).1.length ≤ r.size := by
  induction f generalizing r with
  | zero => simp [lt]
  | succ f ih =>
    rw [lt]
    split
    · simp
    · split
      · simp
      · have := ih (tl r (oneV r).2)
        rw [tl_size] at this
        simp only [List.length_cons]
        omega
theorem ltS_len (r : ByteArray) : (ltS r).1.length ≤ r.size := lt_len _ r
theorem lt_le (f : Nat) (r : ByteArray) : ∀ x ∈ (lt f r).1, x ≤ 1114111 := by
  induction f generalizing r with
  | zero => simp [lt]
  | succ f ih =>
    rw [lt]
    split
    · simp
    · rename_i h
      split
      · simp
      · intro x hx
        rcases List.mem_cons.1 hx with rfl | hx
        · exact (oneV_le r h).2.2
        · exact ih _ x hx
theorem back (r : ByteArray) : (⟨r.data.toList.toArray⟩ : ByteArray) = r := by cases r; simp
theorem oneV_bad (r : ByteArray) (h : r.size ≠ 0) : (oneV r).2 = 0 ↔ (Utf8.decode r 0).1 = 65533 ∧ (Utf8.decode r 0).2 = 1 := by
  constructor
  · intro h2
    unfold oneV at h2
    rw [if_neg h] at h2
    split at h2
    · assumption
    · exfalso
      have : (Utf8.decode r 0).2 ≠ 0 := by
        rw [Lib.decode_at]
        unfold Lib.decodeN
        repeat' split
        all_goals simp
      exact this h2
  · intro h2
    unfold oneV; rw [if_neg h, if_pos h2]
theorem oneV_ok (r : ByteArray) (h : r.size ≠ 0) (h2 : (oneV r).2 ≠ 0) : oneV r = Utf8.decode r 0 := by
  have := fun h3 => h2 ((oneV_bad r h).2 h3)
  unfold oneV; rw [if_neg h, if_neg this]
theorem valid_lt (f : Nat) (r : ByteArray) : Lib.validGoD f r.data.toList = (lt f r).2 := by
  induction f generalizing r with
  | zero => rfl
  | succ f ih =>
    rw [Lib.validGoD, lt]
    by_cases h1 : r.size = 0
    · rw [if_pos h1, if_pos (List.eq_nil_of_length_eq_zero (by rw [len_toList]; exact h1))]
    · rw [if_neg h1, if_neg (fun e => h1 (by rw [← len_toList, e]; rfl))]
      unfold Lib.decodeL
      rw [back]
      by_cases h2 : (oneV r).2 = 0
      · rw [if_pos h2, if_pos ((oneV_bad r h1).1 h2)]
      · rw [if_neg h2, if_neg (fun h3 => h2 ((oneV_bad r h1).2 h3)), ← oneV_ok r h1 h2, ← tl_list, ih]
theorem valid_eq (r : ByteArray) : Lib.validD r.data.toList = (ltS r).2 := by
  unfold Lib.validD ltS; rw [len_toList]; exact valid_lt _ r
end Go.Proofs.YtgechifbbhipaaaDoor

/- charset: the reference's Letters; Valid. No condition but sizes and the tables. -/
set_option linter.unusedVariables false
set_option linter.unusedSimpArgs false
namespace Go.Proofs.YtgechifbbhipaaaDoor
open Go.RowKit

def rv (l : List Nat) : List Value := l.map fun x : Nat => .int .i32 (x : Int)
def szOf : Value → Nat | .string r => r.size | _ => 0
theorem S22 : Sl1 Tryd.prog 182 21 (.int .i32 0) 4 := ⟨Tryd.underlying182, by kernel_rfl, rfl⟩

theorem valid_any (s : ByteArray) (hs : s.size ≤ 1000000) (w : World) (hT : Lib.Utf8Tabs 2 3 w) :
    Calls Tryd.prog 204 #[.string s] w fun e w' => e = .returned (.bool (ltS s).2) ∧ Below w.heap.size w w' := by
  have cV := Lib.hid (Tryd.utf8_ValidString s w (by omega) hT)
  rw [valid_eq] at cV
  generalize (ltS s).2 = q at *
  go_enter Tryd.func204, Tryd.ntmps204
  go_wp2_with (go_at_call 212; refine cV.out.mono ?_; rintro e w1 ⟨rfl, hb1⟩)
  go_ret
  exact ⟨rfl, hb1⟩

def LetP (s : ByteArray) (w : World) (e : Ending) (w' : World) : Prop :=
  ∃ a c, e = .returned (.tuple #[.slice a (ltS s).1.length c, .bool (ltS s).2]) ∧ w'.ownsRow w.heap.size 21 1 (.slice a (ltS s).1.length c) (ltS s).1.length (rv (ltS s).1) ∧ Below w.heap.size w w'

set_option maxRecDepth 100000 in
set_option maxHeartbeats 4000000 in
theorem refLetters_any (s : ByteArray) (hs : s.size ≤ 1000000) (w : World) : Calls Tryd.prog 183 #[.string s] w (LetP s w) := by
  have HLe := Lib.hid (ltS_len s)
  obtain ⟨LS, hLS⟩ : ∃ LS, ltS s = LS := ⟨_, rfl⟩
  unfold LetP
  rw [hLS] at HLe ⊢
  obtain ⟨FL, FV⟩ := LS
  have H0 : Hid (FL = [] ++ (ltS s).1 ∧ FV = (ltS s).2) := by unfold Hid; rw [hLS]; exact ⟨rfl, rfl⟩
  clear hLS
  have HLe2 : Hid (FL.length ≤ s.size) := HLe.out
  clear HLe
  go_enter Tryd.func183, Tryd.ntmps183
  go_wp2_with fail
  go_loopw [0, 4, 5, 6] (fun sv lv _ _ wr => ∃ (r : ByteArray) (pre : List Nat) (a1 : Option Addr) (c1 : Nat), sv = .string r ∧ r.size ≤ s.size ∧ lv = .slice a1 pre.length c1 ∧ Hid (FL = pre ++ (ltS r).1 ∧ FV = (ltS r).2) ∧ Hid (wr.ownsRow w.heap.size 21 1 (.slice a1 pre.length c1) pre.length (rv pre)) ∧ Hid (Below w.heap.size w wr)) (fun sv _ _ _ _ => szOf sv)
  case atStart => exact ⟨s, [], none, 0, rfl, Nat.le_refl _, rfl, H0, World.ownsRow_nil _ _ _ _, Below.refl _ _⟩
  case round =>
    obtain ⟨wo, rfl⟩ : ∃ wo : World, wo = wr := ⟨_, rfl⟩
    obtain ⟨r, pre, a1, c1, rfl, hr, rfl, HR, HO, HB⟩ := hrel
    have hpl : pre.length ≤ s.size := by
      have h1 := HLe2.out
      rw [HR.out.1, List.length_append] at h1
      omega
    have hsz := HB.out.size
    have g1 : pre.length + 1 ≤ maxLen := by simp [maxLen]; omega
    have g2 : (pre.length + 1) * 4 ≤ 140737488355328 := by omega
    by_cases hz : r.size = 0
    · have hne : r.toList.isEmpty = true := by
        rw [ByteArray.toList_eq, List.isEmpty_iff]; exact List.eq_nil_of_length_eq_zero (by rw [len_toList]; exact hz)
      have hE : Hid (FL = pre ∧ FV = true) := by
        have := HR.out
        rw [ltS_nil r hz] at this
        simpa [Hid] using this
      clear HR hz hr
      go_wp2_with fail
      go_ret2
      exact ⟨a1, c1, by rw [hE.out.1, hE.out.2]; rfl, by rw [hE.out.1]; exact HO.out, HB.out⟩
    · have hne := not_empty r hz
      have cO := Lib.hid (fun w => one_any r (by omega) w)
      have hlv := oneV_le r hz
      by_cases hb : (oneV r).2 = 0
      · have hE : Hid (FL = pre ∧ FV = false) := by
          have := HR.out
          rw [ltS_bad r hz hb] at this
          simpa [Hid] using this
        clear HR hlv
        generalize oneV r = o at *
        obtain ⟨x, n⟩ := o
        obtain rfl : n = 0 := hb
        go_wp2_with (go_at_call 206; refine (cO.out _).mono ?_; rintro e w5 ⟨rfl, rfl⟩)
        go_ret2
        exact ⟨a1, c1, by rw [hE.out.1, hE.out.2]; rfl, by rw [hE.out.1]; exact HO.out, HB.out⟩
      · have hE : Hid (FL = (pre ++ [(oneV r).1]) ++ (ltS (tl r (oneV r).2)).1 ∧ FV = (ltS (tl r (oneV r).2)).2) := by
          have := HR.out
          rw [ltS_more r hz hb] at this
          simpa [Hid] using this
        have hts := tl_size r (oneV r).2
        clear HR
        generalize oneV r = o at *
        obtain ⟨x, n⟩ := o
        simp only at hb hlv hts hE cO
        have hb' : ((n : Int) == 0) = false := by simp; omega
        have hwr : IntKind.i32.wrap ((x : Nat) : Int) = (x : Int) := by simp [IntKind.wrap, IntKind.signed, IntKind.bits]; omega
        have n0 : (0 : Int) ≤ (n : Int) := by omega
        have n1 : (n : Int) ≤ (r.size : Int) := by omega
        have HLen : Hid ((pre ++ [x]).length = pre.length + 1) := by unfold Hid; simp
        go_wp2_with (first | (go_at_call 206; refine (cO.out _).mono ?_; rintro e w5 ⟨rfl, rfl⟩) | (at_builtin; go_must (refine wpList_app1 _ _ rfl _ _ 182 21 _ _ S22 rfl w.heap.size _ _ _ rfl rfl rfl HO.out g1 g2 hsz ?_); intro a' c' w4 hown4 hgr4 _ hb4))
        have HO4 : Hid (w4.ownsRow w.heap.size 21 1 (.slice a' (pre.length + 1) c') (pre.length + 1) (rv (pre ++ [x]))) := by unfold Hid rv; rw [List.map_append]; exact hown4
        have HB4 := Lib.hid (HB.out.trans hb4)
        go_roundw
        case rel => exact ⟨tl r n, pre ++ [x], a', c', rfl, by omega, by rw [HLen.out], hE, by rw [HLen.out]; exact HO4, HB4⟩
        case measure => show (tl r n).size < r.size; omega
end Go.Proofs.YtgechifbbhipaaaDoor

/- charset: the reference's Valid. No condition but sizes. -/
set_option linter.unusedVariables false
set_option linter.unusedSimpArgs false
namespace Go.Proofs.YtgechifbbhipaaaDoor
open Go.RowKit

theorem refValid_any (s : ByteArray) (hs : s.size ≤ 1000000) (w : World) : Calls Tryd.prog 150 #[.string s] w fun e w' => e = .returned (.bool (ltS s).2) ∧ Below w.heap.size w w' := by
  have cL := Lib.hid (refLetters_any s hs w)
  unfold LetP at cL
  generalize (ltS s).1 = l at *
  generalize (ltS s).2 = q at *
  go_enter Tryd.func150, Tryd.ntmps150
  go_wp2_with (go_at_call 183; refine cL.out.mono ?_; rintro e w1 ⟨a, c, rfl, _, hb1⟩)
  go_ret
  exact ⟨rfl, hb1⟩

end Go.Proofs.YtgechifbbhipaaaDoor
