/- the reference's Encode: the walk. No condition but the text's size. -/
import Derived.Test.YtgechifbbhipaaaDoorEncP
set_option linter.unusedVariables false
set_option linter.unusedSimpArgs false
namespace Go.Proofs.YtgechifbbhipaaaDoor
open Go.RowKit

theorem ret_int {k : IntKind} {a b : Int} (h : a = b) : Ending.returned (.int k a) = .returned (.int k b) := by rw [h]

/-- bit m of a list of bytes -/
def bitL (l : List UInt8) (m : Nat) : Nat := (l[m / 8]?.getD 0).toNat / 2 ^ (7 - m % 8) % 2
theorem bitL_le (l : List UInt8) (m : Nat) : bitL l m ≤ 1 := by unfold bitL; omega

/-- j bits from f on -/
def bsum (l : List UInt8) (f : Nat) : Nat → Nat
  | 0 => 0
  | j + 1 => 2 * bsum l f j + bitL l (f + j)

theorem bsum_lt (l : List UInt8) (f j : Nat) : bsum l f j < 2 ^ j := by
  induction j with
  | zero => simp [bsum]
  | succ j ih => have := bitL_le l (f + j); rw [bsum, Nat.pow_succ]; omega

set_option maxHeartbeats 1000000 in
theorem bit_any (s : ByteArray) (m : Nat) (w : World) (hm : m ≤ 100000000) :
    Calls Tryd.prog 191 #[.string s, .int .i64 (m : Int)] w fun e w' => e = .returned (.int .i64 ((bitL s.data.toList m : Nat) : Int)) ∧ w = w' := by
  obtain ⟨q, hq⟩ : ∃ q, m / 8 = q := ⟨_, rfl⟩
  have hdiv : (m : Int) / 8 = (q : Int) := by omega
  by_cases hlt : q < s.size
  · have hb : bitL s.data.toList m = s[q].toNat / 2 ^ (7 - m % 8) % 2 := by unfold bitL; rw [hq, bat_get s q hlt]; rfl
    have hub : s[q].toNat < 256 := UInt8.toNat_lt _
    have key : m % 8 = 0 ∨ m % 8 = 1 ∨ m % 8 = 2 ∨ m % 8 = 3 ∨ m % 8 = 4 ∨ m % 8 = 5 ∨ m % 8 = 6 ∨ m % 8 = 7 := by omega
    rcases key with h | h | h | h | h | h | h | h
    all_goals
      rw [h] at hb
      have HB := Lib.hid hb
      have hmod : (m : Int) % 8 = ((m % 8 : Nat) : Int) := by omega
      rw [h] at hmod
      have HH := Lib.hid h
      have HQ := Lib.hid hq
      clear hb h hq
      go_enter Tryd.func191, Tryd.ntmps191
      go_wp2
      go_ret
      exact ⟨ret_int (by rw [HB.out]; simp), rfl⟩
  · have hb : bitL s.data.toList m = 0 := by
      unfold bitL; rw [hq, List.getElem?_eq_none (by rw [len_toList]; omega)]; simp
    have HB := Lib.hid hb
    have HQ := Lib.hid hq
    clear hb hq
    go_enter Tryd.func191, Tryd.ntmps191
    go_wp2
    go_ret
    exact ⟨ret_int (by rw [HB.out]; rfl), rfl⟩

theorem bitL_drop (l : List UInt8) (i m : Nat) : bitL l (8 * i + m) = bitL (l.drop i) m := by
  unfold bitL
  rw [List.getElem?_drop, show (8 * i + m) / 8 = i + m / 8 from by omega, show (8 * i + m) % 8 = m % 8 from by omega]
theorem bsum_drop (l : List UInt8) (i f j : Nat) : bsum l (8 * i + f) j = bsum (l.drop i) f j := by
  induction j with
  | zero => rfl
  | succ j ih => rw [bsum, bsum, ih, Nat.add_assoc, bitL_drop]

theorem bs_0 (a : UInt8) (l : List UInt8) : bsum (a :: l) 0 6 = a.toNat / 4 := by
  have ha : a.toNat < 256 := UInt8.toNat_lt _
  simp [bsum, bitL]; omega
theorem bs_6 (a b : UInt8) (l : List UInt8) : bsum (a :: b :: l) 6 6 = a.toNat % 4 * 16 + b.toNat / 16 := by
  have ha : a.toNat < 256 := UInt8.toNat_lt _
  have hb : b.toNat < 256 := UInt8.toNat_lt _
  simp [bsum, bitL]; omega
theorem bs_6' (a : UInt8) : bsum [a] 6 6 = a.toNat % 4 * 16 := by
  have ha : a.toNat < 256 := UInt8.toNat_lt _
  simp [bsum, bitL]; omega
theorem bs_12 (a b c : UInt8) (l : List UInt8) : bsum (a :: b :: c :: l) 12 6 = b.toNat % 16 * 4 + c.toNat / 64 := by
  have hb : b.toNat < 256 := UInt8.toNat_lt _
  have hc : c.toNat < 256 := UInt8.toNat_lt _
  simp [bsum, bitL]; omega
theorem bs_12' (a b : UInt8) : bsum [a, b] 12 6 = b.toNat % 16 * 4 := by
  have hb : b.toNat < 256 := UInt8.toNat_lt _
  simp [bsum, bitL]; omega
theorem bs_18 (a b c : UInt8) (l : List UInt8) : bsum (a :: b :: c :: l) 18 6 = c.toNat % 64 := by
  have hc : c.toNat < 256 := UInt8.toNat_lt _
  simp [bsum, bitL]; omega

/-- the letters of the first piece of a text -/
def fst3 (l : List UInt8) : List Int := enc3 (l.take 3)
theorem encS_fst (l : List UInt8) (h : l ≠ []) : encS l = fst3 l ++ encS (l.drop 3) := by
  match l with
  | [] => exact absurd rfl h
  | [a] => simp [fst3, encS]
  | [a, b] => simp [fst3, encS]
  | a :: b :: c :: l => simp [fst3, encS]

/-- letter k of the first piece -/
theorem fst3_get (l : List UInt8) (h : l ≠ []) (k : Nat) (hk : k < 4) : (fst3 l)[k]? = some (if 6 * k < 8 * l.length then let64 (bsum l (6 * k) 6) else 61) := by
  have hk' : k = 0 ∨ k = 1 ∨ k = 2 ∨ k = 3 := by omega
  match l with
  | [] => exact absurd rfl h
  | [a] => rcases hk' with rfl | rfl | rfl | rfl <;> simp [fst3, enc3, bs_0, bs_6']
  | [a, b] => rcases hk' with rfl | rfl | rfl | rfl <;> simp [fst3, enc3, bs_0, bs_6, bs_12']
  | a :: b :: c :: l =>
    have : ∀ j, j ≤ 18 → j < 8 * (l.length + 1 + 1 + 1) := fun j hj => by omega
    rcases hk' with rfl | rfl | rfl | rfl <;> simp [fst3, enc3, bs_0, bs_6, bs_12, bs_18, this]
theorem fst3_len (l : List UInt8) (h : l ≠ []) : (fst3 l).length = 4 := by
  match l with
  | [] => exact absurd rfl h
  | [a] => rfl
  | [a, b] => rfl
  | a :: b :: c :: l => rfl
theorem fst3_step (l : List UInt8) (h : l ≠ []) (k : Nat) (hk : k < 4) : (fst3 l).take (k + 1) = (fst3 l).take k ++ [if 6 * k < 8 * l.length then let64 (bsum l (6 * k) 6) else 61] := by
  have h1 := fst3_get l h k hk
  have h2 : k < (fst3 l).length := by rw [fst3_len l h]; exact hk
  rw [List.take_succ_eq_append_getElem h2]
  rw [List.getElem?_eq_getElem h2] at h1
  injection h1 with h1
  rw [h1]

set_option maxHeartbeats 2000000 in
theorem refEncode_any (s : ByteArray) (w : World) (hs : s.size ≤ 1000000) :
    Calls Tryd.prog 162 #[.string s] w fun e w' => e = .returned (.string (strOfNums (encS s.data.toList))) ∧ Below w.heap.size w w' := by
  obtain ⟨E, hE⟩ : ∃ E, encS s.data.toList = E := ⟨_, rfl⟩
  have HE := Lib.hid hE
  rw [hE]
  clear hE
  go_enter Tryd.func162, Tryd.ntmps162
  go_wp2_with fail
  go_loopw [3, 4, 5, 6, 7, 8] (fun b i _ _ _ _ wr => ∃ (g : Nat) (l : List Int) (a : Option Addr) (c : Nat), g ≤ s.size + 2 ∧ l.length ≤ 2 * g ∧ i = .int .i64 (g : Int) ∧ b = .slice a l.length c ∧ wr.ownsRow w.heap.size 5 1 (.slice a l.length c) l.length (l.map (Value.int .u8)) ∧ Below w.heap.size w wr ∧ Hid (l ++ encS (s.data.toList.drop g) = E)) (fun _ i _ _ _ _ _ => s.size + 3 - (intOf i).toNat)
  case atStart => exact ⟨0, [], none, 0, by omega, by simp, rfl, rfl, World.ownsRow_nil _ _ _ _, Below.refl _ _, HE.out⟩
  case round =>
    obtain ⟨g, l, a, c, hg, hlg, rfl, rfl, hown, hb, HP⟩ := hrel
    by_cases hlt : g < s.size
    · have hne : s.data.toList.drop g ≠ [] := by intro h; have := congrArg List.length h; simp at this; omega
      have HF : Hid (∀ k, k < 4 → (fst3 (s.data.toList.drop g)).take (k + 1) = (fst3 (s.data.toList.drop g)).take k ++ [if 6 * k < 8 * (s.size - g) then let64 (bsum (s.data.toList.drop g) (6 * k) 6) else 61]) := by
        intro k hk; rw [fst3_step _ hne k hk, List.length_drop, len_toList]
      have HP2 : Hid ((l ++ fst3 (s.data.toList.drop g)) ++ encS (s.data.toList.drop (g + 3)) = E) := by
        unfold Hid; rw [← HP.out, encS_fst _ hne, List.drop_drop, List.append_assoc]
      have HL4 := Lib.hid (fst3_len _ hne)
      have HBD : Hid (∀ m j, bsum s.data.toList (8 * g + m) j = bsum (s.data.toList.drop g) m j) := fun m j => bsum_drop _ _ _ _
      clear hne
      generalize fst3 (s.data.toList.drop g) = F at *
      generalize s.data.toList.drop g = D at *
      go_wp2_with fail
      go_loopw [3, 5, 6, 7, 8] (fun b k _ _ _ wr => ∃ (kk : Nat) (a : Option Addr) (c : Nat), kk ≤ 4 ∧ k = .int .i64 (kk : Int) ∧ b = .slice a (l.length + kk) c ∧ wr.ownsRow w.heap.size 5 1 (.slice a (l.length + kk) c) (l.length + kk) ((l ++ F.take kk).map (Value.int .u8)) ∧ Below w.heap.size w wr) (fun _ k _ _ _ _ => 4 - (intOf k).toNat)
      case atStart => exact ⟨0, a, c, by omega, rfl, rfl, by simpa using hown, hb⟩
      clear hown hb
      case round =>
        obtain ⟨kk, a2, c2, hk, rfl, rfl, hown, hb⟩ := hrel
        have hsz := hb.size
        have g1 : l.length + kk + 1 ≤ maxLen := by simp [maxLen]; omega
        have g2 : (l.length + kk + 1) * 1 ≤ 140737488355328 := by omega
        by_cases h4 : kk < 4
        · have hst := HF.out kk h4
          by_cases hpos : 6 * kk < 8 * (s.size - g)
          · rw [if_pos hpos] at hst
            have HST := Lib.hid hst
            have HX := Lib.hid hown
            have HB := Lib.hid hb
            have hp' : ¬ (8 : Int) * (s.size : Int) ≤ 8 * (g : Int) + 6 * (kk : Int) := by omega
            clear hst hown hb
            go_wp2_with fail
            go_loopw [7, 8] (fun n j wx => ∃ jj : Nat, jj ≤ 6 ∧ j = .int .i64 (jj : Int) ∧ n = .int .i64 ((bsum D (6 * kk) jj : Nat) : Int) ∧ wx = wr) (fun _ j _ => 6 - (intOf j).toNat)
            case atStart => exact ⟨0, by omega, rfl, rfl, rfl⟩
            case round =>
              obtain ⟨jj, hj, rfl, rfl, rfl⟩ := hrel
              have hbs := bsum_lt D (6 * kk) jj
              have hpw : 2 ^ jj ≤ 64 := Nat.le_trans (Nat.pow_le_pow_right (by decide) hj) (by decide)
              by_cases h6 : jj < 6
              · have hbit : Hid (bitL s.data.toList (8 * g + 6 * kk + jj) = bitL D (6 * kk + jj) ∧ bsum D (6 * kk) (jj + 1) = 2 * bsum D (6 * kk) jj + bitL D (6 * kk + jj)) := by
                  refine ⟨?_, rfl⟩
                  have e1 := HBD.out (6 * kk) (jj + 1)
                  have e2 := HBD.out (6 * kk) jj
                  rw [bsum, bsum, e2] at e1; omega
                have cb := bit_any s (8 * g + 6 * kk + jj)
                rw [hbit.out.1] at cb
                have HC := Lib.hid (fun w => cb w (by omega))
                have hv : ((8 * g + 6 * kk + jj : Nat) : Int) = 8 * (g : Int) + 6 * (kk : Int) + (jj : Int) := by omega
                have hble := bitL_le D (6 * kk + jj)
                have HC2 := HC
                rw [hv] at HC2
                have HBT := Lib.hid hbit.out.2
                clear cb hbit hv HC hpw
                generalize bitL D (6 * kk + jj) = bt at *
                generalize bsum D (6 * kk) jj = n0 at *
                have hn0 : n0 < 64 := by
                  have : 2 ^ jj ≤ 2 ^ 6 := Nat.pow_le_pow_right (by decide) hj
                  omega
                clear hbs
                go_wp2_with (go_at_call 191; refine (HC2.out _).mono ?_; rintro e w5 ⟨rfl, rfl⟩)
                go_roundw
                case rel => exact ⟨jj + 1, by omega, by go_num, by rw [HBT.out]; go_num, trivial⟩
                case measure => simp [intOf]; omega
              · obtain rfl : jj = 6 := by omega
                have hrl := run_let .i64 (bsum D (6 * kk) 6) (by omega)
                have hn0 : bsum D (6 * kk) 6 < 64 := by omega
                clear hbs hpw
                generalize bsum D (6 * kk) 6 = n0 at *
                go_wp2_with (at_builtin; go_must (refine wpList_app1 _ _ rfl _ _ 136 5 _ _ S43 rfl w.heap.size _ _ _ rfl rfl rfl HX.out g1 g2 hsz ?_); intro a' c' w4 hown4 hgr4 _ hb4)
                have HO : Hid (w4.ownsRow w.heap.size 5 1 (.slice a' (l.length + kk + 1) c') (l.length + kk + 1) ((l ++ F.take (kk + 1)).map (Value.int .u8))) := by
                  unfold Hid; rw [HST.out, ← List.append_assoc, List.map_append]; exact hown4
                have HB4 := Lib.hid (HB.out.trans hb4)
                clear hown4 hgr4 hb4
                go_wp2_with fail
                go_roundw
                case rel => exact ⟨kk + 1, a', c', by omega, by go_num, rfl, HO.out, HB4.out⟩
                case measure => simp [intOf]; omega
          · rw [if_neg hpos] at hst
            have HST := Lib.hid hst
            have HX := Lib.hid hown
            have HB := Lib.hid hb
            have hp' : (8 : Int) * (s.size : Int) ≤ 8 * (g : Int) + 6 * (kk : Int) := by omega
            clear hst hown hb
            go_wp2_with (at_builtin; go_must (refine wpList_app1 _ _ rfl _ _ 136 5 _ _ S43 rfl w.heap.size _ _ _ rfl rfl rfl HX.out g1 g2 hsz ?_); intro a' c' w4 hown4 hgr4 _ hb4)
            have HO : Hid (w4.ownsRow w.heap.size 5 1 (.slice a' (l.length + kk + 1) c') (l.length + kk + 1) ((l ++ F.take (kk + 1)).map (Value.int .u8))) := by
              unfold Hid; rw [HST.out, ← List.append_assoc, List.map_append]; exact hown4
            have HB4 := Lib.hid (HB.out.trans hb4)
            clear hown4 hgr4 hb4
            go_wp2_with fail
            go_roundw
            case rel => exact ⟨kk + 1, a', c', by omega, by go_num, rfl, HO.out, HB4.out⟩
            case measure => simp [intOf]; omega
        · obtain rfl : kk = 4 := by omega
          have hF : F.take 4 = F := List.take_of_length_le (by rw [HL4.out]; exact Nat.le_refl _)
          rw [hF] at hown
          have HX := Lib.hid hown
          have HB := Lib.hid hb
          have HLL : Hid ((l ++ F).length = l.length + 4) := by unfold Hid; rw [List.length_append, HL4.out]
          clear hown hb hF
          go_wp2_with fail
          go_roundw
          case rel => exact ⟨g + 3, l ++ F, a2, c2, by omega, by rw [HLL.out]; omega, by go_num, by rw [HLL.out], by rw [HLL.out]; exact HX.out, HB.out, HP2.out⟩
          case measure => simp [intOf]; omega
    · have hdr : s.data.toList.drop g = [] := List.drop_of_length_le (by rw [len_toList]; omega)
      have HL : Hid (E = l) := by unfold Hid; rw [← HP.out, hdr]; simp [encS]
      have HB := Lib.hid hb
      clear hb hdr HP
      go_wp2_with (with_reducible refine wpList_str _ rfl _ 136 9 5 rfl Tryd.underlying136 Tryd.underlying9 Tryd.underlying5 w.heap.size _ _ _ l rfl hown ?_)
      go_ret
      exact ⟨ret_str HL.out.symm, HB.out⟩
end Go.Proofs.YtgechifbbhipaaaDoor
