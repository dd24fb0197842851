/- the reference's Text: the walk. No condition. -/
import Derived.Test.YtgechifbbhipaaaDoorDigits
set_option linter.unusedVariables false
set_option linter.unusedSimpArgs false
namespace Go.Proofs.YtgechifbbhipaaaDoor
open Go.RowKit

/-- what is still to come of r, the lowest digit first -/
def dlr (f : Nat) (m : Nat) : List Int := if m = 0 then [] else dl f m

theorem dlr_step (f m : Nat) (h : m ≠ 0) : dlr (f + 1) m = hexd (m % 10) :: dlr f (m / 10) := by
  unfold dlr
  rw [if_neg h, dl]

theorem strOfNums_cons (a : UInt8) (l : List Int) : ({ data := #[a] } : ByteArray) ++ strOfNums l = strOfNums ((a.toNat : Int) :: l) := by
  apply ByteArray.ext
  simp [strOfNums]

theorem hexd_dec (n : Nat) (h : n < 10) : hexd n = 48 + (n : Int) := by rw [hexd, if_pos h]; omega

set_option maxHeartbeats 2000000 in
set_option maxRecDepth 100000 in
theorem refText_any (n : Int) (w : World) (h0 : -9223372036854775808 ≤ n) (h1 : n ≤ 9223372036854775807) :
    Calls Tryd.prog 68 #[.int .i64 n] w fun e w' => e = .returned (.string (strOfNums (textL n))) ∧ Below w.heap.size w w' := by
  by_cases hz : n = 0
  · subst hz
    have hf : { data := #[48] } = strOfNums (textL 0) := by decide
    have HF := Lib.hid hf
    clear hf
    go_enter Tryd.func68, Tryd.ntmps68
    go_wp2
    go_ret
    exact ⟨ret_bytes' HF.out, Below.refl _ _⟩
  · have hzb : (n == 0) = false := by simpa using hz
    have key : (n < 0 ∧ Hid (textL n = (dl 20 n.natAbs ++ [45]).reverse)) ∨ (0 ≤ n ∧ Hid (textL n = (dl 20 n.natAbs).reverse)) := by
      by_cases h : n < 0
      · exact .inl ⟨h, by unfold Hid textL; rw [if_pos h]⟩
      · exact .inr ⟨by omega, by unfold Hid textL; rw [if_neg h]⟩
    have HA : Hid (n.natAbs ≠ 0) := by unfold Hid; omega
    rcases key with ⟨hn, HT⟩ | ⟨hn, HT⟩
    all_goals
      go_enter Tryd.func68, Tryd.ntmps68
      go_wp2_with fail
      go_loopw [0, 3, 5] (fun x b _ wr => ∃ (r : Int) (f : Nat) (l : List Int) (ad : Option Addr) (c : Nat), -9223372036854775808 ≤ r ∧ r ≤ 9223372036854775807 ∧ Hid (r.natAbs < 10 ^ f) ∧ l.length + f = 20 ∧ x = .int .i64 r ∧ b = .slice ad l.length c ∧
          wr.ownsRow w.heap.size 5 1 (.slice ad l.length c) l.length (l.map (Value.int .u8)) ∧ Below w.heap.size w wr ∧ Hid (l.reverse ++ dlr f r.natAbs = dl 20 n.natAbs)) (fun x _ _ _ => (intOf x).natAbs)
      case atStart => exact ⟨n, 20, [], none, 0, h0, h1, by unfold Hid; omega, rfl, rfl, rfl, World.ownsRow_nil _ _ _ _, Below.refl _ _, by unfold Hid dlr; rw [if_neg HA.out]; rfl⟩
      case round =>
        obtain ⟨r, f, l, ad, c, hr0, hr1, HF, hlf, rfl, rfl, hown, hb, HE⟩ := hrel
        by_cases hr : r = 0
        · subst hr
          have hl : l.reverse = dl 20 n.natAbs := by have := HE.out; unfold dlr at this; simpa using this
          have HL := Lib.hid hl
          have HB := Lib.hid hb
          clear hl hb HE HF
          have hcv := run_str (P := Tryd.prog) wr 136 9 5 Tryd.underlying136 Tryd.underlying9 Tryd.underlying5 _ _ _ _ hown
          have hsz := strOfNums_size l
          have hlb : l.length ≤ 20 := by omega
          clear hlf
          go_wp2_with fail
          go_ret
          exact ⟨ret_bytes' (by first | (rw [HT.out, ← HL.out]; simp; exact strOfNums_cons 45 l) | (rw [HT.out, ← HL.out, List.reverse_reverse])), HB.out⟩
        · have hrb : (r != 0) = true := by simpa using hr
          obtain ⟨f, rfl⟩ : ∃ f', f = f' + 1 := by
            cases f with
            | zero => have := HF.out; exfalso; apply hr; omega
            | succ f => exact ⟨f, rfl⟩
          have hs := dlr_step f r.natAbs (by omega)
          have hd10 : r.natAbs % 10 < 10 := Nat.mod_lt _ (by decide)
          rw [hexd_dec _ hd10] at hs
          have ht : (0 ≤ r ∧ r % 10 = (r.natAbs % 10 : Nat)) ∨ (r < 0 ∧ r.tmod 10 = -((r.natAbs % 10 : Nat) : Int)) := by
            rcases Int.lt_or_le r 0 with h | h
            · right; refine ⟨h, ?_⟩; have : r = -((-r)) := by omega
              rw [this, Int.neg_tmod, Int.tmod_eq_emod_of_nonneg (by omega)]; omega
            · left; exact ⟨h, by omega⟩
          obtain ⟨q, hqeq⟩ : ∃ q, r.tdiv 10 = q := ⟨_, rfl⟩
          have hqa : q.natAbs = r.natAbs / 10 := by
            rcases Int.le_total 0 r with h | h
            · rw [← hqeq, Int.tdiv_eq_ediv_of_nonneg h]; omega
            · have e : r = -((-r)) := by omega
              rw [← hqeq, e, Int.neg_tdiv, Int.tdiv_eq_ediv_of_nonneg (by omega)]; omega
          have hqd : 0 ≤ r → r / 10 = q := fun h => by rw [← hqeq, Int.tdiv_eq_ediv_of_nonneg h]
          have hqb1 : -9223372036854775808 ≤ q := by omega
          have hqb2 : q ≤ 9223372036854775807 := by omega
          have HE2 : Hid ((((48 + ((r.natAbs % 10 : Nat) : Int)) :: l).reverse) ++ dlr f q.natAbs = dl 20 n.natAbs) := by
            unfold Hid; rw [← HE.out, hs, hqa]; simp
          have HF2 : Hid (q.natAbs < 10 ^ f) := by
            unfold Hid; rw [hqa]; have := HF.out; rw [Nat.pow_succ] at this; exact Nat.div_lt_of_lt_mul (by omega)
          have HM : Hid (q.natAbs < r.natAbs) := by unfold Hid; omega
          have g1 : 1 + l.length ≤ maxLen := by simp [maxLen]; omega
          have g2 : (1 + l.length) * 1 ≤ 140737488355328 := by omega
          have g3 := hb.size
          have HX := Lib.hid hown
          have HB := Lib.hid hb
          have HLF := Lib.hid hlf
          clear hs hqa hown hb hlf HE HF
          generalize r.natAbs % 10 = d at *
          rcases ht with ⟨hrs, ht⟩ | ⟨hrs, ht⟩
          · have hq2 := hqd hrs
            clear hqd hqeq hr
            go_wp2_with (at_builtin; go_must (refine wpList_prep _ _ rfl _ _ 136 5 _ _ S43 rfl w.heap.size _ _ _ _ rfl rfl (nums_one _ _) HX.out g1 g2 g3 ?_; intro a' c' w1 hown1 hb1))
            have HO := Lib.hid hown1
            have HB2 : Hid (Below w.heap.size w w1) := HB.out.trans (hb1.mono g3)
            clear hown1 hb1
            go_wp2_with fail
            go_roundw
            case rel => exact ⟨q, f, (48 + (d : Int)) :: l, a', c', hqb1, hqb2, HF2.out, by have := HLF.out; simp; omega, by rw [hq2], rfl, HO.out, HB2.out, HE2.out⟩
            case measure => rw [hq2]; simp [intOf]; exact HM.out
          · clear hqd hr
            rcases Nat.eq_zero_or_pos d with rfl | hdp
            · have ht0 : r.tmod 10 = 0 := by simpa using ht
              clear ht
              go_wp2_with (at_builtin; go_must (refine wpList_prep _ _ rfl _ _ 136 5 _ _ S43 rfl w.heap.size _ _ _ _ rfl rfl (nums_one _ _) HX.out g1 g2 g3 ?_; intro a' c' w1 hown1 hb1))
              have HO := Lib.hid hown1
              have HB2 : Hid (Below w.heap.size w w1) := HB.out.trans (hb1.mono g3)
              clear hown1 hb1
              go_wp2_with fail
              go_roundw
              case rel => exact ⟨q, f, (48 + ((0 : Nat) : Int)) :: l, a', c', hqb1, hqb2, HF2.out, by have := HLF.out; simp; omega, rfl, rfl, by simpa using HO.out, HB2.out, HE2.out⟩
              case measure => simp [intOf]; exact HM.out
            · go_wp2_with (at_builtin; go_must (refine wpList_prep _ _ rfl _ _ 136 5 _ _ S43 rfl w.heap.size _ _ _ _ rfl rfl (nums_one _ _) HX.out g1 g2 g3 ?_; intro a' c' w1 hown1 hb1))
              have HO := Lib.hid hown1
              have HB2 : Hid (Below w.heap.size w w1) := HB.out.trans (hb1.mono g3)
              clear hown1 hb1
              go_wp2_with fail
              go_roundw
              case rel => exact ⟨q, f, (48 + (d : Int)) :: l, a', c', hqb1, hqb2, HF2.out, by have := HLF.out; simp; omega, rfl, rfl, HO.out, HB2.out, HE2.out⟩
              case measure => simp [intOf]; exact HM.out
end Go.Proofs.YtgechifbbhipaaaDoor
