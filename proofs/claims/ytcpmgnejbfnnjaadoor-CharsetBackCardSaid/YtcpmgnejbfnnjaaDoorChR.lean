/- charset: the reference's Decode. No condition but sizes. -/
import Derived.Test.YtcpmgnejbfnnjaaDoorChD
import Derived.Test.YtcpmgnejbfnnjaaDoorKit4
import Derived.BigQuiet
namespace Go.Proofs.YtcpmgnejbfnnjaaDoor
open Go.RowKit

theorem below_dr {B : Nat} {w w' : World} (h : Below B w w') (n : Nat) : Below B w (w'.drewN n) := ⟨h.os, h.tape, h.output, h.size, h.block⟩

theorem ret_two {s t : ByteArray} {a b : Int} (h1 : s = t) (h2 : a = b) : Ending.returned (.tuple #[.string s, .int .i64 a]) = Ending.returned (.tuple #[.string t, .int .i64 b]) := by rw [h1, h2]

set_option maxRecDepth 100000 in
set_option maxHeartbeats 4000000 in
theorem refDecode_any (k : Int) (s : ByteArray) (hs : s.size ≤ 100000) (w : World) : Calls Tryd.prog 16 #[.int .i64 k, .string s] w fun e w' => e = .returned (.tuple #[.string (decV k s).1, .int .i64 (decV k s).2]) ∧ Below w.heap.size w w' := by
  by_cases h1 : k < 1
  · have hR : decV k s = (mkT [], 5) := by unfold decV; rw [if_pos (.inl h1)]
    rw [hR]
    go_enter Tryd.func16, Tryd.ntmps16
    go_wp2_with fail
    go_ret2
    exact ⟨rfl, Below.refl _ _⟩
  · by_cases h2 : 3 < k
    · have hR : decV k s = (mkT [], 5) := by unfold decV; rw [if_pos (.inr h2)]
      rw [hR]
      go_enter Tryd.func16, Tryd.ntmps16
      go_wp2_with fail
      go_ret2
      exact ⟨rfl, Below.refl _ _⟩
    · by_cases h3 : k = 3
      · subst h3
        have cV := Lib.hid (refValid_any s (by omega) w)
        have hR : Hid (decV 3 s = if (ltS s).2 = true then (s, 0) else (mkT [], 16)) := by unfold Hid decV; rw [if_neg (by omega), if_pos rfl]
        generalize (ltS s).2 = q at *
        generalize decV 3 s = R at *
        cases q with
        | true =>
          rw [if_pos rfl] at hR
          go_enter Tryd.func16, Tryd.ntmps16
          go_wp2_with (go_at_call 39; refine cV.out.mono ?_; rintro e w1 ⟨rfl, hb1⟩)
          go_ret2
          exact ⟨by rw [hR.out]; rfl, hb1⟩
        | false =>
          rw [if_neg (by simp)] at hR
          go_enter Tryd.func16, Tryd.ntmps16
          go_wp2_with (go_at_call 39; refine cV.out.mono ?_; rintro e w1 ⟨rfl, hb1⟩)
          go_ret2
          exact ⟨by rw [hR.out]; rfl, hb1⟩
      · have e3 : (k == 3) = false := by simpa using h3
        have hm : refMostN k = mostN k := by
          rcases (show k = 1 ∨ k = 2 by omega) with rfl | rfl <;> rfl
        have cM := Lib.hid (fun w => refMost_any k w)
        rw [hm] at cM
        clear hm
        have HY : Hid (fitK (mostN k) s s.size → decV k s = (mkT (decL s.data.toList), 0)) := fun h => by unfold decV; rw [if_neg (by omega), if_neg h3, if_pos h]
        have HN : Hid (¬ fitK (mostN k) s s.size → decV k s = (mkT [], 16)) := fun h => by unfold decV; rw [if_neg (by omega), if_neg h3, if_neg h]
        generalize decV k s = R at *
        generalize mostN k = m at *
        go_enter Tryd.func16, Tryd.ntmps16
        go_wp2_with fail
        go_loopw [6, 7] (fun sv iv wr => ∃ i : Nat, i ≤ s.size ∧ iv = .int .i64 (i : Int) ∧ sv = .string (mkT (decL (s.data.toList.take i))) ∧ Hid (fitK m s i) ∧ Hid (Below w.heap.size w wr)) (fun _ iv _ => s.size - (intOf iv).toNat)
        case atStart => exact ⟨0, Nat.zero_le _, rfl, by simp [decL, mkT], fun i _ h => absurd h (Nat.not_lt_zero _), Below.refl _ _⟩
        case round =>
          obtain ⟨i, hi, rfl, rfl, HF, HB⟩ := hrel
          by_cases hlt : i < s.size
          · have j1 : (i : Int) < s.size := by omega
            have hrd := run_gb s i hlt
            have hge := gb_eq s i hlt
            have hsz1 : (mkT (decL (s.data.toList.take i))).size ≤ 400000 := by
              have := decL_len (s.data.toList.take i)
              rw [List.length_take] at this
              simp only [mkT, ByteArray.size, List.size_toArray]; omega
            have hsz2 : (mkT (Lib.encodeRune (gb s i : Int))).size ≤ 4 := by
              have := Lib.runeCells_le (gb s i : Int)
              rw [Lib.runeCells_length] at this
              simp only [mkT, ByteArray.size, List.size_toArray]; omega
            have hst : Hid (mkT (decL (s.data.toList.take (i + 1))) = mkT (decL (s.data.toList.take i)) ++ mkT (Lib.encodeRune (gb s i : Int))) := by
              unfold Hid
              have eb : (s.data.toList[i]'(by rw [len_toList]; exact hlt)).toNat = gb s i := by rw [← hge]; simp; rfl
              rw [List.take_succ_eq_append_getElem (by rw [len_toList]; exact hlt), decL_snoc, eb]
              apply Go.WideShapes.bytes_inj
              simp [mkT]
            have hF2 : Hid ((gb s i : Int) ≤ m → fitK m s (i + 1)) := fun h j hj hji => by
              by_cases e : j = i
              · subst e; rw [gb_eq s j hj]; exact h
              · exact HF.out j hj (by omega)
            have hN2 : Hid (¬ (gb s i : Int) ≤ m → ¬ fitK m s s.size) := fun h hf => h (by have := hf i hlt hlt; rw [hge] at this; exact this)
            have cP := Lib.hid (fun w => put_any (gb s i) (gb_lt s i) w)
            have hgl := gb_lt s i
            clear hge
            generalize gb s i = c at *
            have hwc : wrap64 (c : Int) = (c : Int) := by unfold wrap64; omega
            generalize mkT (Lib.encodeRune (c : Int)) = pb at *
            generalize mkT (decL (s.data.toList.take i)) = acc at *
            by_cases hgt : (c : Int) ≤ m
            · have q1 : ¬ m < (c : Int) := by omega
              have HF3 := Lib.hid (hF2.out hgt)
              clear hF2 hN2 HY HN
              go_wp2_with fail
              go_quiet ((go_at_call 40; refine Calls.quiet_of_same ((cM.out _).mono fun _ _ hh => ⟨hh.1, hh.2.symm⟩)))
              go_wp2_with (go_at_call 41; refine (cP.out _).mono ?_; rintro e w6 ⟨rfl, hb6⟩)
              go_roundw
              case rel => exact ⟨i + 1, by omega, by go_num, by rw [hst.out], HF3, (below_dr HB.out nq).trans (hb6.mono (below_dr HB.out nq).size)⟩
              case measure => simp [intOf]; omega
            · have q1 : m < (c : Int) := by omega
              have hG := Lib.hid (HN.out (hN2.out hgt))
              clear hF2 hN2 HY HN cP
              go_wp2_with fail
              go_quiet ((go_at_call 40; refine Calls.quiet_of_same ((cM.out _).mono fun _ _ hh => ⟨hh.1, hh.2.symm⟩)))
              go_wp2_with fail
              go_ret2
              exact ⟨by rw [hG.out]; rfl, below_dr HB.out nq⟩
          · have j1 : ¬ (i : Int) < s.size := by omega
            obtain rfl : i = s.size := by omega
            have ht : s.data.toList.take s.size = s.data.toList := List.take_of_length_le (by rw [len_toList]; exact Nat.le_refl _)
            rw [ht]
            have hG := Lib.hid (HY.out HF.out)
            clear HY HN
            go_wp2_with fail
            go_ret2
            exact ⟨by rw [hG.out]; rfl, HB.out⟩
end Go.Proofs.YtcpmgnejbfnnjaaDoor
