/- charset: Decode. No condition but the text's size and the tables. -/
import Derived.Test.YtcpmgnejbfnnjaaDoorChD
import Derived.Test.YtcpmgnejbfnnjaaDoorBr
namespace Go.Proofs.YtcpmgnejbfnnjaaDoor
open Go.RowKit

theorem cells_dec (l : List UInt8) (d : UInt8) (c : Nat) (h : c < 256) (hc : UInt8.ofNat c = d) : Lib.byteCells (decL l) ++ Lib.runeCells (c : Int) = Lib.byteCells (decL (l ++ [d])) := by
  have e : (d.toNat : Int) = (c : Int) := by rw [← hc]; simp; omega
  rw [decL_snoc, Lib.byteCells_append, Lib.byteCells_encodeRune, e]
theorem cells_len (l : List UInt8) : (Lib.byteCells (decL l)).length ≤ 4 * l.length := by
  rw [Lib.byteCells_length]; exact decL_len l

set_option maxRecDepth 100000 in
set_option maxHeartbeats 4000000 in
theorem dec_any (k : Int) (s : ByteArray) (hs : s.size ≤ 100000) (w : World) (hT : Lib.Utf8Tabs 0 1 w) : Calls Tryd.prog 15 #[.int .i64 k, .string s] w fun e w' => e = .returned (.tuple #[.string (decV k s).1, .int .i64 (decV k s).2]) ∧ Below w.heap.size w w' := by
  have cM := Lib.hid (fun w => most_any k w)
  by_cases hk : k < 1 ∨ 3 < k
  · have hR : decV k s = (mkT [], 5) := by unfold decV; rw [if_pos hk]
    have hm : mostN k = -1 := by unfold mostN; rw [if_neg (by omega), if_neg (by omega), if_neg (by omega)]
    rw [hR]
    rw [hm] at cM
    clear hR hk hm hT
    go_enter Tryd.func15, Tryd.ntmps15
    go_wp2_with (go_at_call 36; refine (cM.out _).mono ?_; rintro e w5 ⟨rfl, rfl⟩)
    go_ret2
    exact ⟨rfl, Below.refl _ _⟩
  · by_cases h3 : k = 3
    · subst h3
      have cV := Lib.hid (fun w h => valid_any s (by omega) w h)
      have HT := Lib.hid hT
      have hR : Hid (decV 3 s = if (ltS s).2 = true then (s, 0) else (mkT [], 16)) := by unfold Hid decV; rw [if_neg (by omega), if_pos rfl]
      clear hT hk
      rw [show mostN 3 = 1114111 from rfl] at cM
      generalize (ltS s).2 = q at *
      generalize decV 3 s = R at *
      cases q with
      | true =>
        rw [if_pos rfl] at hR
        go_enter Tryd.func15, Tryd.ntmps15
        go_wp2_with (first | (go_at_call 36; refine (cM.out _).mono ?_; rintro e w5 ⟨rfl, rfl⟩) | (go_at_call 11; refine (cV.out _ HT.out).mono ?_; rintro e w1 ⟨rfl, hb1⟩))
        go_ret2
        exact ⟨by rw [hR.out]; rfl, hb1⟩
      | false =>
        rw [if_neg (by simp)] at hR
        go_enter Tryd.func15, Tryd.ntmps15
        go_wp2_with (first | (go_at_call 36; refine (cM.out _).mono ?_; rintro e w5 ⟨rfl, rfl⟩) | (go_at_call 11; refine (cV.out _ HT.out).mono ?_; rintro e w1 ⟨rfl, hb1⟩))
        go_ret2
        exact ⟨by rw [hR.out]; rfl, hb1⟩
    · have e3 : (k == 3) = false := by simpa using h3
      have hm0 : 0 ≤ mostN k := by
        rcases (show k = 1 ∨ k = 2 by omega) with rfl | rfl <;> decide
      have HY : Hid (fitK (mostN k) s s.size → decV k s = (mkT (decL s.data.toList), 0)) := fun h => by unfold decV; rw [if_neg hk, if_neg h3, if_pos h]
      have HN : Hid (¬ fitK (mostN k) s s.size → decV k s = (mkT [], 16)) := fun h => by unfold decV; rw [if_neg hk, if_neg h3, if_neg h]
      generalize decV k s = R at *
      generalize mostN k = m at *
      have hm1 : ¬ m < 0 := by omega
      clear hk h3 hT
      go_enter Tryd.func15, Tryd.ntmps15
      go_wp2_with (first | (go_at_call 36; refine (cM.out _).mono ?_; rintro e w5 ⟨rfl, rfl⟩) | (with_reducible refine wpList_bytes _ rfl _ 9 56 5 rfl Tryd.underlying9 Tryd.underlying56 Tryd.underlying5 s rfl ?_; intro cap w1 hcap hc1 hb1 hz1 hf1))
      have hS1 : Src w1 (w.heap.size + 1) s := by have h := hc1; simp only [World.size_alloc] at h; exact h
      have hz1' : w.heap.size + 2 ≤ w1.heap.size := by have h := hz1; simp only [World.size_alloc] at h; omega
      have hb1' : Below (w.heap.size + 1) (w.alloc (.cells #[.pointer none, .slice none 0 0] 58)) w1 := by have h := hb1; simp only [World.size_alloc] at h; exact h
      have hBd1 : Bd (w.heap.size + 2) w.heap.size [] w1 := (Bd.new w (w.heap.size + 2)).below hb1' (by simp)
      have hB1 : Below w.heap.size w w1 := ((Below.refl _ w).alloc (Nat.le_refl _) _).trans (hb1'.mono (by omega))
      clear hc1 hb1 hz1 hf1 hb1' cM
      go_loopw [9, 30] (fun _ iv wr => ∃ i : Nat, i ≤ s.size ∧ iv = .int .i64 (i : Int) ∧ Hid (Bd (w.heap.size + 2) w.heap.size (Lib.byteCells (decL (s.data.toList.take i))) wr) ∧ Hid (Src wr (w.heap.size + 1) s) ∧ Hid (Below w.heap.size w wr) ∧ w.heap.size + 2 ≤ wr.heap.size ∧ Hid (fitK m s i)) (fun _ iv _ => s.size - (intOf iv).toNat)
      case atStart => exact ⟨0, Nat.zero_le _, rfl, hBd1, hS1, hB1, hz1', fun i _ h => absurd h (Nat.not_lt_zero _)⟩
      case round =>
        obtain ⟨i, hi, rfl, HBd, HS, HB, hz, HF⟩ := hrel
        clear hS1 hz1' hBd1 hB1
        by_cases hlt : i < s.size
        · have j1 : (i : Int) < s.size := by omega
          have k2 : decide (i < s.size) = true := by simp; omega
          have hge := gb_eq s i hlt
          have hcs := HS.out i hlt
          rw [hge] at hcs
          have hgl := gb_lt s i
          have hcl := cells_len (s.data.toList.take i)
          have hle : (s.data.toList.take i).length ≤ i := by rw [List.length_take]; omega
          have hlen : (Lib.byteCells (decL (s.data.toList.take i))).length + 4 ≤ 140737488355328 := by omega
          have hst : Hid (Lib.byteCells (decL (s.data.toList.take i)) ++ Lib.runeCells (gb s i : Int) = Lib.byteCells (decL (s.data.toList.take (i + 1)))) := by
            unfold Hid
            rw [List.take_succ_eq_append_getElem (by rw [len_toList]; exact hlt)]
            exact cells_dec _ _ _ hgl (by rw [← hge]; simp; rfl)
          have hF2 : Hid ((gb s i : Int) ≤ m → fitK m s (i + 1)) := fun h j hj hji => by
            by_cases e : j = i
            · subst e; rw [gb_eq s j hj]; exact h
            · exact HF.out j hj (by omega)
          have hN2 : Hid (¬ (gb s i : Int) ≤ m → ¬ fitK m s s.size) := fun h hf => h (by have := hf i hlt hlt; rw [hge] at this; exact this)
          clear hge hcl hle
          generalize gb s i = c at *
          generalize Lib.byteCells (decL (s.data.toList.take i)) = bs at *
          by_cases hgt : (c : Int) ≤ m
          · have q1 : ¬ m < (c : Int) := by omega
            have HF3 := Lib.hid (hF2.out hgt)
            have cW := Lib.hid (bd_writeRune (w.heap.size + 2) w.heap.size bs (c : Int) (by omega) (by omega) wr HBd.out hlen hz)
            rw [hst.out] at cW
            clear hF2 hN2 HY HN hst
            go_wp2_with (go_at_call 37; refine cW.out.mono ?_; rintro e w6 ⟨⟨n6, rfl⟩, hBd6, hbb6, hk6⟩)
            have hS6 : Src w6 (w.heap.size + 1) s := fun j hj => (hbb6.cell (by omega) (by omega)).trans (HS.out j hj)
            have hB6 : Below w.heap.size w w6 := HB.out.trans (hbb6.below (by omega) (Nat.le_refl _))
            have hz6 := hbb6.size
            go_roundw
            case rel => exact ⟨i + 1, by omega, by go_num, hBd6, hS6, hB6, by omega, HF3⟩
            case measure => simp [intOf]; omega
          · have q1 : m < (c : Int) := by omega
            have hG := Lib.hid (HN.out (hN2.out hgt))
            clear hF2 hN2 HY HN hst
            go_wp2_with fail
            go_ret2
            exact ⟨by rw [hG.out]; rfl, HB.out⟩
        · have j1 : ¬ (i : Int) < s.size := by omega
          have k2 : decide (i < s.size) = false := by simp; omega
          obtain rfl : i = s.size := by omega
          have ht : s.data.toList.take s.size = s.data.toList := List.take_of_length_le (by rw [len_toList]; exact Nat.le_refl _)
          rw [ht] at HBd
          have hG := Lib.hid (HY.out HF.out)
          have cS := Lib.hid (bd_string (w.heap.size + 2) w.heap.size _ wr w.heap.size HBd.out (by omega) (Nat.le_refl _) (by omega))
          clear HY HN ht
          go_wp2_with (go_at_call 38; refine cS.out.mono ?_; rintro e w6 ⟨rfl, hb6, _⟩)
          go_ret2
          exact ⟨by rw [hG.out]; rfl, HB.out.trans hb6⟩
end Go.Proofs.YtcpmgnejbfnnjaaDoor
