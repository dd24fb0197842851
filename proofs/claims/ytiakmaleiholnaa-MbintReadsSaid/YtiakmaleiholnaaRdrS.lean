/- The reference's reader: Bytes, Text, Number. No condition but the text's size. -/
import Derived.Test.YtiakmaleiholnaaRdrR
namespace Go.Proofs.Ytiakmaleiholnaa
open Go.RowKit

theorem refBytes_any (b : Nat) (s : ByteArray) (i : Nat) (e0 n : Int) (w : World) (h : Rd w b s i e0) (hi : i ≤ s.size) (hs : s.size ≤ 140737488355328) :
    Calls Try.prog 45 #[.pointer (some ⟨b, 0, none⟩), .int .i64 n] w fun e w' => e = .returned (.string (bytesV s i e0 n).1) ∧ Rd w' b s (bytesV s i e0 n).2.1 (bytesV s i e0 n).2.2 ∧ Only b w w' := by
  have H := Lib.hid h
  have d0 := h.c0
  have d1 := h.c1
  have d2 := h.c2
  have g1 := h.f1
  have g2 := h.f2
  clear h
  by_cases he : e0 = 0
  · subst he
    by_cases hneg : n < 0
    · have hv : bytesV s i 0 n = (ByteArray.empty, i, 2) := by unfold bytesV; rw [if_neg (by simp), if_pos hneg]
      rw [hv]
      clear hv
      go_enter Try.func45, Try.ntmps45
      go_wp2
      go_ret
      exact ⟨rfl, H.out.setErr 2, Only.set _ _ _ _⟩
    · by_cases hbig : (s.size : Int) - i < n
      · have hv : bytesV s i 0 n = (ByteArray.empty, i, 1) := by unfold bytesV; rw [if_neg (by simp), if_neg hneg, if_pos hbig]
        rw [hv]
        have hA : IntKind.i64.wrap ((s.size : Int) - i) = (s.size : Int) - i := IntWalk.i64_in _ (by omega)
        clear hv
        go_enter Try.func45, Try.ntmps45
        go_wp2
        go_quiet (fail)
        go_wp2
        go_ret
        exact ⟨rfl, (H.out.drewN _).setErr 1, (Only.drewN _ _ _).trans (Only.set _ _ _ _)⟩
      · obtain ⟨m, rfl⟩ := Int.eq_ofNat_of_zero_le (Int.not_lt.1 hneg)
        have hv : bytesV s i 0 (m : Int) = (s.extract i (i + m), i + m, 0) := by unfold bytesV; rw [if_neg (by simp), if_neg hneg, if_neg hbig]; rfl
        rw [hv]
        have hA : IntKind.i64.wrap ((s.size : Int) - i) = (s.size : Int) - i := IntWalk.i64_in _ (by omega)
        have hm : i + m ≤ s.size := by omega
        clear hv
        go_enter Try.func45, Try.ntmps45
        go_wp2
        go_quiet (fail)
        rename_i nq
        go_wp2
        have H3 := (H.out.drewN nq).setAt (i + m)
        have HO := Lib.hid ((Only.drewN b w nq).trans (Only.set b 1 _ (.int .i64 ((i + m : Nat) : Int))))
        rw [show ((i + m : Nat) : Int) = (i : Int) + m from by omega] at H3 HO
        clear d0 d1 d2 g1 g2 hA
        generalize (w.drewN nq).setCell ⟨b, 1, none⟩ (.int .i64 ((i : Int) + m)) = w2 at *
        have d0 := H3.c0
        have d1 := H3.c1
        have HH := Lib.hid H3
        rw [show ((i + m : Nat) : Int) = (i : Int) + m from by omega] at d1
        have hA : IntKind.i64.wrap ((i : Int) + m - m) = (i : Int) := (IntWalk.i64_in _ (by omega)).trans (by omega)
        have hA0 : (0 : Int) ≤ (i : Int) := by omega
        have hA1 : (i : Int) ≤ (i : Int) + m := by omega
        have hA2 : (i : Int) + m ≤ s.size := by omega
        have hA3 : (0 : Int) ≤ (i : Int) + m := by omega
        clear H3
        go_quiet (fail)
        go_wp2
        go_ret
        exact ⟨rfl, HH.out.drewN _, HO.out.trans (Only.drewN _ _ _)⟩
  · have hv : bytesV s i e0 n = (ByteArray.empty, i, e0) := by unfold bytesV; rw [if_pos he]
    have hzb : (e0 == 0) = false := by simpa using he
    rw [hv]
    clear he hv
    go_enter Try.func45, Try.ntmps45
    go_wp2
    go_ret
    exact ⟨rfl, H.out, Only.refl _ _⟩

theorem idx_of {l : List UInt8} {c : UInt8} {o : Nat} (h : l[o]? = some c) (hb : ∀ j, j < o → l[j]? ≠ some c) : Lib.indexByte l c = o := by
  rcases idx_lt l c with h1 | h1
  · by_cases hneg : Lib.indexByte l c < 0
    · exact absurd h (Lib.indexByte_none (by have := Lib.indexByte_ge l c; omega) o)
    · obtain ⟨k, hk⟩ := Int.eq_ofNat_of_zero_le (Int.not_lt.1 hneg)
      obtain ⟨h2, h3⟩ := Lib.indexByte_some hk
      rw [hk]
      rcases Nat.lt_trichotomy k o with h4 | h4 | h4
      · exact absurd h2 (hb k h4)
      · rw [h4]
      · exact absurd h (h3 o h4)
  · exact absurd h (Lib.indexByte_none h1 o)
theorem idx_no {l : List UInt8} {c : UInt8} (h : ∀ j, j < l.length → l[j]? ≠ some c) : Lib.indexByte l c = -1 := by
  rcases idx_lt l c with h1 | h1
  · by_cases hneg : Lib.indexByte l c < 0
    · have := Lib.indexByte_ge l c; omega
    · obtain ⟨k, hk⟩ := Int.eq_ofNat_of_zero_le (Int.not_lt.1 hneg)
      obtain ⟨h2, h3⟩ := Lib.indexByte_some hk
      exact absurd h2 (h k (by omega))
  · exact h1

theorem refText_any2 (b : Nat) (s : ByteArray) (i : Nat) (e0 : Int) (w : World) (h : Rd w b s i e0) (hi : i ≤ s.size) (hs : s.size ≤ 140737488355328) :
    Calls Try.prog 47 #[.pointer (some ⟨b, 0, none⟩)] w fun e w' => e = .returned (.string (textV s i e0).1) ∧ Rd w' b s (textV s i e0).2.1 (textV s i e0).2.2 ∧ Only b w w' := by
  have H := Lib.hid h
  have d0 := h.c0
  have d1 := h.c1
  have d2 := h.c2
  have g1 := h.f1
  have g2 := h.f2
  clear h
  by_cases he : e0 = 0
  · subst he
    obtain ⟨V, hV⟩ : ∃ V, textV s i 0 = V := ⟨_, rfl⟩
    have HV := Lib.hid hV
    rw [hV]
    clear hV
    go_enter Try.func47, Try.ntmps47
    go_wp2
    go_loop [3] (fun k => ∃ n : Nat, i ≤ n ∧ n ≤ s.size ∧ k = .int .i64 n ∧ Hid (∀ j, i ≤ j → j < n → s.data.toList[j]? ≠ some 0)) (fun k => s.size - (intOf k).toNat)
    case atStart => exact ⟨i, Nat.le_refl _, hi, rfl, fun j h1 h2 => by omega⟩
    case round =>
      obtain ⟨n, hn, hns, rfl, HN⟩ := hrel
      by_cases hlt : n < s.size
      · have HB := Lib.hid (bat_get s n hlt)
        by_cases hz : s[n].toNat = 0
        · have hzb : ((s[n].toNat : Int) == 0) = true := by simp; omega
          have hidx : Lib.indexByte (s.data.toList.drop i) 0 = ((n - i : Nat) : Int) := by
            refine idx_of ?_ ?_
            · rw [List.getElem?_drop, show i + (n - i) = n from by omega, HB.out]; congr 1; exact UInt8.toNat_inj.1 (by simpa using hz)
            · intro j hj; rw [List.getElem?_drop]; exact HN.out _ (by omega) (by omega)
          have HT : Hid (V = (s.extract i n, n + 1, 0)) := by
            unfold Hid; rw [← HV.out]; unfold textV; rw [if_neg (by simp), if_neg (by omega), hidx, Int.toNat_natCast, show i + (n - i) = n from by omega]
          clear hidx hz
          go_wp2
          go_quiet (fail)
          rename_i nq
          go_wp2
          go_ret
          rw [HT.out]
          exact ⟨rfl, by simpa using (H.out.drewN _).setAt (n + 1), (Only.drewN _ _ _).trans (Only.set _ _ _ _)⟩
        · have hzb : ((s[n].toNat : Int) == 0) = false := by simp; omega
          have HN2 : Hid (∀ j, i ≤ j → j < n + 1 → s.data.toList[j]? ≠ some 0) := by
            intro j h1 h2
            by_cases hj : j < n
            · exact HN.out j h1 hj
            · obtain rfl : j = n := by omega
              rw [HB.out]; intro h; apply hz; injection h with h; rw [h]; rfl
          clear hz
          go_wp2
          go_round
          case rel => exact ⟨n + 1, by omega, by omega, by go_num, HN2⟩
          case measure => simp [intOf]; omega
      · obtain rfl : n = s.size := by omega
        have hidx : Lib.indexByte (s.data.toList.drop i) 0 = -1 := by
          refine idx_no ?_
          intro j hj; rw [List.getElem?_drop]; simp at hj; exact HN.out _ (by omega) (by omega)
        have HT : Hid (V = (ByteArray.empty, i, 1)) := by
          unfold Hid; rw [← HV.out]; unfold textV; rw [if_neg (by simp), hidx, if_pos (by omega)]
        clear hidx
        go_wp2
        go_ret
        rw [HT.out]
        exact ⟨rfl, H.out.setErr 1, Only.set _ _ _ _⟩
  · have hv : textV s i e0 = (ByteArray.empty, i, e0) := by unfold textV; rw [if_pos he]
    have hzb : (e0 == 0) = false := by simpa using he
    rw [hv]
    clear he hv
    go_enter Try.func47, Try.ntmps47
    go_wp2
    go_ret
    exact ⟨rfl, H.out, Only.refl _ _⟩

set_option maxHeartbeats 1000000 in
theorem refNumber_any (b : Nat) (s : ByteArray) (i : Nat) (e0 : Int) (w : World) (h : Rd w b s i e0) (hi : i ≤ s.size) (hs : s.size ≤ 140737488355328) :
    Calls Try.prog 43 #[.pointer (some ⟨b, 0, none⟩)] w fun e w' => e = .returned (.int .u32 ((numV s i e0).1 : Int)) ∧ Rd w' b s (numV s i e0).2.1 (numV s i e0).2.2 ∧ Only b w w' := by
  have H := Lib.hid h
  have d0 := h.c0
  have d1 := h.c1
  have d2 := h.c2
  have g1 := h.f1
  have g2 := h.f2
  clear h
  by_cases he : e0 = 0
  · subst he
    obtain ⟨V, hV⟩ : ∃ V, numV s i 0 = V := ⟨_, rfl⟩
    have HV : Hid (V = ((svn 0 0 (s.data.toList.drop i)).1, i + (svn 0 0 (s.data.toList.drop i)).2.1, (svn 0 0 (s.data.toList.drop i)).2.2)) := by
      unfold Hid; rw [← hV]; unfold numV; rw [if_neg (by simp)]
    rw [hV]
    clear hV
    go_enter Try.func43, Try.ntmps43
    go_wp2
    go_loop [3, 4] (fun a k => ∃ m n : Nat, i ≤ n ∧ n ≤ s.size ∧ (m : Int) ≤ 4294967295 ∧ a = .int .u64 m ∧ k = .int .i64 n ∧ Hid (svn 0 0 (s.data.toList.drop i) = svn m (n - i) (s.data.toList.drop n))) (fun _ k => s.size - (intOf k).toNat)
    case atStart => exact ⟨0, i, Nat.le_refl _, hi, by omega, rfl, rfl, by unfold Hid; rw [Nat.sub_self]⟩
    case round =>
      obtain ⟨m, n, hn, hns, hm, rfl, rfl, HE⟩ := hrel
      by_cases hlt : n < s.size
      · have HD := Lib.hid (drop_cons_at s n hlt)
        have hub : s[n].toNat < 256 := UInt8.toNat_lt _
        obtain ⟨q, hq⟩ : ∃ q, s[n] = q := ⟨_, rfl⟩
        rw [hq] at HD hub
        have HQ := Lib.hid hq
        clear hq
        by_cases hbad : n = i ∧ q.toNat = 128
        · obtain ⟨rfl, hqq⟩ := hbad
          have HF : Hid (V = (0, n + 0, 3)) := by
            unfold Hid; rw [HV.out, HE.out, HD.out, svn_bad (Nat.sub_self n) hqq]
          have hqb : ((s[n].toNat : Int) == 128) = true := by rw [HQ.out]; simp; omega
          clear hqq
          go_wp2
          go_ret
          rw [HF.out]
          exact ⟨rfl, H.out.setErr 3, Only.set _ _ _ _⟩
        · have HG : Hid (n - i = 0 → q.toNat ≠ 128) := fun h h' => hbad ⟨by omega, h'⟩
          have key : ((n : Int) == (i : Int)) = false ∨ (((n : Int) == (i : Int)) = true ∧ ((s[n].toNat : Int) == 128) = false) := by
            by_cases hn0 : n = i
            · right; exact ⟨by simp; omega, by rw [HQ.out]; simp; omega⟩
            · left; simp; omega
          clear hbad
          have hsn : s[n].toNat < 256 := by rw [HQ.out]; exact hub
          obtain ⟨v, hv⟩ : ∃ v, v = 128 * m + q.toNat % 128 := ⟨_, rfl⟩
          have hvi : (128 : Int) * m + (s[n].toNat : Int) % 128 = (v : Int) := by rw [HQ.out]; omega
          have HV2 := Lib.hid hv
          have HVI := Lib.hid hvi
          clear hv
          by_cases hbig : 4294967295 < (v : Int)
          · have HF : Hid (V = (0, i + 0, 2)) := by
              unfold Hid; rw [HV.out, HE.out, HD.out, svn_big HG.out (by have := HV2.out; omega)]
            rcases key with k1 | ⟨k1, k2⟩
            all_goals
              go_wp2
              go_ret
              rw [HF.out]
              exact ⟨rfl, H.out.setErr 2, Only.set _ _ _ _⟩
          · by_cases hend : (q.toNat : Int) < 128
            · have HF : Hid (V = (v, n + 1, 0)) := by
                unfold Hid; rw [HV.out, HE.out, HD.out, svn_end HG.out (by have := HV2.out; omega) (by omega), ← HV2.out]
                simp; omega
              have hend2 : (s[n].toNat : Int) < 128 := by rw [HQ.out]; exact hend
              rcases key with k1 | ⟨k1, k2⟩
              all_goals
                go_wp2
                go_ret
                rw [HF.out]
                exact ⟨rfl, by simpa using H.out.setAt (n + 1), Only.set _ _ _ _⟩
            · have HF : Hid (svn 0 0 (s.data.toList.drop i) = svn v (n + 1 - i) (s.data.toList.drop (n + 1))) := by
                unfold Hid; rw [HE.out, HD.out, svn_more HG.out (by have := HV2.out; omega) (by omega), ← HV2.out, show n - i + 1 = n + 1 - i from by omega]
              have hend2 : ¬ (s[n].toNat : Int) < 128 := by rw [HQ.out]; exact hend
              rcases key with k1 | ⟨k1, k2⟩
              all_goals
                go_wp2
                go_round
                case rel => exact ⟨v, n + 1, by omega, by omega, by omega, rfl, by go_num, HF⟩
                case measure => simp [intOf]; omega
      · obtain rfl : n = s.size := by omega
        have HF : Hid (V = (0, i + 0, 1)) := by
          unfold Hid; rw [HV.out, HE.out, drop_all _ _ (by omega), svn]
        go_wp2
        go_ret
        rw [HF.out]
        exact ⟨rfl, H.out.setErr 1, Only.set _ _ _ _⟩
  · have hv : numV s i e0 = (0, i, e0) := by unfold numV; rw [if_pos he]
    have hzb : (e0 == 0) = false := by simpa using he
    rw [hv]
    clear he hv
    go_enter Try.func43, Try.ntmps43
    go_wp2
    go_ret
    exact ⟨rfl, H.out, Only.refl _ _⟩
end Go.Proofs.Ytiakmaleiholnaa
