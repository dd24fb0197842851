/- MbintBack: the walk. No condition. -/
import Derived.Test.YtiakmaleiholnaaMbOW
import Derived.Deep.RegionHeld3
namespace Go.Proofs.Ytiakmaleiholnaa
open Go.RowKit

theorem mb_read (n : Nat) (hn : n < 4294967296) (s : ByteArray) : numV (strOfNums (mbw n) ++ s) 0 0 = (n, (mbw n).length, 0) := by
  have h1 : (strOfNums (mbw n) ++ s).data.toList = u8s (mbw n) ++ s.data.toList := by
    have := strOfNums_list (mbw n)
    rw [ByteArray.toList_eq] at this
    simp [ByteArray.data_append, this]
  unfold numV
  rw [if_neg (by simp), h1, List.drop_zero, svn_mbw n hn]
  simp

/-- what the law asks of a text -/
theorem mb_text (s : ByteArray) : (numV s 0 0).2.2 ≠ 0 ∨ (∃ x j, numV s 0 0 = (x, j, 0) ∧ j ≤ s.size ∧ x < 4294967296 ∧ s.extract 0 j = strOfNums (mbw x)) := by
  obtain ⟨v, j, e, hR⟩ : ∃ v j e, svn 0 0 s.data.toList = (v, j, e) := ⟨_, _, _, rfl⟩
  have hv : numV s 0 0 = (v, j, e) := by unfold numV; rw [if_neg (by simp), List.drop_zero, hR]; simp
  by_cases he : e = 0
  · subst he
    obtain ⟨h1, h2, h3⟩ := svn_take hR
    refine .inr ⟨v, j, hv, by simpa using h3, h2, ?_⟩
    apply bytes_ext
    have := strOfNums_list (mbw v)
    rw [ByteArray.toList_eq] at this
    rw [this, ← h1, extract_list]; simp
  · exact .inl (by rw [hv]; exact he)

theorem mbw_len6 (n : Nat) (h : n < 4294967296) : (mbw n).length ≤ 5 := by have := mbw_len n h; omega

set_option maxHeartbeats 2000000 in
theorem mbintBack_walk (n : Int) (hn : (Lit.int .u32 n).wf = true) (s : ByteArray) (hs : s.size ≤ 140737488351232) (w : World) :
    Calls Try.prog 12 #[.int .u32 n, .string s] w fun e w' => e = .returned (.bool true) ∧ Below w.heap.size w w' := by
  obtain ⟨n0, n1⟩ := wf_u32 hn
  obtain ⟨n, rfl⟩ := Int.eq_ofNat_of_zero_le n0
  have hn' : n < 4294967296 := by omega
  clear hn n0 n1
  have cw := Lib.hid (fun w => works2_any w)
  have ca := Lib.hid (fun w => mbWrite_any n w hn')
  have hrd := mb_read n hn' s
  have hl5 := mbw_len6 n hn'
  have hs1 : (strOfNums (mbw n)).size = (mbw n).length := strOfNums_size _
  rw [← hs1] at hrd hl5
  have htx := mb_text s
  obtain ⟨x, j, f, hx⟩ : ∃ x j f, numV s 0 0 = (x, j, f) := ⟨_, _, _, rfl⟩
  have key : (f == 0) = false ∨ (f = 0 ∧ j ≤ s.size ∧ x < 4294967296 ∧ s.extract 0 j = strOfNums (mbw x)) := by
    rcases htx with h | ⟨x', j', h, h1, h2, h3⟩
    · rw [hx] at h; exact .inl (by simpa using h)
    · rw [hx] at h; simp only [Prod.mk.injEq] at h
      obtain ⟨rfl, rfl, rfl⟩ := h
      exact .inr ⟨rfl, h1, h2, h3⟩
  have hT : (strOfNums (mbw n) ++ s).size = (strOfNums (mbw n)).size + s.size := ByteArray.size_append
  clear htx hs1
  generalize strOfNums (mbw n) = A at *
  have n1 : ∀ (b : Nat) (W : World), Rd W b (A ++ s) 0 0 → Calls Try.prog 38 #[.pointer (some ⟨b, 0, none⟩)] W fun e w' => e = .returned (.int .u32 n) ∧ Rd w' b (A ++ s) A.size 0 ∧ Only b W w' := fun b W h => by
    have := number_any b (A ++ s) 0 0 W h (Nat.zero_le _) (by omega); rw [hrd] at this; exact this
  have n2 : ∀ (b : Nat) (W : World), Rd W b s 0 0 → Calls Try.prog 38 #[.pointer (some ⟨b, 0, none⟩)] W fun e w' => e = .returned (.int .u32 x) ∧ Rd w' b s j f ∧ Only b W w' := fun b W h => by
    have := number_any b s 0 0 W h (Nat.zero_le _) (by omega); rw [hx] at this; exact this
  have n3 : ∀ (b : Nat) (W : World), Rd W b (A ++ s) A.size 0 → Calls Try.prog 40 #[.pointer (some ⟨b, 0, none⟩)] W fun e w' => e = .returned (.int .i64 s.size) ∧ ∃ n, w' = W.drewN n := fun b W h => by
    have := left_any b (A ++ s) A.size 0 W h (by omega) (by omega); rw [hT] at this
    rw [show (((A.size + s.size : Nat) : Int) - (A.size : Int)) = (s.size : Int) from by omega] at this; exact this
  have N1 := Lib.hid n1
  have N2 := Lib.hid n2
  have N3 := Lib.hid n3
  clear n1 n2 n3 hrd hx hT
  rcases key with hf | ⟨rfl, hj, hx4, hE⟩
  all_goals
    go_enter Try.func12, Try.ntmps12
    go_wp2_with fail
    refine (cw.out _).mono ?_
    rintro e wa ⟨rfl, ba⟩
    go_wp2_with fail
    refine (ca.out _).mono ?_
    rintro e wb ⟨rfl, bb⟩
    have bA := Lib.hid (ba.trans (bb.mono ba.size))
    clear ba bb
    go_wp2_with fail
    refine (new_any _ _).mono ?_
    rintro e w1 ⟨rfl, rfl⟩
    have h1 := Rd.new wb (A ++ s) 85
    have b1 := Lib.hid (bA.out.alloc bA.out.size (.cells #[.string (A ++ s), .int .i64 0, .int .i64 0] 85))
    have le1 := bA.out.size
    have lt1 : wb.heap.size < (wb.alloc (.cells #[.string (A ++ s), .int .i64 0, .int .i64 0] 85)).heap.size := by simp
    generalize wb.alloc (.cells #[.string (A ++ s), .int .i64 0, .int .i64 0] 85) = W1 at *
    go_wp2_with fail
    refine (N1.out _ _ h1).mono ?_
    rintro e w2 ⟨rfl, h2, o2⟩
    have b2 := Lib.hid (b1.out.trans (o2.below le1 b1.out.size))
    have le2 : wb.heap.size < w2.heap.size := Nat.lt_of_lt_of_le lt1 o2.size
    clear h1 o2 lt1
    go_wp2_with fail
    refine (err_any _ _ _ _ _ h2).mono ?_
    rintro e w3 ⟨rfl, m1, rfl⟩
    have h3 := h2.drewN m1
    have b3 := Lib.hid (b2.out.trans (below_drewN _ w2 m1))
    have le3 : wb.heap.size < (w2.drewN m1).heap.size := le2
    clear h2
    generalize w2.drewN m1 = W3 at *
    go_wp2_with fail
    refine (new_any _ _).mono ?_
    rintro e w4 ⟨rfl, rfl⟩
    have h4 := Rd.new W3 s 85
    have h3' := h3.below ((Below.refl _ W3).alloc (Nat.le_refl _) (.cells #[.string s, .int .i64 0, .int .i64 0] 85)) le3
    have b4 := Lib.hid (b3.out.alloc b3.out.size (.cells #[.string s, .int .i64 0, .int .i64 0] 85))
    have le4 := b3.out.size
    generalize W3.alloc (.cells #[.string s, .int .i64 0, .int .i64 0] 85) = W4 at *
    clear h3
    go_wp2_with fail
    refine (N2.out _ _ h4).mono ?_
    rintro e w5 ⟨rfl, h5, o5⟩
    have h6 := h3'.grown o5 (by simp; omega)
    have b5 := Lib.hid (b4.out.trans (o5.below le4 b4.out.size))
    clear h3' h4 o5
    go_wp2_with fail
    refine (err_any _ _ _ _ _ h5).mono ?_
    rintro e w6 ⟨rfl, m2, rfl⟩
    have h7 := h6.drewN m2
    have b6 := Lib.hid (b5.out.trans (below_drewN _ w5 m2))
    clear h5 h6
    generalize w5.drewN m2 = W6 at *
  · go_wp2_with fail
    go_quiet (fail)
    rename_i nq
    have h8 := Lib.hid (h7.drewN nq)
    have b8 := Lib.hid (b6.out.trans (below_drewN _ W6 nq))
    clear h7
    generalize W6.drewN nq = W7 at *
    go_wp2_with (go_at_call 40; refine (N3.out _ _ h8.out).mono ?_; rintro e w8 ⟨rfl, m3, rfl⟩)
    go_ret
    exact ⟨rfl, b8.out.trans (below_drewN _ W7 m3)⟩
  · have cx := Lib.hid (fun w => mbWrite_any x w hx4)
    have hEt : ((s.extract 0 j).toList == (strOfNums (mbw x)).toList) = true := by rw [hE]; simp
    have j1 : decide ((j : Int) < 0) = false := by simp
    have j2 : decide (s.size < j) = false := by simp; omega
    have j3 : (0 : Int) ≤ (j : Int) := by omega
    have j4 : (j : Int) ≤ s.size := by omega
    clear hE
    generalize strOfNums (mbw x) = X at *
    go_wp2_with fail
    go_region_held3 (fun _ => True) (trivial) ((go_at_call 21; refine (cx.out _).mono ?_; rintro e w8 ⟨rfl, bx⟩))
    have h8 := Lib.hid (h7.drew.below bx h7.lt)
    have b8 := Lib.hid (b6.out.trans ((((Below.refl w.heap.size W6).drew)).trans (bx.mono b6.out.size)))
    clear h7 bx
    go_wp2_with (go_at_call 40; refine (N3.out _ _ h8.out).mono ?_; rintro e w9 ⟨rfl, m3, rfl⟩)
    go_ret
    exact ⟨rfl, b8.out.trans (below_drewN _ w8 m3)⟩
end Go.Proofs.Ytiakmaleiholnaa
