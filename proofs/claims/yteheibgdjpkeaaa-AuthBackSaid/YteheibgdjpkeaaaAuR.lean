/- auth: the reference's bytes and Check. No condition but sizes. -/
import Derived.Test.YteheibgdjpkeaaaAuC
namespace Go.Proofs.Yteheibgdjpkeaaa
open Go.RowKit

def okXL (least barred : Nat) (l : List UInt8) : Bool := l.all fun c => okC least c && !(c.toNat == barred)
theorem okX_nul (least : Nat) (h : 1 ≤ least) (s : ByteArray) : okXL least 0 s.data.toList = okB least s := by
  unfold okXL okB
  induction s.data.toList with
  | nil => rfl
  | cons c l ih =>
    rw [List.all_cons, List.all_cons, ih]
    congr 1
    unfold okC
    by_cases h1 : least ≤ c.toNat
    · have : (c.toNat == 0) = false := by simp; omega
      rw [this]; simp
    · simp [h1]
theorem okX_colon (s : ByteArray) : okXL 33 58 s.data.toList = (okB 33 s && !hasC s) := by
  unfold okXL okB hasC
  induction s.data.toList with
  | nil => rfl
  | cons c l ih =>
    rw [List.all_cons, List.all_cons, List.any_cons, ih]
    cases okC 33 c <;> cases (c.toNat == 58) <;> cases l.all (okC 33) <;> cases (l.any fun c => c.toNat == 58) <;> rfl

set_option maxHeartbeats 2000000 in
theorem refBytes_any (s : ByteArray) (least barred : Nat) (w : World) (hs : s.size ≤ 140737488351232) :
    Calls Try.prog 44 #[.string s, .int .u8 (least : Int), .int .u8 (barred : Int)] w fun e w' => e = .returned (.bool (okXL least barred s.data.toList)) ∧ w = w' := by
  obtain ⟨R, hR⟩ : ∃ R, okXL least barred s.data.toList = R := ⟨_, rfl⟩
  rw [hR]
  have HR := Lib.hid hR
  clear hR
  go_enter Try.func44, Try.ntmps44
  go_wp2
  go_loop [7] (fun i => ∃ k : Nat, k ≤ s.size ∧ i = .int .i64 k ∧ Hid (okXL least barred (s.data.toList.drop k) = R)) (fun i => s.size - (intOf i).toNat)
  case atStart => exact ⟨0, Nat.zero_le _, rfl, by rw [List.drop_zero]; exact HR⟩
  case round =>
    obtain ⟨k, hk, rfl, HK⟩ := hrel
    by_cases hlt : k < s.size
    · have hx := run_at s k hlt _ rfl
      have HK2 : Hid (R = ((okC least s[k] && !(s[k].toNat == barred)) && okXL least barred (s.data.toList.drop (k + 1)))) := by
        unfold Hid; rw [← HK.out, drop_cons_at s k hlt]; rfl
      have hO : okC least s[k] = (decide (least ≤ s[k].toNat) && decide (s[k].toNat ≤ 126)) := rfl
      rw [hO] at HK2
      clear hO HK
      generalize s[k].toNat = n at *
      by_cases h1 : n < least
      · have h1' : decide (n < least) = true := by simpa using h1
        have HE : Hid (R = false) := by unfold Hid; rw [HK2.out, decide_eq_false (by omega)]; rfl
        clear h1 HK2
        go_wp2_with fail
        go_ret
        exact ⟨ret_bool HE.out, rfl⟩
      · have h1' : decide (n < least) = false := by simpa using h1
        by_cases h2 : 126 < n
        · have h2' : decide ((126 : Int) < n) = true := by simp; omega
          have HE : Hid (R = false) := by unfold Hid; rw [HK2.out, decide_eq_false (p := n ≤ 126) (by omega)]; simp
          clear h1 h2 HK2
          go_wp2_with fail
          go_ret
          exact ⟨ret_bool HE.out, rfl⟩
        · have h2' : decide ((126 : Int) < n) = false := by simp; omega
          by_cases h3 : n = barred
          · have h3' : ((n : Int) == (barred : Int)) = true := by simp [h3]
            have HE : Hid (R = false) := by unfold Hid; rw [HK2.out, h3]; simp
            clear h1 h2 h3 HK2
            go_wp2_with fail
            go_ret
            exact ⟨ret_bool HE.out, rfl⟩
          · have h3' : ((n : Int) == (barred : Int)) = false := by simp; omega
            have HE : Hid (okXL least barred (s.data.toList.drop (k + 1)) = R) := by
              unfold Hid; rw [HK2.out, decide_eq_true (p := least ≤ n) (by omega), decide_eq_true (p := n ≤ 126) (by omega), show (n == barred) = false from by simpa using h3]; simp
            clear h1 h2 h3 HK2
            go_wp2_with fail
            go_round
            case rel => exact ⟨k + 1, by omega, by go_num, HE⟩
            case measure => simp [intOf]; omega
    · have HE : Hid (R = true) := by unfold Hid; rw [← HK.out, drop_all s k hlt]; rfl
      go_wp2_with fail
      go_ret
      exact ⟨ret_bool HE.out, rfl⟩

theorem refBytes33 (s : ByteArray) (w : World) (hs : s.size ≤ 140737488351232) : Calls Try.prog 44 #[.string s, .int .u8 33, .int .u8 0] w fun e w' => e = .returned (.bool (okB 33 s)) ∧ w = w' := by
  have := refBytes_any s 33 0 w hs; rw [okX_nul 33 (by omega)] at this; exact this
theorem refBytes32 (s : ByteArray) (w : World) (hs : s.size ≤ 140737488351232) : Calls Try.prog 44 #[.string s, .int .u8 32, .int .u8 0] w fun e w' => e = .returned (.bool (okB 32 s)) ∧ w = w' := by
  have := refBytes_any s 32 0 w hs; rw [okX_nul 32 (by omega)] at this; exact this
theorem refBytesC (s : ByteArray) (w : World) (hs : s.size ≤ 140737488351232) : Calls Try.prog 44 #[.string s, .int .u8 33, .int .u8 58] w fun e w' => e = .returned (.bool (okB 33 s && !hasC s)) ∧ w = w' := by
  have := refBytes_any s 33 58 w hs; rw [okX_colon] at this; exact this

theorem chk_steps2 (u p : ByteArray) :
    (u.size = 0 ∧ chkE u p = 14) ∨ (u.size ≠ 0 ∧ 32 < u.size ∧ chkE u p = 14) ∨ (u.size ≠ 0 ∧ ¬ 32 < u.size ∧ (okB 33 u && !hasC u) = false ∧ chkE u p = 14) ∨
    (u.size ≠ 0 ∧ ¬ 32 < u.size ∧ (okB 33 u && !hasC u) = true ∧ 32 < p.size ∧ chkE u p = 3) ∨
    (u.size ≠ 0 ∧ ¬ 32 < u.size ∧ (okB 33 u && !hasC u) = true ∧ ¬ 32 < p.size ∧ okB 32 p = false ∧ chkE u p = 3) ∨
    (u.size ≠ 0 ∧ ¬ 32 < u.size ∧ (okB 33 u && !hasC u) = true ∧ ¬ 32 < p.size ∧ okB 32 p = true ∧ chkE u p = 0) := by
  unfold chkE
  by_cases h1 : u.size = 0
  · simp [h1]
  · by_cases h2 : 32 < u.size
    · simp [h1, h2]
    · cases h3 : okB 33 u
      · simp [h1, h2]
      · cases h4 : hasC u
        · by_cases h5 : 32 < p.size
          · simp [h1, h2, h5]
          · cases h6 : okB 32 p
            · simp [h1, h2, h5]
            · simp [h1, h2, h5]
        · simp [h1, h2]

set_option maxRecDepth 100000 in
set_option maxHeartbeats 4000000 in
theorem refCheck_any (u p : ByteArray) (hu : u.size ≤ 5000) (hp : p.size ≤ 5000) (w : World) :
    Calls Try.prog 28 #[.agg #[.string u, .string p]] w fun e w' => e = .returned (.int .i64 (chkE u p)) ∧ Below w.heap.size w w' := by
  have c1 := Lib.hid (fun w => refBytesC u w (by omega))
  have c2 := Lib.hid (fun w => refBytes32 p w (by omega))
  have hT := Two.new w u p 40
  have hB : Below w.heap.size w (w.alloc (.cells #[.string u, .string p] 40)) := (Below.refl _ _).alloc (Nat.le_refl _) _
  have HB := Lib.hid hB
  obtain ⟨k0, k1, kl⟩ := hT
  clear hB kl
  rcases chk_steps2 u p with ⟨h1, he⟩ | ⟨h1, h2, he⟩ | ⟨h1, h2, h3, he⟩ | ⟨h1, h2, h3, h5, he⟩ | ⟨h1, h2, h3, h5, h6, he⟩ | ⟨h1, h2, h3, h5, h6, he⟩
  · obtain ⟨g1, g2⟩ := empty_yes h1
    rw [he]
    clear he h1
    go_enter Try.func28, Try.ntmps28
    go_wp2_with fail
    go_ret
    exact ⟨rfl, HB.out⟩
  · have g1 := empty_no h1
    have g2 : (32 : Int) < u.size := by omega
    rw [he]
    clear he h1 h2
    go_enter Try.func28, Try.ntmps28
    go_wp2_with fail
    go_ret
    exact ⟨rfl, HB.out⟩
  · have g1 := empty_no h1
    have g2 : ¬ (32 : Int) < u.size := by omega
    rw [he]
    rw [h3] at c1
    clear he h1 h2 h3
    go_enter Try.func28, Try.ntmps28
    go_wp2_with fail
    generalize w.alloc (.cells #[.string u, .string p] 40) = w0 at *
    refine (c1.out _).mono ?_
    rintro e w1 ⟨rfl, rfl⟩
    go_wp2_with fail
    go_ret
    exact ⟨rfl, HB.out⟩
  · have g1 := empty_no h1
    have g2 : ¬ (32 : Int) < u.size := by omega
    have g5 : (32 : Int) < p.size := by omega
    rw [he]
    rw [h3] at c1
    clear he h1 h2 h3 h5
    go_enter Try.func28, Try.ntmps28
    go_wp2_with fail
    generalize w.alloc (.cells #[.string u, .string p] 40) = w0 at *
    refine (c1.out _).mono ?_
    rintro e w1 ⟨rfl, rfl⟩
    go_wp2_with fail
    go_ret
    exact ⟨rfl, HB.out⟩
  · have g1 := empty_no h1
    have g2 : ¬ (32 : Int) < u.size := by omega
    have g5 : ¬ (32 : Int) < p.size := by omega
    rw [he]
    rw [h3] at c1
    rw [h6] at c2
    clear he h1 h2 h3 h5 h6
    go_enter Try.func28, Try.ntmps28
    go_wp2_with fail
    generalize w.alloc (.cells #[.string u, .string p] 40) = w0 at *
    refine (c1.out _).mono ?_
    rintro e w1 ⟨rfl, rfl⟩
    go_wp2_with fail
    refine (c2.out _).mono ?_
    rintro e w2 ⟨rfl, rfl⟩
    go_wp2_with fail
    go_ret
    exact ⟨rfl, HB.out⟩
  · have g1 := empty_no h1
    have g2 : ¬ (32 : Int) < u.size := by omega
    have g5 : ¬ (32 : Int) < p.size := by omega
    rw [he]
    rw [h3] at c1
    rw [h6] at c2
    clear he h1 h2 h3 h5 h6
    go_enter Try.func28, Try.ntmps28
    go_wp2_with fail
    generalize w.alloc (.cells #[.string u, .string p] 40) = w0 at *
    refine (c1.out _).mono ?_
    rintro e w1 ⟨rfl, rfl⟩
    go_wp2_with fail
    refine (c2.out _).mono ?_
    rintro e w2 ⟨rfl, rfl⟩
    go_wp2_with fail
    go_ret
    exact ⟨rfl, HB.out⟩
end Go.Proofs.Yteheibgdjpkeaaa
