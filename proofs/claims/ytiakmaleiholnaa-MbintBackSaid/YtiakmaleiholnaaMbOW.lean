/- MbintOrder: the walk. No condition. -/
import Derived.Test.YtiakmaleiholnaaMbOP
namespace Go.Proofs.Ytiakmaleiholnaa
open Go.RowKit

theorem wf_u32 {n : Int} (h : (Lit.int .u32 n).wf = true) : 0 ≤ n ∧ n < 4294967296 := by
  have h1 : IntKind.u32.min = 0 := rfl
  have h2 : IntKind.u32.max = 4294967295 := rfl
  simp only [Lit.wf, Bool.and_eq_true, decide_eq_true_eq] at h
  omega

theorem mbintOrder_walk (n : Int) (hn : (Lit.int .u32 n).wf = true) (m : Int) (hm : (Lit.int .u32 m).wf = true) (w : World) :
    Calls Try.prog 11 #[.int .u32 n, .int .u32 m] w fun e w' => e = .returned (.bool true) ∧ Below w.heap.size w w' := by
  obtain ⟨n0, n1⟩ := wf_u32 hn
  obtain ⟨m0, m1⟩ := wf_u32 hm
  obtain ⟨n, rfl⟩ := Int.eq_ofNat_of_zero_le n0
  obtain ⟨m, rfl⟩ := Int.eq_ofNat_of_zero_le m0
  have hn' : n < 4294967296 := by omega
  have hm' : m < 4294967296 := by omega
  clear hn hm n0 n1 m0 m1
  have cw := Lib.hid (works2_any w)
  have ca := Lib.hid (fun w => mbWrite_any n w hn')
  have cb := Lib.hid (fun w => mbWrite_any m w hm')
  have ho := mb_order n m hn' hm'
  have hs1 : (strOfNums (mbw n)).size = (mbw n).length := strOfNums_size _
  have hs2 : (strOfNums (mbw m)).size = (mbw m).length := strOfNums_size _
  rw [← hs1, ← hs2] at ho
  clear hs1 hs2 hn' hm'
  generalize strOfNums (mbw n) = A at *
  generalize strOfNums (mbw m) = B at *
  rcases ho with ⟨h1, h2⟩ | ⟨h1, h2⟩ | ⟨h1, h2⟩
  · go_enter Try.func11, Try.ntmps11
    go_wp2_with (first | (go_at_call 36; refine cw.out.mono ?_; rintro e w1 ⟨rfl, b1⟩) | (go_at_call 21; with_reducible refine (ca.out _).mono ?_; rintro e w2 ⟨rfl, b2⟩) | (go_at_call 21; with_reducible refine (cb.out _).mono ?_; rintro e w3 ⟨rfl, b3⟩))
    go_ret
    exact ⟨rfl, b1.trans ((b2.mono b1.size).trans (b3.mono (Nat.le_trans b1.size b2.size)))⟩
  · have h1' : decide (A.size < B.size) = false := by simp; omega
    have h3 : ((A.size : Int) == (B.size : Int)) = false := by simp; omega
    have h4 : decide (n < m) = false := by simp; omega
    go_enter Try.func11, Try.ntmps11
    go_wp2_with (first | (go_at_call 36; refine cw.out.mono ?_; rintro e w1 ⟨rfl, b1⟩) | (go_at_call 21; with_reducible refine (ca.out _).mono ?_; rintro e w2 ⟨rfl, b2⟩) | (go_at_call 21; with_reducible refine (cb.out _).mono ?_; rintro e w3 ⟨rfl, b3⟩))
    go_ret
    exact ⟨rfl, b1.trans ((b2.mono b1.size).trans (b3.mono (Nat.le_trans b1.size b2.size)))⟩
  · have h1' : decide (A.size < B.size) = false := by simp; omega
    have h3 : ((A.size : Int) == (B.size : Int)) = true := by simp; omega
    by_cases h4 : n < m
    · have h5 : Op.bytesLess A.toList B.toList = true := by rw [h2]; simpa using h4
      clear h2 h1
      go_enter Try.func11, Try.ntmps11
      go_wp2_with (first | (go_at_call 36; refine cw.out.mono ?_; rintro e w1 ⟨rfl, b1⟩) | (go_at_call 21; with_reducible refine (ca.out _).mono ?_; rintro e w2 ⟨rfl, b2⟩) | (go_at_call 21; with_reducible refine (cb.out _).mono ?_; rintro e w3 ⟨rfl, b3⟩))
      go_ret
      exact ⟨rfl, b1.trans ((b2.mono b1.size).trans (b3.mono (Nat.le_trans b1.size b2.size)))⟩
    · have h5 : Op.bytesLess A.toList B.toList = false := by rw [h2]; simpa using h4
      have h6 : decide (n < m) = false := by simp; omega
      clear h2 h1
      go_enter Try.func11, Try.ntmps11
      go_wp2_with (first | (go_at_call 36; refine cw.out.mono ?_; rintro e w1 ⟨rfl, b1⟩) | (go_at_call 21; with_reducible refine (ca.out _).mono ?_; rintro e w2 ⟨rfl, b2⟩) | (go_at_call 21; with_reducible refine (cb.out _).mono ?_; rintro e w3 ⟨rfl, b3⟩))
      go_ret
      exact ⟨rfl, b1.trans ((b2.mono b1.size).trans (b3.mono (Nat.le_trans b1.size b2.size)))⟩
end Go.Proofs.Ytiakmaleiholnaa
