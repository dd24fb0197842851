/- MbintWrites: the law's walk. No condition. -/
import Derived.Test.YtiakmaleiholnaaMbw
namespace Go.Proofs.Ytiakmaleiholnaa
open Go.RowKit

theorem mbw_pos (n : Nat) : 0 < (strOfNums (mbw n)).size := by
  rw [strOfNums_size]; simp [mbw]

theorem u32_nat {n : Int} (h : (Lit.int .u32 n).wf = true) : ∃ m : Nat, n = (m : Int) ∧ m < 4294967296 := by
  have h1 : IntKind.u32.min = 0 := rfl
  have h2 : IntKind.u32.max = 4294967295 := rfl
  simp only [Lit.wf, Bool.and_eq_true, decide_eq_true_eq] at h
  exact ⟨n.toNat, by omega, by omega⟩

theorem mbintWrites_walk (n0 : Int) (hn : (Lit.int .u32 n0).wf = true) (w : World) :
    Calls Try.prog 5 #[.int .u32 n0] w fun e w' => e = .returned (.bool true) ∧ Below w.heap.size w w' := by
  obtain ⟨n, rfl, hn2⟩ := u32_nat hn
  have c1 := Lib.hid (fun w => mbWrite_any n w hn2)
  have c2 := Lib.hid (fun w => refMbWrite_any n w hn2)
  have hz := mbw_pos n
  generalize strOfNums (mbw n) = s at *
  go_enter Try.func5, Try.ntmps5
  go_wp2_with (first | (go_at_call 21; refine (c1.out _).mono ?_; rintro e w1 ⟨rfl, hb⟩) | (go_at_call 22; refine (c2.out _).mono ?_; rintro e w2 ⟨rfl, hb2⟩))
  go_ret
  exact ⟨rfl, hb.trans (hb2.mono hb.size)⟩
end Go.Proofs.Ytiakmaleiholnaa
