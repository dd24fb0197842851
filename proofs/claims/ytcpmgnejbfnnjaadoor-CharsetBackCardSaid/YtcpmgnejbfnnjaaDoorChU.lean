/- charset: the reference's put below 256. No condition but the letter's bound. -/
import Derived.Test.YtcpmgnejbfnnjaaDoorChT
import Derived.Lib.RuneBytes
namespace Go.Proofs.YtcpmgnejbfnnjaaDoor
open Go.RowKit

theorem strOfNums_mk (l : List Int) : strOfNums l = mkT (l.map fun x => x.toNat.toUInt8) := by
  simp [strOfNums, mkT]

set_option maxRecDepth 100000 in
set_option maxHeartbeats 2000000 in
theorem put_any (x : Nat) (hx : x < 256) (w : World) : Calls Tryd.prog 41 #[.int .i64 (x : Int)] w fun e w' => e = .returned (.string (mkT (Lib.encodeRune (x : Int)))) ∧ Below w.heap.size w w' := by
  by_cases h1 : x < 128
  · have h1' : (x : Int) < 128 := by omega
    have hw1 : IntKind.u8.wrap (x : Int) = (x : Int) := by simp [IntKind.wrap, IntKind.signed, IntKind.bits]; omega
    have hR : Lib.encodeRune (x : Int) = [(x : Int)].map fun x => x.toNat.toUInt8 := by unfold Lib.encodeRune; rw [Lib.encodeRuneZ_one (by omega) (by omega)]
    have hcv : (convert 56 9 (.slice (some ⟨w.heap.size, 0, none⟩) 1 1)).run Tryd.prog (w.alloc (.cells #[.int .u8 (x : Int)] 5)) = .ok (.string (strOfNums [(x : Int)])) (w.alloc (.cells #[.int .u8 (x : Int)] 5)) := run_str (P := Tryd.prog) (w.alloc (.cells #[.int .u8 (x : Int)] 5)) 56 9 5 Tryd.underlying56 Tryd.underlying9 Tryd.underlying5 w.heap.size _ _ [(x : Int)] (owns_lit w w.heap.size 5 [.int .u8 (x : Int)] (Nat.le_refl _) (by simp [maxLen]))
    rw [strOfNums_mk, ← hR] at hcv
    clear hR
    generalize Lib.encodeRune (x : Int) = L at *
    go_enter Tryd.func41, Tryd.ntmps41
    go_wp2
    go_ret
    exact ⟨rfl, (Below.refl _ _).alloc (Nat.le_refl _) _⟩
  · have h1' : ¬ (x : Int) < 128 := by omega
    have h2' : (x : Int) < 2048 := by omega
    have hq : (x : Int).tdiv 64 = (x : Int) / 64 := Int.tdiv_eq_ediv_of_nonneg (by omega)
    have hm : (x : Int).tmod 64 = (x : Int) % 64 := Int.tmod_eq_emod_of_nonneg (by omega)
    have hw1 : IntKind.u8.wrap (192 + (x : Int) / 64) = 192 + (x : Int) / 64 := by simp [IntKind.wrap, IntKind.signed, IntKind.bits]; omega
    have hw2 : IntKind.u8.wrap (128 + (x : Int) % 64) = 128 + (x : Int) % 64 := by simp [IntKind.wrap, IntKind.signed, IntKind.bits]; omega
    have hR : Lib.encodeRune (x : Int) = [192 + (x : Int) / 64, 128 + (x : Int) % 64].map fun x => x.toNat.toUInt8 := by unfold Lib.encodeRune; rw [Lib.encodeRuneZ_two (by omega) (by omega)]
    have hcv : (convert 56 9 (.slice (some ⟨w.heap.size, 0, none⟩) 2 2)).run Tryd.prog (w.alloc (.cells #[.int .u8 (192 + (x : Int) / 64), .int .u8 (128 + (x : Int) % 64)] 5)) = .ok (.string (strOfNums [192 + (x : Int) / 64, 128 + (x : Int) % 64])) (w.alloc (.cells #[.int .u8 (192 + (x : Int) / 64), .int .u8 (128 + (x : Int) % 64)] 5)) := run_str (P := Tryd.prog) (w.alloc (.cells #[.int .u8 (192 + (x : Int) / 64), .int .u8 (128 + (x : Int) % 64)] 5)) 56 9 5 Tryd.underlying56 Tryd.underlying9 Tryd.underlying5 w.heap.size _ _ [192 + (x : Int) / 64, 128 + (x : Int) % 64] (owns_lit w w.heap.size 5 [.int .u8 (192 + (x : Int) / 64), .int .u8 (128 + (x : Int) % 64)] (Nat.le_refl _) (by simp [maxLen]))
    rw [strOfNums_mk, ← hR] at hcv
    clear hR
    generalize Lib.encodeRune (x : Int) = L at *
    go_enter Tryd.func41, Tryd.ntmps41
    go_wp2
    go_ret
    exact ⟨rfl, (Below.refl _ _).alloc (Nat.le_refl _) _⟩
end Go.Proofs.YtcpmgnejbfnnjaaDoor
