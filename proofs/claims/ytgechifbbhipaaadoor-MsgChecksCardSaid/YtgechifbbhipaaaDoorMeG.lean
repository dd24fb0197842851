/- metinf: whether nothing is said, and whether it is too much to be asked. No condition. -/
import Derived.Test.YtgechifbbhipaaaDoorMeI
import Derived.Laws.StructEq
set_option linter.unusedVariables false
set_option linter.unusedSimpArgs false
namespace Go.Proofs.YtgechifbbhipaaaDoor
open Go.RowKit

/-- is a Meta too much to be asked -/
def greatM (fo ty la ne no : ByteArray) : Bool := decide (3000 < fo.size ∨ 3000 < ty.size ∨ 3000 < no.size ∨ 3000 < la.size ∨ 3000 < ne.size)
theorem greatM_any (fo ty : ByteArray) (sz ve : Int) (la ne no : ByteArray) (mm mo : Int) (w : World) : Calls Tryd.prog 38 #[.agg #[.string fo, .string ty, .int .i64 sz, .int .i64 ve, .string la, .string ne, .string no, .int .i64 mm, .int .i64 mo]] w fun r w' => r = .returned (.bool (greatM fo ty la ne no)) ∧ Below w.heap.size w w' := by
  by_cases h0 : 3000 < fo.size
  · have i0 : (3000 : Int) < (fo.size : Int) := by omega
    have hR : greatM fo ty la ne no = true := by simp [greatM]; omega
    rw [hR]
    go_enter Tryd.func38, Tryd.ntmps38
    go_wp2
    go_ret
    exact ⟨rfl, (Below.refl _ w).alloc (Nat.le_refl _) _⟩
  have i0 : ¬ (3000 : Int) < (fo.size : Int) := by omega
  by_cases h1 : 3000 < ty.size
  · have i1 : (3000 : Int) < (ty.size : Int) := by omega
    have hR : greatM fo ty la ne no = true := by simp [greatM]; omega
    rw [hR]
    go_enter Tryd.func38, Tryd.ntmps38
    go_wp2
    go_ret
    exact ⟨rfl, (Below.refl _ w).alloc (Nat.le_refl _) _⟩
  have i1 : ¬ (3000 : Int) < (ty.size : Int) := by omega
  by_cases h2 : 3000 < no.size
  · have i2 : (3000 : Int) < (no.size : Int) := by omega
    have hR : greatM fo ty la ne no = true := by simp [greatM]; omega
    rw [hR]
    go_enter Tryd.func38, Tryd.ntmps38
    go_wp2
    go_ret
    exact ⟨rfl, (Below.refl _ w).alloc (Nat.le_refl _) _⟩
  have i2 : ¬ (3000 : Int) < (no.size : Int) := by omega
  by_cases h3 : 3000 < la.size
  · have i3 : (3000 : Int) < (la.size : Int) := by omega
    have hR : greatM fo ty la ne no = true := by simp [greatM]; omega
    rw [hR]
    go_enter Tryd.func38, Tryd.ntmps38
    go_wp2
    go_ret
    exact ⟨rfl, (Below.refl _ w).alloc (Nat.le_refl _) _⟩
  have i3 : ¬ (3000 : Int) < (la.size : Int) := by omega
  by_cases h4 : 3000 < ne.size
  · have i4 : (3000 : Int) < (ne.size : Int) := by omega
    have hR : greatM fo ty la ne no = true := by simp [greatM]; omega
    rw [hR]
    go_enter Tryd.func38, Tryd.ntmps38
    go_wp2
    go_ret
    exact ⟨rfl, (Below.refl _ w).alloc (Nat.le_refl _) _⟩
  have i4 : ¬ (3000 : Int) < (ne.size : Int) := by omega
  have hR : greatM fo ty la ne no = false := by simp [greatM]; omega
  rw [hR]
  go_enter Tryd.func38, Tryd.ntmps38
  go_wp2
  go_ret
  exact ⟨rfl, (Below.refl _ w).alloc (Nat.le_refl _) _⟩
end Go.Proofs.YtgechifbbhipaaaDoor
