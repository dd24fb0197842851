/- metinf: whether nothing is said, and whether it is too much to be asked. No condition. -/
import Derived.Test.YtdaiijkanfjklaaDoorMeR
import Derived.Laws.StructEq
namespace Go.Proofs.YtdaiijkanfjklaaDoor
open Go.RowKit

set_option maxHeartbeats 2000000 in
theorem run_eq37 (a0 b0 : ByteArray) (a1 b1 : ByteArray) (a2 b2 : Int) (a3 b3 : Int) (a4 b4 : ByteArray) (a5 b5 : ByteArray) (a6 b6 : ByteArray) (a7 b7 : Int) (a8 b8 : Int) (w : World) : (binOp .eql 37 (.agg #[.string a0, .string a1, .int .i64 a2, .int .i64 a3, .string a4, .string a5, .string a6, .int .i64 a7, .int .i64 a8]) (.agg #[.string b0, .string b1, .int .i64 b2, .int .i64 b3, .string b4, .string b5, .string b6, .int .i64 b7, .int .i64 b8])).run Tryd.prog w = .ok (.bool (decide (a0 = b0 ∧ a1 = b1 ∧ a2 = b2 ∧ a3 = b3 ∧ a4 = b4 ∧ a5 = b5 ∧ a6 = b6 ∧ a7 = b7 ∧ a8 = b8))) w := by
  rw [run_eql_struct, run_equalIn_struct w _ 37 _ _ (by kernel_rfl) (by kernel_rfl)]
  have e : ∀ a b : ByteArray, a.toList = b.toList ↔ a = b := fun a b => by
    rw [ByteArray.toList_eq, ByteArray.toList_eq]
    exact ⟨fun h => ByteArray.ext (Array.toList_inj.1 h), fun h => by rw [h]⟩
  simp [go_sem, e]
  by_cases h0 : a0 = b0
  case neg => simp [h0]
  by_cases h1 : a1 = b1
  case neg => simp [h0, h1]
  by_cases h2 : a2 = b2
  case neg => simp [h0, h1, h2]
  by_cases h3 : a3 = b3
  case neg => simp [h0, h1, h2, h3]
  by_cases h4 : a4 = b4
  case neg => simp [h0, h1, h2, h3, h4]
  by_cases h5 : a5 = b5
  case neg => simp [h0, h1, h2, h3, h4, h5]
  by_cases h6 : a6 = b6
  case neg => simp [h0, h1, h2, h3, h4, h5, h6]
  by_cases h7 : a7 = b7
  case neg => simp [h0, h1, h2, h3, h4, h5, h6, h7]
  by_cases h8 : a8 = b8
  case neg => simp [h0, h1, h2, h3, h4, h5, h6, h7, h8]
  simp [h0, h1, h2, h3, h4, h5, h6, h7, h8]

def emptyM (fo ty : ByteArray) (sz ve : Int) (la ne no : ByteArray) (mm mo : Int) : Bool := decide (fo = ⟨#[]⟩ ∧ ty = ⟨#[]⟩ ∧ sz = 0 ∧ ve = 0 ∧ la = ⟨#[]⟩ ∧ ne = ⟨#[]⟩ ∧ no = ⟨#[]⟩ ∧ mm = 0 ∧ mo = 0)
theorem metEmpty_any (fo ty : ByteArray) (sz ve : Int) (la ne no : ByteArray) (mm mo : Int) (w : World) : Calls Tryd.prog 19 #[.agg #[.string fo, .string ty, .int .i64 sz, .int .i64 ve, .string la, .string ne, .string no, .int .i64 mm, .int .i64 mo]] w fun r w' => r = .returned (.bool (emptyM fo ty sz ve la ne no mm mo)) ∧ Below w.heap.size w w' := by
  have heq := fun w => run_eq37 fo ⟨#[]⟩ ty ⟨#[]⟩ sz 0 ve 0 la ⟨#[]⟩ ne ⟨#[]⟩ no ⟨#[]⟩ mm 0 mo 0 w
  have hE : emptyM fo ty sz ve la ne no mm mo = decide (fo = ⟨#[]⟩ ∧ ty = ⟨#[]⟩ ∧ sz = 0 ∧ ve = 0 ∧ la = ⟨#[]⟩ ∧ ne = ⟨#[]⟩ ∧ no = ⟨#[]⟩ ∧ mm = 0 ∧ mo = 0) := rfl
  rw [← hE] at heq
  clear hE
  generalize emptyM fo ty sz ve la ne no mm mo = q at *
  go_enter Tryd.func19, Tryd.ntmps19
  go_wp2
  go_ret
  exact ⟨rfl, (Below.refl _ w).alloc (Nat.le_refl _) _⟩
theorem refEmpty_any (fo ty : ByteArray) (sz ve : Int) (la ne no : ByteArray) (mm mo : Int) (w : World) : Calls Tryd.prog 20 #[.agg #[.string fo, .string ty, .int .i64 sz, .int .i64 ve, .string la, .string ne, .string no, .int .i64 mm, .int .i64 mo]] w fun r w' => r = .returned (.bool (emptyM fo ty sz ve la ne no mm mo)) ∧ Below w.heap.size w w' := by
  have heq := fun w => run_eq37 fo ⟨#[]⟩ ty ⟨#[]⟩ sz 0 ve 0 la ⟨#[]⟩ ne ⟨#[]⟩ no ⟨#[]⟩ mm 0 mo 0 w
  have hE : emptyM fo ty sz ve la ne no mm mo = decide (fo = ⟨#[]⟩ ∧ ty = ⟨#[]⟩ ∧ sz = 0 ∧ ve = 0 ∧ la = ⟨#[]⟩ ∧ ne = ⟨#[]⟩ ∧ no = ⟨#[]⟩ ∧ mm = 0 ∧ mo = 0) := rfl
  rw [← hE] at heq
  clear hE
  generalize emptyM fo ty sz ve la ne no mm mo = q at *
  go_enter Tryd.func20, Tryd.ntmps20
  go_wp2
  go_ret
  exact ⟨rfl, (Below.refl _ w).alloc (Nat.le_refl _) _⟩
/-- is a Meta too much to be asked -/
def greatM (fo ty la ne no : ByteArray) : Bool := decide (3000 < fo.size ∨ 3000 < ty.size ∨ 3000 < no.size ∨ 3000 < la.size ∨ 3000 < ne.size)
theorem greatM_any (fo ty : ByteArray) (sz ve : Int) (la ne no : ByteArray) (mm mo : Int) (w : World) : Calls Tryd.prog 16 #[.agg #[.string fo, .string ty, .int .i64 sz, .int .i64 ve, .string la, .string ne, .string no, .int .i64 mm, .int .i64 mo]] w fun r w' => r = .returned (.bool (greatM fo ty la ne no)) ∧ Below w.heap.size w w' := by
  by_cases h0 : 3000 < fo.size
  · have i0 : (3000 : Int) < (fo.size : Int) := by omega
    have hR : greatM fo ty la ne no = true := by simp [greatM]; omega
    rw [hR]
    go_enter Tryd.func16, Tryd.ntmps16
    go_wp2
    go_ret
    exact ⟨rfl, (Below.refl _ w).alloc (Nat.le_refl _) _⟩
  have i0 : ¬ (3000 : Int) < (fo.size : Int) := by omega
  by_cases h1 : 3000 < ty.size
  · have i1 : (3000 : Int) < (ty.size : Int) := by omega
    have hR : greatM fo ty la ne no = true := by simp [greatM]; omega
    rw [hR]
    go_enter Tryd.func16, Tryd.ntmps16
    go_wp2
    go_ret
    exact ⟨rfl, (Below.refl _ w).alloc (Nat.le_refl _) _⟩
  have i1 : ¬ (3000 : Int) < (ty.size : Int) := by omega
  by_cases h2 : 3000 < no.size
  · have i2 : (3000 : Int) < (no.size : Int) := by omega
    have hR : greatM fo ty la ne no = true := by simp [greatM]; omega
    rw [hR]
    go_enter Tryd.func16, Tryd.ntmps16
    go_wp2
    go_ret
    exact ⟨rfl, (Below.refl _ w).alloc (Nat.le_refl _) _⟩
  have i2 : ¬ (3000 : Int) < (no.size : Int) := by omega
  by_cases h3 : 3000 < la.size
  · have i3 : (3000 : Int) < (la.size : Int) := by omega
    have hR : greatM fo ty la ne no = true := by simp [greatM]; omega
    rw [hR]
    go_enter Tryd.func16, Tryd.ntmps16
    go_wp2
    go_ret
    exact ⟨rfl, (Below.refl _ w).alloc (Nat.le_refl _) _⟩
  have i3 : ¬ (3000 : Int) < (la.size : Int) := by omega
  by_cases h4 : 3000 < ne.size
  · have i4 : (3000 : Int) < (ne.size : Int) := by omega
    have hR : greatM fo ty la ne no = true := by simp [greatM]; omega
    rw [hR]
    go_enter Tryd.func16, Tryd.ntmps16
    go_wp2
    go_ret
    exact ⟨rfl, (Below.refl _ w).alloc (Nat.le_refl _) _⟩
  have i4 : ¬ (3000 : Int) < (ne.size : Int) := by omega
  have hR : greatM fo ty la ne no = false := by simp [greatM]; omega
  rw [hR]
  go_enter Tryd.func16, Tryd.ntmps16
  go_wp2
  go_ret
  exact ⟨rfl, (Below.refl _ w).alloc (Nat.le_refl _) _⟩
end Go.Proofs.YtdaiijkanfjklaaDoor
