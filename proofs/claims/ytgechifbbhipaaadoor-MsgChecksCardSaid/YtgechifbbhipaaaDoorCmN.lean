/- msg: the names of the kinds; both sides. No condition. -/
import Derived.Test.YtgechifbbhipaaaDoorProg
import Derived.Test.YtgechifbbhipaaaDoorKit
import Derived.Test.YtgechifbbhipaaaDoorRng
set_option linter.unusedVariables false
set_option linter.unusedSimpArgs false
namespace Go.Proofs.YtgechifbbhipaaaDoor
open Go.RowKit

def nameK (k : Int) : ByteArray := if k = 1 then ⟨#[65, 108, 101, 114, 116]⟩ else if k = 2 then ⟨#[83, 121, 110, 99]⟩ else if k = 3 then ⟨#[65, 100, 100]⟩ else if k = 4 then ⟨#[82, 101, 112, 108, 97, 99, 101]⟩ else if k = 5 then ⟨#[68, 101, 108, 101, 116, 101]⟩ else if k = 6 then ⟨#[77, 97, 112]⟩ else if k = 7 then ⟨#[83, 116, 97, 116, 117, 115]⟩ else if k = 8 then ⟨#[80, 117, 116]⟩ else if k = 9 then ⟨#[71, 101, 116]⟩ else if k = 10 then ⟨#[82, 101, 115, 117, 108, 116, 115]⟩ else ⟨#[]⟩
set_option maxHeartbeats 2000000 in
theorem kname_any (k : Int) (w : World) : Calls Tryd.prog 15 #[.int .i64 k] w fun r w' => r = .returned (.string (nameK k)) ∧ w' = w := by
  by_cases h1 : k = 1
  · subst h1
    rw [show nameK 1 = ⟨#[65, 108, 101, 114, 116]⟩ from rfl]
    go_enter Tryd.func15, Tryd.ntmps15
    go_wp2
    go_ret
    exact ⟨rfl, rfl⟩
  have e1 : (k == 1) = false := by simpa using h1
  by_cases h2 : k = 2
  · subst h2
    rw [show nameK 2 = ⟨#[83, 121, 110, 99]⟩ from rfl]
    go_enter Tryd.func15, Tryd.ntmps15
    go_wp2
    go_ret
    exact ⟨rfl, rfl⟩
  have e2 : (k == 2) = false := by simpa using h2
  by_cases h3 : k = 3
  · subst h3
    rw [show nameK 3 = ⟨#[65, 100, 100]⟩ from rfl]
    go_enter Tryd.func15, Tryd.ntmps15
    go_wp2
    go_ret
    exact ⟨rfl, rfl⟩
  have e3 : (k == 3) = false := by simpa using h3
  by_cases h4 : k = 4
  · subst h4
    rw [show nameK 4 = ⟨#[82, 101, 112, 108, 97, 99, 101]⟩ from rfl]
    go_enter Tryd.func15, Tryd.ntmps15
    go_wp2
    go_ret
    exact ⟨rfl, rfl⟩
  have e4 : (k == 4) = false := by simpa using h4
  by_cases h5 : k = 5
  · subst h5
    rw [show nameK 5 = ⟨#[68, 101, 108, 101, 116, 101]⟩ from rfl]
    go_enter Tryd.func15, Tryd.ntmps15
    go_wp2
    go_ret
    exact ⟨rfl, rfl⟩
  have e5 : (k == 5) = false := by simpa using h5
  by_cases h6 : k = 6
  · subst h6
    rw [show nameK 6 = ⟨#[77, 97, 112]⟩ from rfl]
    go_enter Tryd.func15, Tryd.ntmps15
    go_wp2
    go_ret
    exact ⟨rfl, rfl⟩
  have e6 : (k == 6) = false := by simpa using h6
  by_cases h7 : k = 7
  · subst h7
    rw [show nameK 7 = ⟨#[83, 116, 97, 116, 117, 115]⟩ from rfl]
    go_enter Tryd.func15, Tryd.ntmps15
    go_wp2
    go_ret
    exact ⟨rfl, rfl⟩
  have e7 : (k == 7) = false := by simpa using h7
  by_cases h8 : k = 8
  · subst h8
    rw [show nameK 8 = ⟨#[80, 117, 116]⟩ from rfl]
    go_enter Tryd.func15, Tryd.ntmps15
    go_wp2
    go_ret
    exact ⟨rfl, rfl⟩
  have e8 : (k == 8) = false := by simpa using h8
  by_cases h9 : k = 9
  · subst h9
    rw [show nameK 9 = ⟨#[71, 101, 116]⟩ from rfl]
    go_enter Tryd.func15, Tryd.ntmps15
    go_wp2
    go_ret
    exact ⟨rfl, rfl⟩
  have e9 : (k == 9) = false := by simpa using h9
  by_cases h10 : k = 10
  · subst h10
    rw [show nameK 10 = ⟨#[82, 101, 115, 117, 108, 116, 115]⟩ from rfl]
    go_enter Tryd.func15, Tryd.ntmps15
    go_wp2
    go_ret
    exact ⟨rfl, rfl⟩
  have e10 : (k == 10) = false := by simpa using h10
  rw [show nameK k = ⟨#[]⟩ from by unfold nameK; rw [if_neg h1, if_neg h2, if_neg h3, if_neg h4, if_neg h5, if_neg h6, if_neg h7, if_neg h8, if_neg h9, if_neg h10]]
  go_enter Tryd.func15, Tryd.ntmps15
  go_wp2
  go_ret
  exact ⟨rfl, rfl⟩
theorem kinds_any (w : World) : Calls Tryd.prog 60 #[] w fun r w' => r = .returned (.slice (some ⟨w.heap.size, 0, none⟩) 11 11) ∧ w' = w.alloc (.cells #[.string ⟨#[]⟩, .string ⟨#[65, 108, 101, 114, 116]⟩, .string ⟨#[83, 121, 110, 99]⟩, .string ⟨#[65, 100, 100]⟩, .string ⟨#[82, 101, 112, 108, 97, 99, 101]⟩, .string ⟨#[68, 101, 108, 101, 116, 101]⟩, .string ⟨#[77, 97, 112]⟩, .string ⟨#[83, 116, 97, 116, 117, 115]⟩, .string ⟨#[80, 117, 116]⟩, .string ⟨#[71, 101, 116]⟩, .string ⟨#[82, 101, 115, 117, 108, 116, 115]⟩] 9) := by
  go_enter Tryd.func60, Tryd.ntmps60
  go_wp2
  go_ret
  exact ⟨rfl, rfl⟩
set_option maxHeartbeats 2000000 in
theorem refKname_any (k : Int) (w : World) : Calls Tryd.prog 16 #[.int .i64 k] w fun r w' => r = .returned (.string (nameK k)) ∧ Below w.heap.size w w' := by
  have cK := Lib.hid (kinds_any w)
  by_cases h1 : k = 1
  · subst h1
    rw [show nameK 1 = ⟨#[65, 108, 101, 114, 116]⟩ from rfl]
    go_enter Tryd.func16, Tryd.ntmps16
    go_wp2_with (go_at_call 60; refine cK.out.mono ?_; rintro r w1 ⟨rfl, rfl⟩)
    go_ret
    exact ⟨rfl, (Below.refl _ w).alloc (Nat.le_refl _) _⟩
  by_cases h2 : k = 2
  · subst h2
    rw [show nameK 2 = ⟨#[83, 121, 110, 99]⟩ from rfl]
    go_enter Tryd.func16, Tryd.ntmps16
    go_wp2_with (go_at_call 60; refine cK.out.mono ?_; rintro r w1 ⟨rfl, rfl⟩)
    go_ret
    exact ⟨rfl, (Below.refl _ w).alloc (Nat.le_refl _) _⟩
  by_cases h3 : k = 3
  · subst h3
    rw [show nameK 3 = ⟨#[65, 100, 100]⟩ from rfl]
    go_enter Tryd.func16, Tryd.ntmps16
    go_wp2_with (go_at_call 60; refine cK.out.mono ?_; rintro r w1 ⟨rfl, rfl⟩)
    go_ret
    exact ⟨rfl, (Below.refl _ w).alloc (Nat.le_refl _) _⟩
  by_cases h4 : k = 4
  · subst h4
    rw [show nameK 4 = ⟨#[82, 101, 112, 108, 97, 99, 101]⟩ from rfl]
    go_enter Tryd.func16, Tryd.ntmps16
    go_wp2_with (go_at_call 60; refine cK.out.mono ?_; rintro r w1 ⟨rfl, rfl⟩)
    go_ret
    exact ⟨rfl, (Below.refl _ w).alloc (Nat.le_refl _) _⟩
  by_cases h5 : k = 5
  · subst h5
    rw [show nameK 5 = ⟨#[68, 101, 108, 101, 116, 101]⟩ from rfl]
    go_enter Tryd.func16, Tryd.ntmps16
    go_wp2_with (go_at_call 60; refine cK.out.mono ?_; rintro r w1 ⟨rfl, rfl⟩)
    go_ret
    exact ⟨rfl, (Below.refl _ w).alloc (Nat.le_refl _) _⟩
  by_cases h6 : k = 6
  · subst h6
    rw [show nameK 6 = ⟨#[77, 97, 112]⟩ from rfl]
    go_enter Tryd.func16, Tryd.ntmps16
    go_wp2_with (go_at_call 60; refine cK.out.mono ?_; rintro r w1 ⟨rfl, rfl⟩)
    go_ret
    exact ⟨rfl, (Below.refl _ w).alloc (Nat.le_refl _) _⟩
  by_cases h7 : k = 7
  · subst h7
    rw [show nameK 7 = ⟨#[83, 116, 97, 116, 117, 115]⟩ from rfl]
    go_enter Tryd.func16, Tryd.ntmps16
    go_wp2_with (go_at_call 60; refine cK.out.mono ?_; rintro r w1 ⟨rfl, rfl⟩)
    go_ret
    exact ⟨rfl, (Below.refl _ w).alloc (Nat.le_refl _) _⟩
  by_cases h8 : k = 8
  · subst h8
    rw [show nameK 8 = ⟨#[80, 117, 116]⟩ from rfl]
    go_enter Tryd.func16, Tryd.ntmps16
    go_wp2_with (go_at_call 60; refine cK.out.mono ?_; rintro r w1 ⟨rfl, rfl⟩)
    go_ret
    exact ⟨rfl, (Below.refl _ w).alloc (Nat.le_refl _) _⟩
  by_cases h9 : k = 9
  · subst h9
    rw [show nameK 9 = ⟨#[71, 101, 116]⟩ from rfl]
    go_enter Tryd.func16, Tryd.ntmps16
    go_wp2_with (go_at_call 60; refine cK.out.mono ?_; rintro r w1 ⟨rfl, rfl⟩)
    go_ret
    exact ⟨rfl, (Below.refl _ w).alloc (Nat.le_refl _) _⟩
  by_cases h10 : k = 10
  · subst h10
    rw [show nameK 10 = ⟨#[82, 101, 115, 117, 108, 116, 115]⟩ from rfl]
    go_enter Tryd.func16, Tryd.ntmps16
    go_wp2_with (go_at_call 60; refine cK.out.mono ?_; rintro r w1 ⟨rfl, rfl⟩)
    go_ret
    exact ⟨rfl, (Below.refl _ w).alloc (Nat.le_refl _) _⟩
  have hR : nameK k = ⟨#[]⟩ := by unfold nameK; rw [if_neg h1, if_neg h2, if_neg h3, if_neg h4, if_neg h5, if_neg h6, if_neg h7, if_neg h8, if_neg h9, if_neg h10]
  rw [hR]
  clear cK
  by_cases g0 : k < 1
  · have d0 : decide (k < 1) = true := decide_eq_true g0
    go_enter Tryd.func16, Tryd.ntmps16
    go_wp2
    go_ret
    exact ⟨rfl, Below.refl _ _⟩
  · have d0 : decide (k < 1) = false := decide_eq_false g0
    have d1 : decide (10 < k) = true := by rw [decide_eq_true_eq]; omega
    go_enter Tryd.func16, Tryd.ntmps16
    go_wp2
    go_ret
    exact ⟨rfl, Below.refl _ _⟩
def chgB (k : Int) : Bool := (k == 3) || ((k == 4) || (k == 5))
theorem change_any (k : Int) (w : World) : Calls Tryd.prog 49 #[.int .i64 k] w fun r w' => r = .returned (.bool (chgB k)) ∧ w' = w := by
  by_cases h3 : k = 3
  · subst h3
    go_enter Tryd.func49, Tryd.ntmps49
    go_wp2
    go_ret
    exact ⟨rfl, rfl⟩
  have e3 : (k == 3) = false := by simpa using h3
  by_cases h4 : k = 4
  · subst h4
    go_enter Tryd.func49, Tryd.ntmps49
    go_wp2
    go_ret
    exact ⟨rfl, rfl⟩
  have e4 : (k == 4) = false := by simpa using h4
  have hR : chgB k = (k == 5) := by unfold chgB; rw [e3, e4]; rfl
  rw [hR]
  go_enter Tryd.func49, Tryd.ntmps49
  go_wp2
  go_ret
  exact ⟨rfl, rfl⟩
end Go.Proofs.YtgechifbbhipaaaDoor
