/- vocab: Space, both; a page's namespace. No condition. -/
import Derived.Test.YtgechifbbhipaaaDoorKit2
import Derived.Test.YtgechifbbhipaaaDoorProg
set_option linter.unusedVariables false
set_option linter.unusedSimpArgs false
namespace Go.Proofs.YtgechifbbhipaaaDoor
open Go.RowKit

/-- the texts that a function lays -/
def strsOf : Code → List ByteArray
  | .region _ ops _ => ops.toList.filterMap fun o => match o.op with
    | .assign (.const (.string s)) => some s
    | _ => none
  | .seq a b => strsOf a ++ strsOf b
  | .cond _ a b => strsOf a ++ strsOf b
  | .block _ a => strsOf a
  | .loop a => strsOf a
  | .scope a => strsOf a
  | _ => []
noncomputable def spcN (i : Nat) : ByteArray := ((Tryd.f158.body.map strsOf).getD [])[i]?.getD ByteArray.empty
/-- a page's namespace -/
noncomputable def spc (k : Int) : ByteArray := if k = 0 then spcN 1 else if k = 1 then spcN 2 else if k = 2 then spcN 3 else ⟨#[]⟩
noncomputable def spcL (k : Int) : List UInt8 := (spc k).data.toList
theorem spcL_len (k : Int) : (spcL k).length ≤ 40 := by
  unfold spcL spc
  (repeat' split)
  · exact of_decide_eq_true (by kernel_rfl)
  · exact of_decide_eq_true (by kernel_rfl)
  · exact of_decide_eq_true (by kernel_rfl)
  · exact Nat.zero_le _

set_option maxRecDepth 100000 in
theorem space_any (k : Int) (w : World) : Calls Tryd.prog 158 #[.int .i64 k] w fun e w' => e = .returned (.string (spc k)) ∧ w = w' := by
  by_cases h0 : k = 0
  · subst h0
    go_enter Tryd.func158, Tryd.ntmps158
    go_wp2
    go_ret
    exact ⟨ret_bytes' (by kernel_rfl), rfl⟩
  · by_cases h1 : k = 1
    · subst h1
      go_enter Tryd.func158, Tryd.ntmps158
      go_wp2
      go_ret
      exact ⟨ret_bytes' (by kernel_rfl), rfl⟩
    · by_cases h2 : k = 2
      · subst h2
        go_enter Tryd.func158, Tryd.ntmps158
        go_wp2
        go_ret
        exact ⟨ret_bytes' (by kernel_rfl), rfl⟩
      · have e0 : (k == 0) = false := by simpa using h0
        have e1 : (k == 1) = false := by simpa using h1
        have e2 : (k == 2) = false := by simpa using h2
        have hR : spc k = ⟨#[]⟩ := by unfold spc; rw [if_neg h0, if_neg h1, if_neg h2]
        rw [hR]
        go_enter Tryd.func158, Tryd.ntmps158
        go_wp2
        go_ret
        exact ⟨rfl, rfl⟩
set_option maxRecDepth 100000 in
theorem refSpace_any (k : Int) (w : World) : Calls Tryd.prog 161 #[.int .i64 k] w fun e w' => e = .returned (.string (spc k)) ∧ w = w' := by
  by_cases h0 : k = 0
  · subst h0
    go_enter Tryd.func161, Tryd.ntmps161
    go_wp2
    go_ret
    exact ⟨ret_bytes' (by kernel_rfl), rfl⟩
  · by_cases h1 : k = 1
    · subst h1
      go_enter Tryd.func161, Tryd.ntmps161
      go_wp2
      go_ret
      exact ⟨ret_bytes' (by kernel_rfl), rfl⟩
    · by_cases h2 : k = 2
      · subst h2
        go_enter Tryd.func161, Tryd.ntmps161
        go_wp2
        go_ret
        exact ⟨ret_bytes' (by kernel_rfl), rfl⟩
      · have e0 : (k == 0) = false := by simpa using h0
        have e1 : (k == 1) = false := by simpa using h1
        have e2 : (k == 2) = false := by simpa using h2
        have hR : spc k = ⟨#[]⟩ := by unfold spc; rw [if_neg h0, if_neg h1, if_neg h2]
        rw [hR]
        go_enter Tryd.func161, Tryd.ntmps161
        go_wp2
        go_ret
        exact ⟨rfl, rfl⟩
end Go.Proofs.YtgechifbbhipaaaDoor
