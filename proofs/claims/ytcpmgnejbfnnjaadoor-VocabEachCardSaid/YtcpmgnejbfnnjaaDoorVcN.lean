/- vocab: the pages' texts (read off the program's own code), and 'names'. No condition. -/
import Derived.Test.YtcpmgnejbfnnjaaDoorVcP
import Derived.Test.YtcpmgnejbfnnjaaDoorProg
import Derived.OwnWalkIn
import Derived.TacticsInMore
namespace Go.Proofs.YtcpmgnejbfnnjaaDoor
open Go.RowKit

/-- the texts that a function lays -/
def strsOf : Code → List ByteArray
  | .region _ ops _ => ops.toList.filterMap fun o => match o.op with
    | .assign (.const (.string s)) => some s
    | _ => none
  | .seq a b => strsOf a ++ strsOf b
  | .cond _ a b => strsOf a ++ strsOf b
  | .block _ a => strsOf a
  | .loop a => strsOf a
  | .scope a => strsOf a
  | _ => []
noncomputable def txtN (i : Nat) : ByteArray := ((Tryd.f34.body.map strsOf).getD [])[i]?.getD ByteArray.empty
/-- a page's text -/
noncomputable def txt (k : Int) : ByteArray := if k = 0 then txtN 1 else if k = 1 then txtN 2 else if k = 2 then txtN 3 else txtN 4

theorem txt_0 : txt 0 = txtN 1 := rfl
theorem txt_1 : txt 1 = txtN 2 := rfl
theorem txt_2 : txt 2 = txtN 3 := rfl
theorem txt_else {k : Int} (h0 : k ≠ 0) (h1 : k ≠ 1) (h2 : k ≠ 2) : txt k = txtN 4 := by unfold txt; rw [if_neg h0, if_neg h1, if_neg h2]
theorem ret_s {s t : ByteArray} (h : s = t) : Ending.returned (.string s) = Ending.returned (.string t) := by rw [h]

def okTb (s : ByteArray) : Bool := ((spW s.data.toList).all fun x => !x.isEmpty) && s.data.toList.all okB
theorem okT_of {s : ByteArray} (h : okTb s = true) : okT s := by
  unfold okTb at h
  rw [Bool.and_eq_true] at h
  refine ⟨fun x hx => ?_, fun j hj => ?_⟩
  · obtain ⟨y, hy, rfl⟩ := List.mem_map.1 hx
    have := List.all_eq_true.1 h.1 y hy
    cases y with
    | nil => simp at this
    | cons a l => simp [mkB, ByteArray.size]
  · exact List.all_eq_true.1 h.2 _ (Array.mem_def.1 (Array.getElem_mem (xs := s.data) (i := j) hj))
theorem txt_ok (k : Int) (h : (txt k).size ≠ 0) : okT (txt k) := by
  by_cases h0 : k = 0
  · subst h0; exact okT_of (by kernel_rfl)
  · by_cases h1 : k = 1
    · subst h1; exact okT_of (by kernel_rfl)
    · by_cases h2 : k = 2
      · subst h2; exact okT_of (by kernel_rfl)
      · rw [txt_else h0 h1 h2] at h
        exact absurd (show (txtN 4).size = 0 by kernel_rfl) h
theorem txt_size (k : Int) : (txt k).size ≤ 1000 := by
  by_cases h0 : k = 0
  · subst h0; exact of_decide_eq_true (by kernel_rfl)
  · by_cases h1 : k = 1
    · subst h1; exact of_decide_eq_true (by kernel_rfl)
    · by_cases h2 : k = 2
      · subst h2; exact of_decide_eq_true (by kernel_rfl)
      · rw [txt_else h0 h1 h2]; exact of_decide_eq_true (by kernel_rfl)

set_option maxRecDepth 100000 in
set_option maxHeartbeats 4000000 in
theorem names_any (k : Int) (w : World) : Calls Tryd.prog 34 #[.int .i64 k] w fun e w' => e = .returned (.string (txt k)) ∧ w = w' := by
  by_cases h0 : k = 0
  · subst h0
    obtain ⟨t, ht⟩ : ∃ t, txt 0 = t := ⟨_, rfl⟩
    have HT := Lib.hid ht
    rw [ht]
    clear ht
    go_enter Tryd.func34, Tryd.ntmps34
    go_wp2
    go_ret
    exact ⟨ret_s ((show _ = txt 0 by kernel_rfl).trans HT.out), rfl⟩
  · by_cases h1 : k = 1
    · subst h1
      obtain ⟨t, ht⟩ : ∃ t, txt 1 = t := ⟨_, rfl⟩
      have HT := Lib.hid ht
      rw [ht]
      clear ht
      go_enter Tryd.func34, Tryd.ntmps34
      go_wp2
      go_ret
      exact ⟨ret_s ((show _ = txt 1 by kernel_rfl).trans HT.out), rfl⟩
    · by_cases h2 : k = 2
      · subst h2
        obtain ⟨t, ht⟩ : ∃ t, txt 2 = t := ⟨_, rfl⟩
        have HT := Lib.hid ht
        rw [ht]
        clear ht
        go_enter Tryd.func34, Tryd.ntmps34
        go_wp2
        go_ret
        exact ⟨ret_s ((show _ = txt 2 by kernel_rfl).trans HT.out), rfl⟩
      · have e0 : (k == 0) = false := by simpa using h0
        have e1 : (k == 1) = false := by simpa using h1
        have e2 : (k == 2) = false := by simpa using h2
        have HT : Hid (txt k = txtN 4) := txt_else h0 h1 h2
        generalize txt k = t at *
        go_enter Tryd.func34, Tryd.ntmps34
        go_wp2
        go_ret
        exact ⟨ret_s ((show _ = txtN 4 by kernel_rfl).trans HT.out.symm), rfl⟩
end Go.Proofs.YtcpmgnejbfnnjaaDoor
