/- charset: a text's letters, in plain Lean. No condition. -/
import Derived.Test.YtgechifbbhipaaaDoorChO
import Derived.Lib.ValidU
set_option linter.unusedVariables false
set_option linter.unusedSimpArgs false
namespace Go.Proofs.YtgechifbbhipaaaDoor
open Go.RowKit

def tl (r : ByteArray) (n : Nat) : ByteArray := r.extract n r.size
theorem tl_size (r : ByteArray) (n : Nat) : (tl r n).size = r.size - n := by simp [tl]
theorem tl_list (r : ByteArray) (n : Nat) : (tl r n).data.toList = r.data.toList.drop n := by
  simp only [tl, ByteArray.data_extract, Array.toList_extract, List.extract_eq_take_drop]
  rw [List.take_of_length_le]
  rw [List.length_drop, len_toList]; omega
theorem oneN_le (n b0 b1 b2 b3 : Nat) (hn : n ≠ 0) : (oneN n b0 b1 b2 b3).2 ≤ n ∧ (oneN n b0 b1 b2 b3).2 ≤ 4 ∧ (oneN n b0 b1 b2 b3).1 ≤ 1114111 := by
  unfold oneN
  repeat' split
  all_goals (refine ⟨?_, ?_, ?_⟩ <;> simp only [] <;> omega)
theorem oneV_le (r : ByteArray) (h : r.size ≠ 0) : (oneV r).2 ≤ r.size ∧ (oneV r).2 ≤ 4 ∧ (oneV r).1 ≤ 1114111 := by
  rw [oneV_eq r h]; exact oneN_le _ _ _ _ _ h

def lt : Nat → ByteArray → List Nat × Bool
  | 0, _ => ([], true)
  | f + 1, r => if r.size = 0 then ([], true) else if (oneV r).2 = 0 then ([], false) else ((oneV r).1 :: (lt f (tl r (oneV r).2)).1, (lt f (tl r (oneV r).2)).2)
/-- a text's letters, and whether it is right -/
def ltS (r : ByteArray) : List Nat × Bool := lt r.size r
theorem lt_fuel (f g : Nat) (r : ByteArray) (hf : r.size ≤ f) (hg : r.size ≤ g) : lt f r = lt g r := by
  induction f generalizing g r with
  | zero =>
    cases g with
    | zero => rfl
    | succ g => rw [lt, lt, if_pos (by omega)]
  | succ f ih =>
    cases g with
    | zero => rw [lt, lt, if_pos (by omega)]
    | succ g =>
      rw [lt, lt]
      by_cases h1 : r.size = 0
      · rw [if_pos h1, if_pos h1]
      · rw [if_neg h1, if_neg h1]
        by_cases h2 : (oneV r).2 = 0
        · rw [if_pos h2, if_pos h2]
        · rw [if_neg h2, if_neg h2, ih g (tl r (oneV r).2) (by rw [tl_size]; omega) (by rw [tl_size]; omega)]
theorem ltS_nil (r : ByteArray) (h : r.size = 0) : ltS r = ([], true) := by unfold ltS; rw [h, lt]
theorem ltS_bad (r : ByteArray) (h : r.size ≠ 0) (h2 : (oneV r).2 = 0) : ltS r = ([], false) := by
  unfold ltS
  obtain ⟨f, hf⟩ : ∃ f, r.size = f + 1 := ⟨r.size - 1, by omega⟩
  rw [hf, lt, if_neg h, if_pos h2]
theorem ltS_more (r : ByteArray) (h : r.size ≠ 0) (h2 : (oneV r).2 ≠ 0) : ltS r = ((oneV r).1 :: (ltS (tl r (oneV r).2)).1, (ltS (tl r (oneV r).2)).2) := by
  unfold ltS
  obtain ⟨f, hf⟩ : ∃ f, r.size = f + 1 := ⟨r.size - 1, by omega⟩
  rw [hf, lt, if_neg h, if_neg h2, lt_fuel f (tl r (oneV r).2).size (tl r (oneV r).2) (by rw [tl_size]; omega) (Nat.le_refl _)]
theorem lt_len (f : Nat) (r : ByteArray) : (lt f r).1.length ≤ r.size := by
  induction f generalizing r with
  | zero => simp [lt]
  | succ f ih =>
    rw [lt]
    split
    · simp
    · split
      · simp
      · have := ih (tl r (oneV r).2)
        rw [tl_size] at this
        simp only [List.length_cons]
        omega
theorem ltS_len (r : ByteArray) : (ltS r).1.length ≤ r.size := lt_len _ r
theorem lt_le (f : Nat) (r : ByteArray) : ∀ x ∈ (lt f r).1, x ≤ 1114111 := by
  induction f generalizing r with
  | zero => simp [lt]
  | succ f ih =>
    rw [lt]
    split
    · simp
    · rename_i h
      split
      · simp
      · intro x hx
        rcases List.mem_cons.1 hx with rfl | hx
        · exact (oneV_le r h).2.2
        · exact ih _ x hx
theorem back (r : ByteArray) : (⟨r.data.toList.toArray⟩ : ByteArray) = r := by cases r; simp
theorem oneV_bad (r : ByteArray) (h : r.size ≠ 0) : (oneV r).2 = 0 ↔ (Utf8.decode r 0).1 = 65533 ∧ (Utf8.decode r 0).2 = 1 := by
  constructor
  · intro h2
    unfold oneV at h2
    rw [if_neg h] at h2
    split at h2
    · assumption
    · exfalso
      have : (Utf8.decode r 0).2 ≠ 0 := by
        rw [Lib.decode_at]
        unfold Lib.decodeN
        repeat' split
        all_goals simp
      exact this h2
  · intro h2
    unfold oneV; rw [if_neg h, if_pos h2]
theorem oneV_ok (r : ByteArray) (h : r.size ≠ 0) (h2 : (oneV r).2 ≠ 0) : oneV r = Utf8.decode r 0 := by
  have := fun h3 => h2 ((oneV_bad r h).2 h3)
  unfold oneV; rw [if_neg h, if_neg this]
theorem valid_lt (f : Nat) (r : ByteArray) : Lib.validGoD f r.data.toList = (lt f r).2 := by
  induction f generalizing r with
  | zero => rfl
  | succ f ih =>
    rw [Lib.validGoD, lt]
    by_cases h1 : r.size = 0
    · rw [if_pos h1, if_pos (List.eq_nil_of_length_eq_zero (by rw [len_toList]; exact h1))]
    · rw [if_neg h1, if_neg (fun e => h1 (by rw [← len_toList, e]; rfl))]
      unfold Lib.decodeL
      rw [back]
      by_cases h2 : (oneV r).2 = 0
      · rw [if_pos h2, if_pos ((oneV_bad r h1).1 h2)]
      · rw [if_neg h2, if_neg (fun h3 => h2 ((oneV_bad r h1).2 h3)), ← oneV_ok r h1 h2, ← tl_list, ih]
theorem valid_eq (r : ByteArray) : Lib.validD r.data.toList = (ltS r).2 := by
  unfold Lib.validD ltS; rw [len_toList]; exact valid_lt _ r
end Go.Proofs.YtgechifbbhipaaaDoor
