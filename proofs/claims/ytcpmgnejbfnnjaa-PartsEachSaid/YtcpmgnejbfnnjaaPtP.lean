/- parts: values of several parts, in plain words. No condition. -/
import Derived.Test.YtcpmgnejbfnnjaaKit
namespace Go.Proofs.Ytcpmgnejbfnnjaa
open Go.RowKit

def spc (c : UInt8) : Bool := c == 59 || c == 92
def escC (c : UInt8) : List UInt8 := if spc c = true then [92, c] else [c]
def escL (s : List UInt8) : List UInt8 := s.flatMap escC
/-- parts as a value -/
def jnL : List (List UInt8) → List UInt8
  | [] => []
  | [x] => escL x
  | x :: y :: l => escL x ++ 59 :: jnL (y :: l)
theorem escL_snoc (s : List UInt8) (c : UInt8) : escL (s ++ [c]) = escL s ++ escC c := by simp [escL]
theorem jnL_snoc (l : List (List UInt8)) (x : List UInt8) : jnL (l ++ [x]) = (if l = [] then [] else jnL l ++ [59]) ++ escL x := by
  induction l with
  | nil => rfl
  | cons a l ih =>
    rw [if_neg (by simp)]
    cases l with
    | nil => simp [jnL]
    | cons b l =>
      rw [if_neg (by simp)] at ih
      show escL a ++ 59 :: jnL (b :: l ++ [x]) = _
      rw [ih]
      simp [jnL]

/-- a part at the head of a text: the part, how many bytes, whether it is right -/
def nxL : List UInt8 → List UInt8 × Nat × Bool
  | [] => ([], 0, true)
  | [c] => if c = 59 then ([], 0, true) else if c = 92 then ([], 0, false) else ([c], 1, true)
  | c :: d :: r =>
    if c = 59 then ([], 0, true)
    else if c = 92 then (if spc d = true then (d :: (nxL r).1, (nxL r).2.1 + 2, (nxL r).2.2) else ([], 0, false))
    else (c :: (nxL (d :: r)).1, (nxL (d :: r)).2.1 + 1, (nxL (d :: r)).2.2)

theorem nx_nil : nxL [] = ([], 0, true) := by rw [nxL]
theorem nx_sep (r : List UInt8) : nxL (59 :: r) = ([], 0, true) := by
  cases r with
  | nil => rw [nxL, if_pos rfl]
  | cons d r => rw [nxL, if_pos rfl]
theorem nx_bad1 : nxL [92] = ([], 0, false) := by rw [nxL, if_neg (by decide), if_pos rfl]
theorem nx_bad2 (d : UInt8) (r : List UInt8) (h : spc d = false) : nxL (92 :: d :: r) = ([], 0, false) := by rw [nxL, if_neg (by decide), if_pos rfl, if_neg (by simp [h])]
theorem nx_esc (d : UInt8) (r : List UInt8) (h : spc d = true) : nxL (92 :: d :: r) = (d :: (nxL r).1, (nxL r).2.1 + 2, (nxL r).2.2) := by rw [nxL, if_neg (by decide), if_pos rfl, if_pos h]
theorem nx_byte (c : UInt8) (r : List UInt8) (h1 : c ≠ 59) (h2 : c ≠ 92) : nxL (c :: r) = (c :: (nxL r).1, (nxL r).2.1 + 1, (nxL r).2.2) := by
  cases r with
  | nil => rw [nx_nil, nxL, if_neg h1, if_neg h2]
  | cons d r => rw [nxL, if_neg h1, if_neg h2]
theorem nx_le (f : Nat) (l : List UInt8) (h : l.length ≤ f) : (nxL l).2.1 ≤ l.length := by
  induction f generalizing l with
  | zero => obtain rfl : l = [] := List.eq_nil_of_length_eq_zero (by omega); simp [nx_nil]
  | succ f ih =>
    match l, h with
    | [], _ => simp [nx_nil]
    | c :: r, h =>
      by_cases h1 : c = 59
      · subst h1; rw [nx_sep]; simp
      · by_cases h2 : c = 92
        · subst h2
          match r, h with
          | [], _ => rw [nx_bad1]; simp
          | d :: r, h =>
            cases hd : spc d
            · rw [nx_bad2 d r hd]; simp
            · rw [nx_esc d r hd]
              have := ih r (by simp at h; omega)
              simp; omega
        · rw [nx_byte c r h1 h2]
          have := ih r (by simp at h; omega)
          simp; omega
theorem nx_len (f : Nat) (l : List UInt8) (h : l.length ≤ f) : (nxL l).1.length ≤ l.length := by
  induction f generalizing l with
  | zero => obtain rfl : l = [] := List.eq_nil_of_length_eq_zero (by omega); simp [nx_nil]
  | succ f ih =>
    match l, h with
    | [], _ => simp [nx_nil]
    | c :: r, h =>
      by_cases h1 : c = 59
      · subst h1; rw [nx_sep]; simp
      · by_cases h2 : c = 92
        · subst h2
          match r, h with
          | [], _ => rw [nx_bad1]; simp
          | d :: r, h =>
            cases hd : spc d
            · rw [nx_bad2 d r hd]; simp
            · rw [nx_esc d r hd]
              have := ih r (by simp at h; omega)
              simp; omega
        · rw [nx_byte c r h1 h2]
          have := ih r (by simp at h; omega)
          simp; omega

/-- the parts of a text from place i on, and the place of what is wrong (-1: nothing is); f: fuel -/
def spF : Nat → Nat → List UInt8 → List (List UInt8) × Int
  | 0, _, _ => ([], -1)
  | f + 1, i, l =>
    if (nxL l).2.2 = true then
      if l.drop ((nxL l).2.1) = [] then ([(nxL l).1], -1)
      else ((nxL l).1 :: (spF f (i + (nxL l).2.1 + 1) (l.drop ((nxL l).2.1 + 1))).1, (spF f (i + (nxL l).2.1 + 1) (l.drop ((nxL l).2.1 + 1))).2)
    else ([], ((i + (nxL l).2.1 : Nat) : Int))
def spL (i : Nat) (l : List UInt8) : List (List UInt8) × Int := spF (l.length + 1) i l
theorem spF_fuel (f g i : Nat) (l : List UInt8) (hf : l.length < f) (hg : l.length < g) : spF f i l = spF g i l := by
  induction f generalizing g i l with
  | zero => omega
  | succ f ih =>
    cases g with
    | zero => omega
    | succ g =>
      rw [spF, spF]
      by_cases h1 : (nxL l).2.2 = true
      · rw [if_pos h1, if_pos h1]
        by_cases h2 : l.drop ((nxL l).2.1) = []
        · rw [if_pos h2, if_pos h2]
        · rw [if_neg h2, if_neg h2]
          have h3 : (nxL l).2.1 < l.length := by
            rcases Nat.lt_or_ge (nxL l).2.1 l.length with h | h
            · exact h
            · exact absurd (List.drop_of_length_le h) h2
          rw [ih g _ _ (by simp; omega) (by simp; omega)]
      · rw [if_neg h1, if_neg h1]
theorem sp_bad {i : Nat} {l : List UInt8} (h : (nxL l).2.2 = false) : spL i l = ([], ((i + (nxL l).2.1 : Nat) : Int)) := by
  unfold spL; rw [spF, if_neg (by simp [h])]
theorem sp_end {i : Nat} {l : List UInt8} (h : (nxL l).2.2 = true) (h2 : l.drop ((nxL l).2.1) = []) : spL i l = ([(nxL l).1], -1) := by
  unfold spL; rw [spF, if_pos h, if_pos h2]
theorem sp_more {i : Nat} {l : List UInt8} (h : (nxL l).2.2 = true) (h2 : l.drop ((nxL l).2.1) ≠ []) :
    spL i l = ((nxL l).1 :: (spL (i + (nxL l).2.1 + 1) (l.drop ((nxL l).2.1 + 1))).1, (spL (i + (nxL l).2.1 + 1) (l.drop ((nxL l).2.1 + 1))).2) := by
  have h3 : (nxL l).2.1 < l.length := by
    rcases Nat.lt_or_ge (nxL l).2.1 l.length with h | h
    · exact h
    · exact absurd (List.drop_of_length_le h) h2
  unfold spL
  rw [spF, if_pos h, if_neg h2, spF_fuel l.length ((l.drop ((nxL l).2.1 + 1)).length + 1) _ _ (by simp; omega) (by omega)]
theorem sp_lt (f i : Nat) (l : List UInt8) (h : l.length ≤ f) : (spL i l).2 < (i + l.length + 1 : Nat) ∧ ((spL i l).2 = -1 ∨ 0 ≤ (spL i l).2) ∧ (spL i l).1.length ≤ l.length + 1 := by
  induction f generalizing i l with
  | zero =>
    obtain rfl : l = [] := List.eq_nil_of_length_eq_zero (by omega)
    rw [sp_end (by rw [nx_nil]) (by simp)]
    simp; omega
  | succ f ih =>
    have hle := nx_le _ l (Nat.le_refl _)
    cases h1 : (nxL l).2.2
    · rw [sp_bad h1]
      simp; omega
    · by_cases h2 : l.drop ((nxL l).2.1) = []
      · rw [sp_end h1 h2]; simp; omega
      · rw [sp_more h1 h2]
        have h3 : (nxL l).2.1 < l.length := by
          rcases Nat.lt_or_ge (nxL l).2.1 l.length with h | h
          · exact h
          · exact absurd (List.drop_of_length_le h) h2
        obtain ⟨a, b, c⟩ := ih (i + (nxL l).2.1 + 1) (l.drop ((nxL l).2.1 + 1)) (by simp; omega)
        simp only [List.length_drop] at a c
        refine ⟨by simp only; omega, b, by simp; omega⟩
end Go.Proofs.Ytcpmgnejbfnnjaa
