/- trees in plain Lean: elements and what is within them, in order. No condition. -/
import Derived.Test.YtgechifbbhipaaaDoorKit2
set_option linter.unusedVariables false
set_option linter.unusedSimpArgs false
namespace Go.Proofs.YtgechifbbhipaaaDoor
open Go.RowKit

/-- an element: page, name, text, opaque, kids -/
inductive Tr where
  | mk (page : Int) (name text : ByteArray) (opq : Bool) (kids : List Tr)
namespace Tr
def page : Tr → Int | .mk p _ _ _ _ => p
def name : Tr → ByteArray | .mk _ n _ _ _ => n
def text : Tr → ByteArray | .mk _ _ t _ _ => t
def opq : Tr → Bool | .mk _ _ _ o _ => o
def kids : Tr → List Tr | .mk _ _ _ _ ks => ks
end Tr

mutual
/-- how deep -/
def hT : Tr → Nat | .mk _ _ _ _ ks => hL ks + 1
def hL : List Tr → Nat | [] => 0 | k :: ks => max (hT k) (hL ks)
end
mutual
/-- an element, and all within it, in order, with how deep each lies -/
def preT (most : Nat) : Nat → Tr → List (Nat × Tr)
  | d, .mk p n t o ks => if most < d then [] else (d, .mk p n t o ks) :: preL most (d + 1) ks
def preL (most : Nat) : Nat → List Tr → List (Nat × Tr)
  | _, [] => []
  | d, k :: ks => preT most d k ++ preL most d ks
end
theorem hL_mem {ks : List Tr} {k : Tr} (h : k ∈ ks) : hT k ≤ hL ks := by
  induction ks with
  | nil => cases h
  | cons a l ih =>
    rw [hL]
    rcases List.mem_cons.1 h with rfl | h
    · exact Nat.le_max_left _ _
    · exact Nat.le_trans (ih h) (Nat.le_max_right _ _)
theorem hT_kid {e k : Tr} (h : k ∈ e.kids) : hT k < hT e := by
  cases e with
  | mk p n t o ks => rw [hT]; exact Nat.lt_succ_of_le (hL_mem h)
theorem preT_deep {most d : Nat} {e : Tr} (h : most < d) : preT most d e = [] := by
  cases e; rw [preT, if_pos h]
theorem preT_in {most d : Nat} {e : Tr} (h : ¬ most < d) : preT most d e = (d, e) :: preL most (d + 1) e.kids := by
  cases e; rw [preT, if_neg h]; rfl
theorem preL_snoc (most d : Nat) (a : List Tr) (k : Tr) : preL most d (a ++ [k]) = preL most d a ++ preT most d k := by
  induction a with
  | nil => simp [preL]
  | cons x l ih => rw [List.cons_append, preL, preL, ih, List.append_assoc]
theorem preL_deep {most d : Nat} (h : most < d) (ks : List Tr) : preL most d ks = [] := by
  induction ks with
  | nil => rfl
  | cons x l ih => rw [preL, preT_deep h, ih]; rfl
end Go.Proofs.YtgechifbbhipaaaDoor
