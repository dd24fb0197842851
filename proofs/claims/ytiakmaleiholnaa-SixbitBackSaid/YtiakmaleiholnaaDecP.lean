/- sixbit.Decode: the program's way and the reference's answer alike. Plain lists, no program in sight. -/
import Derived.Test.YtiakmaleiholnaaRDec
namespace Go.Proofs.Ytiakmaleiholnaa
open Go.RowKit

theorem grp_app (y : List Nat) : ∀ (k : Nat) (x : List Nat), x.length = 8 * k → grp (x ++ y) = grp x ++ grp y ∧ lft (x ++ y) = lft y := by
  intro k
  induction k with
  | zero =>
    intro x hx
    obtain rfl : x = [] := List.eq_nil_of_length_eq_zero (by omega)
    rw [List.nil_append, grp_end [] (by simp)]; exact ⟨rfl, rfl⟩
  | succ k ih =>
    intro x hx
    have h1 := ih (x.drop 8) (by simp; omega)
    rw [grp_step (x ++ y) (by simp; omega), grp_step x (by omega), lft_step (x ++ y) (by simp; omega), List.drop_append_of_le_length (by omega), List.take_append_of_le_length (by omega), h1.1, h1.2]
    exact ⟨rfl, rfl⟩

theorem tbits_app (Q P : List UInt8) (h : ∀ x ∈ Q, ¬ x.toNat = 61) : tbits (Q ++ P) = tbits Q ++ tbits P := by
  induction Q with
  | nil => rfl
  | cons c Q ih =>
    have h1 := h c (by simp)
    rw [List.cons_append, tbits_cons c _ h1, tbits_cons c _ h1, ih (fun x hx => h x (by simp [hx])), List.append_assoc]
theorem tbits_len8 (Q : List UInt8) (h : ∀ x ∈ Q, ¬ x.toNat = 61) : (tbits Q).length = 6 * Q.length := by
  induction Q with
  | nil => rfl
  | cons c Q ih =>
    rw [tbits_cons c _ (h c (by simp)), List.length_append, ih (fun x hx => h x (by simp [hx]))]; simp [bits6]; omega

theorem quad (a b c d : Nat) (ha : a < 64) (hb : b < 64) (hc : c < 64) (hd : d < 64) : grp (bits6 a ++ (bits6 b ++ (bits6 c ++ (bits6 d ++ [])))) = [a * 4 + b / 16, b % 16 * 16 + c / 4, c % 4 * 64 + d] := by
  unfold bits6
  simp only [List.cons_append, List.nil_append]
  rw [grp_step _ (by simp)]
  simp only [List.take_succ_cons, List.take_zero, List.drop_succ_cons, List.drop_zero]
  rw [grp_step _ (by simp)]
  simp only [List.take_succ_cons, List.take_zero, List.drop_succ_cons, List.drop_zero]
  rw [grp_step _ (by simp)]
  simp only [List.take_succ_cons, List.take_zero, List.drop_succ_cons, List.drop_zero]
  rw [grp_end _ (by simp)]
  simp only [bval, List.foldl_cons, List.foldl_nil, List.cons.injEq, and_true]
  refine ⟨?_, ?_, ?_⟩ <;> omega
theorem trip (a b c : Nat) (ha : a < 64) (hb : b < 64) (hc : c < 64) : grp (bits6 a ++ (bits6 b ++ (bits6 c ++ []))) = [a * 4 + b / 16, b % 16 * 16 + c / 4] ∧ lft (bits6 a ++ (bits6 b ++ (bits6 c ++ []))) = [c / 2 % 2, c % 2] := by
  unfold bits6
  simp only [List.cons_append, List.nil_append]
  rw [grp_step _ (by simp), lft_step _ (by simp)]
  simp only [List.take_succ_cons, List.take_zero, List.drop_succ_cons, List.drop_zero]
  rw [grp_step _ (by simp), lft_step _ (by simp)]
  simp only [List.take_succ_cons, List.take_zero, List.drop_succ_cons, List.drop_zero]
  rw [grp_end _ (by simp), lft_end _ (by simp)]
  simp only [bval, List.foldl_cons, List.foldl_nil, List.cons.injEq, and_true]
  refine ⟨?_, ?_⟩ <;> omega
theorem pair (a b : Nat) (ha : a < 64) (hb : b < 64) : grp (bits6 a ++ (bits6 b ++ [])) = [a * 4 + b / 16] ∧ lft (bits6 a ++ (bits6 b ++ [])) = [b / 8 % 2, b / 4 % 2, b / 2 % 2, b % 2] := by
  unfold bits6
  simp only [List.cons_append, List.nil_append]
  rw [grp_step _ (by simp), lft_step _ (by simp)]
  simp only [List.take_succ_cons, List.take_zero, List.drop_succ_cons, List.drop_zero]
  rw [grp_end _ (by simp), lft_end _ (by simp)]
  simp only [bval, List.foldl_cons, List.foldl_nil, List.cons.injEq, and_true]
  omega

/-- the worth of a letter, as a number -/
def wn (c : UInt8) : Nat := (wv c).toNat
theorem wn_lt (c : UInt8) : wn c < 64 := by have := wv_bd c; unfold wn; omega

theorem dn0 (a b c d V : Nat) (ha : a < 64) (hb : b < 64) (hc : c < 64) (hd : d < 64) (hV : V = 64 * (64 * (64 * a + b) + c) + d) :
    dnew V 0 = ([a * 4 + b / 16, b % 16 * 16 + c / 4, c % 4 * 64 + d]).map (fun x : Nat => (x : Int)) := by
  have h1 : V / 65536 % 256 = a * 4 + b / 16 := by omega
  have h2 : V / 256 % 256 = b % 16 * 16 + c / 4 := by omega
  have h3 : V % 256 = c % 4 * 64 + d := by omega
  unfold dnew; rw [h1, h2, h3]; rfl
theorem dn1 (a b c V : Nat) (ha : a < 64) (hb : b < 64) (hc : c < 64) (hV : V = 64 * (64 * (64 * a + b) + c) + 0) :
    dnew V 1 = ([a * 4 + b / 16, b % 16 * 16 + c / 4]).map (fun x : Nat => (x : Int)) ∧ decide (V % 2 ^ (8 * 1) ≠ 0) = [c / 2 % 2, c % 2].any (fun b => decide (b ≠ 0)) := by
  have h1 : V / 65536 % 256 = a * 4 + b / 16 := by omega
  have h2 : V / 256 % 256 = b % 16 * 16 + c / 4 := by omega
  refine ⟨by unfold dnew; rw [h1, h2]; rfl, ?_⟩
  simp only [List.any_cons, List.any_nil, Bool.or_false]
  rw [Bool.eq_iff_iff]; simp; omega
theorem dn2 (a b V : Nat) (ha : a < 64) (hb : b < 64) (hV : V = 64 * (64 * (64 * a + b) + 0) + 0) :
    dnew V 2 = ([a * 4 + b / 16]).map (fun x : Nat => (x : Int)) ∧ decide (V % 2 ^ (8 * 2) ≠ 0) = [b / 8 % 2, b / 4 % 2, b / 2 % 2, b % 2].any (fun b => decide (b ≠ 0)) := by
  have h1 : V / 65536 % 256 = a * 4 + b / 16 := by omega
  refine ⟨by unfold dnew; rw [h1]; rfl, ?_⟩
  simp only [List.any_cons, List.any_nil, Bool.or_false]
  rw [Bool.eq_iff_iff]; simp; omega
end Go.Proofs.Ytiakmaleiholnaa
