/- auth: what the laws' anchors ask. No condition. -/
import Derived.Test.YteheibgdjpkeaaaAuG
namespace Go.Proofs.Yteheibgdjpkeaaa
open Go.RowKit

def sa : ByteArray := { data := #[97] }
def sb : ByteArray := { data := #[98] }
def se : ByteArray := { data := #[] }
def sY : ByteArray := { data := #[89, 84, 112, 105] }
theorem wk_E : credE 1 sa sb se = 0 := by decide +kernel
theorem wk_T : credT 1 sa sb se = tyB := by decide +kernel
theorem wk_D : credD 1 sa sb se se = sY := by decide +kernel
theorem wk_H1 : holdsC tyB sY sa sb se se = true := by decide +kernel
theorem wk_H2 : holdsC tyB sY sa se se se = false := by decide +kernel
theorem wk_N : nonceB 0 = { data := #[65, 65, 65, 65, 65, 65, 65, 65, 65, 65, 65, 61] } := by decide +kernel
theorem wk_eq : decide ((tyB, sY) = (tyB, sY)) = true := by decide +kernel

/-- what stays: an Ask's block, two texts, and what lay below -/
def KeepW (w0 : World) (b g : Nat) (k : Int) (u p n d : ByteArray) (x y : ByteArray) (w' : World) : Prop := w'.cell? ⟨b, 0, none⟩ = some (.int .i64 k) ∧ w'.cell? ⟨b, 1, none⟩ = some (.string u) ∧ w'.cell? ⟨b, 2, none⟩ = some (.string p) ∧ w'.cell? ⟨b, 3, none⟩ = some (.string n) ∧ w'.cell? ⟨b, 4, none⟩ = some (.string d) ∧
  w'.cell? ⟨g, 0, none⟩ = some (.string x) ∧ w'.cell? ⟨g, 1, none⟩ = some (.string y) ∧ b < w'.heap.size ∧ g < w'.heap.size ∧ Below w0.heap.size w0 w'
theorem KeepW.call {w0 w' w2 : World} {b g : Nat} {k : Int} {u p n d x y : ByteArray} (h : KeepW w0 b g k u p n d x y w') (hb : Below w'.heap.size w' w2) : KeepW w0 b g k u p n d x y w2 := by
  obtain ⟨h0, h1, h2, h3, h4, h5, h6, h7, h8, h9⟩ := h
  have hs := hb.size
  exact ⟨(hb.cell (p := ⟨b, 0, none⟩) h7).trans h0, (hb.cell (p := ⟨b, 1, none⟩) h7).trans h1, (hb.cell (p := ⟨b, 2, none⟩) h7).trans h2, (hb.cell (p := ⟨b, 3, none⟩) h7).trans h3, (hb.cell (p := ⟨b, 4, none⟩) h7).trans h4,
    (hb.cell (p := ⟨g, 0, none⟩) h8).trans h5, (hb.cell (p := ⟨g, 1, none⟩) h8).trans h6, by omega, by omega, h9.trans (hb.mono h9.size)⟩
theorem KeepW.drew {w0 w' : World} {b g : Nat} {k : Int} {u p n d x y : ByteArray} (h : KeepW w0 b g k u p n d x y w') : KeepW w0 b g k u p n d x y w'.drew := h.call ((Below.refl _ _).drew)

set_option maxRecDepth 100000 in
set_option maxHeartbeats 8000000 in
theorem works_any (w : World) : Calls Try.prog 33 #[] w fun e w' => e = .returned (.bool true) ∧ Below w.heap.size w w' := by
  have c1 : Hid (∀ w, Calls Try.prog 20 #[.agg #[.int .i64 1, .string { data := #[97] }, .string { data := #[98] }, .string { data := #[] }, .string { data := #[] }]] w fun e w' => e = .returned (.tuple #[.agg #[.string tyB, .string sY], .int .i64 0]) ∧ Below w.heap.size w w') := fun w => by
    have := askCred_any 1 sa sb se se (by decide) (by decide) (by decide) (by decide) w
    rw [wk_E, wk_T, wk_D] at this
    exact this
  have c2 : Hid (∀ w, Calls Try.prog 27 #[.agg #[.int .i64 1, .string { data := #[97] }, .string { data := #[98] }, .string { data := #[] }, .string { data := #[] }]] w fun e w' => e = .returned (.agg #[.string { data := #[97] }, .string { data := #[98] }]) ∧ Below w.heap.size w w') := fun w => who_any 1 sa sb se se w
  have c3 : Hid (∀ w, Calls Try.prog 31 #[.agg #[.string tyB, .string sY], .agg #[.string { data := #[97] }, .string { data := #[98] }], .string { data := #[] }, .string { data := #[] }] w fun e w' => e = .returned (.bool true) ∧ Below w.heap.size w w') := fun w => by
    have := holds_any tyB sY sa sb se se (by decide) (by decide) (by decide) (by decide) w
    rw [wk_H1] at this
    exact this
  have c4 : Hid (∀ w, Calls Try.prog 31 #[.agg #[.string tyB, .string sY], .agg #[.string { data := #[97] }, .string { data := #[] }], .string { data := #[] }, .string { data := #[] }] w fun e w' => e = .returned (.bool false) ∧ Below w.heap.size w w') := fun w => by
    have := holds_any tyB sY sa se se se (by decide) (by decide) (by decide) (by decide) w
    rw [wk_H2] at this
    exact this
  have c5 : Hid (∀ w, Calls Try.prog 29 #[.int .u64 0] w fun e w' => e = .returned (.string { data := #[65, 65, 65, 65, 65, 65, 65, 65, 65, 65, 65, 61] }) ∧ Below w.heap.size w w') := fun w => by
    have := nonce_any 0 (by decide) w
    rw [wk_N] at this
    exact this
  have heq0 : ∀ w, (binOp .eql 42 (.agg #[.string tyB, .string sY]) (.agg #[.string tyB, .string sY])).run Try.prog w = .ok (.bool true) w := fun w => by rw [run_eq42, wk_eq]
  have heq : ∀ w, (binOp .eql 42 (.agg #[.string tyB, .string sY]) (.agg #[.string { data := #[115, 121, 110, 99, 109, 108, 58, 97, 117, 116, 104, 45, 98, 97, 115, 105, 99] }, .string { data := #[89, 84, 112, 105] }])).run Try.prog w = .ok (.bool true) w := heq0
  clear heq0
  generalize tyB = T at *
  generalize sY = D at *
  go_enter Try.func33, Try.ntmps33
  go_wp2_with fail
  refine (c1.out _).mono ?_
  rintro e w4 ⟨rfl, hb4⟩
  go_wp2_with fail
  have hz4 : w.heap.size < w4.heap.size := by have := hb4.size; simp at this; omega
  have hF := (Five.new w 1 sa sb se se 37).below (by simp) hb4
  have hK : Hid (KeepW w w.heap.size w4.heap.size 1 sa sb se se T D (w4.alloc (.cells #[.string T, .string D] 42))) := by
    have h1 := hF.below hz4 ((Below.refl _ _).alloc (Nat.le_refl _) (.cells #[.string T, .string D] 42))
    have h2 := Two.new w4 T D 42
    have hb0 : Below w.heap.size w w4 := ((Below.refl _ w).alloc (Nat.le_refl _) _).trans (hb4.mono (by simp))
    exact ⟨h1.1, h1.2.1, h1.2.2.1, h1.2.2.2.1, h1.2.2.2.2, h2.1, h2.2.1, by simp; omega, h2.2.2, hb0.alloc hb0.size _⟩
  clear hF hb4
  generalize w4.alloc (.cells #[.string T, .string D] 42) = w5 at *
  generalize w4.heap.size = G at *
  go_region_held3 (fun w' => w'.cell? ⟨w.heap.size, 0, none⟩ = some (.int .i64 1) ∧ w'.cell? ⟨w.heap.size, 1, none⟩ = some (.string { data := #[97] }) ∧ w'.cell? ⟨w.heap.size, 2, none⟩ = some (.string { data := #[98] }) ∧ w'.cell? ⟨w.heap.size, 3, none⟩ = some (.string { data := #[] }) ∧ w'.cell? ⟨w.heap.size, 4, none⟩ = some (.string { data := #[] }) ∧
      w'.cell? ⟨G, 0, none⟩ = some (.string T) ∧ w'.cell? ⟨G, 1, none⟩ = some (.string D) ∧ w.heap.size < w'.heap.size ∧ G < w'.heap.size ∧ Below w.heap.size w w')
    (first | assumption | exact KeepW.drew hK.out | exact KeepW.call (b := w.heap.size) (g := G) (k := 1) (u := sa) (p := sb) (n := se) (d := se) (by assumption) hb9 | exact KeepW.call (KeepW.drew hK.out) hb9)
    (first | (go_at_call 27; (with_reducible refine (c2.out _).mono ?_); rintro e w9 ⟨rfl, hb9⟩) | (go_at_call 31; (with_reducible refine (c3.out _).mono ?_); rintro e w9 ⟨rfl, hb9⟩) | (go_at_call 31; (with_reducible refine (c4.out _).mono ?_); rintro e w9 ⟨rfl, hb9⟩) | (go_at_call 29; (with_reducible refine (c5.out _).mono ?_); rintro e w9 ⟨rfl, hb9⟩))
  all_goals
    have hq := Lib.hid ((by assumption : KeepW w w.heap.size G 1 sa sb se se T D _).2.2.2.2.2.2.2.2.2)
    go_wp2
    go_ret
    exact ⟨rfl, hq.out⟩
end Go.Proofs.Yteheibgdjpkeaaa
