/- auth: Check, the program's and the reference's. No condition but sizes. -/
import Derived.Test.YteheibgdjpkeaaaAuW
import Derived.Lib.IndexAny
namespace Go.Proofs.Yteheibgdjpkeaaa
open Go.RowKit

theorem hasC_idx (u : ByteArray) : decide (0 ≤ Lib.indexByte u.data.toList 58) = hasC u := by
  rw [← Lib.contains_iff_indexByte]
  unfold hasC
  induction u.data.toList with
  | nil => rfl
  | cons c l ih =>
    rw [List.contains_cons, List.any_cons, ih]
    congr 1
    by_cases h : c = 58
    · subst h; rfl
    · have h1 : c.toNat ≠ 58 := fun e => h (UInt8.toNat_inj.1 e)
      have h2 : (c == 58) = false := by simpa using h
      have h3 : (c.toNat == 58) = false := by simpa using h1
      rw [h3]
      simpa using fun e : 58 = c => h e.symm

theorem contains_any (u : ByteArray) (w : World) : Calls Try.prog 47 #[.string u, .string { data := #[58] }] w fun e w' => e = .returned (.bool (hasC u)) ∧ w = w' :=
  (Try.strings_Contains_one u 58 w).mono fun e w' h => ⟨by rw [h.1, hasC_idx], h.2.symm⟩

/-- block b is one of two texts -/
def Two (w : World) (b : Nat) (u p : ByteArray) : Prop := w.cell? ⟨b, 0, none⟩ = some (.string u) ∧ w.cell? ⟨b, 1, none⟩ = some (.string p) ∧ b < w.heap.size
theorem Two.below {w w' : World} {b : Nat} {u p : ByteArray} (h : Two w b u p) (hb : Below w.heap.size w w') : Two w' b u p :=
  ⟨(hb.cell (p := ⟨b, 0, none⟩) h.2.2).trans h.1, (hb.cell (p := ⟨b, 1, none⟩) h.2.2).trans h.2.1, Nat.lt_of_lt_of_le h.2.2 hb.size⟩
theorem Two.new (w : World) (u p : ByteArray) (t : TypeId) : Two (w.alloc (.cells #[.string u, .string p] t)) w.heap.size u p := by
  refine ⟨?_, ?_, by simp⟩
  · rw [World.cell?_alloc_at _ _ _ _ rfl]; rfl
  · rw [World.cell?_alloc_at _ _ _ _ rfl]; rfl

theorem chk_steps (u p : ByteArray) :
    (u.size = 0 ∧ chkE u p = 14) ∨ (u.size ≠ 0 ∧ 32 < u.size ∧ chkE u p = 14) ∨ (u.size ≠ 0 ∧ ¬ 32 < u.size ∧ okB 33 u = false ∧ chkE u p = 14) ∨
    (u.size ≠ 0 ∧ ¬ 32 < u.size ∧ okB 33 u = true ∧ hasC u = true ∧ chkE u p = 14) ∨
    (u.size ≠ 0 ∧ ¬ 32 < u.size ∧ okB 33 u = true ∧ hasC u = false ∧ 32 < p.size ∧ chkE u p = 3) ∨
    (u.size ≠ 0 ∧ ¬ 32 < u.size ∧ okB 33 u = true ∧ hasC u = false ∧ ¬ 32 < p.size ∧ okB 32 p = false ∧ chkE u p = 3) ∨
    (u.size ≠ 0 ∧ ¬ 32 < u.size ∧ okB 33 u = true ∧ hasC u = false ∧ ¬ 32 < p.size ∧ okB 32 p = true ∧ chkE u p = 0) := by
  unfold chkE
  by_cases h1 : u.size = 0
  · simp [h1]
  · by_cases h2 : 32 < u.size
    · simp [h1, h2]
    · cases h3 : okB 33 u
      · simp [h1, h2]
      · cases h4 : hasC u
        · by_cases h5 : 32 < p.size
          · simp [h1, h2, h5]
          · cases h6 : okB 32 p
            · simp [h1, h2, h5]
            · simp [h1, h2, h5]
        · simp [h1, h2]

theorem empty_yes {s : ByteArray} (h : s.size = 0) : s.toList = [] ∧ s.toList.isEmpty = true := by
  rw [empty_of_size s h]; exact ⟨by simp, by simp⟩
theorem empty_no {s : ByteArray} (h : s.size ≠ 0) : s.toList.isEmpty = false := by
  rw [ByteArray.toList_eq, List.isEmpty_eq_false_iff]; intro e; apply h; rw [← len_toList, e]; rfl

set_option maxRecDepth 100000 in
set_option maxHeartbeats 4000000 in
theorem check_any (u p : ByteArray) (hu : u.size ≤ 5000) (hp : p.size ≤ 5000) (w : World) :
    Calls Try.prog 26 #[.agg #[.string u, .string p]] w fun e w' => e = .returned (.int .i64 (chkE u p)) ∧ Below w.heap.size w w' := by
  have c1 := Lib.hid (fun w => within_any 33 u w (by omega))
  have c2 := Lib.hid (fun w => within_any 32 p w (by omega))
  have c3 := Lib.hid (contains_any u)
  have hT := Two.new w u p 50
  have hB : Below w.heap.size w (w.alloc (.cells #[.string u, .string p] 50)) := (Below.refl _ _).alloc (Nat.le_refl _) _
  have HB := Lib.hid hB
  obtain ⟨k0, k1, kl⟩ := hT
  have HT : Hid (Two (w.alloc (.cells #[.string u, .string p] 50)) w.heap.size u p) := ⟨k0, k1, kl⟩
  clear hB kl
  rcases chk_steps u p with ⟨h1, he⟩ | ⟨h1, h2, he⟩ | ⟨h1, h2, h3, he⟩ | ⟨h1, h2, h3, h4, he⟩ | ⟨h1, h2, h3, h4, h5, he⟩ | ⟨h1, h2, h3, h4, h5, h6, he⟩ | ⟨h1, h2, h3, h4, h5, h6, he⟩
  · obtain ⟨g1, g2⟩ := empty_yes h1
    rw [he]
    clear he h1
    go_enter Try.func26, Try.ntmps26
    go_wp2_with fail
    go_ret
    exact ⟨rfl, HB.out⟩
  · have g1 := empty_no h1
    have g2 : (32 : Int) < u.size := by omega
    rw [he]
    clear he h1 h2
    go_enter Try.func26, Try.ntmps26
    go_wp2_with fail
    go_ret
    exact ⟨rfl, HB.out⟩
  · have g1 := empty_no h1
    have g2 : ¬ (32 : Int) < u.size := by omega
    rw [he]
    rw [h3] at c1
    clear he h1 h2 h3
    go_enter Try.func26, Try.ntmps26
    go_wp2_with fail
    generalize w.alloc (.cells #[.string u, .string p] 50) = w0 at *
    refine (c1.out _).mono ?_
    rintro e w1 ⟨rfl, hb1⟩
    go_wp2_with fail
    go_ret
    exact ⟨rfl, HB.out.trans (hb1.mono HB.out.size)⟩
  · have g1 := empty_no h1
    have g2 : ¬ (32 : Int) < u.size := by omega
    rw [he]
    rw [h3] at c1
    rw [h4] at c3
    clear he h1 h2 h3 h4
    go_enter Try.func26, Try.ntmps26
    go_wp2_with fail
    generalize w.alloc (.cells #[.string u, .string p] 50) = w0 at *
    refine (c1.out _).mono ?_
    rintro e w1 ⟨rfl, hb1⟩
    obtain ⟨q0, q1, _⟩ := HT.out.below hb1
    have HB1 := Lib.hid (HB.out.trans (hb1.mono HB.out.size))
    clear k0 k1 hb1
    go_wp2_with fail
    refine (c3.out _).mono ?_
    rintro e w2 ⟨rfl, rfl⟩
    go_wp2_with fail
    go_ret
    exact ⟨rfl, HB1.out⟩
  · have g1 := empty_no h1
    have g2 : ¬ (32 : Int) < u.size := by omega
    have g5 : (32 : Int) < p.size := by omega
    rw [he]
    rw [h3] at c1
    rw [h4] at c3
    clear he h1 h2 h3 h4 h5
    go_enter Try.func26, Try.ntmps26
    go_wp2_with fail
    generalize w.alloc (.cells #[.string u, .string p] 50) = w0 at *
    refine (c1.out _).mono ?_
    rintro e w1 ⟨rfl, hb1⟩
    obtain ⟨q0, q1, _⟩ := HT.out.below hb1
    have HB1 := Lib.hid (HB.out.trans (hb1.mono HB.out.size))
    clear k0 k1 hb1
    go_wp2_with fail
    refine (c3.out _).mono ?_
    rintro e w2 ⟨rfl, rfl⟩
    go_wp2_with fail
    go_ret
    exact ⟨rfl, HB1.out⟩
  · have g1 := empty_no h1
    have g2 : ¬ (32 : Int) < u.size := by omega
    have g5 : ¬ (32 : Int) < p.size := by omega
    rw [he]
    rw [h3] at c1
    rw [h4] at c3
    rw [h6] at c2
    clear he h1 h2 h3 h4 h5 h6
    go_enter Try.func26, Try.ntmps26
    go_wp2_with fail
    generalize w.alloc (.cells #[.string u, .string p] 50) = w0 at *
    refine (c1.out _).mono ?_
    rintro e w1 ⟨rfl, hb1⟩
    obtain ⟨q0, q1, _⟩ := HT.out.below hb1
    have HB1 := Lib.hid (HB.out.trans (hb1.mono HB.out.size))
    clear k0 k1 hb1
    go_wp2_with fail
    refine (c3.out _).mono ?_
    rintro e w2 ⟨rfl, rfl⟩
    go_wp2_with fail
    refine (c2.out _).mono ?_
    rintro e w3 ⟨rfl, hb3⟩
    go_wp2_with fail
    go_ret
    exact ⟨rfl, HB1.out.trans (hb3.mono HB1.out.size)⟩
  · have g1 := empty_no h1
    have g2 : ¬ (32 : Int) < u.size := by omega
    have g5 : ¬ (32 : Int) < p.size := by omega
    rw [he]
    rw [h3] at c1
    rw [h4] at c3
    rw [h6] at c2
    clear he h1 h2 h3 h4 h5 h6
    go_enter Try.func26, Try.ntmps26
    go_wp2_with fail
    generalize w.alloc (.cells #[.string u, .string p] 50) = w0 at *
    refine (c1.out _).mono ?_
    rintro e w1 ⟨rfl, hb1⟩
    obtain ⟨q0, q1, _⟩ := HT.out.below hb1
    have HB1 := Lib.hid (HB.out.trans (hb1.mono HB.out.size))
    clear k0 k1 hb1
    go_wp2_with fail
    refine (c3.out _).mono ?_
    rintro e w2 ⟨rfl, rfl⟩
    go_wp2_with fail
    refine (c2.out _).mono ?_
    rintro e w3 ⟨rfl, hb3⟩
    go_wp2_with fail
    go_ret
    exact ⟨rfl, HB1.out.trans (hb3.mono HB1.out.size)⟩
end Go.Proofs.Yteheibgdjpkeaaa
