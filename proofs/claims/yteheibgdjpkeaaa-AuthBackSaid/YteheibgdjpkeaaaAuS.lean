/- auth: sums in letters, joined texts, two texts in a block. No condition but sizes. -/
import Derived.Test.YteheibgdjpkeaaaAuR
import Derived.Test.YteheibgdjpkeaaaEncW
import Derived.Test.YteheibgdjpkeaaaREncW
import Derived.Test.YteheibgdjpkeaaaHSum
namespace Go.Proofs.Yteheibgdjpkeaaa
open Go.RowKit

theorem encS_len (f : Nat) (l : List UInt8) (h : l.length ≤ f) : (encS l).length ≤ 4 * l.length := by
  induction f generalizing l with
  | zero => obtain rfl : l = [] := List.eq_nil_of_length_eq_zero (by omega); simp [encS]
  | succ f ih =>
    match l, h with
    | [], _ => simp [encS]
    | [a], _ => simp [encS, enc3]
    | [a, b], _ => simp [encS, enc3]
    | a :: b :: c :: l, h =>
      have := ih l (by simp at h; omega)
      simp [encS, enc3]; omega
theorem strOfNums_size (l : List Int) : (strOfNums l).size = l.length := by simp [strOfNums, ByteArray.size]
theorem encB_size (s : ByteArray) : (encB s).size ≤ 4 * s.size := by
  unfold encB; rw [strOfNums_size]
  have := encS_len _ s.data.toList (Nat.le_refl _)
  rwa [len_toList] at this
theorem sumB_size (s : ByteArray) : (sumB s).size ≤ 64 := by
  have := encB_size (mkS (md5 s.data.toList))
  rw [mkS_size, md5_len] at this
  exact this

theorem enc_any (s : ByteArray) (w : World) (hs : s.size ≤ 1000000) : Calls Try.prog 49 #[.string s] w fun e w' => e = .returned (.string (encB s)) ∧ Below w.heap.size w w' := encode_any s w hs
theorem refEnc_any (s : ByteArray) (w : World) (hs : s.size ≤ 1000000) : Calls Try.prog 45 #[.string s] w fun e w' => e = .returned (.string (encB s)) ∧ Below w.heap.size w w' := refEncode_any s w hs

theorem asum_any (s : ByteArray) (hs : s.size ≤ 1099511627776) (w : World) : Calls Try.prog 56 #[.string s] w fun e w' => e = .returned (.string (sumB s)) ∧ Below w.heap.size w w' := by
  have c1 := Lib.hid (fun w => sum_any s hs w)
  have c2 : Hid (∀ w, Calls Try.prog 49 #[.string (mkS (md5 s.data.toList))] w fun e w' => e = .returned (.string (sumB s)) ∧ Below w.heap.size w w') := fun w => enc_any _ w (by rw [mkS_size, md5_len]; omega)
  generalize mkS (md5 s.data.toList) = m at *
  generalize sumB s = r at *
  go_enter Try.func56, Try.ntmps56
  go_wp2_with fail
  refine (c1.out _).mono ?_
  rintro e w1 ⟨rfl, hb1⟩
  go_wp2_with fail
  refine (c2.out _).mono ?_
  rintro e w2 ⟨rfl, hb2⟩
  go_wp2_with fail
  go_ret
  exact ⟨rfl, hb1.trans (hb2.mono hb1.size)⟩

theorem join2_eq (a b : ByteArray) : (⟨(Lib.join ([a, b].map (·.data.toList)) colon.data.toList).toArray⟩ : ByteArray) = a ++ colon ++ b := by
  apply bytes_ext
  simp [Lib.join, List.intercalate, colon]
theorem join3_eq (a b c : ByteArray) : (⟨(Lib.join ([a, b, c].map (·.data.toList)) colon.data.toList).toArray⟩ : ByteArray) = a ++ colon ++ b ++ colon ++ c := by
  apply bytes_ext
  simp [Lib.join, List.intercalate, colon]

theorem size_app (a b : ByteArray) : (a ++ b).size = a.size + b.size := ByteArray.size_append
theorem colon_size : colon.size = 1 := rfl

theorem join2_any (a b : ByteArray) (w : World) (t : TypeId) (h : a.size + b.size ≤ 1000000) : Calls Try.prog 57 #[.slice (some ⟨w.heap.size, 0, none⟩) 2 2, .string { data := #[58] }] (w.alloc (.cells #[.string a, .string b] t)) fun e w' => e = .returned (.string (a ++ colon ++ b)) ∧ Below w.heap.size w w' := by
  have := Try.strings_Join w.heap.size 0 2 [a, b] colon (w.alloc (.cells #[.string a, .string b] t)) (fun j x hj => by
    rw [World.cell?_alloc_at _ _ _ _ rfl]
    match j, hj with
    | 0, hj => simp at hj; subst hj; rfl
    | 1, hj => simp at hj; subst hj; rfl
    | j + 2, hj => simp at hj) (by simp) (by simp) (by simp) (by
      simp [Lib.join, List.intercalate, colon]; omega)
  rw [join2_eq] at this
  exact this.mono fun e w' h => ⟨h.1, ((Below.refl _ w).alloc (Nat.le_refl _) _).trans (h.2.mono (by simp))⟩
theorem join3_any (a b c : ByteArray) (w : World) (t : TypeId) (h : a.size + b.size + c.size ≤ 1000000) : Calls Try.prog 57 #[.slice (some ⟨w.heap.size, 0, none⟩) 3 3, .string { data := #[58] }] (w.alloc (.cells #[.string a, .string b, .string c] t)) fun e w' => e = .returned (.string (a ++ colon ++ b ++ colon ++ c)) ∧ Below w.heap.size w w' := by
  have := Try.strings_Join w.heap.size 0 3 [a, b, c] colon (w.alloc (.cells #[.string a, .string b, .string c] t)) (fun j x hj => by
    rw [World.cell?_alloc_at _ _ _ _ rfl]
    match j, hj with
    | 0, hj => simp at hj; subst hj; rfl
    | 1, hj => simp at hj; subst hj; rfl
    | 2, hj => simp at hj; subst hj; rfl
    | j + 3, hj => simp at hj) (by simp) (by simp) (by simp) (by
      simp [Lib.join, List.intercalate, colon]; omega)
  rw [join3_eq] at this
  exact this.mono fun e w' h => ⟨h.1, ((Below.refl _ w).alloc (Nat.le_refl _) _).trans (h.2.mono (by simp))⟩

/-- two texts that may be written -/
def Pair (w : World) (b : Nat) (u p : ByteArray) : Prop := Two w b u p ∧ w.frozen? ⟨b, 0, none⟩ = false ∧ w.frozen? ⟨b, 1, none⟩ = false
theorem Pair.below {w w' : World} {b : Nat} {u p : ByteArray} (h : Pair w b u p) (hb : Below w.heap.size w w') : Pair w' b u p :=
  ⟨h.1.below hb, (hb.frozen (p := ⟨b, 0, none⟩) h.1.2.2).trans h.2.1, (hb.frozen (p := ⟨b, 1, none⟩) h.1.2.2).trans h.2.2⟩
theorem Pair.new (w : World) (u p : ByteArray) (t : TypeId) : Pair (w.alloc (.cells #[.string u, .string p] t)) w.heap.size u p := by
  have h := CellsF.new w #[.string u, .string p] t 2 (fun j => if j = 0 then .string u else .string p) _ rfl (fun j hj => by
    rcases (by omega : j = 0 ∨ j = 1) with rfl | rfl <;> rfl)
  exact ⟨Two.new w u p t, (h 0 (by omega)).2, (h 1 (by omega)).2⟩
theorem Pair.set1 {w : World} {b : Nat} {u p : ByteArray} (h : Pair w b u p) (q : ByteArray) : Pair (w.setCell ⟨b, 1, none⟩ (.string q)) b u q :=
  ⟨⟨(World.cell?_setCell_other _ _ _ _ (fun e => by injection e; omega)).trans h.1.1, World.cell?_setCell_same _ _ _ h.1.2.1, by simpa [World.setCell] using h.1.2.2⟩,
    by rw [World.frozen?_setCell]; exact h.2.1, by rw [World.frozen?_setCell]; exact h.2.2⟩
theorem Pair.set2 {w : World} {b : Nat} {u p : ByteArray} (h : Pair w b u p) (q r : ByteArray) : Pair ((w.setCell ⟨b, 0, none⟩ (.string q)).setCell ⟨b, 1, none⟩ (.string r)) b q r := by
  have h1 : Pair (w.setCell ⟨b, 0, none⟩ (.string q)) b q p :=
    ⟨⟨World.cell?_setCell_same _ _ _ h.1.1, (World.cell?_setCell_other _ _ _ _ (fun e => by injection e; omega)).trans h.1.2.1, by simpa [World.setCell] using h.1.2.2⟩,
      by rw [World.frozen?_setCell]; exact h.2.1, by rw [World.frozen?_setCell]; exact h.2.2⟩
  exact h1.set1 r
theorem Pair.other {w : World} {b c i : Nat} {u p : ByteArray} (h : Pair w b u p) (hne : b ≠ c) (v : Value) : Pair (w.setCell ⟨c, i, none⟩ v) b u p :=
  ⟨⟨(World.cell?_setCell_other _ _ _ _ (fun e => by injection e; omega)).trans h.1.1, (World.cell?_setCell_other _ _ _ _ (fun e => by injection e; omega)).trans h.1.2.1, by simpa [World.setCell] using h.1.2.2⟩,
    by rw [World.frozen?_setCell]; exact h.2.1, by rw [World.frozen?_setCell]; exact h.2.2⟩

/-- the ways of credentials -/
theorem cred_steps (k : Int) (u p n : ByteArray) :
    ((k < 1 ∨ 3 < k) ∧ credE k u p n = 5) ∨ (1 ≤ k ∧ k ≤ 3 ∧ chkE u p ≠ 0 ∧ credE k u p n = chkE u p) ∨ (1 ≤ k ∧ k ≤ 3 ∧ chkE u p = 0 ∧ 60 < n.size ∧ credE k u p n = 8) ∨
    (1 ≤ k ∧ k ≤ 3 ∧ chkE u p = 0 ∧ ¬ 60 < n.size ∧ okB 33 n = false ∧ credE k u p n = 8) ∨ (1 ≤ k ∧ k ≤ 3 ∧ chkE u p = 0 ∧ ¬ 60 < n.size ∧ okB 33 n = true ∧ credE k u p n = 0) := by
  unfold credE
  by_cases h1 : k < 1
  · exact .inl ⟨.inl h1, by rw [if_pos h1]⟩
  · by_cases h2 : 3 < k
    · exact .inl ⟨.inr h2, by rw [if_neg h1, if_pos h2]⟩
    · refine .inr ?_
      by_cases h3 : chkE u p = 0
      · refine .inr ?_
        by_cases h4 : 60 < n.size
        · exact .inl ⟨by omega, by omega, h3, h4, by rw [if_neg h1, if_neg h2, if_neg (by simp [h3]), if_pos h4]⟩
        · refine .inr ?_
          cases h5 : okB 33 n
          · exact .inl ⟨by omega, by omega, h3, h4, rfl, by rw [if_neg h1, if_neg h2, if_neg (by simp [h3]), if_neg h4, if_pos rfl]⟩
          · exact .inr ⟨by omega, by omega, h3, h4, rfl, by rw [if_neg h1, if_neg h2, if_neg (by simp [h3]), if_neg h4, if_neg (by simp)]⟩
      · exact .inl ⟨by omega, by omega, h3, by rw [if_neg h1, if_neg h2, if_pos h3]⟩

theorem cred_none {k : Int} {u p n b : ByteArray} (h : credE k u p n ≠ 0) : credT k u p n = { data := #[] } ∧ credD k u p n b = { data := #[] } := by
  unfold credT credD; rw [if_neg h, if_neg h]; exact ⟨rfl, rfl⟩
theorem cred_some {k : Int} {u p n b : ByteArray} (h : credE k u p n = 0) : credT k u p n = typ k ∧ credD k u p n b = dataOf k u p n b := by
  unfold credT credD; rw [if_pos h, if_pos h]; exact ⟨rfl, rfl⟩
theorem typ_size (k : Int) (h : 1 ≤ k) (h3 : k ≤ 3) : (typ k).size ≠ 0 := by
  rcases (by omega : k = 1 ∨ k = 2 ∨ k = 3) with rfl | rfl | rfl <;> decide
theorem typ_none (k : Int) (h : k < 1 ∨ 3 < k) : typ k = { data := #[] } := by
  unfold typ; rw [if_neg (by omega), if_neg (by omega), if_neg (by omega)]
theorem chk_small {u p : ByteArray} (h : chkE u p = 0) : u.size ≤ 32 ∧ p.size ≤ 32 := by
  rcases chk_steps u p with ⟨h1, he⟩ | ⟨h1, h2, he⟩ | ⟨h1, h2, h3, he⟩ | ⟨h1, h2, h3, h4, he⟩ | ⟨h1, h2, h3, h4, h5, he⟩ | ⟨h1, h2, h3, h4, h5, h6, he⟩ | ⟨h1, h2, h3, h4, h5, h6, he⟩ <;> omega
end Go.Proofs.Yteheibgdjpkeaaa
