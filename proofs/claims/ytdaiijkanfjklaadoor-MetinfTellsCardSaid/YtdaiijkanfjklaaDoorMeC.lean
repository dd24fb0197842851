/- metinf: what is wrong with what is said, both. No condition but sizes and the tables. -/
import Derived.Test.YtdaiijkanfjklaaDoorMeI
import Derived.Test.YtdaiijkanfjklaaDoorTrN
namespace Go.Proofs.YtdaiijkanfjklaaDoor
open Go.RowKit

def metaN : ByteArray := { data := #[77, 101, 116, 97] }
def longB (s : ByteArray) : Bool := decide ((200 : Int) < (s.size : Int))
def badL (s : ByteArray) : Bool := chkA (.mk 1 metaN s false []) != 0
def badC (n : Int) : Bool := decide (n < 0) || decide (268435456 < n)
/-- what is wrong with a Meta -/
def chkM (fo ty : ByteArray) (sz ve : Int) (la ne no : ByteArray) (mm mo : Int) : Int :=
  if [fo, ty, no, la, ne].any longB = true then 8 else if [fo, ty, no, la, ne].any badL = true then 3 else if [sz, ve, mm, mo].any badC = true then 2 else if la.size ≠ 0 ∧ ne.size = 0 then 7 else 0

theorem check1_any (s : ByteArray) (w : World) : Calls Tryd.prog 32 #[.string s] w fun r w' => r = .returned (.bool (longB s)) ∧ Below w.heap.size w w' := by
  unfold longB
  go_enter Tryd.func32, Tryd.ntmps32
  go_wp2
  go_ret
  exact ⟨rfl, Below.refl _ _⟩
theorem check2_any (s : ByteArray) (hs : s.size ≤ 1000000) (w : World) (hT : Lib.Utf8Tabs 0 1 w) : Calls Tryd.prog 33 #[.string s] w fun r w' => r = .returned (.bool (badL s)) ∧ Below w.heap.size w w' := by
  have hs2 : s.size ≤ reachT := by simp only [reachT]; omega
  have hL : ∀ X, AtT X X.heap.size (.mk 1 metaN s false []) (.agg #[.int .i64 1, .string metaN, .string s, .bool false, .slice none 0 0]) := fun X => by
    unfold AtT; exact ⟨by decide, hs2, by decide, none, 0, rfl, by unfold AtL; trivial⟩
  have c7 := Lib.hid (fun X (hX : Below w.heap.size w X) => checkA_any _ _ X (hL X) (Utf8Tabs_below hT hX))
  unfold badL
  clear hL hT hs hs2
  generalize chkA (.mk 1 metaN s false []) = q at *
  have c11 := Lib.hid (fun X => leaf_any 1 metaN s X)
  unfold metaN at *
  go_enter Tryd.func33, Tryd.ntmps33
  go_wp2_with (first | (go_at_call 11; refine (c11.out _).mono ?_; rintro r w1 ⟨rfl, hb1⟩) | (go_at_call 7; refine (c7.out _ hb1).mono ?_; rintro r w2 ⟨rfl, hb2⟩))
  go_ret
  exact ⟨rfl, hb1.trans (hb2.mono hb1.size)⟩
theorem check3_any (n : Int) (w : World) : Calls Tryd.prog 35 #[.int .i64 n] w fun r w' => r = .returned (.bool (badC n)) ∧ Below w.heap.size w w' := by
  unfold badC
  by_cases h : n < 0
  · have hd : decide (n < 0) = true := by simpa using h
    go_enter Tryd.func35, Tryd.ntmps35
    go_wp2
    go_ret
    exact ⟨by simp; exact .inl h, Below.refl _ _⟩
  · have hd : decide (n < 0) = false := by simpa using h
    go_enter Tryd.func35, Tryd.ntmps35
    go_wp2
    go_ret
    exact ⟨by simp, Below.refl _ _⟩

/-- a row of texts that was laid -/
theorem row_texts (w : World) (l : List ByteArray) (t : TypeId) : ∀ i (h : i < l.length), (w.alloc (.cells (l.map Value.string).toArray t)).cell? ⟨w.heap.size, i, none⟩ = some (.string l[i]) := fun i h => by
  rw [World.cell?_alloc_at _ _ _ _ rfl]; simp [h]
theorem row_ints (w : World) (l : List Int) (t : TypeId) : ∀ i (h : i < l.length), (w.alloc (.cells (l.map (Value.int .i64)).toArray t)).cell? ⟨w.heap.size, i, none⟩ = some (.int .i64 l[i]) := fun i h => by
  rw [World.cell?_alloc_at _ _ _ _ rfl]; simp [h]

theorem texts_any (fo ty : ByteArray) (sz ve : Int) (la ne no : ByteArray) (mm mo : Int) (w : World) : Calls Tryd.prog 31 #[.agg #[.string fo, .string ty, .int .i64 sz, .int .i64 ve, .string la, .string ne, .string no, .int .i64 mm, .int .i64 mo]] w fun r w' => r = .returned (.slice (some ⟨w.heap.size + 1, 0, none⟩) 5 5) ∧
    (∀ i (h : i < [fo, ty, no, la, ne].length), w'.cell? ⟨w.heap.size + 1, i, none⟩ = some (.string [fo, ty, no, la, ne][i])) ∧ Below w.heap.size w w' := by
  have HR := Lib.hid (row_texts (w.alloc (.cells #[.string fo, .string ty, .int .i64 sz, .int .i64 ve, .string la, .string ne, .string no, .int .i64 mm, .int .i64 mo] 37)) [fo, ty, no, la, ne] 9)
  have HB : Hid (Below w.heap.size w ((w.alloc (.cells #[.string fo, .string ty, .int .i64 sz, .int .i64 ve, .string la, .string ne, .string no, .int .i64 mm, .int .i64 mo] 37)).alloc (.cells #[.string fo, .string ty, .string no, .string la, .string ne] 9))) := ((Below.refl _ w).alloc (Nat.le_refl _) _).alloc (by simp) _
  go_enter Tryd.func31, Tryd.ntmps31
  go_wp2
  go_ret
  exact ⟨rfl, fun i h => by have := HR.out i h; rwa [World.size_alloc] at this, HB.out⟩

set_option maxRecDepth 100000 in
set_option maxHeartbeats 4000000 in
theorem metCheck_any (fo ty : ByteArray) (sz ve : Int) (la ne no : ByteArray) (mm mo : Int) (h1 : fo.size ≤ 1000000) (h2 : ty.size ≤ 1000000) (h3 : no.size ≤ 1000000) (h4 : la.size ≤ 1000000) (h5 : ne.size ≤ 1000000) (w : World) (hT : Lib.Utf8Tabs 0 1 w) :
    Calls Tryd.prog 17 #[.agg #[.string fo, .string ty, .int .i64 sz, .int .i64 ve, .string la, .string ne, .string no, .int .i64 mm, .int .i64 mo]] w fun r w' => r = .returned (.int .i64 (chkM fo ty sz ve la ne no mm mo)) ∧ Below w.heap.size w w' := by
  have hs : ∀ i (h : i < [fo, ty, no, la, ne].length), [fo, ty, no, la, ne][i].size ≤ 1000000 := fun i h => by
    match i, h with
    | 0, _ => exact h1
    | 1, _ => exact h2
    | 2, _ => exact h3
    | 3, _ => exact h4
    | 4, _ => exact h5
  have c31 := Lib.hid (fun X => texts_any fo ty sz ve la ne no mm mo X)
  have cA := Lib.hid (fun (b : Nat) X (hS : ∀ i (h : i < [fo, ty, no, la, ne].length), X.cell? ⟨b, i, none⟩ = some (.string [fo, ty, no, la, ne][i])) => con32_any longB [fo, ty, no, la, ne] b 5 (by simp) X hS (fun i h Y _ => check1_any _ Y))
  have cB := Lib.hid (fun (b : Nat) X (hX : Below w.heap.size w X) (hS : ∀ i (h : i < [fo, ty, no, la, ne].length), X.cell? ⟨b, i, none⟩ = some (.string [fo, ty, no, la, ne][i])) => con33_any badL [fo, ty, no, la, ne] b 5 (by simp) X hS (fun i h Y hY => check2_any _ (hs i h) Y (Utf8Tabs_below hT (hX.trans (hY.mono hX.size)))))
  have cC := Lib.hid (fun (b : Nat) X (hS : ∀ i (h : i < [sz, ve, mm, mo].length), X.cell? ⟨b, i, none⟩ = some (.int .i64 [sz, ve, mm, mo][i])) => con35_any badC [sz, ve, mm, mo] b 4 (by simp) X hS (fun i h Y _ => check3_any _ Y))
  have HR : Hid (∀ X : World, ∀ i (h : i < [sz, ve, mm, mo].length), (X.alloc (.cells #[.int .i64 sz, .int .i64 ve, .int .i64 mm, .int .i64 mo] 3)).cell? ⟨X.heap.size, i, none⟩ = some (.int .i64 [sz, ve, mm, mo][i])) := fun X => row_ints X [sz, ve, mm, mo] 3
  have hal : Below w.heap.size w (w.alloc (.cells #[.string fo, .string ty, .int .i64 sz, .int .i64 ve, .string la, .string ne, .string no, .int .i64 mm, .int .i64 mo] 37)) := (Below.refl _ w).alloc (Nat.le_refl _) _
  have HAl := Lib.hid hal
  have HBx : Hid (∀ X : World, Below (w.heap.size + 1) (w.alloc (.cells #[.string fo, .string ty, .int .i64 sz, .int .i64 ve, .string la, .string ne, .string no, .int .i64 mm, .int .i64 mo] 37)) X → ∀ j v, (#[.string fo, .string ty, .int .i64 sz, .int .i64 ve, .string la, .string ne, .string no, .int .i64 mm, .int .i64 mo] : Array Value)[j]? = some v → X.cell? ⟨w.heap.size, j, none⟩ = some v) := fun X hX j v hv => by
    rw [hX.cell (p := ⟨w.heap.size, j, none⟩) (Nat.lt_succ_self _), World.cell?_alloc_at _ _ _ _ rfl]; exact hv
  have HE : Hid (chkM fo ty sz ve la ne no mm mo = if [fo, ty, no, la, ne].any longB = true then 8 else if [fo, ty, no, la, ne].any badL = true then 3 else if [sz, ve, mm, mo].any badC = true then 2 else if la.size ≠ 0 ∧ ne.size = 0 then 7 else 0) := rfl
  clear hs h1 h2 h3 h4 h5 hT hal
  generalize chkM fo ty sz ve la ne no mm mo = R at *
  generalize [fo, ty, no, la, ne].any longB = t1 at *
  generalize [fo, ty, no, la, ne].any badL = t2 at *
  generalize [sz, ve, mm, mo].any badC = t3 at *
  have HSz : Hid ((w.alloc (.cells #[.string fo, .string ty, .int .i64 sz, .int .i64 ve, .string la, .string ne, .string no, .int .i64 mm, .int .i64 mo] 37)).heap.size = w.heap.size + 1) := World.size_alloc _ _
  obtain ⟨W, hW⟩ : ∃ W, w.alloc (.cells #[.string fo, .string ty, .int .i64 sz, .int .i64 ve, .string la, .string ne, .string no, .int .i64 mm, .int .i64 mo] 37) = W := ⟨_, rfl⟩
  rw [hW] at HAl HBx HSz
  have HW := Lib.hid hW
  clear hW
  have y0 := HBx.out _ (Below.refl _ _) 0 _ rfl; have y1 := HBx.out _ (Below.refl _ _) 1 _ rfl; have y2 := HBx.out _ (Below.refl _ _) 2 _ rfl; have y3 := HBx.out _ (Below.refl _ _) 3 _ rfl; have y4 := HBx.out _ (Below.refl _ _) 4 _ rfl; have y5 := HBx.out _ (Below.refl _ _) 5 _ rfl; have y6 := HBx.out _ (Below.refl _ _) 6 _ rfl; have y7 := HBx.out _ (Below.refl _ _) 7 _ rfl; have y8 := HBx.out _ (Below.refl _ _) 8 _ rfl
  cases t1 with
  | true =>
    go_enter Tryd.func17, Tryd.ntmps17
    go_wp2_with fail
    rw [HW.out]
    go_wp2_with (first | (go_at_call 31; (with_reducible refine (c31.out _).mono ?_); rintro r w1 ⟨rfl, hS1, hb1⟩; have HS1 := Lib.hid hS1; have B1 := Lib.hid (hb1.mono (Nat.le_of_eq HSz.out.symm)); clear hS1 hb1) | (go_at_call 30; refine (cA.out _ _ HS1.out).mono ?_; rintro r w2 ⟨rfl, hb2⟩; have B2 := Lib.hid (B1.out.trans (hb2.mono (by have := B1.out.size; rw [HSz.out] at this; exact this))); clear hb2; have y0 := HBx.out _ B2.out 0 _ rfl; have y1 := HBx.out _ B2.out 1 _ rfl; have y2 := HBx.out _ B2.out 2 _ rfl; have y3 := HBx.out _ B2.out 3 _ rfl; have y4 := HBx.out _ B2.out 4 _ rfl; have y5 := HBx.out _ B2.out 5 _ rfl; have y6 := HBx.out _ B2.out 6 _ rfl; have y7 := HBx.out _ B2.out 7 _ rfl; have y8 := HBx.out _ B2.out 8 _ rfl))
    go_ret
    exact ⟨by rw [HE.out]; rfl, HAl.out.trans (B2.out.mono (Nat.le_succ _))⟩
  | false =>
    cases t2 with
    | true =>
      go_enter Tryd.func17, Tryd.ntmps17
      go_wp2_with fail
      rw [HW.out]
      go_wp2_with (first | (go_at_call 31; (with_reducible refine (c31.out _).mono ?_); rintro r w1 ⟨rfl, hS1, hb1⟩; have HS1 := Lib.hid hS1; have B1 := Lib.hid (hb1.mono (Nat.le_of_eq HSz.out.symm)); clear hS1 hb1) | (go_at_call 30; refine (cA.out _ _ HS1.out).mono ?_; rintro r w2 ⟨rfl, hb2⟩; have B2 := Lib.hid (B1.out.trans (hb2.mono (by have := B1.out.size; rw [HSz.out] at this; exact this))); clear hb2; have y0 := HBx.out _ B2.out 0 _ rfl; have y1 := HBx.out _ B2.out 1 _ rfl; have y2 := HBx.out _ B2.out 2 _ rfl; have y3 := HBx.out _ B2.out 3 _ rfl; have y4 := HBx.out _ B2.out 4 _ rfl; have y5 := HBx.out _ B2.out 5 _ rfl; have y6 := HBx.out _ B2.out 6 _ rfl; have y7 := HBx.out _ B2.out 7 _ rfl; have y8 := HBx.out _ B2.out 8 _ rfl) | (go_at_call 31; (with_reducible refine (c31.out _).mono ?_); rintro r w3 ⟨rfl, hS3, hb3⟩; have HS3 := Lib.hid hS3; have B3 := Lib.hid (B2.out.trans (hb3.mono (by have := B2.out.size; rw [HSz.out] at this; exact this))); clear hS3 hb3) | (go_at_call 30; refine (cB.out _ _ (HAl.out.trans (B3.out.mono (by omega))) HS3.out).mono ?_; rintro r w4 ⟨rfl, hb4⟩; have B4 := Lib.hid (B3.out.trans (hb4.mono (by have := B3.out.size; rw [HSz.out] at this; exact this))); clear hb4; have z0 := HBx.out _ B4.out 0 _ rfl; have z1 := HBx.out _ B4.out 1 _ rfl; have z2 := HBx.out _ B4.out 2 _ rfl; have z3 := HBx.out _ B4.out 3 _ rfl; have z4 := HBx.out _ B4.out 4 _ rfl; have z5 := HBx.out _ B4.out 5 _ rfl; have z6 := HBx.out _ B4.out 6 _ rfl; have z7 := HBx.out _ B4.out 7 _ rfl; have z8 := HBx.out _ B4.out 8 _ rfl))
      go_ret
      exact ⟨by rw [HE.out]; rfl, HAl.out.trans (B4.out.mono (Nat.le_succ _))⟩
    | false =>
      cases t3 with
      | true =>
        go_enter Tryd.func17, Tryd.ntmps17
        go_wp2_with fail
        rw [HW.out]
        go_wp2_with (first | (go_at_call 31; (with_reducible refine (c31.out _).mono ?_); rintro r w1 ⟨rfl, hS1, hb1⟩; have HS1 := Lib.hid hS1; have B1 := Lib.hid (hb1.mono (Nat.le_of_eq HSz.out.symm)); clear hS1 hb1) | (go_at_call 30; refine (cA.out _ _ HS1.out).mono ?_; rintro r w2 ⟨rfl, hb2⟩; have B2 := Lib.hid (B1.out.trans (hb2.mono (by have := B1.out.size; rw [HSz.out] at this; exact this))); clear hb2; have y0 := HBx.out _ B2.out 0 _ rfl; have y1 := HBx.out _ B2.out 1 _ rfl; have y2 := HBx.out _ B2.out 2 _ rfl; have y3 := HBx.out _ B2.out 3 _ rfl; have y4 := HBx.out _ B2.out 4 _ rfl; have y5 := HBx.out _ B2.out 5 _ rfl; have y6 := HBx.out _ B2.out 6 _ rfl; have y7 := HBx.out _ B2.out 7 _ rfl; have y8 := HBx.out _ B2.out 8 _ rfl) | (go_at_call 31; (with_reducible refine (c31.out _).mono ?_); rintro r w3 ⟨rfl, hS3, hb3⟩; have HS3 := Lib.hid hS3; have B3 := Lib.hid (B2.out.trans (hb3.mono (by have := B2.out.size; rw [HSz.out] at this; exact this))); clear hS3 hb3) | (go_at_call 30; refine (cB.out _ _ (HAl.out.trans (B3.out.mono (by omega))) HS3.out).mono ?_; rintro r w4 ⟨rfl, hb4⟩; have B4 := Lib.hid (B3.out.trans (hb4.mono (by have := B3.out.size; rw [HSz.out] at this; exact this))); clear hb4; have z0 := HBx.out _ B4.out 0 _ rfl; have z1 := HBx.out _ B4.out 1 _ rfl; have z2 := HBx.out _ B4.out 2 _ rfl; have z3 := HBx.out _ B4.out 3 _ rfl; have z4 := HBx.out _ B4.out 4 _ rfl; have z5 := HBx.out _ B4.out 5 _ rfl; have z6 := HBx.out _ B4.out 6 _ rfl; have z7 := HBx.out _ B4.out 7 _ rfl; have z8 := HBx.out _ B4.out 8 _ rfl) | (go_at_call 34; refine (cC.out _ _ (HR.out _)).mono ?_; rintro r w5 ⟨rfl, hb5⟩; have B5 := Lib.hid (((B4.out.alloc (by have := B4.out.size; rw [HSz.out] at this; exact this) _)).trans (hb5.mono (by have := B4.out.size; rw [HSz.out] at this; simp; omega))); clear hb5; have u0 := HBx.out _ B5.out 0 _ rfl; have u1 := HBx.out _ B5.out 1 _ rfl; have u2 := HBx.out _ B5.out 2 _ rfl; have u3 := HBx.out _ B5.out 3 _ rfl; have u4 := HBx.out _ B5.out 4 _ rfl; have u5 := HBx.out _ B5.out 5 _ rfl; have u6 := HBx.out _ B5.out 6 _ rfl; have u7 := HBx.out _ B5.out 7 _ rfl; have u8 := HBx.out _ B5.out 8 _ rfl))
        go_ret
        exact ⟨by rw [HE.out]; rfl, HAl.out.trans (B5.out.mono (Nat.le_succ _))⟩
      | false =>
        by_cases hl : la.size = 0
        · have i1 := emptyB la hl
          have HL := Lib.hid hl
          clear hl
          go_enter Tryd.func17, Tryd.ntmps17
          go_wp2_with fail
          rw [HW.out]
          go_wp2_with (first | (go_at_call 31; (with_reducible refine (c31.out _).mono ?_); rintro r w1 ⟨rfl, hS1, hb1⟩; have HS1 := Lib.hid hS1; have B1 := Lib.hid (hb1.mono (Nat.le_of_eq HSz.out.symm)); clear hS1 hb1) | (go_at_call 30; refine (cA.out _ _ HS1.out).mono ?_; rintro r w2 ⟨rfl, hb2⟩; have B2 := Lib.hid (B1.out.trans (hb2.mono (by have := B1.out.size; rw [HSz.out] at this; exact this))); clear hb2; have y0 := HBx.out _ B2.out 0 _ rfl; have y1 := HBx.out _ B2.out 1 _ rfl; have y2 := HBx.out _ B2.out 2 _ rfl; have y3 := HBx.out _ B2.out 3 _ rfl; have y4 := HBx.out _ B2.out 4 _ rfl; have y5 := HBx.out _ B2.out 5 _ rfl; have y6 := HBx.out _ B2.out 6 _ rfl; have y7 := HBx.out _ B2.out 7 _ rfl; have y8 := HBx.out _ B2.out 8 _ rfl) | (go_at_call 31; (with_reducible refine (c31.out _).mono ?_); rintro r w3 ⟨rfl, hS3, hb3⟩; have HS3 := Lib.hid hS3; have B3 := Lib.hid (B2.out.trans (hb3.mono (by have := B2.out.size; rw [HSz.out] at this; exact this))); clear hS3 hb3) | (go_at_call 30; refine (cB.out _ _ (HAl.out.trans (B3.out.mono (by omega))) HS3.out).mono ?_; rintro r w4 ⟨rfl, hb4⟩; have B4 := Lib.hid (B3.out.trans (hb4.mono (by have := B3.out.size; rw [HSz.out] at this; exact this))); clear hb4; have z0 := HBx.out _ B4.out 0 _ rfl; have z1 := HBx.out _ B4.out 1 _ rfl; have z2 := HBx.out _ B4.out 2 _ rfl; have z3 := HBx.out _ B4.out 3 _ rfl; have z4 := HBx.out _ B4.out 4 _ rfl; have z5 := HBx.out _ B4.out 5 _ rfl; have z6 := HBx.out _ B4.out 6 _ rfl; have z7 := HBx.out _ B4.out 7 _ rfl; have z8 := HBx.out _ B4.out 8 _ rfl) | (go_at_call 34; refine (cC.out _ _ (HR.out _)).mono ?_; rintro r w5 ⟨rfl, hb5⟩; have B5 := Lib.hid (((B4.out.alloc (by have := B4.out.size; rw [HSz.out] at this; exact this) _)).trans (hb5.mono (by have := B4.out.size; rw [HSz.out] at this; simp; omega))); clear hb5; have u0 := HBx.out _ B5.out 0 _ rfl; have u1 := HBx.out _ B5.out 1 _ rfl; have u2 := HBx.out _ B5.out 2 _ rfl; have u3 := HBx.out _ B5.out 3 _ rfl; have u4 := HBx.out _ B5.out 4 _ rfl; have u5 := HBx.out _ B5.out 5 _ rfl; have u6 := HBx.out _ B5.out 6 _ rfl; have u7 := HBx.out _ B5.out 7 _ rfl; have u8 := HBx.out _ B5.out 8 _ rfl))
          go_ret
          exact ⟨by rw [HE.out]; simp [HL.out], HAl.out.trans (B5.out.mono (Nat.le_succ _))⟩
        · have i1 := not_empty la hl
          have HL := Lib.hid hl
          clear hl
          by_cases hn : ne.size = 0
          · have i2 := emptyB ne hn
            have HN := Lib.hid hn
            clear hn
            go_enter Tryd.func17, Tryd.ntmps17
            go_wp2_with fail
            rw [HW.out]
            go_wp2_with (first | (go_at_call 31; (with_reducible refine (c31.out _).mono ?_); rintro r w1 ⟨rfl, hS1, hb1⟩; have HS1 := Lib.hid hS1; have B1 := Lib.hid (hb1.mono (Nat.le_of_eq HSz.out.symm)); clear hS1 hb1) | (go_at_call 30; refine (cA.out _ _ HS1.out).mono ?_; rintro r w2 ⟨rfl, hb2⟩; have B2 := Lib.hid (B1.out.trans (hb2.mono (by have := B1.out.size; rw [HSz.out] at this; exact this))); clear hb2; have y0 := HBx.out _ B2.out 0 _ rfl; have y1 := HBx.out _ B2.out 1 _ rfl; have y2 := HBx.out _ B2.out 2 _ rfl; have y3 := HBx.out _ B2.out 3 _ rfl; have y4 := HBx.out _ B2.out 4 _ rfl; have y5 := HBx.out _ B2.out 5 _ rfl; have y6 := HBx.out _ B2.out 6 _ rfl; have y7 := HBx.out _ B2.out 7 _ rfl; have y8 := HBx.out _ B2.out 8 _ rfl) | (go_at_call 31; (with_reducible refine (c31.out _).mono ?_); rintro r w3 ⟨rfl, hS3, hb3⟩; have HS3 := Lib.hid hS3; have B3 := Lib.hid (B2.out.trans (hb3.mono (by have := B2.out.size; rw [HSz.out] at this; exact this))); clear hS3 hb3) | (go_at_call 30; refine (cB.out _ _ (HAl.out.trans (B3.out.mono (by omega))) HS3.out).mono ?_; rintro r w4 ⟨rfl, hb4⟩; have B4 := Lib.hid (B3.out.trans (hb4.mono (by have := B3.out.size; rw [HSz.out] at this; exact this))); clear hb4; have z0 := HBx.out _ B4.out 0 _ rfl; have z1 := HBx.out _ B4.out 1 _ rfl; have z2 := HBx.out _ B4.out 2 _ rfl; have z3 := HBx.out _ B4.out 3 _ rfl; have z4 := HBx.out _ B4.out 4 _ rfl; have z5 := HBx.out _ B4.out 5 _ rfl; have z6 := HBx.out _ B4.out 6 _ rfl; have z7 := HBx.out _ B4.out 7 _ rfl; have z8 := HBx.out _ B4.out 8 _ rfl) | (go_at_call 34; refine (cC.out _ _ (HR.out _)).mono ?_; rintro r w5 ⟨rfl, hb5⟩; have B5 := Lib.hid (((B4.out.alloc (by have := B4.out.size; rw [HSz.out] at this; exact this) _)).trans (hb5.mono (by have := B4.out.size; rw [HSz.out] at this; simp; omega))); clear hb5; have u0 := HBx.out _ B5.out 0 _ rfl; have u1 := HBx.out _ B5.out 1 _ rfl; have u2 := HBx.out _ B5.out 2 _ rfl; have u3 := HBx.out _ B5.out 3 _ rfl; have u4 := HBx.out _ B5.out 4 _ rfl; have u5 := HBx.out _ B5.out 5 _ rfl; have u6 := HBx.out _ B5.out 6 _ rfl; have u7 := HBx.out _ B5.out 7 _ rfl; have u8 := HBx.out _ B5.out 8 _ rfl))
            go_ret
            exact ⟨by rw [HE.out]; simp [HL.out, HN.out], HAl.out.trans (B5.out.mono (Nat.le_succ _))⟩
          · have i2 := not_empty ne hn
            have HN := Lib.hid hn
            clear hn
            go_enter Tryd.func17, Tryd.ntmps17
            go_wp2_with fail
            rw [HW.out]
            go_wp2_with (first | (go_at_call 31; (with_reducible refine (c31.out _).mono ?_); rintro r w1 ⟨rfl, hS1, hb1⟩; have HS1 := Lib.hid hS1; have B1 := Lib.hid (hb1.mono (Nat.le_of_eq HSz.out.symm)); clear hS1 hb1) | (go_at_call 30; refine (cA.out _ _ HS1.out).mono ?_; rintro r w2 ⟨rfl, hb2⟩; have B2 := Lib.hid (B1.out.trans (hb2.mono (by have := B1.out.size; rw [HSz.out] at this; exact this))); clear hb2; have y0 := HBx.out _ B2.out 0 _ rfl; have y1 := HBx.out _ B2.out 1 _ rfl; have y2 := HBx.out _ B2.out 2 _ rfl; have y3 := HBx.out _ B2.out 3 _ rfl; have y4 := HBx.out _ B2.out 4 _ rfl; have y5 := HBx.out _ B2.out 5 _ rfl; have y6 := HBx.out _ B2.out 6 _ rfl; have y7 := HBx.out _ B2.out 7 _ rfl; have y8 := HBx.out _ B2.out 8 _ rfl) | (go_at_call 31; (with_reducible refine (c31.out _).mono ?_); rintro r w3 ⟨rfl, hS3, hb3⟩; have HS3 := Lib.hid hS3; have B3 := Lib.hid (B2.out.trans (hb3.mono (by have := B2.out.size; rw [HSz.out] at this; exact this))); clear hS3 hb3) | (go_at_call 30; refine (cB.out _ _ (HAl.out.trans (B3.out.mono (by omega))) HS3.out).mono ?_; rintro r w4 ⟨rfl, hb4⟩; have B4 := Lib.hid (B3.out.trans (hb4.mono (by have := B3.out.size; rw [HSz.out] at this; exact this))); clear hb4; have z0 := HBx.out _ B4.out 0 _ rfl; have z1 := HBx.out _ B4.out 1 _ rfl; have z2 := HBx.out _ B4.out 2 _ rfl; have z3 := HBx.out _ B4.out 3 _ rfl; have z4 := HBx.out _ B4.out 4 _ rfl; have z5 := HBx.out _ B4.out 5 _ rfl; have z6 := HBx.out _ B4.out 6 _ rfl; have z7 := HBx.out _ B4.out 7 _ rfl; have z8 := HBx.out _ B4.out 8 _ rfl) | (go_at_call 34; refine (cC.out _ _ (HR.out _)).mono ?_; rintro r w5 ⟨rfl, hb5⟩; have B5 := Lib.hid (((B4.out.alloc (by have := B4.out.size; rw [HSz.out] at this; exact this) _)).trans (hb5.mono (by have := B4.out.size; rw [HSz.out] at this; simp; omega))); clear hb5; have u0 := HBx.out _ B5.out 0 _ rfl; have u1 := HBx.out _ B5.out 1 _ rfl; have u2 := HBx.out _ B5.out 2 _ rfl; have u3 := HBx.out _ B5.out 3 _ rfl; have u4 := HBx.out _ B5.out 4 _ rfl; have u5 := HBx.out _ B5.out 5 _ rfl; have u6 := HBx.out _ B5.out 6 _ rfl; have u7 := HBx.out _ B5.out 7 _ rfl; have u8 := HBx.out _ B5.out 8 _ rfl))
            go_ret
            exact ⟨by rw [HE.out]; simp [HL.out, HN.out], HAl.out.trans (B5.out.mono (Nat.le_succ _))⟩
end Go.Proofs.YtdaiijkanfjklaaDoor
