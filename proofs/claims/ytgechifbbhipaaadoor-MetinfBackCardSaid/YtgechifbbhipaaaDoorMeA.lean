/- metinf: anchor. No condition but sizes. -/
import Derived.Test.YtgechifbbhipaaaDoorMeE
set_option linter.unusedVariables false
set_option linter.unusedSimpArgs false
namespace Go.Proofs.YtgechifbbhipaaaDoor
open Go.RowKit

theorem set5_row {w : World} {g : Nat} {z0 z1 z2 z3 z4 c0 c1 c2 c3 c4 : Value} {t : TypeId} (h : w.heap[g]? = some (.cells #[z0, z1, z2, z3, z4] t (0, 0))) :
    (((((w.setCell ⟨g, 0, none⟩ c0).setCell ⟨g, 1, none⟩ c1).setCell ⟨g, 2, none⟩ c2).setCell ⟨g, 3, none⟩ c3).setCell ⟨g, 4, none⟩ c4).heap[g]? = some (.cells #[c0, c1, c2, c3, c4] t (0, 0)) := by
  have h0 := heap_setCell_same w g 0 _ t c0 h
  have h1 := heap_setCell_same _ g 1 _ t c1 h0
  have h2 := heap_setCell_same _ g 2 _ t c2 h1
  have h3 := heap_setCell_same _ g 3 _ t c3 h2
  have h4 := heap_setCell_same _ g 4 _ t c4 h3
  simpa using h4
theorem cells_of {w : World} {g : Nat} {cs : Array Value} {t : TypeId} (h : w.heap[g]? = some (.cells cs t (0, 0))) : (∀ j v, cs[j]? = some v → w.cell? ⟨g, j, none⟩ = some v) ∧ ∀ j, w.frozen? ⟨g, j, none⟩ = false :=
  ⟨fun j v hv => by simp [World.cell?, h, hv], fun j => by simp [World.frozen?, h]⟩
theorem set5_below {w : World} {B g : Nat} {c0 c1 c2 c3 c4 : Value} (h : B ≤ g) : Below B w (((((w.setCell ⟨g, 0, none⟩ c0).setCell ⟨g, 1, none⟩ c1).setCell ⟨g, 2, none⟩ c2).setCell ⟨g, 3, none⟩ c3).setCell ⟨g, 4, none⟩ c4) :=
  (((((Below.refl B w).setCell (p := ⟨g, 0, none⟩) h _).setCell (p := ⟨g, 1, none⟩) h _).setCell (p := ⟨g, 2, none⟩) h _).setCell (p := ⟨g, 3, none⟩) h _).setCell (p := ⟨g, 4, none⟩) h _
theorem set5_other {w : World} {g b : Nat} {c0 c1 c2 c3 c4 : Value} (h : b ≠ g) : (((((w.setCell ⟨g, 0, none⟩ c0).setCell ⟨g, 1, none⟩ c1).setCell ⟨g, 2, none⟩ c2).setCell ⟨g, 3, none⟩ c3).setCell ⟨g, 4, none⟩ c4).heap[b]? = w.heap[b]? := by
  rw [Below.heap_setCell _ _ _ _ h, Below.heap_setCell _ _ _ _ h, Below.heap_setCell _ _ _ _ h, Below.heap_setCell _ _ _ _ h, Below.heap_setCell _ _ _ _ h]
/-- what a struct of five cells that lay in g reads as, once stored -/
theorem stored_at {w w2 : World} {g : Nat} {P : Nat → Prop} {e : Tr} {c0 c1 c2 c3 c4 : Value} (hb : Below w.heap.size w w2) (hg : w.heap.size ≤ g) (ha : AtQ w2 P e (.agg #[c0, c1, c2, c3, c4])) (hP : ∀ b, P b → w.heap.size ≤ b ∧ b < w2.heap.size ∧ b ≠ g) :
    AtQ (((((w2.setCell ⟨g, 0, none⟩ c0).setCell ⟨g, 1, none⟩ c1).setCell ⟨g, 2, none⟩ c2).setCell ⟨g, 3, none⟩ c3).setCell ⟨g, 4, none⟩ c4) (fun b => w.heap.size ≤ b ∧ b < (((((w2.setCell ⟨g, 0, none⟩ c0).setCell ⟨g, 1, none⟩ c1).setCell ⟨g, 2, none⟩ c2).setCell ⟨g, 3, none⟩ c3).setCell ⟨g, 4, none⟩ c4).heap.size) e (.agg #[c0, c1, c2, c3, c4]) ∧
    Below w.heap.size w (((((w2.setCell ⟨g, 0, none⟩ c0).setCell ⟨g, 1, none⟩ c1).setCell ⟨g, 2, none⟩ c2).setCell ⟨g, 3, none⟩ c3).setCell ⟨g, 4, none⟩ c4) :=
  ⟨AtQ.keep (fun b h => ⟨⟨(hP b h).1, Nat.lt_of_lt_of_le (hP b h).2.1 (set5_below (Nat.le_refl g)).size⟩, set5_other (hP b h).2.2⟩) _ _ ha, hb.trans (set5_below hg)⟩

theorem anchor_node (w2 : World) (la ne : ByteArray) (h1 : la.size ≤ reachT) (h2 : ne.size ≤ reachT) :
    Calls Tryd.prog 64 #[.int .i64 1, .string { data := #[65, 110, 99, 104, 111, 114] }, .slice (some ⟨w2.heap.size, 0, none⟩) 2 2] (w2.alloc (.cells #[.int .i64 1, .string { data := #[76, 97, 115, 116] }, .string la, .bool false, .slice none 0 0, .int .i64 1, .string { data := #[78, 101, 120, 116] }, .string ne, .bool false, .slice none 0 0] 46)) fun r w4 =>
      (∃ a6 c6, r = .returned (.agg #[.int .i64 1, .string { data := #[65, 110, 99, 104, 111, 114] }, .string ByteArray.empty, .bool false, .slice a6 2 c6]) ∧ AtQ w4 (fun b => b = w2.heap.size ∨ ((w2.alloc (.cells #[.int .i64 1, .string { data := #[76, 97, 115, 116] }, .string la, .bool false, .slice none 0 0, .int .i64 1, .string { data := #[78, 101, 120, 116] }, .string ne, .bool false, .slice none 0 0] 46)).heap.size ≤ b ∧ b < w4.heap.size)) (.mk 1 nAnchor ByteArray.empty false [.mk 1 nLast la false [], .mk 1 nNext ne false []]) (.agg #[.int .i64 1, .string { data := #[65, 110, 99, 104, 111, 114] }, .string ByteArray.empty, .bool false, .slice a6 2 c6])) ∧
      Below (w2.alloc (.cells #[.int .i64 1, .string { data := #[76, 97, 115, 116] }, .string la, .bool false, .slice none 0 0, .int .i64 1, .string { data := #[78, 101, 120, 116] }, .string ne, .bool false, .slice none 0 0] 46)).heap.size (w2.alloc (.cells #[.int .i64 1, .string { data := #[76, 97, 115, 116] }, .string la, .bool false, .slice none 0 0, .int .i64 1, .string { data := #[78, 101, 120, 116] }, .string ne, .bool false, .slice none 0 0] 46)) w4 := by
  have hk : AtLQ (w2.alloc (.cells #[.int .i64 1, .string { data := #[76, 97, 115, 116] }, .string la, .bool false, .slice none 0 0, .int .i64 1, .string { data := #[78, 101, 120, 116] }, .string ne, .bool false, .slice none 0 0] 46)) (fun b => b = w2.heap.size) (some ⟨w2.heap.size, 0, none⟩) 0 [.mk 1 nLast la false [], .mk 1 nNext ne false []] :=
    leafs_two rfl (by decide) h1 (by decide) h2 (fun j u hu => by
      have := cells_new w2 _ 46 j u hu
      rw [addr_addN, Nat.zero_add] at this; exact this)
  refine (nodeQ_any (fun b => b = w2.heap.size) 1 nAnchor (by decide) [.mk 1 nLast la false [], .mk 1 nNext ne false []] (some ⟨w2.heap.size, 0, none⟩) 2 _ (fun b hb => by rw [hb]; simp) hk (by simp) (fun h => by cases h)).mono ?_
  rintro r w4 ⟨⟨v, rfl, hat⟩, hb⟩
  obtain ⟨a6, c6, rfl⟩ := hat.cells5
  exact ⟨⟨a6, c6, rfl, hat⟩, hb⟩

set_option maxRecDepth 100000 in
set_option maxHeartbeats 4000000 in
theorem anchor_any (fo ty : ByteArray) (sz ve : Int) (la ne no : ByteArray) (mm mo : Int) (hla : la.size ≤ reachT) (hne : ne.size ≤ reachT) (w : World) :
    Calls Tryd.prog 109 #[.agg #[.string fo, .string ty, .int .i64 sz, .int .i64 ve, .string la, .string ne, .string no, .int .i64 mm, .int .i64 mo]] w fun r w' => (∃ v, r = .returned v ∧ AtQ w' (fun b => w.heap.size ≤ b ∧ b < w'.heap.size) (anchorT la ne) v) ∧ Below w.heap.size w w' := by
  obtain ⟨W2, hW2⟩ : ∃ W2, (w.alloc (.cells #[.string fo, .string ty, .int .i64 sz, .int .i64 ve, .string la, .string ne, .string no, .int .i64 mm, .int .i64 mo] 23)).alloc (.cells #[.int .i64 0, .string ⟨#[]⟩, .string ⟨#[]⟩, .bool false, .slice none 0 0] 46) = W2 := ⟨_, rfl⟩
  have hB2 : Below w.heap.size w W2 := by rw [← hW2]; exact ((Below.refl _ w).alloc (Nat.le_refl _) _).alloc (by simp) _
  have hZ2 : W2.heap.size = w.heap.size + 2 := by rw [← hW2]; simp
  have hres : W2.heap[w.heap.size + 1]? = some (.cells #[.int .i64 0, .string ⟨#[]⟩, .string ⟨#[]⟩, .bool false, .slice none 0 0] 46 (0, 0)) := by rw [← hW2]; have := World.alloc_heap_new (w.alloc (.cells #[.string fo, .string ty, .int .i64 sz, .int .i64 ve, .string la, .string ne, .string no, .int .i64 mm, .int .i64 mo] 23)) (.cells #[.int .i64 0, .string ⟨#[]⟩, .string ⟨#[]⟩, .bool false, .slice none 0 0] 46); rwa [World.size_alloc] at this
  have hBx : ∀ j v, (#[.string fo, .string ty, .int .i64 sz, .int .i64 ve, .string la, .string ne, .string no, .int .i64 mm, .int .i64 mo] : Array Value)[j]? = some v → W2.cell? ⟨w.heap.size, j, none⟩ = some v := fun j v hv => by
    rw [← hW2]; exact cell_allocG ((World.cell?_alloc_at _ _ _ _ rfl).trans hv) _
  have y4 := hBx 4 _ rfl
  have y5 := hBx 5 _ rfl
  have HW2 := Lib.hid hW2
  have HB2 := Lib.hid hB2
  have HZ2 := Lib.hid hZ2
  have HRes := Lib.hid hres
  have cN := Lib.hid (fun X => leaf_any 1 nNext ne X)
  have cL := Lib.hid (fun X => leaf_any 1 nLast la X)
  have HSl := Lib.hid hla
  have HSn := Lib.hid hne
  unfold nNext at cN
  unfold nLast at cL
  clear hW2 hB2 hZ2 hres hBx hla hne
  by_cases hl : la.size = 0
  · have i1 := emptyB la hl
    have HA : Hid (anchorT la ne = .mk 1 nAnchor ByteArray.empty false [.mk 1 nNext ne false []]) := by unfold Hid anchorT sayL; rw [if_pos hl]; rfl
    clear hl
    go_enter Tryd.func109, Tryd.ntmps109
    go_wp2_with fail
    rw [HW2.out]
    go_wp2_with (go_at_call 63; (with_reducible refine (cN.out _).mono ?_); rintro r w1 ⟨rfl, hb1⟩; have z4 : ∀ o, (w1.alloc o).cell? ⟨w.heap.size, 4, none⟩ = some (.string la) := (fun o => cell_allocG ((hb1.cell (p := ⟨w.heap.size, 4, none⟩) (by rw [HZ2.out]; exact Nat.lt_succ_of_lt (Nat.lt_succ_self _))).trans y4) o); have HB1 := Lib.hid hb1; clear hb1 y4 y5)
    have hzs : w.heap.size + 2 ≤ w1.heap.size := by have := HB1.out.size; rw [HZ2.out] at this; exact this
    have hX : Below W2.heap.size W2 ((w1.alloc (.cells #[.int .i64 1, .string { data := #[78, 101, 120, 116] }, .string ne, .bool false, .slice none 0 0] 46)).alloc (.cells #[.int .i64 1, .string { data := #[78, 101, 120, 116] }, .string ne, .bool false, .slice none 0 0] 46)) := (HB1.out.alloc HB1.out.size _).alloc (by have := HB1.out.size; simp; omega) _
    have hk : AtLQ ((w1.alloc (.cells #[.int .i64 1, .string { data := #[78, 101, 120, 116] }, .string ne, .bool false, .slice none 0 0] 46)).alloc (.cells #[.int .i64 1, .string { data := #[78, 101, 120, 116] }, .string ne, .bool false, .slice none 0 0] 46)) (fun b => b = w1.heap.size + 1) (some ⟨w1.heap.size + 1, 0, none⟩) 0 [.mk 1 nNext ne false []] :=
      leafs_one rfl (by decide) HSn.out (fun j u hu => by
        have := cells_new (w1.alloc (.cells #[.int .i64 1, .string { data := #[78, 101, 120, 116] }, .string ne, .bool false, .slice none 0 0] 46)) _ 46 j u hu
        rw [addr_addN, World.size_alloc, Nat.zero_add] at this; exact this)
    have cD := nodeQ_any (fun b => b = w1.heap.size + 1) 1 nAnchor (by decide) [.mk 1 nNext ne false []] (some ⟨w1.heap.size + 1, 0, none⟩) 1 _ (fun b hb => by rw [hb]; simp) hk (by simp) (fun h => by cases h)
    have HX := Lib.hid hX
    have cD := Lib.hid cD
    clear hX hk
    rw [show ([.mk 1 nNext ne false []] : List Tr).length = 1 from rfl] at cD
    unfold nAnchor at cD
    refine cD.out.mono ?_
    rintro r w2 ⟨⟨v, rfl, hat⟩, hb2⟩
    obtain ⟨a6, c6, hv⟩ := hat.cells5
    have hv2 : v = .agg #[.int .i64 1, .string { data := #[65, 110, 99, 104, 111, 114] }, .string ByteArray.empty, .bool false, .slice a6 1 c6] := hv
    clear hv
    subst hv2
    have hz2 : w2.heap[w.heap.size + 1]? = some (.cells #[.int .i64 0, .string ⟨#[]⟩, .string ⟨#[]⟩, .bool false, .slice none 0 0] 46 (0, 0)) := (hb2.block _ (by simp; omega)).trans ((HX.out.block _ (by rw [HZ2.out]; exact Nat.lt_succ_self _)).trans HRes.out)
    obtain ⟨hcs, hfz⟩ := cells_of hz2
    have u0 := hcs 0 _ rfl
    have u1 := hcs 1 _ rfl
    have u2 := hcs 2 _ rfl
    have u3 := hcs 3 _ rfl
    have u4 := hcs 4 _ rfl
    have HAt := Lib.hid hat
    have HB2' := Lib.hid (HB2.out.trans ((HX.out.trans (hb2.mono HX.out.size)).mono HB2.out.size))
    have HZz := Lib.hid hz2
    have HPb : Hid (∀ b, (b = w1.heap.size + 1 ∨ (((w1.alloc (.cells #[.int .i64 1, .string { data := #[78, 101, 120, 116] }, .string ne, .bool false, .slice none 0 0] 46)).alloc (.cells #[.int .i64 1, .string { data := #[78, 101, 120, 116] }, .string ne, .bool false, .slice none 0 0] 46)).heap.size ≤ b ∧ b < w2.heap.size)) → w.heap.size ≤ b ∧ b < w2.heap.size ∧ b ≠ w.heap.size + 1) := fun b hb => by
      have h2 := hb2.size
      simp only [World.size_alloc] at h2 hb
      omega
    clear hcs hz2 hat hb2 hzs
    go_wp2_with fail
    have hfin := stored_at (g := w.heap.size + 1) HB2'.out (Nat.le_succ _) HAt.out HPb.out
    refine bodyPost_ret (results_cell_row rfl _ _ (w.heap.size + 1) 46 #[.int .i64 1, .string { data := #[65, 110, 99, 104, 111, 114] }, .string ByteArray.empty, .bool false, .slice a6 1 c6] (0, 0) _ rfl (set5_row HZz.out) Tryd.underlying46 rfl (by kernel_rfl)) rfl ?_
    exact ⟨⟨_, rfl, by rw [HA.out]; exact hfin.1⟩, hfin.2⟩
  · have i1 := not_empty la hl
    have HA : Hid (anchorT la ne = .mk 1 nAnchor ByteArray.empty false [.mk 1 nLast la false [], .mk 1 nNext ne false []]) := by unfold Hid anchorT sayL; rw [if_neg hl]; rfl
    clear hl
    go_enter Tryd.func109, Tryd.ntmps109
    go_wp2_with fail
    rw [HW2.out]
    go_wp2_with (go_at_call 63; (with_reducible refine (cN.out _).mono ?_); rintro r w1 ⟨rfl, hb1⟩; have z4 : ∀ o, (w1.alloc o).cell? ⟨w.heap.size, 4, none⟩ = some (.string la) := (fun o => cell_allocG ((hb1.cell (p := ⟨w.heap.size, 4, none⟩) (by rw [HZ2.out]; exact Nat.lt_succ_of_lt (Nat.lt_succ_self _))).trans y4) o); have HB1 := Lib.hid hb1; clear hb1 y4 y5)
    obtain ⟨W3, hW3⟩ : ∃ W3, w1.alloc (.cells #[.int .i64 1, .string { data := #[78, 101, 120, 116] }, .string ne, .bool false, .slice none 0 0] 46) = W3 := ⟨_, rfl⟩
    obtain ⟨hn3, _⟩ := cells_of (show W3.heap[w1.heap.size]? = some (.cells #[.int .i64 1, .string { data := #[78, 101, 120, 116] }, .string ne, .bool false, .slice none 0 0] 46 (0, 0)) from by rw [← hW3]; exact World.alloc_heap_new _ _)
    have v4 : W3.cell? ⟨w.heap.size, 4, none⟩ = some (.string la) := by rw [← hW3]; exact z4 _
    have n0 := hn3 0 _ rfl
    have n1 := hn3 1 _ rfl
    have n2 := hn3 2 _ rfl
    have n3 := hn3 3 _ rfl
    have n4 := hn3 4 _ rfl
    have HB3 : Hid (Below W2.heap.size W2 W3) := by rw [← hW3]; exact HB1.out.alloc HB1.out.size _
    have HZ3 : Hid (w1.heap.size + 1 = W3.heap.size) := by rw [← hW3]; exact (World.size_alloc _ _).symm
    have HZ1 : Hid (w.heap.size + 2 ≤ w1.heap.size) := by have := HB1.out.size; rw [HZ2.out] at this; exact this
    have HW3 := Lib.hid hW3
    clear hW3 z4 hn3
    go_wp2_with fail
    rw [HW3.out]
    go_region_with (first | (go_at_call 63; (with_reducible refine (cL.out _).mono ?_); rintro r w2 ⟨rfl, hb2⟩; have HB2w : Hid (Below W3.heap.size W3 w2) := ((Below.refl W3.heap.size W3).drew).trans hb2; have m0 := (HB2w.out.cell (p := ⟨w1.heap.size, 0, none⟩) (Nat.lt_of_lt_of_eq (Nat.lt_succ_self _) HZ3.out)).trans n0; have m1 := (HB2w.out.cell (p := ⟨w1.heap.size, 1, none⟩) (Nat.lt_of_lt_of_eq (Nat.lt_succ_self _) HZ3.out)).trans n1; have m2 := (HB2w.out.cell (p := ⟨w1.heap.size, 2, none⟩) (Nat.lt_of_lt_of_eq (Nat.lt_succ_self _) HZ3.out)).trans n2; have m3 := (HB2w.out.cell (p := ⟨w1.heap.size, 3, none⟩) (Nat.lt_of_lt_of_eq (Nat.lt_succ_self _) HZ3.out)).trans n3; have m4 := (HB2w.out.cell (p := ⟨w1.heap.size, 4, none⟩) (Nat.lt_of_lt_of_eq (Nat.lt_succ_self _) HZ3.out)).trans n4; clear hb2) | (go_at_call 64; refine (anchor_node w2 la ne HSl.out HSn.out).mono ?_; rintro r w4 ⟨⟨a6, c6, rfl, hat⟩, hb4⟩; have hz4 := (hb4.block (w.heap.size + 1) (by have h1 := HZ1.out; have h2 := HZ3.out; have h3 := HB2w.out.size; simp; omega)).trans ((Below.heap_alloc _ _ _ (by have h1 := HZ1.out; have h2 := HZ3.out; have h3 := HB2w.out.size; omega)).trans ((HB2w.out.block (w.heap.size + 1) (by have h1 := HZ1.out; have h2 := HZ3.out; omega)).trans ((HB3.out.block _ (by rw [HZ2.out]; exact Nat.lt_succ_self _)).trans HRes.out))); have u0 := (cells_of hz4).1 0 _ rfl; have u1 := (cells_of hz4).1 1 _ rfl; have u2 := (cells_of hz4).1 2 _ rfl; have u3 := (cells_of hz4).1 3 _ rfl; have u4 := (cells_of hz4).1 4 _ rfl; have hfz := (cells_of hz4).2; have HZz := Lib.hid hz4; have HAt := Lib.hid hat; have HB4 := Lib.hid hb4; clear hat hb4 hz4))
    all_goals
      have HBw4 : Below w.heap.size w w4 := HB2.out.trans ((HB3.out.trans ((HB2w.out.trans (((Below.refl _ w2).alloc (Nat.le_refl _) _).trans (HB4.out.mono (by simp)) |>.mono HB2w.out.size)).mono HB3.out.size)).mono HB2.out.size)
      have hfin := stored_at (g := w.heap.size + 1) HBw4 (Nat.le_succ _) HAt.out (fun b hb => by
        have h1 := HZ1.out
        have h2 := HZ3.out
        have h3 := HB2w.out.size
        have h4 := HB4.out.size
        simp only [World.size_alloc] at h4 hb
        omega)
      go_wp2_with fail
      refine bodyPost_ret (results_cell_row rfl _ _ (w.heap.size + 1) 46 #[.int .i64 1, .string { data := #[65, 110, 99, 104, 111, 114] }, .string ByteArray.empty, .bool false, .slice a6 2 c6] (0, 0) _ rfl (set5_row HZz.out) Tryd.underlying46 rfl (by kernel_rfl)) rfl ?_
      exact ⟨⟨_, rfl, by rw [HA.out]; exact hfin.1⟩, hfin.2⟩
end Go.Proofs.YtgechifbbhipaaaDoor
