/- metinf: the anchor (works). No condition but the tables. -/
import Derived.Test.YtgechifbbhipaaaDoorBkP
import Derived.Test.YtgechifbbhipaaaDoorMeO
import Derived.Test.YtgechifbbhipaaaDoorMeL
import Derived.Test.YtgechifbbhipaaaDoorTrE
set_option linter.unusedVariables false
set_option linter.unusedSimpArgs false
namespace Go.Proofs.YtgechifbbhipaaaDoor
open Go.RowKit Go.Shelf

def t0M : Tr := .mk 0 metaN ByteArray.empty false [.mk 1 nSize ⟨#[48]⟩ false []]
def t1M : Tr := elemM { data := #[] } { data := #[] } 5 0 { data := #[] } ⟨#[50]⟩ { data := #[] } 0 0
def t2M : Tr := .mk 0 metaN { data := #[] } false [.mk 1 nSize ⟨#[53]⟩ false [], .mk 1 nAnchor { data := #[] } false [.mk 1 nNext ⟨#[50]⟩ false []]]
theorem of_t0 : (ofV t0M).2 = 3 := by kernel_rfl
theorem same_t : sameT 19 t1M t2M = true := by kernel_rfl

theorem t2_at (X : World) : AtT ((X.alloc (.cells #[.int .i64 1, .string { data := #[78, 101, 120, 116] }, .string { data := #[50] }, .bool false, .slice none 0 0] 46)).alloc (.cells #[.int .i64 1, .string { data := #[83, 105, 122, 101] }, .string { data := #[53] }, .bool false, .slice none 0 0, .int .i64 1, .string { data := #[65, 110, 99, 104, 111, 114] }, .string { data := #[] }, .bool false, .slice (some ⟨X.heap.size, 0, none⟩) 1 1] 46)) ((X.alloc (.cells #[.int .i64 1, .string { data := #[78, 101, 120, 116] }, .string { data := #[50] }, .bool false, .slice none 0 0] 46)).alloc (.cells #[.int .i64 1, .string { data := #[83, 105, 122, 101] }, .string { data := #[53] }, .bool false, .slice none 0 0, .int .i64 1, .string { data := #[65, 110, 99, 104, 111, 114] }, .string { data := #[] }, .bool false, .slice (some ⟨X.heap.size, 0, none⟩) 1 1] 46)).heap.size t2M (.agg #[.int .i64 0, .string { data := #[77, 101, 116, 97] }, .string { data := #[] }, .bool false, .slice (some ⟨X.heap.size + 1, 0, none⟩) 2 2]) := by
  obtain ⟨Y, hY⟩ : ∃ Y, Y = ((X.alloc (.cells #[.int .i64 1, .string { data := #[78, 101, 120, 116] }, .string { data := #[50] }, .bool false, .slice none 0 0] 46)).alloc (.cells #[.int .i64 1, .string { data := #[83, 105, 122, 101] }, .string { data := #[53] }, .bool false, .slice none 0 0, .int .i64 1, .string { data := #[65, 110, 99, 104, 111, 114] }, .string { data := #[] }, .bool false, .slice (some ⟨X.heap.size, 0, none⟩) 1 1] 46)) := ⟨_, rfl⟩
  rw [← hY]
  have hs : Y.heap.size = X.heap.size + 2 := by rw [hY, World.size_alloc, World.size_alloc]
  have r1 : Y.heap[X.heap.size]? = some (.cells #[.int .i64 1, .string { data := #[78, 101, 120, 116] }, .string { data := #[50] }, .bool false, .slice none 0 0] 46 (0, 0)) := by rw [hY]; exact (Below.heap_alloc _ _ _ (by simp)).trans (World.alloc_heap_new X _)
  have r2 : Y.heap[X.heap.size + 1]? = some (.cells #[.int .i64 1, .string { data := #[83, 105, 122, 101] }, .string { data := #[53] }, .bool false, .slice none 0 0, .int .i64 1, .string { data := #[65, 110, 99, 104, 111, 114] }, .string { data := #[] }, .bool false, .slice (some ⟨X.heap.size, 0, none⟩) 1 1] 46 (0, 0)) := by
    rw [hY]
    have h := World.alloc_heap_new (X.alloc (.cells #[.int .i64 1, .string { data := #[78, 101, 120, 116] }, .string { data := #[50] }, .bool false, .slice none 0 0] 46)) (.cells #[.int .i64 1, .string { data := #[83, 105, 122, 101] }, .string { data := #[53] }, .bool false, .slice none 0 0, .int .i64 1, .string { data := #[65, 110, 99, 104, 111, 114] }, .string { data := #[] }, .bool false, .slice (some ⟨X.heap.size, 0, none⟩) 1 1] 46)
    rw [World.size_alloc] at h; exact h
  have hk1 : AtL Y Y.heap.size (some ⟨X.heap.size, 0, none⟩) 0 [.mk 1 nNext ⟨#[50]⟩ false []] := atL_of (by omega) _ 0 fun j hj => by
    obtain rfl : j = 0 := by simp at hj; exact hj
    refine ⟨[.int .i64 1, .string { data := #[78, 101, 120, 116] }, .string { data := #[50] }, .bool false, .slice none 0 0], fun k v hv => ?_, ?_⟩
    · exact cell_block r1 _ _ (by simpa using hv)
    · show AtT _ _ (.mk 1 nNext ⟨#[50]⟩ false []) _
      unfold AtT
      exact ⟨by decide, by decide, by decide, none, 0, rfl, by unfold AtL; trivial, Nat.le_refl _⟩
  have hk2 : AtL Y Y.heap.size (some ⟨X.heap.size + 1, 0, none⟩) 0 t2M.kids := atL_of (by omega) _ 0 fun j hj => by
    have hj2 : j < 2 := hj
    match j, hj2 with
    | 0, _ =>
      refine ⟨[.int .i64 1, .string { data := #[83, 105, 122, 101] }, .string { data := #[53] }, .bool false, .slice none 0 0], fun k v hv => ?_, ?_⟩
      · have hk : k < 5 := by have := (List.getElem?_eq_some_iff.1 hv).1; simpa using this
        refine cell_block r2 _ _ ?_
        rw [← hv]
        match k, hk with
        | 0, _ => rfl
        | 1, _ => rfl
        | 2, _ => rfl
        | 3, _ => rfl
        | 4, _ => rfl
      · show AtT _ _ (.mk 1 nSize ⟨#[53]⟩ false []) _
        unfold AtT
        exact ⟨by decide, by decide, by decide, none, 0, rfl, by unfold AtL; trivial, Nat.le_refl _⟩
    | 1, _ =>
      refine ⟨[.int .i64 1, .string { data := #[65, 110, 99, 104, 111, 114] }, .string { data := #[] }, .bool false, .slice (some ⟨X.heap.size, 0, none⟩) 1 1], fun k v hv => ?_, ?_⟩
      · have hk : k < 5 := by have := (List.getElem?_eq_some_iff.1 hv).1; simpa using this
        refine cell_block r2 _ _ ?_
        rw [← hv]
        match k, hk with
        | 0, _ => rfl
        | 1, _ => rfl
        | 2, _ => rfl
        | 3, _ => rfl
        | 4, _ => rfl
      · show AtT _ _ (.mk 1 nAnchor { data := #[] } false [.mk 1 nNext ⟨#[50]⟩ false []]) _
        unfold AtT
        exact ⟨by decide, by decide, by decide, some ⟨X.heap.size, 0, none⟩, 1, rfl, hk1, Nat.le_refl _⟩
  unfold t2M AtT
  exact ⟨by decide, by decide, by decide, some ⟨X.heap.size + 1, 0, none⟩, 2, rfl, hk2, Nat.le_refl _⟩

set_option maxRecDepth 100000 in
set_option maxHeartbeats 2000000 in
theorem metWorks_any (w : World) (m : Int) (hT : TabG m w) : Calls Tryd.prog 37 #[] w fun r w' => r = .returned (.bool true) ∧ Below w.heap.size w w' := by
  have HT := Lib.hid (fun Y (hY : Below w.heap.size w Y) => hT.below hY)
  have cE := Lib.hid (metElem_any { data := #[] } { data := #[] } 5 0 { data := #[] } { data := #[50] } { data := #[] } 0 0 (by decide) (by decide) (by decide) (by decide) (by decide) (by decide) (by decide) (by decide) (by decide) w hT.1)
  have cO := Lib.hid (fun (Y : World) v (hv : AtT Y Y.heap.size t0M v) (hY : Below w.heap.size w Y) => metOf_any t0M v Y m hv (HT.out Y hY))
  have cS := Lib.hid (fun (Y : World) va vb (ha : AtT Y Y.heap.size t1M va) (hb : AtT Y Y.heap.size t2M vb) => same_any t1M t2M va vb Y ha hb)
  rw [same_t] at cS
  rw [of_t0] at cO
  obtain ⟨⟨⟨fo, ty, sz, ve, la, ne, no, mm, mo⟩, f⟩, hR⟩ : ∃ R, R = ofV t0M := ⟨_, rfl⟩
  rw [← hR] at cO
  simp only [MetV.cells] at cO
  clear hT hR
  go_enter Tryd.func37, Tryd.ntmps37
  go_wp2_with fail
  refine cE.out.mono ?_
  rintro r X1 ⟨⟨v1, rfl, hat⟩, hb1⟩
  have hat : AtT X1 X1.heap.size t1M v1 := hat
  obtain ⟨_, _, _, a1, c1, rfl, _⟩ := hat.parts
  have HAT := Lib.hid hat
  have HX1 := Lib.hid hb1
  clear hat hb1 cE
  generalize t1M.page = p1 at *
  generalize t1M.name = n1 at *
  generalize t1M.text = x1 at *
  generalize t1M.opq = o1 at *
  generalize t1M.kids.length = l1 at *
  go_wp2_with fail
  have hA2 : Below X1.heap.size X1 (X1.alloc (.cells #[.int .i64 p1, .string n1, .string x1, .bool o1, .slice a1 l1 c1] 46)) := (Below.refl _ X1).alloc (Nat.le_refl _) _
  have hB1 : (X1.alloc (.cells #[.int .i64 p1, .string n1, .string x1, .bool o1, .slice a1 l1 c1] 46)).heap[X1.heap.size]? = some (.cells #[.int .i64 p1, .string n1, .string x1, .bool o1, .slice a1 l1 c1] 46 (0, 0)) := World.alloc_heap_new X1 _
  have hs1 : (X1.alloc (.cells #[.int .i64 p1, .string n1, .string x1, .bool o1, .slice a1 l1 c1] 46)).heap.size = X1.heap.size + 1 := World.size_alloc _ _
  refine (leaf_any 1 { data := #[83, 105, 122, 101] } { data := #[48] } _).mono ?_
  rintro r X2 ⟨rfl, hb2⟩
  have HX2 := Lib.hid (HX1.out.trans ((hA2.trans (hb2.mono hA2.size)).mono HX1.out.size))
  have HX12 := Lib.hid (hA2.trans (hb2.mono hA2.size))
  have HB2 : Hid (X2.heap[X1.heap.size]? = some (.cells #[.int .i64 p1, .string n1, .string x1, .bool o1, .slice a1 l1 c1] 46 (0, 0))) := (hb2.block _ (by omega)).trans hB1
  have HL2 : Hid (X1.heap.size + 1 ≤ X2.heap.size) := by have h2 := hb2.size; unfold Hid; omega
  clear hb2 hB1 hA2 hs1
  go_wp2_with fail
  have hAL : AtL (X2.alloc (.cells #[.int .i64 1, .string { data := #[83, 105, 122, 101] }, .string { data := #[48] }, .bool false, .slice none 0 0] 46)) (X2.alloc (.cells #[.int .i64 1, .string { data := #[83, 105, 122, 101] }, .string { data := #[48] }, .bool false, .slice none 0 0] 46)).heap.size (some ⟨X2.heap.size, 0, none⟩) 0 t0M.kids := atL_of (by simp) _ 0 fun j hj => by
    obtain rfl : j = 0 := by have : j < 1 := hj; omega
    refine ⟨[.int .i64 1, .string { data := #[83, 105, 122, 101] }, .string { data := #[48] }, .bool false, .slice none 0 0], fun k v hv => ?_, ?_⟩
    · rw [World.cell?_alloc_at _ _ _ _ rfl]
      simpa using hv
    · show AtT _ _ (.mk 1 nSize ⟨#[48]⟩ false []) _
      unfold AtT
      exact ⟨by decide, by decide, by decide, none, 0, rfl, by unfold AtL; trivial, Nat.le_refl _⟩
  have hA3 : Below X2.heap.size X2 (X2.alloc (.cells #[.int .i64 1, .string { data := #[83, 105, 122, 101] }, .string { data := #[48] }, .bool false, .slice none 0 0] 46)) := (Below.refl _ X2).alloc (Nat.le_refl _) _
  refine (node_any _ 0 { data := #[77, 101, 116, 97] } (by decide) t0M.kids (some ⟨X2.heap.size, 0, none⟩) 1 (X2.alloc (.cells #[.int .i64 1, .string { data := #[83, 105, 122, 101] }, .string { data := #[48] }, .bool false, .slice none 0 0] 46)) (Nat.le_refl _) hAL (by decide) (fun h => by cases h)).mono ?_
  rintro r X3 ⟨⟨v3, rfl, hat3⟩, hb3⟩
  have hat3 : AtT X3 X3.heap.size t0M v3 := hat3
  have HX3 := Lib.hid (HX2.out.trans ((hA3.trans (hb3.mono hA3.size)).mono HX2.out.size))
  have HX13 := Lib.hid (HX12.out.trans ((hA3.trans (hb3.mono hA3.size)).mono HX12.out.size))
  have HB3 : Hid (X3.heap[X1.heap.size]? = some (.cells #[.int .i64 p1, .string n1, .string x1, .bool o1, .slice a1 l1 c1] 46 (0, 0))) := (hb3.block _ (by rw [World.size_alloc]; have := HL2.out; unfold Hid at this; omega)).trans ((hA3.block _ HL2.out).trans HB2.out)
  have HL3 : Hid (X1.heap.size + 1 ≤ X3.heap.size) := Nat.le_trans HL2.out (Nat.le_trans hA3.size hb3.size)
  have HAT3 := Lib.hid hat3
  clear hb3 hAL hA3 hat3 HB2 HL2
  go_wp2_with fail
  refine (cO.out X3 _ HAT3.out HX3.out).mono ?_
  rintro r X4 ⟨rfl, hb4⟩
  have HX4 := Lib.hid (HX3.out.trans (hb4.mono HX3.out.size))
  have HX14 := Lib.hid (HX13.out.trans (hb4.mono HX13.out.size))
  have HB4 : Hid (X4.heap[X1.heap.size]? = some (.cells #[.int .i64 p1, .string n1, .string x1, .bool o1, .slice a1 l1 c1] 46 (0, 0))) := (hb4.block _ HL3.out).trans HB3.out
  have HL4 : Hid (X1.heap.size + 1 ≤ X4.heap.size) := Nat.le_trans HL3.out hb4.size
  clear hb4 HB3 HL3 HAT3 cO
  obtain ⟨X5, hX5⟩ : ∃ X5, X5 = X4.alloc (.cells #[.string fo, .string ty, .int .i64 sz, .int .i64 ve, .string la, .string ne, .string no, .int .i64 mm, .int .i64 mo] 23) := ⟨_, rfl⟩
  have hb5 : Below X4.heap.size X4 X5 := by rw [hX5]; exact (Below.refl _ X4).alloc (Nat.le_refl _) _
  have HX5 := Lib.hid (HX4.out.trans (hb5.mono HX4.out.size))
  have HX15 := Lib.hid (HX14.out.trans (hb5.mono HX14.out.size))
  have HB5 : X5.heap[X1.heap.size]? = some (.cells #[.int .i64 p1, .string n1, .string x1, .bool o1, .slice a1 l1 c1] 46 (0, 0)) := (hb5.block _ HL4.out).trans HB4.out
  rw [hX5] at HB5
  have y0 := cell_block HB5 0 _ rfl
  have y1 := cell_block HB5 1 _ rfl
  have y2 := cell_block HB5 2 _ rfl
  have y3 := cell_block HB5 3 _ rfl
  have y4 := cell_block HB5 4 _ rfl
  have HE5 := Lib.hid hX5
  clear hb5 hX5 HB5
  have HS5 : Hid (X4.heap.size + 1 = X5.heap.size) := by unfold Hid; rw [HE5.out, World.size_alloc]
  go_wp2_with fail
  rw [← HE5.out, HS5.out]
  have hA6 : Below X5.heap.size X5 ((X5.alloc (.cells #[.int .i64 1, .string { data := #[78, 101, 120, 116] }, .string { data := #[50] }, .bool false, .slice none 0 0] 46)).alloc (.cells #[.int .i64 1, .string { data := #[83, 105, 122, 101] }, .string { data := #[53] }, .bool false, .slice none 0 0, .int .i64 1, .string { data := #[65, 110, 99, 104, 111, 114] }, .string { data := #[] }, .bool false, .slice (some ⟨X5.heap.size, 0, none⟩) 1 1] 46)) := ((Below.refl _ X5).alloc (Nat.le_refl _) _).alloc (by simp) _
  have hfa := AtT.mono (hA6.mono (Nat.le_refl _)).size _ _ (AtT.below (hA6) _ _ (AtT.mono HX15.out.size _ _ (AtT.below HX15.out _ _ HAT.out)))
  refine (cS.out _ _ _ hfa (t2_at X5)).mono ?_
  rintro r X7 ⟨rfl, hb7⟩
  have HX7 := Lib.hid (HX5.out.trans ((hA6.trans (hb7.mono hA6.size)).mono HX5.out.size))
  go_wp2_with fail
  go_ret
  exact ⟨rfl, HX7.out⟩
end Go.Proofs.YtgechifbbhipaaaDoor
