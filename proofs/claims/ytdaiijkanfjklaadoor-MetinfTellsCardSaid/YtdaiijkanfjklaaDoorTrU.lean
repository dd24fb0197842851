/- tree: TreeTells, the walk. No condition but the tables. -/
import Derived.Test.YtdaiijkanfjklaaDoorTrQ
import Derived.Test.YtdaiijkanfjklaaDoorKit4
import Derived.Deep.RegionHeld3
namespace Go.Proofs.YtdaiijkanfjklaaDoor
open Go.RowKit

attribute [local go_sem] undef in
set_option maxRecDepth 100000 in
set_option maxHeartbeats 8000000 in
theorem treeTells_walk (e : Tr) (v : Value) (w : World) (hv : AtT w w.heap.size e v) (hT : Lib.Utf8Tabs 0 1 w) : Calls Tryd.prog 3 #[v] w fun r w' => r = .returned (.bool true) ∧ Below w.heap.size w w' := by
  obtain ⟨s1, s2, s3, a, c, rfl, hk⟩ := hv.parts
  have c6 := Lib.hid (fun X (hX : Below w.heap.size w X) => great_any e _ X (AtT.mono hX.size _ _ (AtT.below hX _ _ hv)))
  have c7 := Lib.hid (fun X (hX : Below w.heap.size w X) => checkA_any e _ X (AtT.mono hX.size _ _ (AtT.below hX _ _ hv)) (Utf8Tabs_below hT hX))
  have c8 := Lib.hid (fun X (hX : Below w.heap.size w X) => refCheck_any e _ X (AtT.mono hX.size _ _ (AtT.below hX _ _ hv)))
  have c9 := Lib.hid (fun X (hX : Below w.heap.size w X) => weight_any e _ X (AtT.mono hX.size _ _ (AtT.below hX _ _ hv)))
  have c10 := Lib.hid (fun X (hX : Below w.heap.size w X) => refWeight_any e _ X (AtT.mono hX.size _ _ (AtT.below hX _ _ hv)))
  clear hv hT hk
  generalize chkA e = v1 at *
  generalize wgt e = v2 at *
  generalize greatV e = g at *
  generalize e.page = p at *
  generalize e.name = nm at *
  generalize e.text = tx at *
  generalize e.opq = o at *
  generalize e.kids.length = nk at *
  obtain ⟨W, hW⟩ : ∃ W, w.alloc (.cells #[.int .i64 p, .string nm, .string tx, .bool o, .slice a nk c] 24) = W := ⟨_, rfl⟩
  obtain ⟨k1, k2⟩ := KC.first w [.int .i64 p, .string nm, .string tx, .bool o, .slice a nk c] 24
  rw [show ([.int .i64 p, .string nm, .string tx, .bool o, .slice a nk c] : List Value).toArray = #[.int .i64 p, .string nm, .string tx, .bool o, .slice a nk c] from rfl, hW] at k1
  have HF := Lib.hid k1
  have HL := Lib.hid k2
  have k1' : W.cell? ⟨w.heap.size, 0, none⟩ = some (.int .i64 p) ∧ W.cell? ⟨w.heap.size, 1, none⟩ = some (.string nm) ∧ W.cell? ⟨w.heap.size, 2, none⟩ = some (.string tx) ∧ W.cell? ⟨w.heap.size, 3, none⟩ = some (.bool o) ∧ W.cell? ⟨w.heap.size, 4, none⟩ = some (.slice a nk c) ∧ (w.heap.size + 1 ≤ W.heap.size ∧ Below w.heap.size w W) := k1
  obtain ⟨d0, d1, d2, d3, d4, d5⟩ := k1'
  clear k1 k2
  have HW := Lib.hid hW
  clear hW
  cases g with
  | true =>
    go_enter Tryd.func3, Tryd.ntmps3
    go_wp2_with fail
    rw [HW.out]
    first | (go_region_with (go_at_call 6; refine (c6.out _ (by first | exact d5.2 | exact d5.2.drew)).mono ?_; rintro r w9 ⟨rfl, hb9⟩)) | fail "x"
    all_goals
      go_wp2_with fail
      go_ret
      exact ⟨rfl, d5.2.drew.trans (hb9.mono d5.2.size)⟩
  | false =>
    go_enter Tryd.func3, Tryd.ntmps3
    go_wp2_with fail
    rw [HW.out]
    go_region_held3 (fun w' => w'.cell? ⟨w.heap.size, 0, none⟩ = some (.int .i64 p) ∧ w'.cell? ⟨w.heap.size, 1, none⟩ = some (.string nm) ∧ w'.cell? ⟨w.heap.size, 2, none⟩ = some (.string tx) ∧ w'.cell? ⟨w.heap.size, 3, none⟩ = some (.bool o) ∧ w'.cell? ⟨w.heap.size, 4, none⟩ = some (.slice a nk c) ∧ (w.heap.size + 1 ≤ w'.heap.size ∧ Below w.heap.size w w')) (first | assumption | exact KC.drew HL.out HF.out | exact KC.call HL.out (by assumption) hb9 | exact KC.call HL.out (KC.drew HL.out HF.out) hb9) (first | (go_at_call 6; refine (c6.out _ (KC.below (w0 := w) (m := w.heap.size + 1) (l := [(w.heap.size, 0, .int .i64 p), (w.heap.size, 1, .string nm), (w.heap.size, 2, .string tx), (w.heap.size, 3, .bool o), (w.heap.size, 4, .slice a nk c)]) (by first | assumption | exact KC.drew HL.out HF.out))).mono ?_; rintro r w9 ⟨rfl, hb9⟩) | (go_at_call 7; refine (c7.out _ (KC.below (w0 := w) (m := w.heap.size + 1) (l := [(w.heap.size, 0, .int .i64 p), (w.heap.size, 1, .string nm), (w.heap.size, 2, .string tx), (w.heap.size, 3, .bool o), (w.heap.size, 4, .slice a nk c)]) (by first | assumption | exact KC.drew HL.out HF.out))).mono ?_; rintro r w9 ⟨rfl, hb9⟩) | (go_at_call 8; refine (c8.out _ (KC.below (w0 := w) (m := w.heap.size + 1) (l := [(w.heap.size, 0, .int .i64 p), (w.heap.size, 1, .string nm), (w.heap.size, 2, .string tx), (w.heap.size, 3, .bool o), (w.heap.size, 4, .slice a nk c)]) (by first | assumption | exact KC.drew HL.out HF.out))).mono ?_; rintro r w9 ⟨rfl, hb9⟩) | (go_at_call 9; refine (c9.out _ (KC.below (w0 := w) (m := w.heap.size + 1) (l := [(w.heap.size, 0, .int .i64 p), (w.heap.size, 1, .string nm), (w.heap.size, 2, .string tx), (w.heap.size, 3, .bool o), (w.heap.size, 4, .slice a nk c)]) (by first | assumption | exact KC.drew HL.out HF.out))).mono ?_; rintro r w9 ⟨rfl, hb9⟩) | (go_at_call 10; refine (c10.out _ (KC.below (w0 := w) (m := w.heap.size + 1) (l := [(w.heap.size, 0, .int .i64 p), (w.heap.size, 1, .string nm), (w.heap.size, 2, .string tx), (w.heap.size, 3, .bool o), (w.heap.size, 4, .slice a nk c)]) (by first | assumption | exact KC.drew HL.out HF.out))).mono ?_; rintro r w9 ⟨rfl, hb9⟩))
    all_goals
      have hq := KC.below (w0 := w) (m := w.heap.size + 1) (l := [(w.heap.size, 0, .int .i64 p), (w.heap.size, 1, .string nm), (w.heap.size, 2, .string tx), (w.heap.size, 3, .bool o), (w.heap.size, 4, .slice a nk c)]) (by assumption)
      go_wp2_with fail
      go_ret
      exact ⟨rfl, hq⟩
end Go.Proofs.YtdaiijkanfjklaaDoor
