/- devinf: say, which puts a text behind what was said: of a device and of a place. No condition but sizes. -/
import Derived.Test.YtgechifbbhipaaaDoorTrH
import Derived.Test.YtgechifbbhipaaaDoorDvP
set_option linter.unusedVariables false
set_option linter.unusedSimpArgs false
namespace Go.Proofs.YtgechifbbhipaaaDoor
open Go.RowKit

def sayF (nm tx : ByteArray) : List Tr := if tx.size = 0 then [] else [.mk 2 nm tx false []]
set_option maxRecDepth 100000 in
set_option maxHeartbeats 8000000 in
theorem sayD_put (bl B : Nat) (hbl : bl < B) (nm tx : ByteArray) (h1 : nm.size ≤ reachT) (h2 : tx.size ≤ reachT) (v : Value) (ks : List Tr) (hn : ks.length ≤ 1000) (w : World) (hB : B ≤ w.heap.size) (hx : Boxed w bl 44 v) (hr : RowQ w B v ks) (ht : tx.size ≠ 0) :
    Calls Tryd.prog 62 #[.string nm, .string tx, .pointer (some ⟨bl, 0, none⟩)] w fun r w' => PutP bl B (ks ++ [.mk 2 nm tx false []]) w r w' := by
  have i1 := not_empty tx ht
  have HLf : Hid (∀ X, AtQ X (fun _ => False) (.mk 2 nm tx false []) (.agg #[.int .i64 2, .string nm, .string tx, .bool false, .slice none 0 0])) := fun X => AtQ.leaf h1 h2
  clear h1 h2 ht
  obtain ⟨xs, ho, hq⟩ := hr
  have hc := hx.cell
  have hf := hx.frozen
  obtain ⟨a, c, rfl⟩ := own_form ho
  have HO : Hid (∀ X, Below w.heap.size w X → X.ownsRow B 46 5 (.slice a ks.length c) ks.length xs) := fun X hX => owns_keep ho (fun k hk => hX.block k (ho.lt k hk).2)
  have HQ := Lib.hid hq
  have HXL := Lib.hid ho.1
  have HOB := Lib.hid (fun b hb => (ho.lt b hb).1)
  have HBX : Hid (∀ X, Below w.heap.size w X → Boxed X bl 44 (.slice a ks.length c)) := fun X hX => (hX.block bl hx.lt).trans hx
  have HNE : Hid (some bl ≠ (.slice a ks.length c : Value).ownBlock) := fun e => by have := (ho.lt bl e.symm).1; omega
  clear ho hq hx
  generalize hnn : ks.length = n at *
  have HNN := Lib.hid hnn
  clear hnn
  obtain ⟨i0, hi, hz0, hz1, hz2⟩ := info24
  have HI := Lib.hid hi
  have HZ0 := Lib.hid hz0
  have HZ1 := Lib.hid hz1
  have HZ2 := Lib.hid hz2
  clear hi hz0 hz1 hz2
  have HBY : Hid ((n + 1) * 72 ≤ 140737488355328) := by unfold Hid; omega
  have H63 : Hid (n + 1 ≤ maxLen) := by unfold Hid maxLen; omega
  have HD : Hid (Below w.heap.size w w.drew) := (Below.refl _ w).drew
  have hlt1 : (n : Int) < (n : Int) + 1 := by omega
  have hcd : ∀ o, (w.alloc o).cell? ⟨bl, 0, none⟩ = some (.slice a n c) := fun o => cell_allocG hc o
  go_enter Tryd.func62, Tryd.ntmps62
  go_wp2_with fail
  go_region_law (first | (go_simp; go_at_call 63; refine (leaf_any 2 nm tx _).mono ?_; rintro r w1 ⟨rfl, hb1⟩; have hcb1 : w1.cell? ⟨bl, 0, none⟩ = some (.slice a n c) := Boxed.cell (HBX.out _ (by first | exact (HD.out.trans (hb1.mono HD.out.size)) | exact ((HD.out.alloc HD.out.size _).trans (hb1.mono (HD.out.alloc HD.out.size _).size)))); have hcb2 : ∀ o, (w1.alloc o).cell? ⟨bl, 0, none⟩ = some (.slice a n c) := (fun o => cell_allocG hcb1 o)) | (refine step_appR rfl (.tmp 7) (.tmp 12) 44 rfl B 46 i0 _ 5 72 Tryd.underlying44 HI.out HZ0.out HZ1.out HZ2.out rfl (by decide) _ n xs rfl (HO.out _ ((HD.out.trans (hb1.mono HD.out.size)).alloc (HD.out.trans (hb1.mono HD.out.size)).size _)) _ 1 1 zero5 rfl rfl (fun h => by cases h) (new_cells (Below.refl _ _)) (by simp [zero5, Value.oneCell']) H63.out HBY.out (Nat.le_trans hB (Below.size ((HD.out.trans (hb1.mono HD.out.size)).alloc (HD.out.trans (hb1.mono HD.out.size)).size _))) (fun a' c' w' k1 k2 k3 => ?_); obtain ⟨g, rfl, hgB, hgl, hz, hfr⟩ := own_push k1 HXL.out; have z0 : w'.cell? ⟨g, n * 5, none⟩ = some (.int .i64 0) := hz 0 _ rfl; have z1 := hz 1 _ rfl; have z2 := hz 2 _ rfl; have z3 := hz 3 _ rfl; have z4 := hz 4 _ rfl; have hbx : Boxed w' bl 44 (.slice a n c) := Boxed.kept (HBX.out _ ((HD.out.trans (hb1.mono HD.out.size)).alloc (HD.out.trans (hb1.mono HD.out.size)).size _)) k2 HNE.out; have hcb := hbx.cell; have hfb := hbx.frozen; have hg1 : ¬ g = bl := (by omega); have hg2 : ¬ bl = g := (by omega); have HPG := Lib.hid (push_grown ((HD.out.trans (hb1.mono HD.out.size)).alloc (HD.out.trans (hb1.mono HD.out.size)).size _) k2); have HM := Lib.hid (push_moved ((HD.out.trans (hb1.mono HD.out.size)).alloc (HD.out.trans (hb1.mono HD.out.size)).size _) k3); have HPA := Lib.hid (push_A hbl HNN.out HXL.out hB HQ.out HOB.out HPG.out HM.out k1 hbx (HLf.out w') (fun b hb => hb.elim)); have HPB := Lib.hid (push_B hbl HNN.out HXL.out hB HQ.out HOB.out HPG.out HM.out k1 hbx (HLf.out w') (fun b hb => hb.elim)); clear k1 k2 k3 hbx) | (refine step_appR rfl (.tmp 7) (.tmp 12) 44 rfl B 46 i0 _ 5 72 Tryd.underlying44 HI.out HZ0.out HZ1.out HZ2.out rfl (by decide) _ n xs rfl (HO.out _ (HD.out.alloc HD.out.size _)) _ 1 1 zero5 rfl rfl (fun h => by cases h) (new_cells (Below.refl _ _)) (by simp [zero5, Value.oneCell']) H63.out HBY.out (Nat.le_trans hB (Below.size (HD.out.alloc HD.out.size _))) (fun a' c' w' k1 k2 k3 => ?_); obtain ⟨g, rfl, hgB, hgl, hz, hfr⟩ := own_push k1 HXL.out; have z0 : w'.cell? ⟨g, n * 5, none⟩ = some (.int .i64 0) := hz 0 _ rfl; have z1 := hz 1 _ rfl; have z2 := hz 2 _ rfl; have z3 := hz 3 _ rfl; have z4 := hz 4 _ rfl; have hbx : Boxed w' bl 44 (.slice a n c) := Boxed.kept (HBX.out _ (HD.out.alloc HD.out.size _)) k2 HNE.out; have hcb := hbx.cell; have hfb := hbx.frozen; have hg1 : ¬ g = bl := (by omega); have hg2 : ¬ bl = g := (by omega); have HPG := Lib.hid (push_grown (HD.out.alloc HD.out.size _) k2); have HM := Lib.hid (push_moved (HD.out.alloc HD.out.size _) k3); have HPA := Lib.hid (push_A hbl HNN.out HXL.out hB HQ.out HOB.out HPG.out HM.out k1 hbx (HLf.out w') (fun b hb => hb.elim)); have HPB := Lib.hid (push_B hbl HNN.out HXL.out hB HQ.out HOB.out HPG.out HM.out k1 hbx (HLf.out w') (fun b hb => hb.elim)); clear k1 k2 k3 hbx) | (refine step_appR rfl (.tmp 7) (.tmp 12) 44 rfl B 46 i0 _ 5 72 Tryd.underlying44 HI.out HZ0.out HZ1.out HZ2.out rfl (by decide) _ n xs rfl (HO.out _ ((HD.out.alloc HD.out.size _).trans (hb1.mono (HD.out.alloc HD.out.size _).size))) _ 1 1 zero5 rfl rfl (fun h => by cases h) (new_cells (w := w.drew) (cs := zero5) (t := 46) (hb1.mono (Nat.le_of_eq (World.size_alloc _ _).symm))) (by simp [zero5, Value.oneCell']) H63.out HBY.out (Nat.le_trans hB (Below.size ((HD.out.alloc HD.out.size _).trans (hb1.mono (HD.out.alloc HD.out.size _).size)))) (fun a' c' w' k1 k2 k3 => ?_); obtain ⟨g, rfl, hgB, hgl, hz, hfr⟩ := own_push k1 HXL.out; have z0 : w'.cell? ⟨g, n * 5, none⟩ = some (.int .i64 0) := hz 0 _ rfl; have z1 := hz 1 _ rfl; have z2 := hz 2 _ rfl; have z3 := hz 3 _ rfl; have z4 := hz 4 _ rfl; have hbx : Boxed w' bl 44 (.slice a n c) := Boxed.kept (HBX.out _ ((HD.out.alloc HD.out.size _).trans (hb1.mono (HD.out.alloc HD.out.size _).size))) k2 HNE.out; have hcb := hbx.cell; have hfb := hbx.frozen; have hg1 : ¬ g = bl := (by omega); have hg2 : ¬ bl = g := (by omega); have HPG := Lib.hid (push_grown ((HD.out.alloc HD.out.size _).trans (hb1.mono (HD.out.alloc HD.out.size _).size)) k2); have HM := Lib.hid (push_moved ((HD.out.alloc HD.out.size _).trans (hb1.mono (HD.out.alloc HD.out.size _).size)) k3); have HPA := Lib.hid (push_A hbl HNN.out HXL.out hB HQ.out HOB.out HPG.out HM.out k1 hbx (HLf.out w') (fun b hb => hb.elim)); have HPB := Lib.hid (push_B hbl HNN.out HXL.out hB HQ.out HOB.out HPG.out HM.out k1 hbx (HLf.out w') (fun b hb => hb.elim)); clear k1 k2 k3 hbx) | fail)
  all_goals
    go_end0
    refine ⟨⟨_, rfl⟩, ?_⟩
    first | with_reducible exact HPA.out | with_reducible exact HPB.out

theorem sayD_no (bl : Nat) (nm tx : ByteArray) (w : World) (ht : tx.size = 0) :
    Calls Tryd.prog 62 #[.string nm, .string tx, .pointer (some ⟨bl, 0, none⟩)] w fun r w' => (∃ u, r = .returned u) ∧ w = w' := by
  have i1 := emptyB tx ht
  clear ht
  go_enter Tryd.func62, Tryd.ntmps62
  go_wp2_with fail
  go_end0
  exact ⟨⟨_, rfl⟩, rfl⟩
theorem sayD_any (bl B : Nat) (hbl : bl < B) (nm tx : ByteArray) (h1 : nm.size ≤ reachT) (h2 : tx.size ≤ reachT) (v : Value) (ks : List Tr) (hn : ks.length ≤ 1000) (w : World) (hB : B ≤ w.heap.size) (hx : Boxed w bl 44 v) (hr : RowQ w B v ks) :
    Calls Tryd.prog 62 #[.string nm, .string tx, .pointer (some ⟨bl, 0, none⟩)] w fun r w' => PutP bl B (ks ++ sayF nm tx) w r w' := by
  by_cases ht : tx.size = 0
  · unfold sayF
    rw [if_pos ht, List.append_nil]
    refine (sayD_no bl nm tx w ht).mono ?_
    rintro r w' ⟨hu, rfl⟩
    exact ⟨hu, ⟨v, hx, hr⟩, BelowBut.refl _ _ _⟩
  · unfold sayF
    rw [if_neg ht]
    exact sayD_put bl B hbl nm tx h1 h2 v ks hn w hB hx hr ht
set_option maxRecDepth 100000 in
set_option maxHeartbeats 8000000 in
theorem sayP_put (bl B : Nat) (hbl : bl < B) (nm tx : ByteArray) (h1 : nm.size ≤ reachT) (h2 : tx.size ≤ reachT) (v : Value) (ks : List Tr) (hn : ks.length ≤ 1000) (w : World) (hB : B ≤ w.heap.size) (hx : Boxed w bl 44 v) (hr : RowQ w B v ks) (ht : tx.size ≠ 0) :
    Calls Tryd.prog 125 #[.string nm, .string tx, .pointer (some ⟨bl, 0, none⟩)] w fun r w' => PutP bl B (ks ++ [.mk 2 nm tx false []]) w r w' := by
  have i1 := not_empty tx ht
  have HLf : Hid (∀ X, AtQ X (fun _ => False) (.mk 2 nm tx false []) (.agg #[.int .i64 2, .string nm, .string tx, .bool false, .slice none 0 0])) := fun X => AtQ.leaf h1 h2
  clear h1 h2 ht
  obtain ⟨xs, ho, hq⟩ := hr
  have hc := hx.cell
  have hf := hx.frozen
  obtain ⟨a, c, rfl⟩ := own_form ho
  have HO : Hid (∀ X, Below w.heap.size w X → X.ownsRow B 46 5 (.slice a ks.length c) ks.length xs) := fun X hX => owns_keep ho (fun k hk => hX.block k (ho.lt k hk).2)
  have HQ := Lib.hid hq
  have HXL := Lib.hid ho.1
  have HOB := Lib.hid (fun b hb => (ho.lt b hb).1)
  have HBX : Hid (∀ X, Below w.heap.size w X → Boxed X bl 44 (.slice a ks.length c)) := fun X hX => (hX.block bl hx.lt).trans hx
  have HNE : Hid (some bl ≠ (.slice a ks.length c : Value).ownBlock) := fun e => by have := (ho.lt bl e.symm).1; omega
  clear ho hq hx
  generalize hnn : ks.length = n at *
  have HNN := Lib.hid hnn
  clear hnn
  obtain ⟨i0, hi, hz0, hz1, hz2⟩ := info24
  have HI := Lib.hid hi
  have HZ0 := Lib.hid hz0
  have HZ1 := Lib.hid hz1
  have HZ2 := Lib.hid hz2
  clear hi hz0 hz1 hz2
  have HBY : Hid ((n + 1) * 72 ≤ 140737488355328) := by unfold Hid; omega
  have H63 : Hid (n + 1 ≤ maxLen) := by unfold Hid maxLen; omega
  have HD : Hid (Below w.heap.size w w.drew) := (Below.refl _ w).drew
  have hlt1 : (n : Int) < (n : Int) + 1 := by omega
  have hcd : ∀ o, (w.alloc o).cell? ⟨bl, 0, none⟩ = some (.slice a n c) := fun o => cell_allocG hc o
  go_enter Tryd.func125, Tryd.ntmps125
  go_wp2_with fail
  go_region_law (first | (go_simp; go_at_call 63; refine (leaf_any 2 nm tx _).mono ?_; rintro r w1 ⟨rfl, hb1⟩; have hcb1 : w1.cell? ⟨bl, 0, none⟩ = some (.slice a n c) := Boxed.cell (HBX.out _ (by first | exact (HD.out.trans (hb1.mono HD.out.size)) | exact ((HD.out.alloc HD.out.size _).trans (hb1.mono (HD.out.alloc HD.out.size _).size)))); have hcb2 : ∀ o, (w1.alloc o).cell? ⟨bl, 0, none⟩ = some (.slice a n c) := (fun o => cell_allocG hcb1 o)) | (refine step_appR rfl (.tmp 7) (.tmp 12) 44 rfl B 46 i0 _ 5 72 Tryd.underlying44 HI.out HZ0.out HZ1.out HZ2.out rfl (by decide) _ n xs rfl (HO.out _ ((HD.out.trans (hb1.mono HD.out.size)).alloc (HD.out.trans (hb1.mono HD.out.size)).size _)) _ 1 1 zero5 rfl rfl (fun h => by cases h) (new_cells (Below.refl _ _)) (by simp [zero5, Value.oneCell']) H63.out HBY.out (Nat.le_trans hB (Below.size ((HD.out.trans (hb1.mono HD.out.size)).alloc (HD.out.trans (hb1.mono HD.out.size)).size _))) (fun a' c' w' k1 k2 k3 => ?_); obtain ⟨g, rfl, hgB, hgl, hz, hfr⟩ := own_push k1 HXL.out; have z0 : w'.cell? ⟨g, n * 5, none⟩ = some (.int .i64 0) := hz 0 _ rfl; have z1 := hz 1 _ rfl; have z2 := hz 2 _ rfl; have z3 := hz 3 _ rfl; have z4 := hz 4 _ rfl; have hbx : Boxed w' bl 44 (.slice a n c) := Boxed.kept (HBX.out _ ((HD.out.trans (hb1.mono HD.out.size)).alloc (HD.out.trans (hb1.mono HD.out.size)).size _)) k2 HNE.out; have hcb := hbx.cell; have hfb := hbx.frozen; have hg1 : ¬ g = bl := (by omega); have hg2 : ¬ bl = g := (by omega); have HPG := Lib.hid (push_grown ((HD.out.trans (hb1.mono HD.out.size)).alloc (HD.out.trans (hb1.mono HD.out.size)).size _) k2); have HM := Lib.hid (push_moved ((HD.out.trans (hb1.mono HD.out.size)).alloc (HD.out.trans (hb1.mono HD.out.size)).size _) k3); have HPA := Lib.hid (push_A hbl HNN.out HXL.out hB HQ.out HOB.out HPG.out HM.out k1 hbx (HLf.out w') (fun b hb => hb.elim)); have HPB := Lib.hid (push_B hbl HNN.out HXL.out hB HQ.out HOB.out HPG.out HM.out k1 hbx (HLf.out w') (fun b hb => hb.elim)); clear k1 k2 k3 hbx) | (refine step_appR rfl (.tmp 7) (.tmp 12) 44 rfl B 46 i0 _ 5 72 Tryd.underlying44 HI.out HZ0.out HZ1.out HZ2.out rfl (by decide) _ n xs rfl (HO.out _ (HD.out.alloc HD.out.size _)) _ 1 1 zero5 rfl rfl (fun h => by cases h) (new_cells (Below.refl _ _)) (by simp [zero5, Value.oneCell']) H63.out HBY.out (Nat.le_trans hB (Below.size (HD.out.alloc HD.out.size _))) (fun a' c' w' k1 k2 k3 => ?_); obtain ⟨g, rfl, hgB, hgl, hz, hfr⟩ := own_push k1 HXL.out; have z0 : w'.cell? ⟨g, n * 5, none⟩ = some (.int .i64 0) := hz 0 _ rfl; have z1 := hz 1 _ rfl; have z2 := hz 2 _ rfl; have z3 := hz 3 _ rfl; have z4 := hz 4 _ rfl; have hbx : Boxed w' bl 44 (.slice a n c) := Boxed.kept (HBX.out _ (HD.out.alloc HD.out.size _)) k2 HNE.out; have hcb := hbx.cell; have hfb := hbx.frozen; have hg1 : ¬ g = bl := (by omega); have hg2 : ¬ bl = g := (by omega); have HPG := Lib.hid (push_grown (HD.out.alloc HD.out.size _) k2); have HM := Lib.hid (push_moved (HD.out.alloc HD.out.size _) k3); have HPA := Lib.hid (push_A hbl HNN.out HXL.out hB HQ.out HOB.out HPG.out HM.out k1 hbx (HLf.out w') (fun b hb => hb.elim)); have HPB := Lib.hid (push_B hbl HNN.out HXL.out hB HQ.out HOB.out HPG.out HM.out k1 hbx (HLf.out w') (fun b hb => hb.elim)); clear k1 k2 k3 hbx) | (refine step_appR rfl (.tmp 7) (.tmp 12) 44 rfl B 46 i0 _ 5 72 Tryd.underlying44 HI.out HZ0.out HZ1.out HZ2.out rfl (by decide) _ n xs rfl (HO.out _ ((HD.out.alloc HD.out.size _).trans (hb1.mono (HD.out.alloc HD.out.size _).size))) _ 1 1 zero5 rfl rfl (fun h => by cases h) (new_cells (w := w.drew) (cs := zero5) (t := 46) (hb1.mono (Nat.le_of_eq (World.size_alloc _ _).symm))) (by simp [zero5, Value.oneCell']) H63.out HBY.out (Nat.le_trans hB (Below.size ((HD.out.alloc HD.out.size _).trans (hb1.mono (HD.out.alloc HD.out.size _).size)))) (fun a' c' w' k1 k2 k3 => ?_); obtain ⟨g, rfl, hgB, hgl, hz, hfr⟩ := own_push k1 HXL.out; have z0 : w'.cell? ⟨g, n * 5, none⟩ = some (.int .i64 0) := hz 0 _ rfl; have z1 := hz 1 _ rfl; have z2 := hz 2 _ rfl; have z3 := hz 3 _ rfl; have z4 := hz 4 _ rfl; have hbx : Boxed w' bl 44 (.slice a n c) := Boxed.kept (HBX.out _ ((HD.out.alloc HD.out.size _).trans (hb1.mono (HD.out.alloc HD.out.size _).size))) k2 HNE.out; have hcb := hbx.cell; have hfb := hbx.frozen; have hg1 : ¬ g = bl := (by omega); have hg2 : ¬ bl = g := (by omega); have HPG := Lib.hid (push_grown ((HD.out.alloc HD.out.size _).trans (hb1.mono (HD.out.alloc HD.out.size _).size)) k2); have HM := Lib.hid (push_moved ((HD.out.alloc HD.out.size _).trans (hb1.mono (HD.out.alloc HD.out.size _).size)) k3); have HPA := Lib.hid (push_A hbl HNN.out HXL.out hB HQ.out HOB.out HPG.out HM.out k1 hbx (HLf.out w') (fun b hb => hb.elim)); have HPB := Lib.hid (push_B hbl HNN.out HXL.out hB HQ.out HOB.out HPG.out HM.out k1 hbx (HLf.out w') (fun b hb => hb.elim)); clear k1 k2 k3 hbx) | fail)
  all_goals
    go_end0
    refine ⟨⟨_, rfl⟩, ?_⟩
    first | with_reducible exact HPA.out | with_reducible exact HPB.out

theorem sayP_no (bl : Nat) (nm tx : ByteArray) (w : World) (ht : tx.size = 0) :
    Calls Tryd.prog 125 #[.string nm, .string tx, .pointer (some ⟨bl, 0, none⟩)] w fun r w' => (∃ u, r = .returned u) ∧ w = w' := by
  have i1 := emptyB tx ht
  clear ht
  go_enter Tryd.func125, Tryd.ntmps125
  go_wp2_with fail
  go_end0
  exact ⟨⟨_, rfl⟩, rfl⟩
theorem sayP_any (bl B : Nat) (hbl : bl < B) (nm tx : ByteArray) (h1 : nm.size ≤ reachT) (h2 : tx.size ≤ reachT) (v : Value) (ks : List Tr) (hn : ks.length ≤ 1000) (w : World) (hB : B ≤ w.heap.size) (hx : Boxed w bl 44 v) (hr : RowQ w B v ks) :
    Calls Tryd.prog 125 #[.string nm, .string tx, .pointer (some ⟨bl, 0, none⟩)] w fun r w' => PutP bl B (ks ++ sayF nm tx) w r w' := by
  by_cases ht : tx.size = 0
  · unfold sayF
    rw [if_pos ht, List.append_nil]
    refine (sayP_no bl nm tx w ht).mono ?_
    rintro r w' ⟨hu, rfl⟩
    exact ⟨hu, ⟨v, hx, hr⟩, BelowBut.refl _ _ _⟩
  · unfold sayF
    rw [if_neg ht]
    exact sayP_put bl B hbl nm tx h1 h2 v ks hn w hB hx hr ht
end Go.Proofs.YtgechifbbhipaaaDoor
