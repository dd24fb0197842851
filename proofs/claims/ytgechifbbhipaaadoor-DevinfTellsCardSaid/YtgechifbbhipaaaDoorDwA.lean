/- devinf: Elem of a device, the program's. No condition but the tables. -/
import Derived.Test.YtgechifbbhipaaaDoorDwG
set_option linter.unusedVariables false
set_option linter.unusedSimpArgs false
namespace Go.Proofs.YtgechifbbhipaaaDoor
open Go.RowKit

theorem StP.of {bl B : Nat} {W X0 w' : World} {ks' : List Tr} (h0 : BelowBut B bl W X0) (h : (∃ v', Boxed w' bl 44 v' ∧ RowQ w' B v' ks') ∧ BelowBut B bl X0 w') : StP bl B W ks' w' := ⟨h.1, h0.trans h.2⟩
theorem lgL_true : lgL true = [.mk 2 nSupp ByteArray.empty false []] := rfl
set_option maxRecDepth 100000 in
set_option maxHeartbeats 32000000 in
theorem devElem_ok (h : Dh) (ps : List Pl) (ab : Option Addr) (cb : Nat) (w : World) (hT : Lib.Utf8Tabs 2 3 w) (hab : AtPs w w.heap.size ab ps) (hv : devV h ps = 0) :
    Calls Tryd.prog 18 #[.agg (cellsD h ab ps.length cb)] w fun r w' => (∃ v, r = .returned (.tuple #[v, .int .i64 (devV h ps)]) ∧ AtQ w' (fun b => w.heap.size ≤ b ∧ b < w'.heap.size) (elemD h ps) v) ∧ Below w.heap.size w w' := by
  have hE : elemD h ps = .mk 2 nDevInf ByteArray.empty false (devL h ps) := if_pos hv
  rw [hE]
  have cC := Lib.hid (fun X (hX : Below w.heap.size w X) => devCheck_any h ps ab cb X (Utf8Tabs_below hT hX) (hab.below hX |>.mono hX.size))
  rw [hv] at cC ⊢
  obtain ⟨g1, g2, g3, g4, g5, g6, g7⟩ := dev_small hv
  have GP := Lib.hid g2
  have HS := Lib.hid hab
  have r1 : ∀ n : Nat, n ≤ 60 → n ≤ reachT := fun n hn => by unfold reachT; omega
  have SZ0 : Hid (v12.size ≤ reachT) := by unfold Hid; decide
  have SZ1 := Lib.hid (r1 _ g3)
  have SZ2 := Lib.hid (r1 _ g4)
  have SZ3 := Lib.hid (r1 _ g5)
  have SZ4 := Lib.hid (r1 _ g6)
  have SZ5 := Lib.hid (r1 _ g7)
  have HDL : Hid (devL h ps = ((((((([] ++ sayF nVerDTD v12) ++ sayF nMan2 h.man) ++ sayF nMod h.mod) ++ sayF nSwV h.soft) ++ sayF nDevID h.id) ++ sayF nDevTyp h.ty) ++ lgL h.lg) ++ ps.map storeT) := rfl
  clear hE hT hab hv g2 g3 g4 g5 g6 g7 r1
  generalize devL h ps = DL at *
  obtain ⟨man, mod, soft, id, ty, lg⟩ := h
  simp only [cellsD] at cC SZ1 SZ2 SZ3 SZ4 SZ5 HDL ⊢
  obtain ⟨W2, hW2⟩ : ∃ W2, (w.alloc (.cells #[.string man, .string mod, .string soft, .string id, .string ty, .bool lg, .slice ab ps.length cb] 42)).alloc (.cells #[.int .i64 0, .string ⟨#[]⟩, .string ⟨#[]⟩, .bool false, .slice none 0 0] 46) = W2 := ⟨_, rfl⟩
  have hB2 : Below w.heap.size w W2 := by rw [← hW2]; exact ((Below.refl _ w).alloc (Nat.le_refl _) _).alloc (by simp) _
  have hres : W2.heap[w.heap.size + 1]? = some (.cells #[.int .i64 0, .string ⟨#[]⟩, .string ⟨#[]⟩, .bool false, .slice none 0 0] 46 (0, 0)) := by rw [← hW2]; have := World.alloc_heap_new (w.alloc (.cells #[.string man, .string mod, .string soft, .string id, .string ty, .bool lg, .slice ab ps.length cb] 42)) (.cells #[.int .i64 0, .string ⟨#[]⟩, .string ⟨#[]⟩, .bool false, .slice none 0 0] 46); rwa [World.size_alloc] at this
  have hpar : W2.heap[w.heap.size]? = some (.cells #[.string man, .string mod, .string soft, .string id, .string ty, .bool lg, .slice ab ps.length cb] 42 (0, 0)) := by rw [← hW2]; exact (Below.heap_alloc _ _ _ (by simp)).trans (World.alloc_heap_new w _)
  have hZ2 : w.heap.size + 1 + 1 = W2.heap.size := by rw [← hW2]; simp
  have HW2 := Lib.hid hW2
  have HB2 := Lib.hid hB2
  have HR := Lib.hid hres
  have HP := Lib.hid hpar
  have HZ := Lib.hid hZ2
  clear hW2 hB2 hres hZ2 hpar
  have hmf : ∀ (fn : Fn) (first cap : Array Value) (w : World), (Instr.makeFunc fn first cap).run Tryd.prog w = .ok (.func fn first cap) w := fun _ _ _ _ => rfl
  go_enter Tryd.func18, Tryd.ntmps18
  go_wp2_with fail
  rw [HW2.out]
  refine (cC.out _ HB2.out).mono ?_
  rintro r X0 ⟨rfl, hb0⟩
  have hsz0 : w.heap.size + 1 + 1 ≤ X0.heap.size := by have := hb0.size; rw [← HZ.out] at this; exact this
  obtain ⟨W4, hW4⟩ : ∃ W4, X0.alloc (.cells #[.slice none 0 0] 44) = W4 := ⟨_, rfl⟩
  have hb4 : Below X0.heap.size X0 W4 := by rw [← hW4]; exact (Below.refl _ _).alloc (Nat.le_refl _) _
  have HBx4 : Hid (Boxed W4 X0.heap.size 44 (.slice none 0 0)) := by unfold Hid; rw [← hW4]; exact Boxed.new X0 44 _
  have HZl : Hid ((X0.heap.size + 1) ≤ W4.heap.size) := by unfold Hid; rw [← hW4]; simp
  have hres4 : W4.heap[w.heap.size + 1]? = some (.cells #[.int .i64 0, .string ⟨#[]⟩, .string ⟨#[]⟩, .bool false, .slice none 0 0] 46 (0, 0)) := (hb4.block _ (by omega)).trans ((hb0.block _ (by rw [← HZ.out]; omega)).trans HR.out)
  have hpar4 : W4.heap[w.heap.size]? = some (.cells #[.string man, .string mod, .string soft, .string id, .string ty, .bool lg, .slice ab ps.length cb] 42 (0, 0)) := (hb4.block _ (by omega)).trans ((hb0.block _ (by rw [← HZ.out]; omega)).trans HP.out)
  have HBp : Hid (∀ j v, (#[.string man, .string mod, .string soft, .string id, .string ty, .bool lg, .slice ab ps.length cb] : Array Value)[j]? = some v → W4.cell? ⟨w.heap.size, j, none⟩ = some v) := fun j v hv => blk_cell hpar4 j v hv
  have HRes := Lib.hid hres4
  have HB4 := Lib.hid ((HB2.out.trans (hb0.mono HB2.out.size)).trans (hb4.mono (by omega)))
  have HS0 := Lib.hid hsz0
  have HW4 := Lib.hid hW4
  clear hW4 hb4 hres4 hpar4 hb0
  go_wp2_with fail
  rw [HW4.out]
  have H0 : Hid (StP X0.heap.size (X0.heap.size + 1) W4 ([] : List Tr) W4) := ⟨⟨_, HBx4.out, RowQ.nil _ _⟩, BelowBut.refl _ _ _⟩
  have HL0 : Hid (([] : List Tr).length ≤ 0) := by unfold Hid; decide
  refine (H0.out.sayD (Nat.lt_succ_self _) HZl.out (Nat.le_trans HL0.out (by decide)) nVerDTD v12 (by decide) SZ0.out).mono ?_
  rintro r X1 ⟨⟨u, rfl⟩, hst⟩
  have H1 := Lib.hid hst
  clear hst
  have fm := H1.out.old (b := w.heap.size) (by omega) (by omega) (HBp.out 0 _ rfl)
  go_wp2_with fail
  have HL1 : Hid (([] ++ sayF nVerDTD v12).length ≤ 1) := by unfold Hid; have h := HL0.out; have l := sayF_len nVerDTD v12; rw [List.length_append]; omega
  refine (H1.out.sayD (Nat.lt_succ_self _) HZl.out (Nat.le_trans HL1.out (by decide)) nMan2 man (by decide) SZ1.out).mono ?_
  rintro r X2 ⟨⟨u, rfl⟩, hst⟩
  have H2 := Lib.hid hst
  clear hst fm
  have fm := H2.out.old (b := w.heap.size) (by omega) (by omega) (HBp.out 1 _ rfl)
  go_wp2_with fail
  have HL2 : Hid ((([] ++ sayF nVerDTD v12) ++ sayF nMan2 man).length ≤ 2) := by unfold Hid; have h := HL1.out; have l := sayF_len nMan2 man; rw [List.length_append]; omega
  refine (H2.out.sayD (Nat.lt_succ_self _) HZl.out (Nat.le_trans HL2.out (by decide)) nMod mod (by decide) SZ2.out).mono ?_
  rintro r X3 ⟨⟨u, rfl⟩, hst⟩
  have H3 := Lib.hid hst
  clear hst fm
  have fm := H3.out.old (b := w.heap.size) (by omega) (by omega) (HBp.out 2 _ rfl)
  go_wp2_with fail
  have HL3 : Hid (((([] ++ sayF nVerDTD v12) ++ sayF nMan2 man) ++ sayF nMod mod).length ≤ 3) := by unfold Hid; have h := HL2.out; have l := sayF_len nMod mod; rw [List.length_append]; omega
  refine (H3.out.sayD (Nat.lt_succ_self _) HZl.out (Nat.le_trans HL3.out (by decide)) nSwV soft (by decide) SZ3.out).mono ?_
  rintro r X4 ⟨⟨u, rfl⟩, hst⟩
  have H4 := Lib.hid hst
  clear hst fm
  have fm := H4.out.old (b := w.heap.size) (by omega) (by omega) (HBp.out 3 _ rfl)
  go_wp2_with fail
  have HL4 : Hid ((((([] ++ sayF nVerDTD v12) ++ sayF nMan2 man) ++ sayF nMod mod) ++ sayF nSwV soft).length ≤ 4) := by unfold Hid; have h := HL3.out; have l := sayF_len nSwV soft; rw [List.length_append]; omega
  refine (H4.out.sayD (Nat.lt_succ_self _) HZl.out (Nat.le_trans HL4.out (by decide)) nDevID id (by decide) SZ4.out).mono ?_
  rintro r X5 ⟨⟨u, rfl⟩, hst⟩
  have H5 := Lib.hid hst
  clear hst fm
  have fm := H5.out.old (b := w.heap.size) (by omega) (by omega) (HBp.out 4 _ rfl)
  go_wp2_with fail
  have HL5 : Hid (((((([] ++ sayF nVerDTD v12) ++ sayF nMan2 man) ++ sayF nMod mod) ++ sayF nSwV soft) ++ sayF nDevID id).length ≤ 5) := by unfold Hid; have h := HL4.out; have l := sayF_len nDevID id; rw [List.length_append]; omega
  refine (H5.out.sayD (Nat.lt_succ_self _) HZl.out (Nat.le_trans HL5.out (by decide)) nDevTyp ty (by decide) SZ5.out).mono ?_
  rintro r X6 ⟨⟨u, rfl⟩, hst⟩
  have H6 := Lib.hid hst
  clear hst fm
  have HL6 : Hid ((((((([] ++ sayF nVerDTD v12) ++ sayF nMan2 man) ++ sayF nMod mod) ++ sayF nSwV soft) ++ sayF nDevID id) ++ sayF nDevTyp ty).length ≤ 6) := by unfold Hid; have h := HL5.out; have l := sayF_len nDevTyp ty; rw [List.length_append]; omega
  have f5 := H6.out.old (b := w.heap.size) (by omega) (by omega) (HBp.out 5 _ rfl)
  go_upto_if 39 with (fail)
  go_cut [] from 39 to 45 (fun wc => StP X0.heap.size (X0.heap.size + 1) W4 ((((((([] ++ sayF nVerDTD v12) ++ sayF nMan2 man) ++ sayF nMod mod) ++ sayF nSwV soft) ++ sayF nDevID id) ++ sayF nDevTyp ty) ++ lgL lg) wc)
  case first =>
    cases lg with
    | false =>
      have HE : Hid (lgL false = []) := rfl
      go_wp2_with fail
      go_meet
      rw [HE.out, List.append_nil]
      exact H6.out
    | true =>
      have HE : Hid (lgL true = [.mk 2 nSupp ByteArray.empty false []]) := rfl
      go_upto_region 13 with fail
      have HKS := HL6.out
      generalize (((((([] ++ sayF nVerDTD v12) ++ sayF nMan2 man) ++ sayF nMod mod) ++ sayF nSwV soft) ++ sayF nDevID id) ++ sayF nDevTyp ty) = ks at *
      have hks9 : ks.length ≤ 900 := by omega
      obtain ⟨⟨v, hx, hr⟩, hbb⟩ := H6.out
      have HBx : Hid ((X0.heap.size + 1) ≤ X6.heap.size) := Nat.le_trans HZl.out hbb.size
      have hB := HBx.out
      have HBB := Lib.hid hbb
      obtain ⟨xs, ho, hq⟩ := hr
      have hc := hx.cell
      have hf := hx.frozen
      obtain ⟨a, c, rfl⟩ := own_form ho
      have HO : Hid (∀ Y, Below X6.heap.size X6 Y → Y.ownsRow (X0.heap.size + 1) 46 5 (.slice a ks.length c) ks.length xs) := fun Y hY => owns_keep ho (fun k hk => hY.block k (ho.lt k hk).2)
      have HQ := Lib.hid hq
      have HXL := Lib.hid ho.1
      have HOW := Lib.hid (fun b hb => (ho.lt b hb).2)
      have HOB := Lib.hid (fun b hb => (ho.lt b hb).1)
      have HBX : Hid (∀ Y, Below X6.heap.size X6 Y → Boxed Y X0.heap.size 44 (.slice a ks.length c)) := fun Y hY => (hY.block X0.heap.size hx.lt).trans hx
      have HNE : Hid (some X0.heap.size ≠ (.slice a ks.length c : Value).ownBlock) := fun e => by have := (ho.lt X0.heap.size e.symm).1; omega
      clear ho hq hx hbb
      generalize hnn : ks.length = n at *
      have HNN := Lib.hid hnn
      clear hnn
      obtain ⟨i0, hi0, hz0, hz1, hz2⟩ := info24
      have HI := Lib.hid hi0
      have HZ0 := Lib.hid hz0
      have HZ1 := Lib.hid hz1
      have HZ2 := Lib.hid hz2
      clear hi0 hz0 hz1 hz2
      have HBY : Hid ((n + 1) * 72 ≤ 140737488355328) := by unfold Hid; omega
      have H63 : Hid (n + 1 ≤ maxLen) := by unfold Hid maxLen; omega
      have HD : Hid (Below X6.heap.size X6 X6.drew) := (Below.refl _ X6).drew
      have hlt1 : (n : Int) < (n : Int) + 1 := by omega
      have hcd : ∀ o, (X6.alloc o).cell? ⟨X0.heap.size, 0, none⟩ = some (.slice a n c) := fun o => cell_allocG hc o
      clear hks9 HKS f5
      have HKd : Hid (∀ aq cq, (.agg #[.int .i64 (Tr.mk 2 nSupp ByteArray.empty false []).page, .string (Tr.mk 2 nSupp ByteArray.empty false []).name, .string (Tr.mk 2 nSupp ByteArray.empty false []).text, .bool (Tr.mk 2 nSupp ByteArray.empty false []).opq, .slice aq (Tr.mk 2 nSupp ByteArray.empty false []).kids.length cq] : Value) = .agg #[.int .i64 2, .string { data := #[83, 117, 112, 112, 111, 114, 116, 76, 97, 114, 103, 101, 79, 98, 106, 115] }, .string ByteArray.empty, .bool false, .slice aq 0 cq]) := fun _ _ => rfl
      have cS : Hid (∀ Y, Calls Tryd.prog 64 #[.int .i64 2, .string { data := #[83, 117, 112, 112, 111, 114, 116, 76, 97, 114, 103, 101, 79, 98, 106, 115] }, .slice none 0 0] Y fun r w1 => (∃ v1, r = .returned v1 ∧ AtQ w1 (fun b => Y.heap.size ≤ b ∧ b < w1.heap.size) (Tr.mk 2 nSupp ByteArray.empty false []) v1) ∧ Below Y.heap.size Y w1) := fun Y => by
        refine (nodeQ_any (fun _ => False) 2 nSupp (by decide) [] none 0 Y (fun b hb => hb.elim) (by unfold AtLQ; trivial) (by decide) (fun _ => ⟨rfl, rfl⟩)).mono ?_
        rintro r w1 ⟨⟨v1, rfl, hat⟩, hb⟩
        exact ⟨⟨v1, rfl, AtQ.keep (fun b h => ⟨h.resolve_left (fun e => e), rfl⟩) _ _ hat⟩, hb⟩
      go_region_law (first | (go_simp; go_at_call 64; refine (cS.out _).mono ?_; rintro r w1 ⟨⟨v1, rfl, hat1⟩, hb1⟩; obtain ⟨aq, cq, hv1⟩ := hat1.cells5; have hv2 : v1 = .agg #[.int .i64 2, .string { data := #[83, 117, 112, 112, 111, 114, 116, 76, 97, 114, 103, 101, 79, 98, 106, 115] }, .string ByteArray.empty, .bool false, .slice aq 0 cq] := (hv1.trans (HKd.out _ _)); subst hv2; clear hv1; have HAT1 : Hid (AtQ w1 (fun b => X6.heap.size ≤ b ∧ b < w1.heap.size) (Tr.mk 2 nSupp ByteArray.empty false []) (.agg #[.int .i64 2, .string { data := #[83, 117, 112, 112, 111, 114, 116, 76, 97, 114, 103, 101, 79, 98, 106, 115] }, .string ByteArray.empty, .bool false, .slice aq 0 cq])) := AtQ.keep (fun b hb => ⟨⟨Nat.le_trans (by first | exact Nat.le_refl _ | exact (HD.out.alloc HD.out.size _).size) hb.1, hb.2⟩, rfl⟩) _ _ hat1; clear hat1; have hcb1 : w1.cell? ⟨X0.heap.size, 0, none⟩ = some (.slice a n c) := Boxed.cell (HBX.out _ (by first | exact (HD.out.trans (hb1.mono HD.out.size)) | exact ((HD.out.alloc HD.out.size _).trans (hb1.mono (HD.out.alloc HD.out.size _).size)))); have hcb2 : ∀ o, (w1.alloc o).cell? ⟨X0.heap.size, 0, none⟩ = some (.slice a n c) := (fun o => cell_allocG hcb1 o)) | (refine step_appR rfl (.tmp 40) (.tmp 43) 44 rfl (X0.heap.size + 1) 46 i0 _ 5 72 Tryd.underlying44 HI.out HZ0.out HZ1.out HZ2.out rfl (by decide) _ n xs rfl (HO.out _ ((HD.out.trans (hb1.mono HD.out.size)).alloc (HD.out.trans (hb1.mono HD.out.size)).size _)) _ 1 1 zero5 rfl rfl (fun h => by cases h) (new_cells (Below.refl _ _)) (by simp [zero5, Value.oneCell']) H63.out HBY.out (Nat.le_trans hB (Below.size ((HD.out.trans (hb1.mono HD.out.size)).alloc (HD.out.trans (hb1.mono HD.out.size)).size _))) (fun a' c' w' k1 k2 k3 => ?_); obtain ⟨g, rfl, hgB, hgl, hz, hfr⟩ := own_push k1 HXL.out; have z0 : w'.cell? ⟨g, n * 5, none⟩ = some (.int .i64 0) := hz 0 _ rfl; have z1 := hz 1 _ rfl; have z2 := hz 2 _ rfl; have z3 := hz 3 _ rfl; have z4 := hz 4 _ rfl; have hbx : Boxed w' X0.heap.size 44 (.slice a n c) := Boxed.kept (HBX.out _ ((HD.out.trans (hb1.mono HD.out.size)).alloc (HD.out.trans (hb1.mono HD.out.size)).size _)) k2 HNE.out; have hcb := hbx.cell; have hfb := hbx.frozen; have hg1 : ¬ g = X0.heap.size := (by omega); have hg2 : ¬ X0.heap.size = g := (by omega); have HPG := Lib.hid (push_grown ((HD.out.trans (hb1.mono HD.out.size)).alloc (HD.out.trans (hb1.mono HD.out.size)).size _) k2); have HM := Lib.hid (push_moved ((HD.out.trans (hb1.mono HD.out.size)).alloc (HD.out.trans (hb1.mono HD.out.size)).size _) k3); have HKK := dv_kid_keep (w0 := X6) (B := (X0.heap.size + 1)) HAT1.out hB ((Below.refl _ w1).alloc (Nat.le_refl _) _) k2 HOW.out k3; have HPA := Lib.hid (StP.of HBB.out (push_A (Nat.lt_succ_self _) HNN.out HXL.out hB HQ.out HOB.out HPG.out HM.out k1 hbx HKK.1 HKK.2)); have HPB := Lib.hid (StP.of HBB.out (push_B (Nat.lt_succ_self _) HNN.out HXL.out hB HQ.out HOB.out HPG.out HM.out k1 hbx HKK.1 HKK.2)); clear k1 k2 k3 hbx HKK) | (refine step_appR rfl (.tmp 40) (.tmp 43) 44 rfl (X0.heap.size + 1) 46 i0 _ 5 72 Tryd.underlying44 HI.out HZ0.out HZ1.out HZ2.out rfl (by decide) _ n xs rfl (HO.out _ ((HD.out.alloc HD.out.size _).trans (hb1.mono (HD.out.alloc HD.out.size _).size))) _ 1 1 zero5 rfl rfl (fun h => by cases h) (new_cells (w := X6.drew) (cs := zero5) (t := 46) (hb1.mono (Nat.le_of_eq (World.size_alloc _ _).symm))) (by simp [zero5, Value.oneCell']) H63.out HBY.out (Nat.le_trans hB (Below.size ((HD.out.alloc HD.out.size _).trans (hb1.mono (HD.out.alloc HD.out.size _).size)))) (fun a' c' w' k1 k2 k3 => ?_); obtain ⟨g, rfl, hgB, hgl, hz, hfr⟩ := own_push k1 HXL.out; have z0 : w'.cell? ⟨g, n * 5, none⟩ = some (.int .i64 0) := hz 0 _ rfl; have z1 := hz 1 _ rfl; have z2 := hz 2 _ rfl; have z3 := hz 3 _ rfl; have z4 := hz 4 _ rfl; have hbx : Boxed w' X0.heap.size 44 (.slice a n c) := Boxed.kept (HBX.out _ ((HD.out.alloc HD.out.size _).trans (hb1.mono (HD.out.alloc HD.out.size _).size))) k2 HNE.out; have hcb := hbx.cell; have hfb := hbx.frozen; have hg1 : ¬ g = X0.heap.size := (by omega); have hg2 : ¬ X0.heap.size = g := (by omega); have HPG := Lib.hid (push_grown ((HD.out.alloc HD.out.size _).trans (hb1.mono (HD.out.alloc HD.out.size _).size)) k2); have HM := Lib.hid (push_moved ((HD.out.alloc HD.out.size _).trans (hb1.mono (HD.out.alloc HD.out.size _).size)) k3); have HKK := dv_kid_keep (w0 := X6) (B := (X0.heap.size + 1)) HAT1.out hB (Below.refl _ _) k2 HOW.out k3; have HPA := Lib.hid (StP.of HBB.out (push_A (Nat.lt_succ_self _) HNN.out HXL.out hB HQ.out HOB.out HPG.out HM.out k1 hbx HKK.1 HKK.2)); have HPB := Lib.hid (StP.of HBB.out (push_B (Nat.lt_succ_self _) HNN.out HXL.out hB HQ.out HOB.out HPG.out HM.out k1 hbx HKK.1 HKK.2)); clear k1 k2 k3 hbx HKK) | fail)
      all_goals
        go_wp2_with fail
        go_meet
        rw [HE.out]
        first | with_reducible exact HPA.out | with_reducible exact HPB.out
  case rest =>
    have H7 : Hid (StP X0.heap.size (X0.heap.size + 1) W4 ((((((([] ++ sayF nVerDTD v12) ++ sayF nMan2 man) ++ sayF nMod mod) ++ sayF nSwV soft) ++ sayF nDevID id) ++ sayF nDevTyp ty) ++ lgL lg) wc) := hcut
    have HL7 : Hid (((((((([] ++ sayF nVerDTD v12) ++ sayF nMan2 man) ++ sayF nMod mod) ++ sayF nSwV soft) ++ sayF nDevID id) ++ sayF nDevTyp ty) ++ lgL lg).length ≤ 7) := by unfold Hid; have h := HL6.out; have l : (lgL lg).length ≤ 1 := (by cases lg <;> decide); rw [List.length_append]; omega
    clear hcut f5
    obtain ⟨X7, hX7⟩ : ∃ X7, X7 = wc := ⟨_, rfl⟩
    subst hX7
    have f6 := H7.out.old (b := w.heap.size) (by omega) (by omega) (HBp.out 6 _ rfl)
    go_wp2_with fail
    go_loopw [8, 49] (fun _ iv wr => ∃ i : Nat, i ≤ ps.length ∧ iv = .int .i64 (i : Int) ∧ Hid (StP X0.heap.size (X0.heap.size + 1) W4 (((((((([] ++ sayF nVerDTD v12) ++ sayF nMan2 man) ++ sayF nMod mod) ++ sayF nSwV soft) ++ sayF nDevID id) ++ sayF nDevTyp ty) ++ lgL lg) ++ (ps.take i).map storeT) wr)) (fun _ iv _ => ps.length - (intOf iv).toNat)
    case atStart => exact ⟨0, Nat.zero_le _, rfl, by rw [List.take_zero, List.map_nil, List.append_nil]; exact H7.out⟩
    case round =>
      obtain ⟨i, hi, rfl, HSt⟩ := hrel
      clear f6
      have hsz4 := HS0.out
      have HBw : Hid (Below w.heap.size w wr) := HB4.out.trans (HSt.out.2.below (by omega) (by omega))
      by_cases hlt : i < ps.length
      · obtain ⟨b, o, a1, c1, a2, c2, a3, c3, rfl, hbl, hc0, hat⟩ := HS.out.at i hlt
        have k0 : (0 : Int) ≤ (i : Int) := by omega
        have k1 : (i : Int) < (ps.length : Int) := by omega
        have k2 : decide (i < ps.length) = true := by simp; omega
        have hc : wr.rangeAt b (o + i * 6) (cellsP ps[i] a1 c1 a2 c2 a3 c3).toList := fun j u hu => (HBw.out.cell (p := ⟨b, o + i * 6 + j, none⟩) hbl).trans (hc0 j u hu)
        obtain ⟨c00, c01, c02, c03, c04, c05⟩ := cells6 hc
        obtain ⟨⟨q1, q1'⟩, q2, ⟨q3, q4⟩, ⟨q5, q6⟩, q7⟩ := place_small (GP.out _ (List.getElem_mem hlt))
        have HTK : Hid ((ps.take (i + 1)).map storeT = (ps.take i).map storeT ++ [storeT ps[i]]) := by unfold Hid; rw [List.take_succ_eq_append_getElem hlt, List.map_append]; rfl
        have HLL : Hid ((((((((([] ++ sayF nVerDTD v12) ++ sayF nMan2 man) ++ sayF nMod mod) ++ sayF nSwV soft) ++ sayF nDevID id) ++ sayF nDevTyp ty) ++ lgL lg) ++ (ps.take i).map storeT).length ≤ 20) := by unfold Hid; have := HL7.out; rw [List.length_append, List.length_map, List.length_take]; omega
        have rr : ∀ n : Nat, n ≤ 60 → n ≤ reachT := fun n hn => by unfold reachT; omega
        have cS := Lib.hid (fun Y (hY : Below w.heap.size w Y) => store_any ps[i] (cellsP ps[i] a1 c1 a2 c2 a3 c3) (rr _ q1) (rr _ q2) (fun f hf => ⟨rr _ (q4 f hf).1.1, rr _ (q4 f hf).2.1⟩) (fun f hf => ⟨rr _ (q6 f hf).1.1, rr _ (q6 f hf).2.1⟩) (by omega) (by omega) (by omega) Y ((hat.below hY).mono hY.size))
        have HKN : Hid ((storeT ps[i]).page = 2 ∧ (storeT ps[i]).name = nDataStore ∧ (storeT ps[i]).text = ByteArray.empty ∧ (storeT ps[i]).opq = false) := ⟨rfl, rfl, rfl, rfl⟩
        clear hc0 hc hbl hat q1 q1' q2 q3 q4 q5 q6 q7 rr
        generalize storeT ps[i] = ST at *
        generalize ps[i] = x at *
        obtain ⟨rf, nm, mx, tk, gv, kd⟩ := x
        simp only [cellsP] at c00 c01 c02 c03 c04 c05 cS
        have HW1 : Hid (wrap64 ((i : Int) + 1) = (i : Int) + 1) := by unfold Hid wrap64; omega
        obtain ⟨K, hK⟩ : ∃ K, ST.kids.length = K := ⟨_, rfl⟩
        have HKd : Hid (∀ aq cq, (.agg #[.int .i64 ST.page, .string ST.name, .string ST.text, .bool ST.opq, .slice aq ST.kids.length cq] : Value) = .agg #[.int .i64 2, .string { data := #[68, 97, 116, 97, 83, 116, 111, 114, 101] }, .string ByteArray.empty, .bool false, .slice aq K cq]) := fun aq cq => by rw [HKN.out.1, HKN.out.2.1, HKN.out.2.2.1, HKN.out.2.2.2, hK]; rfl
        clear hK
        go_upto_region 17 with fail
        obtain ⟨X8, hX8⟩ : ∃ X8, wr.alloc (.cells #[.string rf, .string nm, .int .i64 mx, .slice a1 tk.length c1, .slice a2 gv.length c2, .slice a3 kd.length c3] 87) = X8 := ⟨_, rfl⟩
        rw [hX8]
        have hb8 : Below wr.heap.size wr X8 := by rw [← hX8]; exact (Below.refl _ _).alloc (Nat.le_refl _) _
        have hz8 : X8.heap[wr.heap.size]? = some (.cells #[.string rf, .string nm, .int .i64 mx, .slice a1 tk.length c1, .slice a2 gv.length c2, .slice a3 kd.length c3] 87 (0, 0)) := by rw [← hX8]; exact World.alloc_heap_new _ _
        have HS8 : Hid (StP X0.heap.size (X0.heap.size + 1) W4 (((((((([] ++ sayF nVerDTD v12) ++ sayF nMan2 man) ++ sayF nMod mod) ++ sayF nSwV soft) ++ sayF nDevID id) ++ sayF nDevTyp ty) ++ lgL lg) ++ (ps.take i).map storeT) X8) := HSt.out.below (Nat.le_trans HZl.out HSt.out.2.size) hb8
        have HBw8 : Hid (Below w.heap.size w X8) := HBw.out.trans (hb8.mono HBw.out.size)
        have d0 := blk_cell hz8 0 _ rfl; have d1 := blk_cell hz8 1 _ rfl; have d2 := blk_cell hz8 2 _ rfl; have d3 := blk_cell hz8 3 _ rfl; have d4 := blk_cell hz8 4 _ rfl; have d5 := blk_cell hz8 5 _ rfl
        have o0 : ∀ oo, (X8.alloc oo).cell? ⟨wr.heap.size, 0, none⟩ = _ := fun oo => cell_allocG d0 oo; have o1 : ∀ oo, (X8.alloc oo).cell? ⟨wr.heap.size, 1, none⟩ = _ := fun oo => cell_allocG d1 oo; have o2 : ∀ oo, (X8.alloc oo).cell? ⟨wr.heap.size, 2, none⟩ = _ := fun oo => cell_allocG d2 oo; have o3 : ∀ oo, (X8.alloc oo).cell? ⟨wr.heap.size, 3, none⟩ = _ := fun oo => cell_allocG d3 oo; have o4 : ∀ oo, (X8.alloc oo).cell? ⟨wr.heap.size, 4, none⟩ = _ := fun oo => cell_allocG d4 oo; have o5 : ∀ oo, (X8.alloc oo).cell? ⟨wr.heap.size, 5, none⟩ = _ := fun oo => cell_allocG d5 oo
        clear hX8 hb8 hz8 c00 c01 c02 c03 c04 c05 HSt HBw
        generalize wr.heap.size = g8 at *
        have HKS := HLL.out
        generalize hksl : ((((((([] ++ sayF nVerDTD v12) ++ sayF nMan2 man) ++ sayF nMod mod) ++ sayF nSwV soft) ++ sayF nDevID id) ++ sayF nDevTyp ty) ++ lgL lg) ++ (ps.take i).map storeT = ks at *
        have HKSL := Lib.hid hksl
        have hks9 : ks.length ≤ 900 := by omega
        clear hksl
        obtain ⟨⟨v, hx, hr⟩, hbb⟩ := HS8.out
        have HBx : Hid ((X0.heap.size + 1) ≤ X8.heap.size) := Nat.le_trans HZl.out hbb.size
        have hB := HBx.out
        have HBB := Lib.hid hbb
        obtain ⟨xs, ho, hq⟩ := hr
        have hc := hx.cell
        have hf := hx.frozen
        obtain ⟨a, c, rfl⟩ := own_form ho
        have HO : Hid (∀ Y, Below X8.heap.size X8 Y → Y.ownsRow (X0.heap.size + 1) 46 5 (.slice a ks.length c) ks.length xs) := fun Y hY => owns_keep ho (fun k hk => hY.block k (ho.lt k hk).2)
        have HQ := Lib.hid hq
        have HXL := Lib.hid ho.1
        have HOW := Lib.hid (fun b hb => (ho.lt b hb).2)
        have HOB := Lib.hid (fun b hb => (ho.lt b hb).1)
        have HBX : Hid (∀ Y, Below X8.heap.size X8 Y → Boxed Y X0.heap.size 44 (.slice a ks.length c)) := fun Y hY => (hY.block X0.heap.size hx.lt).trans hx
        have HNE : Hid (some X0.heap.size ≠ (.slice a ks.length c : Value).ownBlock) := fun e => by have := (ho.lt X0.heap.size e.symm).1; omega
        clear ho hq hx hbb
        generalize hnn : ks.length = n at *
        have HNN := Lib.hid hnn
        clear hnn
        obtain ⟨i0, hi0, hz0, hz1, hz2⟩ := info24
        have HI := Lib.hid hi0
        have HZ0 := Lib.hid hz0
        have HZ1 := Lib.hid hz1
        have HZ2 := Lib.hid hz2
        clear hi0 hz0 hz1 hz2
        have HBY : Hid ((n + 1) * 72 ≤ 140737488355328) := by unfold Hid; omega
        have H63 : Hid (n + 1 ≤ maxLen) := by unfold Hid maxLen; omega
        have HD : Hid (Below X8.heap.size X8 X8.drew) := (Below.refl _ X8).drew
        have hlt1 : (n : Int) < (n : Int) + 1 := by omega
        have hcd : ∀ o, (X8.alloc o).cell? ⟨X0.heap.size, 0, none⟩ = some (.slice a n c) := fun o => cell_allocG hc o
        have HBd : Hid (Below w.heap.size w X8.drew) := HBw8.out.drew
        have HBe : Hid (∀ oo, Below w.heap.size w (X8.drew.alloc oo)) := fun oo => HBd.out.alloc HBd.out.size oo
        clear hks9 HKS hsz4
        go_region_law (first | (go_simp; go_at_call 65; (first | refine (cS.out _ HBd.out).mono ?_ | refine (cS.out _ (HBe.out _)).mono ?_); rintro r w1 ⟨⟨v1, rfl, hat1⟩, hb1⟩; obtain ⟨aq, cq, hv1⟩ := hat1.cells5; have hv2 : v1 = .agg #[.int .i64 2, .string { data := #[68, 97, 116, 97, 83, 116, 111, 114, 101] }, .string ByteArray.empty, .bool false, .slice aq K cq] := (hv1.trans (HKd.out _ _)); subst hv2; clear hv1; have HAT1 : Hid (AtQ w1 (fun b => X8.heap.size ≤ b ∧ b < w1.heap.size) ST (.agg #[.int .i64 2, .string { data := #[68, 97, 116, 97, 83, 116, 111, 114, 101] }, .string ByteArray.empty, .bool false, .slice aq K cq])) := AtQ.keep (fun b hb => ⟨⟨Nat.le_trans (by first | exact Nat.le_refl _ | exact (HD.out.alloc HD.out.size _).size) hb.1, hb.2⟩, rfl⟩) _ _ hat1; clear hat1; have hcb1 : w1.cell? ⟨X0.heap.size, 0, none⟩ = some (.slice a n c) := Boxed.cell (HBX.out _ (by first | exact (HD.out.trans (hb1.mono HD.out.size)) | exact ((HD.out.alloc HD.out.size _).trans (hb1.mono (HD.out.alloc HD.out.size _).size)))); have hcb2 : ∀ o, (w1.alloc o).cell? ⟨X0.heap.size, 0, none⟩ = some (.slice a n c) := (fun o => cell_allocG hcb1 o)) | (refine step_appR rfl (.tmp 53) (.tmp 57) 44 rfl (X0.heap.size + 1) 46 i0 _ 5 72 Tryd.underlying44 HI.out HZ0.out HZ1.out HZ2.out rfl (by decide) _ n xs rfl (HO.out _ ((HD.out.trans (hb1.mono HD.out.size)).alloc (HD.out.trans (hb1.mono HD.out.size)).size _)) _ 1 1 zero5 rfl rfl (fun h => by cases h) (new_cells (Below.refl _ _)) (by simp [zero5, Value.oneCell']) H63.out HBY.out (Nat.le_trans hB (Below.size ((HD.out.trans (hb1.mono HD.out.size)).alloc (HD.out.trans (hb1.mono HD.out.size)).size _))) (fun a' c' w' k1 k2 k3 => ?_); obtain ⟨g, rfl, hgB, hgl, hz, hfr⟩ := own_push k1 HXL.out; have z0 : w'.cell? ⟨g, n * 5, none⟩ = some (.int .i64 0) := hz 0 _ rfl; have z1 := hz 1 _ rfl; have z2 := hz 2 _ rfl; have z3 := hz 3 _ rfl; have z4 := hz 4 _ rfl; have hbx : Boxed w' X0.heap.size 44 (.slice a n c) := Boxed.kept (HBX.out _ ((HD.out.trans (hb1.mono HD.out.size)).alloc (HD.out.trans (hb1.mono HD.out.size)).size _)) k2 HNE.out; have hcb := hbx.cell; have hfb := hbx.frozen; have hg1 : ¬ g = X0.heap.size := (by omega); have hg2 : ¬ X0.heap.size = g := (by omega); have HPG := Lib.hid (push_grown ((HD.out.trans (hb1.mono HD.out.size)).alloc (HD.out.trans (hb1.mono HD.out.size)).size _) k2); have HM := Lib.hid (push_moved ((HD.out.trans (hb1.mono HD.out.size)).alloc (HD.out.trans (hb1.mono HD.out.size)).size _) k3); have HKK := dv_kid_keep (w0 := X8) (B := (X0.heap.size + 1)) HAT1.out hB ((Below.refl _ w1).alloc (Nat.le_refl _) _) k2 HOW.out k3; have HPA := Lib.hid (StP.of HBB.out (push_A (Nat.lt_succ_self _) HNN.out HXL.out hB HQ.out HOB.out HPG.out HM.out k1 hbx HKK.1 HKK.2)); have HPB := Lib.hid (StP.of HBB.out (push_B (Nat.lt_succ_self _) HNN.out HXL.out hB HQ.out HOB.out HPG.out HM.out k1 hbx HKK.1 HKK.2)); clear k1 k2 k3 hbx HKK) | (refine step_appR rfl (.tmp 53) (.tmp 57) 44 rfl (X0.heap.size + 1) 46 i0 _ 5 72 Tryd.underlying44 HI.out HZ0.out HZ1.out HZ2.out rfl (by decide) _ n xs rfl (HO.out _ ((HD.out.alloc HD.out.size _).trans (hb1.mono (HD.out.alloc HD.out.size _).size))) _ 1 1 zero5 rfl rfl (fun h => by cases h) (new_cells (w := X8.drew) (cs := zero5) (t := 46) (hb1.mono (Nat.le_of_eq (World.size_alloc _ _).symm))) (by simp [zero5, Value.oneCell']) H63.out HBY.out (Nat.le_trans hB (Below.size ((HD.out.alloc HD.out.size _).trans (hb1.mono (HD.out.alloc HD.out.size _).size)))) (fun a' c' w' k1 k2 k3 => ?_); obtain ⟨g, rfl, hgB, hgl, hz, hfr⟩ := own_push k1 HXL.out; have z0 : w'.cell? ⟨g, n * 5, none⟩ = some (.int .i64 0) := hz 0 _ rfl; have z1 := hz 1 _ rfl; have z2 := hz 2 _ rfl; have z3 := hz 3 _ rfl; have z4 := hz 4 _ rfl; have hbx : Boxed w' X0.heap.size 44 (.slice a n c) := Boxed.kept (HBX.out _ ((HD.out.alloc HD.out.size _).trans (hb1.mono (HD.out.alloc HD.out.size _).size))) k2 HNE.out; have hcb := hbx.cell; have hfb := hbx.frozen; have hg1 : ¬ g = X0.heap.size := (by omega); have hg2 : ¬ X0.heap.size = g := (by omega); have HPG := Lib.hid (push_grown ((HD.out.alloc HD.out.size _).trans (hb1.mono (HD.out.alloc HD.out.size _).size)) k2); have HM := Lib.hid (push_moved ((HD.out.alloc HD.out.size _).trans (hb1.mono (HD.out.alloc HD.out.size _).size)) k3); have HKK := dv_kid_keep (w0 := X8) (B := (X0.heap.size + 1)) HAT1.out hB (Below.refl _ _) k2 HOW.out k3; have HPA := Lib.hid (StP.of HBB.out (push_A (Nat.lt_succ_self _) HNN.out HXL.out hB HQ.out HOB.out HPG.out HM.out k1 hbx HKK.1 HKK.2)); have HPB := Lib.hid (StP.of HBB.out (push_B (Nat.lt_succ_self _) HNN.out HXL.out hB HQ.out HOB.out HPG.out HM.out k1 hbx HKK.1 HKK.2)); clear k1 k2 k3 hbx HKK) | fail)
        all_goals
          go_wp2_with fail
          go_roundw
          case rel => exact ⟨i + 1, by omega, by go_num, by rw [HTK.out, ← List.append_assoc, HKSL.out]; first | with_reducible exact HPA | with_reducible exact HPB⟩
          case measure => simp [intOf]; omega
      · have k1 : ¬ (i : Int) < (ps.length : Int) := by omega
        have k2 : decide (i < ps.length) = false := by simp; omega
        have hti : ps.take i = ps := List.take_of_length_le (by omega)
        rw [hti] at HSt
        clear hti
        have HLL : Hid ((((((((([] ++ sayF nVerDTD v12) ++ sayF nMan2 man) ++ sayF nMod mod) ++ sayF nSwV soft) ++ sayF nDevID id) ++ sayF nDevTyp ty) ++ lgL lg) ++ ps.map storeT).length ≤ 20) := by unfold Hid; have := HL7.out; rw [List.length_append, List.length_map]; omega
        have HDL2 : Hid (DL = ((((((([] ++ sayF nVerDTD v12) ++ sayF nMan2 man) ++ sayF nMod mod) ++ sayF nSwV soft) ++ sayF nDevID id) ++ sayF nDevTyp ty) ++ lgL lg) ++ ps.map storeT) := HDL.out
        generalize ((((((([] ++ sayF nVerDTD v12) ++ sayF nMan2 man) ++ sayF nMod mod) ++ sayF nSwV soft) ++ sayF nDevID id) ++ sayF nDevTyp ty) ++ lgL lg) ++ ps.map storeT = ksl at *
        obtain ⟨⟨v, hx, hr⟩, hbb⟩ := HSt.out
        have hr2 := hr
        obtain ⟨xs, ho, _⟩ := hr2
        obtain ⟨a, c, rfl⟩ := own_form ho
        have HRr : Hid (RowQ wr (X0.heap.size + 1) (.slice a ksl.length c) ksl) := hr
        have hll := HLL.out
        have fl := hx.cell
        have hres5 : wr.heap[w.heap.size + 1]? = some (.cells #[.int .i64 0, .string ⟨#[]⟩, .string ⟨#[]⟩, .bool false, .slice none 0 0] 46 (0, 0)) := (hbb.block (w.heap.size + 1) (by omega) (by omega)).trans HRes.out
        have HR5 := Lib.hid hres5
        have HBz : Hid ((X0.heap.size + 1) ≤ wr.heap.size) := Nat.le_trans HZl.out hbb.size
        generalize hnl : ksl.length = nl at *
        have HNL := Lib.hid hnl
        have HN9 : Hid (nl ≤ 1000000) := by unfold Hid; omega
        clear hnl ho hr hx hbb hres5 hll HSt
        have cN := Lib.hid (node_row 2 nDevInf (by decide) wr HRr.out HNL.out HN9.out HBz.out)
        have HEq : Hid (Tr.mk 2 nDevInf ByteArray.empty false ksl = Tr.mk 2 nDevInf ByteArray.empty false DL) := by unfold Hid; rw [HDL2.out]
        rw [HEq.out] at cN
        generalize hRT : Tr.mk 2 nDevInf ByteArray.empty false DL = RT at *
        have HRT := Lib.hid hRT
        clear hRT
        unfold nDevInf at cN
        go_wp2_with (go_at_call 64; (with_reducible refine cN.out.mono ?_); rintro r w5 ⟨⟨a7, c7, rfl, hat⟩, hb5⟩; have HAT7 := Lib.hid hat; have HB5 := Lib.hid hb5; have hz5 : w5.heap[w.heap.size + 1]? = some (.cells #[.int .i64 0, .string ⟨#[]⟩, .string ⟨#[]⟩, .bool false, .slice none 0 0] 46 (0, 0)) := (hb5.block _ (show w.heap.size + 1 < wr.heap.size by have := HBz.out; omega)).trans HR5.out; have HZ5 := Lib.hid hz5; obtain ⟨hcs, hfz⟩ := dv_cells_of hz5; have u0 := hcs 0 _ rfl; have u1 := hcs 1 _ rfl; have u2 := hcs 2 _ rfl; have u3 := hcs 3 _ rfl; have u4 := hcs 4 _ rfl; clear hcs hz5 hb5 hat)
        have hfin := dv_stored_at (w := w) (w2 := w5) (g := w.heap.size + 1) (HBw.out.trans (HB5.out.mono HBw.out.size)) (Nat.le_succ _) HAT7.out (fun b hb => by omega)
        refine bodyPost_ret (dv_results_row_tmp rfl rfl rfl (run_loadVar_row _ (w.heap.size + 1) 46 46 #[.int .i64 2, .string { data := #[68, 101, 118, 73, 110, 102] }, .string ByteArray.empty, .bool false, .slice a7 nl c7] (0, 0) _ (dv_set5_row HZ5.out) Tryd.underlying46 rfl (by kernel_rfl))) rfl ?_
        exact ⟨⟨_, rfl, by rw [HRT.out]; exact hfin.1⟩, hfin.2⟩
/-- what the program's Elem does of a device that is right -/
theorem elemOk : ElemOk := fun h ps ab cb w hT hab hv => devElem_ok h ps ab cb w hT hab hv
end Go.Proofs.YtgechifbbhipaaaDoor
