/- devinf: Elem of a device, the reference's. No condition. -/
import Derived.Test.YtgechifbbhipaaaDoorDwC
import Derived.Test.YtgechifbbhipaaaDoorDwP
import Derived.Test.YtgechifbbhipaaaDoorRefText
set_option linter.unusedVariables false
set_option linter.unusedSimpArgs false
namespace Go.Proofs.YtgechifbbhipaaaDoor
open Go.RowKit

/-- three cells that stay, below Bq -/
abbrev SK3 (b : Nat) (u v x : Value) (Bq : Nat) (X : World) : Prop := X.cell? ⟨b, 0, none⟩ = some u ∧ X.cell? ⟨b, 1, none⟩ = some v ∧ X.cell? ⟨b, 2, none⟩ = some x ∧ Bq ≤ X.heap.size
theorem SK3.bel {b Bq : Nat} {u v x : Value} {X Y : World} (h : SK3 b u v x Bq X) (hb : b < Bq) (hX : Below Bq X Y) : SK3 b u v x Bq Y :=
  ⟨(hX.cell (p := ⟨b, 0, none⟩) hb).trans h.1, (hX.cell (p := ⟨b, 1, none⟩) hb).trans h.2.1, (hX.cell (p := ⟨b, 2, none⟩) hb).trans h.2.2.1, Nat.le_trans h.2.2.2 hX.size⟩
theorem sayF_app (ks : List Tr) (nm tx : ByteArray) : (ks ++ sayF nm tx).length ≤ ks.length + 1 := by rw [List.length_append]; have := sayF_len nm tx; omega
theorem RowQ.len1 {w : World} {Bq n : Nat} {v : Value} {ks : List Tr} {nm tx : ByteArray} (_ : RowQ w Bq v (ks ++ sayF nm tx)) (hk : ks.length ≤ n) : (ks ++ sayF nm tx).length ≤ n + 1 := Nat.le_trans (sayF_app _ _ _) (Nat.succ_le_succ hk)
set_option maxRecDepth 100000 in
set_option maxHeartbeats 8000000 in
theorem refElem_bad (h : Dh) (ps : List Pl) (ab : Option Addr) (cb : Nat) (w : World) (hab : AtPs w w.heap.size ab ps) (hv : devV h ps ≠ 0) :
    Calls Tryd.prog 19 #[.agg (cellsD h ab ps.length cb)] w fun r w' => (∃ v, r = .returned (.tuple #[v, .int .i64 (devV h ps)]) ∧ AtQ w' (fun b => w.heap.size ≤ b ∧ b < w'.heap.size) (elemD h ps) v) ∧ Below w.heap.size w w' := by
  have hE : elemD h ps = .mk 0 ⟨#[]⟩ ⟨#[]⟩ false [] := if_neg hv
  rw [hE]
  have cC := Lib.hid (fun X (hX : Below w.heap.size w X) => refDevCheck_any h ps ab cb X (hab.below hX |>.mono hX.size))
  clear hE hab
  generalize devV h ps = q at *
  obtain ⟨man, mod, soft, id, ty, lg⟩ := h
  simp only [cellsD] at cC ⊢
  obtain ⟨W2, hW2⟩ : ∃ W2, (w.alloc (.cells #[.string man, .string mod, .string soft, .string id, .string ty, .bool lg, .slice ab ps.length cb] 42)).alloc (.cells #[.int .i64 0, .string ⟨#[]⟩, .string ⟨#[]⟩, .bool false, .slice none 0 0] 46) = W2 := ⟨_, rfl⟩
  have hB2 : Below w.heap.size w W2 := by rw [← hW2]; exact ((Below.refl _ w).alloc (Nat.le_refl _) _).alloc (by simp) _
  have hres : W2.heap[w.heap.size + 1]? = some (.cells #[.int .i64 0, .string ⟨#[]⟩, .string ⟨#[]⟩, .bool false, .slice none 0 0] 46 (0, 0)) := by rw [← hW2]; have := World.alloc_heap_new (w.alloc (.cells #[.string man, .string mod, .string soft, .string id, .string ty, .bool lg, .slice ab ps.length cb] 42)) (.cells #[.int .i64 0, .string ⟨#[]⟩, .string ⟨#[]⟩, .bool false, .slice none 0 0] 46); rwa [World.size_alloc] at this
  have hZ2 : w.heap.size + 1 < W2.heap.size := by rw [← hW2]; simp
  have HW2 := Lib.hid hW2
  have HB2 := Lib.hid hB2
  have HR := Lib.hid hres
  have HZ := Lib.hid hZ2
  have hq : (q != 0) = true := by simpa using hv
  clear hW2 hB2 hres hZ2
  go_enter Tryd.func19, Tryd.ntmps19
  go_wp2_with fail
  rw [HW2.out]
  refine (cC.out _ HB2.out).mono ?_
  rintro r X0 ⟨rfl, hb0⟩
  have hz0 : X0.heap[w.heap.size + 1]? = some (.cells #[.int .i64 0, .string ⟨#[]⟩, .string ⟨#[]⟩, .bool false, .slice none 0 0] 46 (0, 0)) := (hb0.block _ HZ.out).trans HR.out
  obtain ⟨hcs, hfz⟩ := dv_cells_of hz0
  have u0 := hcs 0 _ rfl
  have u1 := hcs 1 _ rfl
  have u2 := hcs 2 _ rfl
  have u3 := hcs 3 _ rfl
  have u4 := hcs 4 _ rfl
  have HZ0 := Lib.hid hz0
  have HB0 := Lib.hid (HB2.out.trans (hb0.mono HB2.out.size))
  clear hcs hz0 hb0
  go_wp2_with fail
  have hfin := dv_stored_at (w := w) (w2 := X0) (g := w.heap.size + 1) (P := fun _ => False) (c0 := .int .i64 0) (c1 := .string ⟨#[]⟩) (c2 := .string ⟨#[]⟩) (c3 := .bool false) (c4 := .slice none 0 0) HB0.out (Nat.le_succ _) (AtQ.leaf (p := 0) (nm := ⟨#[]⟩) (tx := ⟨#[]⟩) (by decide) (by decide)) (fun b hb => hb.elim)
  refine bodyPost_ret (dv_results_row_tmp rfl rfl rfl (run_loadVar_row _ (w.heap.size + 1) 46 46 #[.int .i64 0, .string ⟨#[]⟩, .string ⟨#[]⟩, .bool false, .slice none 0 0] (0, 0) _ (dv_set5_row HZ0.out) Tryd.underlying46 rfl (by kernel_rfl))) rfl ?_
  exact ⟨⟨_, rfl, hfin.1⟩, hfin.2⟩
set_option maxRecDepth 100000 in
set_option maxHeartbeats 32000000 in
theorem refElem_ok (h : Dh) (ps : List Pl) (ab : Option Addr) (cb : Nat) (w : World) (hab : AtPs w w.heap.size ab ps) (hv : devV h ps = 0) :
    Calls Tryd.prog 19 #[.agg (cellsD h ab ps.length cb)] w fun r w' => (∃ v, r = .returned (.tuple #[v, .int .i64 (devV h ps)]) ∧ AtQ w' (fun b => w.heap.size ≤ b ∧ b < w'.heap.size) (elemD h ps) v) ∧ Below w.heap.size w w' := by
  have hE : elemD h ps = .mk 2 nDevInf ByteArray.empty false (devL h ps) := if_pos hv
  rw [hE]
  have cC := Lib.hid (fun X (hX : Below w.heap.size w X) => refDevCheck_any h ps ab cb X (hab.below hX |>.mono hX.size))
  rw [hv] at cC ⊢
  obtain ⟨g1, g2, g3, g4, g5, g6, g7⟩ := dev_small hv
  have GP := Lib.hid g2
  have HS := Lib.hid hab
  have r1 : ∀ n : Nat, n ≤ 60 → n ≤ reachT := fun n hn => by unfold reachT; omega
  have SZ0 : Hid (v12.size ≤ reachT) := by unfold Hid; decide
  have SZ1 := Lib.hid (r1 _ g3)
  have SZ2 := Lib.hid (r1 _ g4)
  have SZ3 := Lib.hid (r1 _ g5)
  have SZ4 := Lib.hid (r1 _ g6)
  have SZ5 := Lib.hid (r1 _ g7)
  have HDL : Hid (devL h ps = ((((((([] ++ sayF nVerDTD v12) ++ sayF nMan2 h.man) ++ sayF nMod h.mod) ++ sayF nSwV h.soft) ++ sayF nDevID h.id) ++ sayF nDevTyp h.ty) ++ lgL h.lg) ++ ps.map storeT) := rfl
  clear hE hab hv g2 g3 g4 g5 g6 g7 r1
  generalize devL h ps = DL at *
  obtain ⟨man, mod, soft, id, ty, lg⟩ := h
  simp only [cellsD] at cC SZ1 SZ2 SZ3 SZ4 SZ5 HDL ⊢
  obtain ⟨W2, hW2⟩ : ∃ W2, (w.alloc (.cells #[.string man, .string mod, .string soft, .string id, .string ty, .bool lg, .slice ab ps.length cb] 42)).alloc (.cells #[.int .i64 0, .string ⟨#[]⟩, .string ⟨#[]⟩, .bool false, .slice none 0 0] 46) = W2 := ⟨_, rfl⟩
  have hB2 : Below w.heap.size w W2 := by rw [← hW2]; exact ((Below.refl _ w).alloc (Nat.le_refl _) _).alloc (by simp) _
  have hres : W2.heap[w.heap.size + 1]? = some (.cells #[.int .i64 0, .string ⟨#[]⟩, .string ⟨#[]⟩, .bool false, .slice none 0 0] 46 (0, 0)) := by rw [← hW2]; have := World.alloc_heap_new (w.alloc (.cells #[.string man, .string mod, .string soft, .string id, .string ty, .bool lg, .slice ab ps.length cb] 42)) (.cells #[.int .i64 0, .string ⟨#[]⟩, .string ⟨#[]⟩, .bool false, .slice none 0 0] 46); rwa [World.size_alloc] at this
  have hpar : W2.heap[w.heap.size]? = some (.cells #[.string man, .string mod, .string soft, .string id, .string ty, .bool lg, .slice ab ps.length cb] 42 (0, 0)) := by rw [← hW2]; exact (Below.heap_alloc _ _ _ (by simp)).trans (World.alloc_heap_new w _)
  have hZ2 : w.heap.size + 1 + 1 = W2.heap.size := by rw [← hW2]; simp
  have HW2 := Lib.hid hW2
  have HB2 := Lib.hid hB2
  have HR := Lib.hid hres
  have HP := Lib.hid hpar
  have HZ := Lib.hid hZ2
  clear hW2 hB2 hres hZ2 hpar
  go_enter Tryd.func19, Tryd.ntmps19
  go_wp2_with fail
  rw [HW2.out]
  refine (cC.out _ HB2.out).mono ?_
  rintro r X0 ⟨rfl, hb0⟩
  have hsz0 : w.heap.size + 1 + 1 ≤ X0.heap.size := by have := hb0.size; rw [← HZ.out] at this; exact this
  have hres4 : X0.heap[w.heap.size + 1]? = some (.cells #[.int .i64 0, .string ⟨#[]⟩, .string ⟨#[]⟩, .bool false, .slice none 0 0] 46 (0, 0)) := (hb0.block _ (by rw [← HZ.out]; omega)).trans HR.out
  have hpar4 : X0.heap[w.heap.size]? = some (.cells #[.string man, .string mod, .string soft, .string id, .string ty, .bool lg, .slice ab ps.length cb] 42 (0, 0)) := (hb0.block _ (by rw [← HZ.out]; omega)).trans HP.out
  have HBp : Hid (∀ X, Below X0.heap.size X0 X → ∀ j v, (#[.string man, .string mod, .string soft, .string id, .string ty, .bool lg, .slice ab ps.length cb] : Array Value)[j]? = some v → X.cell? ⟨w.heap.size, j, none⟩ = some v) := fun X hX j v hv => (hX.cell (p := ⟨w.heap.size, j, none⟩) (show w.heap.size < X0.heap.size by omega)).trans (blk_cell hpar4 j v hv)
  have HRes := Lib.hid hres4
  have HB0 := Lib.hid (HB2.out.trans (hb0.mono HB2.out.size))
  have HS0 := Lib.hid hsz0
  have HPB : Hid (w.heap.size < X0.heap.size) := by unfold Hid; omega
  clear hres4 hpar4 hb0 hsz0
  have c1 := Lib.hid (fun (v : Value) (ks : List Tr) (X : World) (hr : RowQ X X0.heap.size v ks) (hl : ks.length ≤ 1000) (hB : X0.heap.size ≤ X.heap.size) => refSay_any X0.heap.size nVerDTD v12 (by decide) SZ0.out v ks hl X hB hr)
  unfold nVerDTD at c1
  have c2 := Lib.hid (fun (v : Value) (ks : List Tr) (X : World) (hr : RowQ X X0.heap.size v ks) (hl : ks.length ≤ 1000) (hB : X0.heap.size ≤ X.heap.size) => refSay_any X0.heap.size nMan2 man (by decide) SZ1.out v ks hl X hB hr)
  unfold nMan2 at c2
  have c3 := Lib.hid (fun (v : Value) (ks : List Tr) (X : World) (hr : RowQ X X0.heap.size v ks) (hl : ks.length ≤ 1000) (hB : X0.heap.size ≤ X.heap.size) => refSay_any X0.heap.size nMod mod (by decide) SZ2.out v ks hl X hB hr)
  unfold nMod at c3
  have c4 := Lib.hid (fun (v : Value) (ks : List Tr) (X : World) (hr : RowQ X X0.heap.size v ks) (hl : ks.length ≤ 1000) (hB : X0.heap.size ≤ X.heap.size) => refSay_any X0.heap.size nSwV soft (by decide) SZ3.out v ks hl X hB hr)
  unfold nSwV at c4
  have c5 := Lib.hid (fun (v : Value) (ks : List Tr) (X : World) (hr : RowQ X X0.heap.size v ks) (hl : ks.length ≤ 1000) (hB : X0.heap.size ≤ X.heap.size) => refSay_any X0.heap.size nDevID id (by decide) SZ4.out v ks hl X hB hr)
  unfold nDevID at c5
  have c6 := Lib.hid (fun (v : Value) (ks : List Tr) (X : World) (hr : RowQ X X0.heap.size v ks) (hl : ks.length ≤ 1000) (hB : X0.heap.size ≤ X.heap.size) => refSay_any X0.heap.size nDevTyp ty (by decide) SZ5.out v ks hl X hB hr)
  unfold nDevTyp at c6
  unfold v12 at c1
  have p0 := HBp.out X0 (Below.refl _ _) 0 _ rfl
  have p1 := HBp.out X0 (Below.refl _ _) 1 _ rfl
  have p2 := HBp.out X0 (Below.refl _ _) 2 _ rfl
  go_upto_region 4 with fail
  go_cut [5] from 17 to 26 (fun v wx => Hid (RowQ wx X0.heap.size v (((([] ++ sayF nVerDTD v12) ++ sayF nMan2 man) ++ sayF nMod mod) ++ sayF nSwV soft)) ∧ Hid (Below X0.heap.size X0 wx) ∧ Hid (X0.heap.size ≤ wx.heap.size))
  case first =>
    have HSK : SK3 w.heap.size (.string man) (.string mod) (.string soft) X0.heap.size X0 := ⟨p0, p1, p2, Nat.le_refl _⟩
    go_region_held3 (fun X => X.cell? ⟨w.heap.size, 0, none⟩ = some (.string man) ∧ X.cell? ⟨w.heap.size, 1, none⟩ = some (.string mod) ∧ X.cell? ⟨w.heap.size, 2, none⟩ = some (.string soft) ∧ X0.heap.size ≤ X.heap.size) (first | with_reducible assumption | exact SK3.bel (by assumption) HPB.out hb9 | exact SK3.bel (by assumption) HPB.out ((Below.refl _ _).drew)) (first | (go_at_call 66; (with_reducible refine (c1.out _ _ _ (RowQ.nil _ _) (by decide) ?_).mono ?_); exact Nat.le_refl X0.heap.size; rintro r w1 ⟨⟨v1, rfl, hr⟩, hb9⟩; have HR1 := Lib.hid hr; have HLEN1 := Lib.hid (RowQ.len1 hr (Nat.le_refl 0)); have HBE1 : Hid (Below X0.heap.size X0 w1) := (by first | exact hb9 | exact (((Below.refl _ _).drew).trans hb9)); have HSZ1 : Hid (X0.heap.size ≤ w1.heap.size) := hb9.size; clear hr) | (go_at_call 66; (with_reducible refine (c2.out _ _ _ HR1.out (Nat.le_trans HLEN1.out (by decide)) HSZ1.out).mono ?_); rintro r w2 ⟨⟨v2, rfl, hr⟩, hb9⟩; have HR2 := Lib.hid hr; have HLEN2 := Lib.hid (RowQ.len1 hr HLEN1.out); have HBE2 : Hid (Below X0.heap.size X0 w2) := (HBE1.out.trans hb9); have HSZ2 : Hid (X0.heap.size ≤ w2.heap.size) := (Nat.le_trans HSZ1.out hb9.size); clear hr) | (go_at_call 66; (with_reducible refine (c3.out _ _ _ HR2.out (Nat.le_trans HLEN2.out (by decide)) HSZ2.out).mono ?_); rintro r w3 ⟨⟨v3, rfl, hr⟩, hb9⟩; have HR3 := Lib.hid hr; have HLEN3 := Lib.hid (RowQ.len1 hr HLEN2.out); have HBE3 : Hid (Below X0.heap.size X0 w3) := (HBE2.out.trans hb9); have HSZ3 : Hid (X0.heap.size ≤ w3.heap.size) := (Nat.le_trans HSZ2.out hb9.size); clear hr) | (go_at_call 66; (with_reducible refine (c4.out _ _ _ HR3.out (Nat.le_trans HLEN3.out (by decide)) HSZ3.out).mono ?_); rintro r w4 ⟨⟨v4, rfl, hr⟩, hb9⟩; have HR4 := Lib.hid hr; have HLEN4 := Lib.hid (RowQ.len1 hr HLEN3.out); have HBE4 : Hid (Below X0.heap.size X0 w4) := (HBE3.out.trans hb9); have HSZ4 : Hid (X0.heap.size ≤ w4.heap.size) := (Nat.le_trans HSZ3.out hb9.size); clear hr) | fail)
    all_goals
      go_wp2_with fail
      go_meet
      exact ⟨HR4.out, HBE4.out, HSZ4.out⟩
  case rest =>
    obtain ⟨hr, hbe, hsz⟩ := hcut
    clear p0 p1 p2
    obtain ⟨X1, hX1⟩ : ∃ X1, X1 = wc := ⟨_, rfl⟩
    subst hX1
    have HR4 := Lib.hid hr.out
    have HBE4 := Lib.hid hbe.out
    have HSZ4 := Lib.hid hsz.out
    have HLEN4 : Hid ((((([] ++ sayF nVerDTD v12) ++ sayF nMan2 man) ++ sayF nMod mod) ++ sayF nSwV soft).length ≤ 4) := by
      unfold Hid
      have l1 := sayF_len nVerDTD v12; have l2 := sayF_len nMan2 man; have l3 := sayF_len nMod mod; have l4 := sayF_len nSwV soft
      simp only [List.length_append, List.length_nil]; omega
    clear hr hbe hsz
    have p3 := HBp.out X1 HBE4.out 3 _ rfl
    have p4 := HBp.out X1 HBE4.out 4 _ rfl
    go_upto_region 5 with fail
    go_cut [5] from 27 to 33 (fun v wx => Hid (RowQ wx X0.heap.size v (((((([] ++ sayF nVerDTD v12) ++ sayF nMan2 man) ++ sayF nMod mod) ++ sayF nSwV soft) ++ sayF nDevID id) ++ sayF nDevTyp ty)) ∧ Hid (Below X0.heap.size X0 wx) ∧ Hid (X0.heap.size ≤ wx.heap.size))
    case first =>
      have HSK : SK w.heap.size 3 4 (.string id) (.string ty) X0.heap.size X1 := ⟨p3, p4, HSZ4.out⟩
      have HRd := Lib.hid (HR4.out.below ((Below.refl _ X1).drew))
      have HSZd : Hid (X0.heap.size ≤ X1.drew.heap.size) := HSZ4.out
      have HBEd := Lib.hid (HBE4.out.trans ((Below.refl _ X1).drew))
      go_region_held3 (fun X => X.cell? ⟨w.heap.size, 3, none⟩ = some (.string id) ∧ X.cell? ⟨w.heap.size, 4, none⟩ = some (.string ty) ∧ X0.heap.size ≤ X.heap.size) (first | with_reducible assumption | exact SK.bel (by assumption) HPB.out hb9 | exact SK.bel (by assumption) HPB.out ((Below.refl _ _).drew)) (first | (go_at_call 66; (first | (with_reducible refine (c5.out _ _ _ HRd.out (Nat.le_trans HLEN4.out (by decide)) HSZd.out).mono ?_) | (with_reducible refine (c5.out _ _ _ HR4.out (Nat.le_trans HLEN4.out (by decide)) HSZ4.out).mono ?_) | fail); rintro r w5 ⟨⟨v5, rfl, hr⟩, hb9⟩; have HR5 := Lib.hid hr; have HLEN5 := Lib.hid (RowQ.len1 hr HLEN4.out); have HBE5 : Hid (Below X0.heap.size X0 w5) := (by first | exact HBEd.out.trans hb9 | exact HBE4.out.trans hb9); have HSZ5 : Hid (X0.heap.size ≤ w5.heap.size) := (Nat.le_trans HSZ4.out hb9.size); clear hr) | (go_at_call 66; (with_reducible refine (c6.out _ _ _ HR5.out (Nat.le_trans HLEN5.out (by decide)) HSZ5.out).mono ?_); rintro r w6 ⟨⟨v6, rfl, hr⟩, hb9⟩; have HR6 := Lib.hid hr; have HLEN6 := Lib.hid (RowQ.len1 hr HLEN5.out); have HBE6 : Hid (Below X0.heap.size X0 w6) := (HBE5.out.trans hb9); have HSZ6 : Hid (X0.heap.size ≤ w6.heap.size) := (Nat.le_trans HSZ5.out hb9.size); clear hr) | fail)
      all_goals
        go_wp2_with fail
        go_meet
        exact ⟨HR6.out, HBE6.out, HSZ6.out⟩
    case rest =>
      obtain ⟨hr, hbe, hsz⟩ := hcut
      clear p3 p4 HR4 HBE4 HSZ4
      obtain ⟨X2, hX2⟩ : ∃ X2, X2 = wc := ⟨_, rfl⟩
      subst hX2
      have HR6 := Lib.hid hr.out
      have HBE6 := Lib.hid hbe.out
      have HSZ6 := Lib.hid hsz.out
      have HLEN6 : Hid ((((((([] ++ sayF nVerDTD v12) ++ sayF nMan2 man) ++ sayF nMod mod) ++ sayF nSwV soft) ++ sayF nDevID id) ++ sayF nDevTyp ty).length ≤ 6) := by
        unfold Hid
        have h4 := HLEN4.out
        have l5 := sayF_len nDevID id; have l6 := sayF_len nDevTyp ty
        rw [List.length_append, List.length_append]; omega
      clear hr hbe hsz HLEN4
      have p5 := HBp.out X2 HBE6.out 5 _ rfl
      go_upto_if 35 with (fail)
      go_cut [5] from 35 to 39 (fun v wx => Hid (RowQ wx X0.heap.size v ((((((([] ++ sayF nVerDTD v12) ++ sayF nMan2 man) ++ sayF nMod mod) ++ sayF nSwV soft) ++ sayF nDevID id) ++ sayF nDevTyp ty) ++ lgL lg)) ∧ Hid (Below X0.heap.size X0 wx) ∧ Hid (X0.heap.size ≤ wx.heap.size))
      case first =>
        cases lg with
        | false =>
          have HE : Hid (lgL false = []) := rfl
          go_wp2_with fail
          go_meet
          rw [HE.out, List.append_nil]
          exact ⟨HR6.out, HBE6.out, HSZ6.out⟩
        | true =>
          have HE : Hid (lgL true = [.mk 2 nSupp ByteArray.empty false []]) := rfl
          have HKS := HLEN6.out
          generalize (((((([] ++ sayF nVerDTD v12) ++ sayF nMan2 man) ++ sayF nMod mod) ++ sayF nSwV soft) ++ sayF nDevID id) ++ sayF nDevTyp ty) = ks at *
          obtain ⟨xs, ho, hq⟩ := HR6.out
          obtain ⟨a, c, rfl⟩ := own_form ho
          have HOW := Lib.hid ho
          have HQ := Lib.hid hq
          have HO : Hid (∀ Y, Below X2.heap.size X2 Y → Y.ownsRow X0.heap.size 46 5 (.slice a ks.length c) ks.length xs) := fun Y hY => owns_keep HOW.out (fun k hk => hY.block k (HOW.out.lt k hk).2)
          have HOQ : Hid (∀ k, (.slice a ks.length c : Value).ownBlock = some k → X0.heap.size ≤ k) := fun k hk => (HOW.out.lt k hk).1
          clear ho hq
          obtain ⟨i0, hi0, hz0, hz1, hz2⟩ := info24
          have HI := Lib.hid hi0
          have HZ0 := Lib.hid hz0
          have HZ1 := Lib.hid hz1
          have HZ2 := Lib.hid hz2
          clear hi0 hz0 hz1 hz2
          have HBY : Hid ((ks.length + 1) * 72 ≤ 140737488355328) := by unfold Hid; omega
          have H63 : Hid (ks.length + 1 ≤ maxLen) := by unfold Hid maxLen; omega
          have cN : Hid (∀ X, Calls Tryd.prog 67 #[.string { data := #[83, 117, 112, 112, 111, 114, 116, 76, 97, 114, 103, 101, 79, 98, 106, 115] }, .slice none 0 0] X fun r w' => r = .returned (.agg #[.int .i64 2, .string { data := #[83, 117, 112, 112, 111, 114, 116, 76, 97, 114, 103, 101, 79, 98, 106, 115] }, .string ByteArray.empty, .bool false, .slice none 0 0]) ∧ Below X.heap.size X w') := fun X => refNodeD_any nSupp none 0 0 X
          clear HKS p5
          generalize hnn : ks.length = n at *
          have HNN := Lib.hid hnn
          clear hnn
          go_wp2_with (first | (go_at_call 67; (with_reducible refine (cN.out _).mono ?_); rintro r w1 ⟨rfl, hb9⟩; have HT1 := Lib.hid hb9) | (at_builtin; go_must (refine wpList_appM rfl _ _ 44 rfl X0.heap.size 46 i0 _ 5 72 Tryd.underlying44 HI.out HZ0.out HZ1.out HZ2.out rfl (by decide) _ n xs rfl (HO.out _ (HT1.out.alloc HT1.out.size _)) _ 1 1 [.int .i64 2, .string { data := #[83, 117, 112, 112, 111, 114, 116, 76, 97, 114, 103, 101, 79, 98, 106, 115] }, .string ByteArray.empty, .bool false, .slice none 0 0] rfl rfl (fun h => by cases h) (new_cells (Below.refl _ _)) (by simp [Value.oneCell']) H63.out HBY.out (Nat.le_trans HSZ6.out (Below.size (HT1.out.alloc HT1.out.size _))) ?_); intro a' c' w' q1 q2 q3) | fail)
          have HFIN := Lib.hid (push_end (k := .mk 2 nSupp ByteArray.empty false []) (lo := X2.heap.size) (hi := X2.heap.size) HNN.out HOW.out HQ.out (HT1.out.alloc HT1.out.size _) HSZ6.out (Nat.le_refl _) (Below.size (HT1.out.alloc HT1.out.size _)) (AtQ.leaf (nm := nSupp) (tx := ByteArray.empty) (by decide) (by decide)) rfl q1 q2 q3)
          have HFB := Lib.hid ((HBE6.out.trans ((HT1.out.alloc HT1.out.size _).mono HSZ6.out)).grown q2 (Nat.le_trans HSZ6.out (Below.size (HT1.out.alloc HT1.out.size _))) HOQ.out)
          have HFS : Hid (X0.heap.size ≤ w'.heap.size) := Nat.le_trans (Nat.le_trans HSZ6.out (Below.size (HT1.out.alloc HT1.out.size _))) q2.size
          clear q1 q2 q3
          go_meet
          rw [HE.out]
          exact ⟨HFIN.out, HFB.out, HFS.out⟩
      case rest =>
        obtain ⟨hr, hbe, hsz⟩ := hcut
        clear p5 HR6 HBE6 HSZ6
        obtain ⟨X3, hX3⟩ : ∃ X3, X3 = wc := ⟨_, rfl⟩
        subst hX3
        have HR7 := Lib.hid hr.out
        have HBE7 := Lib.hid hbe.out
        have HSZ7 := Lib.hid hsz.out
        have HLEN7 : Hid (((((((([] ++ sayF nVerDTD v12) ++ sayF nMan2 man) ++ sayF nMod mod) ++ sayF nSwV soft) ++ sayF nDevID id) ++ sayF nDevTyp ty) ++ lgL lg).length ≤ 7) := by
          unfold Hid
          have h6 := HLEN6.out
          have l : (lgL lg).length ≤ 1 := by cases lg <;> decide
          rw [List.length_append]; omega
        clear hr hbe hsz HLEN6
        go_wp2_with fail
        go_loopw [5, 6, 7, 8, 9, 10] (fun lv iv _ _ _ _ wr => ∃ i : Nat, i ≤ ps.length ∧ iv = .int .i64 (i : Int) ∧ Hid (RowQ wr X0.heap.size lv (((((((([] ++ sayF nVerDTD v12) ++ sayF nMan2 man) ++ sayF nMod mod) ++ sayF nSwV soft) ++ sayF nDevID id) ++ sayF nDevTyp ty) ++ lgL lg) ++ (ps.take i).map storeT)) ∧ Hid (Below X0.heap.size X0 wr) ∧ Hid (X0.heap.size ≤ wr.heap.size)) (fun _ iv _ _ _ _ _ => ps.length - (intOf iv).toNat)
        case atStart => exact ⟨0, Nat.zero_le _, rfl, by rw [List.take_zero, List.map_nil, List.append_nil]; exact HR7.out, HBE7.out, HSZ7.out⟩
        case round =>
          obtain ⟨i, hi, rfl, HRl, HBl, HSl⟩ := hrel
          obtain ⟨wo, hwo⟩ : ∃ wo, wo = wr := ⟨_, rfl⟩
          subst hwo
          have p6 := HBp.out wo HBl.out 6 _ rfl
          have HBw : Hid (Below w.heap.size w wo) := HB0.out.trans (HBl.out.mono HB0.out.size)
          by_cases hlt : i < ps.length
          · obtain ⟨b, o, a1, e1, a2, e2, a3, e3, rfl, hbl, hc0, hat⟩ := HS.out.at i hlt
            have k0 : (0 : Int) ≤ (i : Int) := by omega
            have k1 : (i : Int) < (ps.length : Int) := by omega
            have k2 : decide (i < ps.length) = true := by simp; omega
            have hc : wo.rangeAt b (o + i * 6) (cellsP ps[i] a1 e1 a2 e2 a3 e3).toList := fun j u hu => (HBw.out.cell (p := ⟨b, o + i * 6 + j, none⟩) hbl).trans (hc0 j u hu)
            obtain ⟨c00, c01, c02, c03, c04, c05⟩ := cells6 hc
            obtain ⟨⟨q1, q1'⟩, q2, ⟨q3, q4⟩, ⟨q5, q6⟩, q7⟩ := place_small (GP.out _ (List.getElem_mem hlt))
            have HTK : Hid ((ps.take (i + 1)).map storeT = (ps.take i).map storeT ++ [storeT ps[i]]) := by unfold Hid; rw [List.take_succ_eq_append_getElem hlt, List.map_append]; rfl
            have HLL : Hid ((((((((([] ++ sayF nVerDTD v12) ++ sayF nMan2 man) ++ sayF nMod mod) ++ sayF nSwV soft) ++ sayF nDevID id) ++ sayF nDevTyp ty) ++ lgL lg) ++ (ps.take i).map storeT).length ≤ 20) := by unfold Hid; have := HLEN7.out; rw [List.length_append, List.length_map, List.length_take]; omega
            obtain ⟨_, _, _, _, _, _, he1, h1, h2, h3, hkd, hm1, hm2, _⟩ := hat
            clear hc0 hc hbl
            generalize ps[i] = x at *
            obtain ⟨rf, nm, mx, tk, gv, kd⟩ := x
            simp only [cellsP, Array.mk.injEq, List.cons.injEq, Value.slice.injEq] at he1
            obtain ⟨-, -, -, ⟨rfl, -, rfl⟩, ⟨rfl, -, rfl⟩, ⟨rfl, -, rfl⟩, -⟩ := he1
            simp only [cellsP] at c00 c01 c02 c03 c04 c05 h1 h2 h3 hkd hm1 hm2 q1 q1' q2 q3 q4 q5 q6 q7
            have A1 := Lib.hid h1
            have A2 := Lib.hid h2
            have A3 := Lib.hid h3
            have KD := Lib.hid hkd
            have M1 := Lib.hid hm1
            have M2 := Lib.hid hm2
            have Q1 : Hid (rf.size ≤ reachT) := by unfold Hid reachT; omega
            have Q2 : Hid (nm.size ≤ reachT) := by unfold Hid reachT; omega
            have Q3 : Hid (tk.length ≤ 200) := by unfold Hid; omega
            have Q4 := Lib.hid q4
            have Q5 : Hid (gv.length ≤ 200) := by unfold Hid; omega
            have Q6 := Lib.hid q6
            have Q7 := Lib.hid q7
            have HST : Hid (storeT ⟨rf, nm, mx, tk, gv, kd⟩ = .mk 2 nDataStore ByteArray.empty false (((((([] ++ sayF nSourceRef rf) ++ sayF nDisplayName nm) ++ mxL mx) ++ toldG nRx 0 tk) ++ toldG nTx 0 gv) ++ [capT kd])) := rfl
            clear h1 h2 h3 hkd hm1 hm2 q1 q1' q2 q3 q4 q5 q6 q7
            generalize storeT ⟨rf, nm, mx, tk, gv, kd⟩ = ST at *
            have HW1 : Hid (wrap64 ((i : Int) + 1) = (i : Int) + 1) := by unfold Hid wrap64; omega
            go_upto_region 12 with fail
            obtain ⟨W8, hW8⟩ : ∃ W8, wo.alloc (.cells #[.string rf, .string nm, .int .i64 mx, .slice a1 tk.length e1, .slice a2 gv.length e2, .slice a3 kd.length e3] 87) = W8 := ⟨_, rfl⟩
            rw [hW8]
            have hB8 : Below wo.heap.size wo W8 := by rw [← hW8]; exact (Below.refl _ _).alloc (Nat.le_refl _) _
            have hz8 : W8.heap[wo.heap.size]? = some (.cells #[.string rf, .string nm, .int .i64 mx, .slice a1 tk.length e1, .slice a2 gv.length e2, .slice a3 kd.length e3] 87 (0, 0)) := by rw [← hW8]; exact World.alloc_heap_new _ _
            have HGB : Hid (wo.heap.size < W8.heap.size) := by unfold Hid; rw [← hW8]; simp
            have HB8 := Lib.hid hB8
            have HBw8 : Hid (Below w.heap.size w W8) := HBw.out.trans (hB8.mono HBw.out.size)
            have HZp : Hid (∀ X, Below W8.heap.size W8 X → ∀ j v, (#[.string rf, .string nm, .int .i64 mx, .slice a1 tk.length e1, .slice a2 gv.length e2, .slice a3 kd.length e3] : Array Value)[j]? = some v → X.cell? ⟨wo.heap.size, j, none⟩ = some v) := fun X hX j v hv => (hX.cell (p := ⟨wo.heap.size, j, none⟩) HGB.out).trans (blk_cell hz8 j v hv)
            clear hW8 hB8 hz8 c00 c01 c02 c03 c04 c05 p6
            have cK1 := Lib.hid (fun (v : Value) (ks : List Tr) (X : World) (hr : RowQ X W8.heap.size v ks) (hl : ks.length ≤ 1000) (hB : W8.heap.size ≤ X.heap.size) => refSay_any W8.heap.size nSourceRef rf (by decide) Q1.out v ks hl X hB hr)
            unfold nSourceRef at cK1
            have cK2 := Lib.hid (fun (v : Value) (ks : List Tr) (X : World) (hr : RowQ X W8.heap.size v ks) (hl : ks.length ≤ 1000) (hB : W8.heap.size ≤ X.heap.size) => refSay_any W8.heap.size nDisplayName nm (by decide) Q2.out v ks hl X hB hr)
            unfold nDisplayName at cK2
            have z0 := HZp.out W8 (Below.refl _ _) 0 _ rfl
            have z1 := HZp.out W8 (Below.refl _ _) 1 _ rfl
            go_cut [8] from 52 to 57 (fun v wx => Hid (RowQ wx W8.heap.size v (([] ++ sayF nSourceRef rf) ++ sayF nDisplayName nm)) ∧ Hid (Below W8.heap.size W8 wx) ∧ Hid (W8.heap.size ≤ wx.heap.size))
            case first =>
              have HSK : SK wo.heap.size 0 1 (.string rf) (.string nm) W8.heap.size W8 := ⟨z0, z1, Nat.le_refl _⟩
              go_region_held3 (fun X => X.cell? ⟨wo.heap.size, 0, none⟩ = some (.string rf) ∧ X.cell? ⟨wo.heap.size, 1, none⟩ = some (.string nm) ∧ W8.heap.size ≤ X.heap.size) (first | with_reducible assumption | exact SK.bel (by assumption) HGB.out hb9 | exact SK.bel (by assumption) HGB.out ((Below.refl _ _).drew)) (first | (go_at_call 66; (with_reducible refine (cK1.out _ _ _ (RowQ.nil _ _) (by decide) ?_).mono ?_); exact Nat.le_refl W8.heap.size; rintro r w1 ⟨⟨v1, rfl, hr⟩, hb9⟩; have HR1 := Lib.hid hr; have HLEN1 := Lib.hid (RowQ.len1 hr (Nat.le_refl 0)); have HBE1 : Hid (Below W8.heap.size W8 w1) := (by first | exact hb9 | exact (((Below.refl _ _).drew).trans hb9)); have HSZ1 : Hid (W8.heap.size ≤ w1.heap.size) := hb9.size; clear hr) | (go_at_call 66; (with_reducible refine (cK2.out _ _ _ HR1.out (Nat.le_trans HLEN1.out (by decide)) HSZ1.out).mono ?_); rintro r w2 ⟨⟨v2, rfl, hr⟩, hb9⟩; have HR2 := Lib.hid hr; have HLEN2 := Lib.hid (RowQ.len1 hr HLEN1.out); have HBE2 : Hid (Below W8.heap.size W8 w2) := (HBE1.out.trans hb9); have HSZ2 : Hid (W8.heap.size ≤ w2.heap.size) := (Nat.le_trans HSZ1.out hb9.size); clear hr) | fail)
              all_goals
                go_wp2_with fail
                go_meet
                exact ⟨HR2.out, HBE2.out, HSZ2.out⟩
            case rest =>
              obtain ⟨hr, hbe, hsz⟩ := hcut
              clear z0 z1
              obtain ⟨X4, hX4⟩ : ∃ X4, X4 = wc := ⟨_, rfl⟩
              subst hX4
              have HR2 := Lib.hid hr.out
              have HBE2 := Lib.hid hbe.out
              have HSZ2 := Lib.hid hsz.out
              have HLEN2 : Hid ((([] ++ sayF nSourceRef rf) ++ sayF nDisplayName nm).length ≤ 2) := by
                unfold Hid
                have l1 := sayF_len nSourceRef rf; have l2 := sayF_len nDisplayName nm
                simp only [List.length_append, List.length_nil]; omega
              clear hr hbe hsz
              have z2 := HZp.out X4 HBE2.out 2 _ rfl
              go_upto_if 60 with (fail)
              go_cut [8] from 60 to 65 (fun v wx => Hid (RowQ wx W8.heap.size v ((([] ++ sayF nSourceRef rf) ++ sayF nDisplayName nm) ++ mxL mx)) ∧ Hid (Below W8.heap.size W8 wx) ∧ Hid (W8.heap.size ≤ wx.heap.size))
              case first =>
                by_cases hmx : mx = 0
                · have e0 : (mx != 0) = false := by simpa using hmx
                  have HE : Hid (mxL mx = []) := by unfold Hid mxL; rw [if_pos hmx]
                  clear hmx
                  go_wp2_with fail
                  go_meet
                  rw [HE.out, List.append_nil]
                  exact ⟨HR2.out, HBE2.out, HSZ2.out⟩
                · have e0 : (mx != 0) = true := by simpa using hmx
                  have HE : Hid (mxL mx = sayF nMaxGUID (numD mx)) := by unfold Hid mxL; rw [if_neg hmx]
                  have cX : Hid (∀ X, Calls Tryd.prog 68 #[.int .i64 mx] X fun e w' => e = .returned (.string (numD mx)) ∧ Below X.heap.size X w') := fun X => refText_any mx X M1.out M2.out
                  have HNS : Hid ((numD mx).size ≤ reachT) := by have := (numD_size mx).2; unfold Hid reachT; omega
                  generalize numD mx = nx at *
                  have cK3 := Lib.hid (fun (v : Value) (ks : List Tr) (X : World) (hr : RowQ X W8.heap.size v ks) (hl : ks.length ≤ 1000) (hB : W8.heap.size ≤ X.heap.size) => refSay_any W8.heap.size nMaxGUID nx (by decide) HNS.out v ks hl X hB hr)
                  unfold nMaxGUID at cK3
                  clear hmx
                  go_wp2_with (first | (go_at_call 68; (with_reducible refine (cX.out _).mono ?_); rintro r w1 ⟨rfl, hb9⟩; have HT1 := Lib.hid hb9) | (go_at_call 66; (with_reducible refine (cK3.out _ _ _ (HR2.out.below HT1.out) (Nat.le_trans HLEN2.out (by decide)) (Nat.le_trans HSZ2.out HT1.out.size)).mono ?_); rintro r w2 ⟨⟨v2, rfl, hr⟩, hb2⟩; have HR3 := Lib.hid hr; have HBE3 := Lib.hid ((HBE2.out.trans (HT1.out.mono HSZ2.out)).trans hb2); have HSZ3 : Hid (W8.heap.size ≤ w2.heap.size) := Nat.le_trans (Nat.le_trans HSZ2.out HT1.out.size) hb2.size; clear hr) | fail)
                  go_meet
                  rw [HE.out]
                  exact ⟨HR3.out, HBE3.out, HSZ3.out⟩
              case rest =>
                obtain ⟨hr, hbe, hsz⟩ := hcut
                clear z2 HR2 HBE2 HSZ2
                obtain ⟨X5, hX5⟩ : ∃ X5, X5 = wc := ⟨_, rfl⟩
                subst hX5
                have HR3 := Lib.hid hr.out
                have HBE3 := Lib.hid hbe.out
                have HSZ3 := Lib.hid hsz.out
                have HLEN3 : Hid (((([] ++ sayF nSourceRef rf) ++ sayF nDisplayName nm) ++ mxL mx).length ≤ 3) := by
                  unfold Hid
                  have h2 := HLEN2.out; have l3 := mxL_len mx
                  rw [List.length_append]; omega
                clear hr hbe hsz HLEN2
                have z3 := HZp.out X5 HBE3.out 3 _ rfl
                have z4 := HZp.out X5 HBE3.out 4 _ rfl
                have cP1 := Lib.hid (fun (v : Value) (ks : List Tr) (X : World) (hX : Below W8.heap.size W8 X) (hr : RowQ X W8.heap.size v ks) (hl : ks.length ≤ 500) (hB : W8.heap.size ≤ X.heap.size) => refPutD_any W8.heap.size nRx (by decide) tk Q4.out a1 e1 Q3.out v ks hl X hB ((A1.out.below (HBw8.out.trans (hX.mono HBw8.out.size))).mono HBw8.out.size) hr)
                have cP2 := Lib.hid (fun (v : Value) (ks : List Tr) (X : World) (hX : Below W8.heap.size W8 X) (hr : RowQ X W8.heap.size v ks) (hl : ks.length ≤ 500) (hB : W8.heap.size ≤ X.heap.size) => refPutD_any W8.heap.size nTx (by decide) gv Q6.out a2 e2 Q5.out v ks hl X hB ((A2.out.below (HBw8.out.trans (hX.mono HBw8.out.size))).mono HBw8.out.size) hr)
                have HTL : Hid ((toldG nRx 0 tk).length ≤ 200) := by unfold Hid; rw [toldG_len]; exact Q3.out
                have HTL2 : Hid ((toldG nTx 0 gv).length ≤ 200) := by unfold Hid; rw [toldG_len]; exact Q5.out
                have HLEN4 : Hid ((((([] ++ sayF nSourceRef rf) ++ sayF nDisplayName nm) ++ mxL mx) ++ toldG nRx 0 tk).length ≤ 203) := by unfold Hid; have h3 := HLEN3.out; have h4 := HTL.out; rw [List.length_append]; omega
                unfold nRx at cP1
                unfold nTx at cP2
                go_upto_region 15 with fail
                go_cut [8] from 66 to 72 (fun v wx => Hid (RowQ wx W8.heap.size v ((((([] ++ sayF nSourceRef rf) ++ sayF nDisplayName nm) ++ mxL mx) ++ toldG nRx 0 tk) ++ toldG nTx 0 gv)) ∧ Hid (Below W8.heap.size W8 wx) ∧ Hid (W8.heap.size ≤ wx.heap.size))
                case first =>
                  have HSK : SK wo.heap.size 3 4 (.slice a1 tk.length e1) (.slice a2 gv.length e2) W8.heap.size X5 := ⟨z3, z4, HSZ3.out⟩
                  have HRd := Lib.hid (HR3.out.below ((Below.refl _ X5).drew))
                  have HSZd : Hid (W8.heap.size ≤ X5.drew.heap.size) := HSZ3.out
                  have HBEd := Lib.hid (HBE3.out.trans ((Below.refl _ X5).drew))
                  go_region_held3 (fun X => X.cell? ⟨wo.heap.size, 3, none⟩ = some (.slice a1 tk.length e1) ∧ X.cell? ⟨wo.heap.size, 4, none⟩ = some (.slice a2 gv.length e2) ∧ W8.heap.size ≤ X.heap.size) (first | with_reducible assumption | exact SK.bel (by assumption) HGB.out hb9 | exact SK.bel (by assumption) HGB.out ((Below.refl _ _).drew)) (first | (go_at_call 69; (first | (with_reducible refine (cP1.out _ _ _ HBEd.out HRd.out (Nat.le_trans HLEN3.out (by decide)) HSZd.out).mono ?_) | (with_reducible refine (cP1.out _ _ _ HBE3.out HR3.out (Nat.le_trans HLEN3.out (by decide)) HSZ3.out).mono ?_) | fail); rintro r w1 ⟨⟨v1, rfl, hr⟩, hb9⟩; have HR4 := Lib.hid hr; have HBE4 : Hid (Below W8.heap.size W8 w1) := (by first | exact HBEd.out.trans hb9 | exact HBE3.out.trans hb9); have HSZ4 : Hid (W8.heap.size ≤ w1.heap.size) := Nat.le_trans HSZ3.out hb9.size; clear hr) | (go_at_call 69; (with_reducible refine (cP2.out _ _ _ HBE4.out HR4.out ?_ HSZ4.out).mono ?_); exact Nat.le_trans HLEN4.out (by decide); rintro r w2 ⟨⟨v2, rfl, hr⟩, hb9⟩; have HR5 := Lib.hid hr; have HBE5 : Hid (Below W8.heap.size W8 w2) := HBE4.out.trans hb9; have HSZ5 : Hid (W8.heap.size ≤ w2.heap.size) := Nat.le_trans HSZ4.out hb9.size; clear hr) | fail)
                  all_goals
                    go_wp2_with fail
                    go_meet
                    exact ⟨HR5.out, HBE5.out, HSZ5.out⟩
                case rest =>
                  obtain ⟨hr, hbe, hsz⟩ := hcut
                  clear z3 z4 HR3 HBE3 HSZ3 cP1 cP2
                  obtain ⟨X7, hX7⟩ : ∃ X7, X7 = wc := ⟨_, rfl⟩
                  subst hX7
                  have HR5 := Lib.hid hr.out
                  have HBE5 := Lib.hid hbe.out
                  have HSZ5 := Lib.hid hsz.out
                  have HLEN5 : Hid (((((([] ++ sayF nSourceRef rf) ++ sayF nDisplayName nm) ++ mxL mx) ++ toldG nRx 0 tk) ++ toldG nTx 0 gv).length ≤ 403) := by unfold Hid; have h4 := HLEN4.out; have h5 := HTL2.out; rw [List.length_append]; omega
                  have HBw7 : Hid (Below w.heap.size w X7) := HBw8.out.trans (HBE5.out.mono HBw8.out.size)
                  have HZ7 := HZp.out X7 HBE5.out 5 _ rfl
                  have HZ7h := Lib.hid HZ7
                  clear hr hbe hsz HLEN3 HLEN4 HZ7
                  go_wp2_with fail
                  go_loopw [9, 10] (fun cv jv wr => ∃ j : Nat, j ≤ kd.length ∧ jv = .int .i64 (j : Int) ∧ Hid (RowQ wr X7.heap.size cv (kdL (kd.take j))) ∧ Hid (Below X7.heap.size X7 wr)) (fun _ jv _ => kd.length - (intOf jv).toNat)
                  case atStart => exact ⟨0, Nat.zero_le _, rfl, RowQ.nil _ _, Below.refl _ _⟩
                  case round =>
                    obtain ⟨j, hj, rfl, HRc, HBc⟩ := hrel
                    have z5 : wr.cell? ⟨wo.heap.size, 5, none⟩ = _ := (HBc.out.cell (p := ⟨wo.heap.size, 5, none⟩) (show wo.heap.size < X7.heap.size from Nat.lt_of_lt_of_le HGB.out HSZ5.out)).trans HZ7h.out
                    by_cases hlj : j < kd.length
                    · obtain ⟨bk, ok, rfl, hbk, hk0⟩ := A3.out j hlj
                      have hq7 := Q7.out
                      have kk0 : (0 : Int) ≤ (j : Int) := by omega
                      have kk1 : (j : Int) < (kd.length : Int) := by omega
                      have kk2 : decide (j < kd.length) = true := by simp; omega
                      have hbw := HBw7.out.trans (HBc.out.mono HBw7.out.size)
                      have hc : wr.rangeAt bk (ok + j * 1) [.int .i64 kd[j]] := fun t u hu => (hbw.cell (p := ⟨bk, ok + j * 1 + t, none⟩) hbk).trans (hk0 t u hu)
                      have y0 := hc 0 _ rfl
                      simp only [Nat.add_zero, Nat.mul_one] at y0
                      obtain ⟨hx1, hx2⟩ := KD.out _ (List.getElem_mem hlj)
                      have HTK2 : Hid (kdL (kd.take (j + 1)) = kdL (kd.take j) ++ sayF nSyncType (numD kd[j])) := by unfold Hid; rw [kdL_take kd j hlj]; unfold sayF; rw [if_neg (numD_size _).1]
                      have HLK : Hid ((kdL (kd.take j)).length ≤ 10) := by unfold Hid kdL; rw [List.length_map, List.length_take]; omega
                      have cX : Hid (∀ X, Calls Tryd.prog 68 #[.int .i64 kd[j]] X fun e w' => e = .returned (.string (numD kd[j])) ∧ Below X.heap.size X w') := fun X => refText_any kd[j] X hx1 hx2
                      have HNS : Hid ((numD kd[j]).size ≤ reachT) := by have := (numD_size kd[j]).2; unfold Hid reachT; omega
                      clear hk0 hc hbk hbw hx1 hx2
                      generalize numD kd[j] = ND at *
                      generalize kd[j] = x at *
                      generalize kdL (kd.take j) = ks2 at *
                      have cSy := Lib.hid (fun (v : Value) (ks : List Tr) (X : World) (hr : RowQ X X7.heap.size v ks) (hl : ks.length ≤ 1000) (hB : X7.heap.size ≤ X.heap.size) => refSay_any X7.heap.size nSyncType ND (by decide) HNS.out v ks hl X hB hr)
                      unfold nSyncType at cSy
                      have HW2 : Hid (wrap64 ((j : Int) + 1) = (j : Int) + 1) := by unfold Hid wrap64; omega
                      go_wp2_with (first | (go_at_call 68; (with_reducible refine (cX.out _).mono ?_); rintro r w1 ⟨rfl, hb1⟩; have HT1 := Lib.hid hb1) | (go_at_call 66; (with_reducible refine (cSy.out _ _ _ (HRc.out.below HT1.out) (Nat.le_trans HLK.out (by decide)) (Nat.le_trans HBc.out.size HT1.out.size)).mono ?_); rintro r w2 ⟨⟨v2, rfl, hr⟩, hb2⟩; have HR2 := Lib.hid hr; have HB2c := Lib.hid ((HBc.out.trans (HT1.out.mono HBc.out.size)).trans hb2); clear hr) | fail)
                      go_roundw
                      case rel => exact ⟨j + 1, by omega, by go_num, by rw [HTK2.out]; exact HR2.out, HB2c.out⟩
                      case measure => simp [intOf]; omega
                    · have kk1 : ¬ (j : Int) < (kd.length : Int) := by omega
                      have kk2 : decide (j < kd.length) = false := by simp; omega
                      have hti : kd.take j = kd := List.take_of_length_le (by omega)
                      rw [hti] at HRc
                      clear hti
                      generalize hksk : ((((([] ++ sayF nSourceRef rf) ++ sayF nDisplayName nm) ++ mxL mx) ++ toldG nRx 0 tk) ++ toldG nTx 0 gv) = ksk at *
                      have HSTk : Hid (ST = .mk 2 nDataStore ByteArray.empty false (ksk ++ [capT kd])) := HST.out
                      have hlk := HLEN5.out
                      have hll := HLL.out
                      clear hksk
                      generalize hksl : ((((((([] ++ sayF nVerDTD v12) ++ sayF nMan2 man) ++ sayF nMod mod) ++ sayF nSwV soft) ++ sayF nDevID id) ++ sayF nDevTyp ty) ++ lgL lg) ++ (ps.take i).map storeT = ksl at *
                      have HKSL := Lib.hid hksl
                      clear hksl
                      obtain ⟨xs9, ho9, hq9⟩ := HRc.out
                      obtain ⟨a9, c9, rfl⟩ := own_form ho9
                      have HRK0 : Hid (RowQ wr X7.heap.size (.slice a9 (kdL kd).length c9) (kdL kd)) := ⟨xs9, ho9, hq9⟩
                      have hkn : (kdL kd).length ≤ 10 := by unfold kdL; rw [List.length_map]; have := Q7.out; omega
                      generalize hnk : (kdL kd).length = nk at *
                      have HNK := Lib.hid hnk
                      have HKN := Lib.hid hkn
                      clear hnk hkn ho9 hq9 HRc
                      obtain ⟨xsk, hok, hqk⟩ := HR5.out
                      obtain ⟨ak, ck, rfl⟩ := own_form hok
                      generalize hnkk : ksk.length = nkk at *
                      have HNKK := Lib.hid hnkk
                      have HOWk := Lib.hid hok
                      have HQk := Lib.hid hqk
                      have HOk : Hid (∀ Y, Below X7.heap.size X7 Y → Y.ownsRow W8.heap.size 46 5 (.slice ak nkk ck) nkk xsk) := fun Y hY => owns_keep HOWk.out (fun k hk => hY.block k (HOWk.out.lt k hk).2)
                      have HOQk : Hid (∀ k, (.slice ak nkk ck : Value).ownBlock = some k → W8.heap.size ≤ k) := fun k hk => (HOWk.out.lt k hk).1
                      clear hnkk hok hqk
                      obtain ⟨xsl, hol, hql⟩ := HRl.out
                      obtain ⟨al, cl, rfl⟩ := own_form hol
                      generalize hnl : ksl.length = nl at *
                      have HNL := Lib.hid hnl
                      have HOWl := Lib.hid hol
                      have HQl := Lib.hid hql
                      have HOl : Hid (∀ Y, Below wo.heap.size wo Y → Y.ownsRow X0.heap.size 46 5 (.slice al nl cl) nl xsl) := fun Y hY => owns_keep HOWl.out (fun k hk => hY.block k (HOWl.out.lt k hk).2)
                      have HOQl : Hid (∀ k, (.slice al nl cl : Value).ownBlock = some k → X0.heap.size ≤ k) := fun k hk => (HOWl.out.lt k hk).1
                      clear hnl hol hql
                      obtain ⟨i0, hi0, hz0, hz1, hz2⟩ := info24
                      have HI := Lib.hid hi0
                      have HZ0 := Lib.hid hz0
                      have HZ1 := Lib.hid hz1
                      have HZ2 := Lib.hid hz2
                      clear hi0 hz0 hz1 hz2
                      have HBYk : Hid ((nkk + 1) * 72 ≤ 140737488355328) := by unfold Hid; omega
                      have H63k : Hid (nkk + 1 ≤ maxLen) := by unfold Hid maxLen; omega
                      have HKKr : Hid (nkk + 1 ≤ reachT) := by unfold Hid reachT; omega
                      have HBYl : Hid ((nl + 1) * 72 ≤ 140737488355328) := by unfold Hid; omega
                      have H63l : Hid (nl + 1 ≤ maxLen) := by unfold Hid maxLen; omega
                      have HNKr : Hid (nk ≤ reachT) := by have := HKN.out; unfold Hid reachT; omega
                      clear hlk hll
                      have cN1 := Lib.hid (fun X => refNodeD_any nSyncCap a9 nk c9 X)
                      have cN2 := Lib.hid (fun X a' c' => refNodeD_any nDataStore a' (nkk + 1) c' X)
                      unfold nSyncCap at cN1
                      unfold nDataStore at cN2
                      go_wp2_with (first | (go_at_call 67; (with_reducible refine (cN1.out _).mono ?_); rintro r w1 ⟨rfl, hb1⟩; have HX1 := Lib.hid (HBc.out.trans (hb1.mono HBc.out.size)); have HT1 : Hid (Below X7.heap.size X7 (w1.alloc (.cells #[.int .i64 2, .string { data := #[83, 121, 110, 99, 67, 97, 112] }, .string ByteArray.empty, .bool false, .slice a9 nk c9] 46))) := HX1.out.alloc HX1.out.size _; have HA1 : Hid (AtQ (w1.alloc (.cells #[.int .i64 2, .string { data := #[83, 121, 110, 99, 67, 97, 112] }, .string ByteArray.empty, .bool false, .slice a9 nk c9] 46)) (fun b => X7.heap.size ≤ b ∧ b < w1.heap.size) (capT kd) (.agg #[.int .i64 2, .string { data := #[83, 121, 110, 99, 67, 97, 112] }, .string ByteArray.empty, .bool false, .slice a9 nk c9])) := AtQ.keep (fun b hb => ⟨⟨hb.1, Nat.lt_of_lt_of_le hb.2 hb1.size⟩, (Below.heap_alloc _ _ _ (Nat.lt_of_lt_of_le hb.2 hb1.size)).trans (hb1.block b hb.2)⟩) _ _ (node_share HRK0.out HNK.out (by decide) HNKr.out); clear hb1) | (go_at_call 67; (with_reducible refine (cN2.out _ _ _).mono ?_); rintro r w3 ⟨rfl, hb3⟩; have HBK3 := Lib.hid (HBK2.out.trans (hb3.mono HBK2.out.size)); have HT3 : Hid (Below wo.heap.size wo (w3.alloc (.cells #[.int .i64 2, .string { data := #[68, 97, 116, 97, 83, 116, 111, 114, 101] }, .string ByteArray.empty, .bool false, .slice a' (nkk + 1) c'] 46))) := (HB8.out.trans (HBK3.out.mono HB8.out.size)).alloc (Nat.le_trans HB8.out.size HBK3.out.size) _; have HA3 : Hid (AtQ (w3.alloc (.cells #[.int .i64 2, .string { data := #[68, 97, 116, 97, 83, 116, 111, 114, 101] }, .string ByteArray.empty, .bool false, .slice a' (nkk + 1) c'] 46)) (fun b => W8.heap.size ≤ b ∧ b < w3.heap.size) ST (.agg #[.int .i64 2, .string { data := #[68, 97, 116, 97, 83, 116, 111, 114, 101] }, .string ByteArray.empty, .bool false, .slice a' (nkk + 1) c'])) := (by rw [HSTk.out]; exact AtQ.keep (fun b hb => ⟨⟨hb.1, Nat.lt_of_lt_of_le hb.2 hb3.size⟩, (Below.heap_alloc _ _ _ (Nat.lt_of_lt_of_le hb.2 hb3.size)).trans (hb3.block b hb.2)⟩) _ _ (node_share HR9.out (by rw [List.length_append, HNKK.out]; rfl) (by decide) HKKr.out)); clear hb3) | (at_builtin; first | ((refine wpList_appM rfl _ _ 44 rfl W8.heap.size 46 i0 _ 5 72 Tryd.underlying44 HI.out HZ0.out HZ1.out HZ2.out rfl (by decide) _ nkk xsk rfl (HOk.out _ HT1.out) _ 1 1 [.int .i64 2, .string { data := #[83, 121, 110, 99, 67, 97, 112] }, .string ByteArray.empty, .bool false, .slice a9 nk c9] rfl rfl (fun h => by cases h) (new_cells (Below.refl _ _)) (by simp [Value.oneCell']) H63k.out HBYk.out (Nat.le_trans HSZ5.out HT1.out.size) ?_); intro a' c' w2 q1 q2 q3; have HR9 := Lib.hid (push_end (k := capT kd) HNKK.out HOWk.out HQk.out HT1.out HSZ5.out (Nat.le_refl _) (by simp) HA1.out rfl q1 q2 q3); have HBK2 := Lib.hid ((HBE5.out.trans (HT1.out.mono HSZ5.out)).grown q2 (Nat.le_trans HSZ5.out HT1.out.size) HOQk.out); clear q1 q2 q3) | ((refine wpList_appM rfl _ _ 44 rfl X0.heap.size 46 i0 _ 5 72 Tryd.underlying44 HI.out HZ0.out HZ1.out HZ2.out rfl (by decide) _ nl xsl rfl (HOl.out _ HT3.out) _ 1 1 [.int .i64 2, .string { data := #[68, 97, 116, 97, 83, 116, 111, 114, 101] }, .string ByteArray.empty, .bool false, .slice a' (nkk + 1) c'] rfl rfl (fun h => by cases h) (new_cells (Below.refl _ _)) (by simp [Value.oneCell']) H63l.out HBYl.out (Nat.le_trans HSl.out HT3.out.size) ?_); intro a'' c'' w4 q1 q2 q3; have HR10 := Lib.hid (push_end (k := ST) HNL.out HOWl.out HQl.out HT3.out HSl.out HB8.out.size (by simp) HA3.out rfl q1 q2 q3); have HB10 := Lib.hid ((HBl.out.trans (HT3.out.mono HSl.out)).grown q2 (Nat.le_trans HSl.out HT3.out.size) HOQl.out); have HS10 : Hid (X0.heap.size ≤ w4.heap.size) := Nat.le_trans (Nat.le_trans HSl.out HT3.out.size) q2.size; clear q1 q2 q3) | fail) | fail)
                      go_wp2_with fail
                      go_roundw
                      case rel => exact ⟨i + 1, by omega, by go_num, by rw [HTK.out, ← List.append_assoc, HKSL.out]; exact HR10.out, HB10.out, HS10.out⟩
                      case measure => simp [intOf]; omega
          · have k1 : ¬ (i : Int) < (ps.length : Int) := by omega
            have k2 : decide (i < ps.length) = false := by simp; omega
            have hti : ps.take i = ps := List.take_of_length_le (by omega)
            rw [hti] at HRl
            clear hti
            have HLL : Hid ((((((((([] ++ sayF nVerDTD v12) ++ sayF nMan2 man) ++ sayF nMod mod) ++ sayF nSwV soft) ++ sayF nDevID id) ++ sayF nDevTyp ty) ++ lgL lg) ++ ps.map storeT).length ≤ 20) := by unfold Hid; have := HLEN7.out; rw [List.length_append, List.length_map]; omega
            have HDL2 : Hid (DL = ((((((([] ++ sayF nVerDTD v12) ++ sayF nMan2 man) ++ sayF nMod mod) ++ sayF nSwV soft) ++ sayF nDevID id) ++ sayF nDevTyp ty) ++ lgL lg) ++ ps.map storeT) := HDL.out
            generalize ((((((([] ++ sayF nVerDTD v12) ++ sayF nMan2 man) ++ sayF nMod mod) ++ sayF nSwV soft) ++ sayF nDevID id) ++ sayF nDevTyp ty) ++ lgL lg) ++ ps.map storeT = ksl at *
            obtain ⟨xsl, hol, hql⟩ := HRl.out
            obtain ⟨al, cl, rfl⟩ := own_form hol
            have HRr : Hid (RowQ wo X0.heap.size (.slice al ksl.length cl) ksl) := ⟨xsl, hol, hql⟩
            have hll := HLL.out
            generalize hnl : ksl.length = nl at *
            have HNL := Lib.hid hnl
            have HNr : Hid (nl ≤ reachT) := by unfold Hid reachT; omega
            clear hnl hol hql hll HRl
            have cN := Lib.hid (fun X => refNodeD_any nDevInf al nl cl X)
            have hres5 : wo.heap[w.heap.size + 1]? = some (.cells #[.int .i64 0, .string ⟨#[]⟩, .string ⟨#[]⟩, .bool false, .slice none 0 0] 46 (0, 0)) := (HBl.out.block _ (show w.heap.size + 1 < X0.heap.size by have := HS0.out; omega)).trans HRes.out
            have HR5 := Lib.hid hres5
            have HAT : Hid (AtQ wo (fun b => X0.heap.size ≤ b ∧ b < wo.heap.size) (.mk 2 nDevInf ByteArray.empty false ksl) (.agg #[.int .i64 2, .string nDevInf, .string ByteArray.empty, .bool false, .slice al nl cl])) := node_share HRr.out HNL.out (by decide) HNr.out
            unfold nDevInf at cN
            clear hres5
            go_wp2_with (go_at_call 67; (with_reducible refine (cN.out _).mono ?_); rintro r w5 ⟨rfl, hb5⟩; have HB5 := Lib.hid hb5; have hz5 : w5.heap[w.heap.size + 1]? = some (.cells #[.int .i64 0, .string ⟨#[]⟩, .string ⟨#[]⟩, .bool false, .slice none 0 0] 46 (0, 0)) := (hb5.block _ (show w.heap.size + 1 < wo.heap.size by have := HS0.out; have := HSl.out; omega)).trans HR5.out; have HZ5 := Lib.hid hz5; obtain ⟨hcs, hfz⟩ := dv_cells_of hz5; have u0 := hcs 0 _ rfl; have u1 := hcs 1 _ rfl; have u2 := hcs 2 _ rfl; have u3 := hcs 3 _ rfl; have u4 := hcs 4 _ rfl; clear hcs hz5 hb5)
            have hfin := dv_stored_at (w := w) (w2 := w5) (g := w.heap.size + 1) (HBw.out.trans (HB5.out.mono HBw.out.size)) (Nat.le_succ _) (AtQ.keep (w' := w5) (P' := fun b => X0.heap.size ≤ b ∧ b < wo.heap.size) (fun b hb => ⟨hb, HB5.out.block b hb.2⟩) _ _ HAT.out) (fun b hb => by have h1 := HS0.out; have h2 := HB5.out.size; omega)
            refine bodyPost_ret (dv_results_row_tmp rfl rfl rfl (run_loadVar_row _ (w.heap.size + 1) 46 46 #[.int .i64 2, .string { data := #[68, 101, 118, 73, 110, 102] }, .string ByteArray.empty, .bool false, .slice al nl cl] (0, 0) _ (dv_set5_row HZ5.out) Tryd.underlying46 rfl (by kernel_rfl))) rfl ?_
            exact ⟨⟨_, rfl, by rw [HDL2.out]; exact hfin.1⟩, hfin.2⟩
end Go.Proofs.YtgechifbbhipaaaDoor
