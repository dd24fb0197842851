/- markup: the reference's put. No condition but that the element is right. -/
import Derived.Test.YtgechifbbhipaaaDoorMkT
import Derived.Test.YtgechifbbhipaaaDoorREncW
import Derived.Test.YtgechifbbhipaaaDoorKit
import Derived.Deep.RegionHeld3
import Derived.Laws.Concat
set_option linter.unusedVariables false
set_option linter.unusedSimpArgs false
namespace Go.Proofs.YtgechifbbhipaaaDoor
open Go.RowKit

theorem str_ext {a b : ByteArray} (h : a.data.toList = b.data.toList) : a = b := Go.WideShapes.bytes_inj h
theorem size_of_list {a : ByteArray} {l : List UInt8} (h : a.data.toList = l) : a.size = l.length := by rw [← h, len_toList]
def RefPutOk (e : Tr) : Prop := ∀ (v : Value) (pg : Int) (M : Nat) (w : World), M ≤ w.heap.size → AtT w M e v →
  Calls Tryd.prog 131 #[v, .int .i64 pg] w fun r w' => r = .returned (.string ⟨(docT spcL pg e).toArray⟩) ∧ Below w.heap.size w w'
theorem y5_of {w X : World} {v0 v1 v2 v3 v4 : Value} {t : TypeId} (hb : Below (w.heap.size + 1) (w.alloc (.cells #[v0, v1, v2, v3, v4] t)) X) :
    X.cell? ⟨w.heap.size, 0, none⟩ = some v0 ∧ X.cell? ⟨w.heap.size, 1, none⟩ = some v1 ∧ X.cell? ⟨w.heap.size, 2, none⟩ = some v2 ∧ X.cell? ⟨w.heap.size, 3, none⟩ = some v3 ∧ X.cell? ⟨w.heap.size, 4, none⟩ = some v4 := by
  have h : X.heap[w.heap.size]? = some (.cells #[v0, v1, v2, v3, v4] t (0, 0)) := (hb.block w.heap.size (by omega)).trans (World.alloc_heap_new w _)
  refine ⟨?_, ?_, ?_, ?_, ?_⟩ <;> (rw [Lib.cell_of_heap h]; rfl)

set_option maxRecDepth 100000 in
set_option maxHeartbeats 4000000 in
theorem refPut_eotl (e : Tr) (he : chkA e = 0) (ih : ∀ k ∈ e.kids, RefPutOk k) (v : Value) (pg : Int) (M : Nat) (w : World) (hMw : M ≤ w.heap.size) (hv : AtT w M e v)
    (hp : e.page = pg) (ho : e.opq = true) (hx : e.text.size ≠ 0) :
    Calls Tryd.prog 131 #[v, .int .i64 pg] w fun r w' => r = .returned (.string ⟨(docT spcL pg e).toArray⟩) ∧ Below w.heap.size w w' := by
  obtain ⟨hz1, hcT, hpg, hz2, hnm, hkl, htx, hz3, hz4, hz5, hks⟩ := chkA_right he
  clear hz1 hz2 hz3 hz4 hz5
  obtain ⟨hz1, hz2, s3, a, c, rfl, hk⟩ := hv.parts
  clear hz1 hz2
  obtain ⟨XO, hXO⟩ : ∃ XO : ByteArray, strOfNums (encS e.text.data.toList) = XO := ⟨_, rfl⟩
  have cX := Lib.hid (fun W => refEncode_any e.text W (by omega))
  rw [hXO] at cX
  have HX : Hid (XO.data.toList = txL e.opq e.text) := by unfold Hid txL; rw [ho, if_pos rfl, ← hXO]; simp [strOfNums, u8s]
  have hXl : XO.size ≤ 20000 := by rw [← len_toList, HX.out]; have := (txL_len e.opq e.text).2; omega
  clear hXO
  have i1 := not_empty e.text hx
  have HT0 : Hid (txL e.opq e.text ≠ []) := fun h => by
    have h9 := (txL_len e.opq e.text).1
    rw [h, List.length_nil] at h9
    omega
  have HDoc : Hid (docT spcL pg e = headL spcL pg e.page e.name e.opq ++ (([62] ++ txL e.opq e.text) ++ (docL spcL e.page e.kids ++ tailL e.name))) := by
    unfold Hid; rw [docT_of, if_neg (fun h => HT0.out h.1)]
  have HHead : Hid (headL spcL pg e.page e.name e.opq = ([60] ++ e.name.data.toList) ++ sEnc) := by
    unfold Hid headL; rw [if_neg (by simpa using hp), ho]; simp
  have j0 : (e.page == pg) = true := by simpa using hp
  have j1 : (e.page != pg) = false := by simpa using hp
  have j2 : e.opq = true := ho
  have HDL : Hid (∀ i, (docL spcL e.page (e.kids.take i)).length ≤ 42000000) := fun i => by
    have h1 := docL_len spcL spcL_len e.page (e.kids.take i) (fun k hk => hks k (List.mem_of_mem_take hk))
    have h2 := cL_le e.kids i
    rw [cT_of] at hcT
    omega
  have HDK : Hid (∀ k ∈ e.kids, (docT spcL e.page k).length ≤ 42000000) := fun k hk => by
    have h1 := docT_bound spcL spcL_len (hT k) k (Nat.le_refl _) (hks k hk) e.page
    have h2 := (chkA_right (hks k hk)).2.1
    omega
  have HIH := Lib.hid ih
  have HKs := Lib.hid hk
  have hSp : (spc e.page).size ≤ 40 := by have := spcL_len e.page; unfold spcL at this; rw [len_toList] at this; exact this
  have HB0 : Hid (Below (w.heap.size + 1) (w.alloc (.cells #[.int .i64 e.page, .string e.name, .string e.text, .bool e.opq, .slice a e.kids.length c] 46)) (w.alloc (.cells #[.int .i64 e.page, .string e.name, .string e.text, .bool e.opq, .slice a e.kids.length c] 46))) := Below.refl _ _
  have HWB : Hid (Below w.heap.size w (w.alloc (.cells #[.int .i64 e.page, .string e.name, .string e.text, .bool e.opq, .slice a e.kids.length c] 46))) := (Below.refl _ w).alloc (Nat.le_refl _) _
  have HMw := Lib.hid hMw
  have HVV := Lib.hid hv
  clear hp hx hv he ih hks hk hpg hcT hMw HVV
  generalize hgp : e.page = p at *
  generalize hgn : e.name = nm at *
  generalize hgt : e.text = tx at *
  generalize hgo : e.opq = o at *
  generalize hgk : e.kids = ks at *
  clear hgp hgn hgt hgo hgk
  generalize hnk : ks.length = nk at *
  have HNK := Lib.hid hnk
  clear hnk
  subst j2
  clear ho
  go_enter Tryd.func131, Tryd.ntmps131
  go_wp2_with fail
  have cW := cX.out (w.alloc (.cells #[.int .i64 p, .string nm, .string tx, .bool true, .slice a nk c] 46))
  refine cW.mono ?_
  clear cW
  rintro r X ⟨rfl, hbx⟩
  have HBX : Hid (Below w.heap.size w X) := HWB.out.trans (hbx.mono HWB.out.size)
  obtain ⟨y0, y1, y2, y3, y4⟩ := y5_of (v0 := .int .i64 p) (v1 := .string nm) (v2 := .string tx) (v3 := .bool true) (v4 := .slice a nk c) (t := 46) (w := w) (X := X) (by simpa using hbx)
  have HZX : Hid (w.heap.size + 1 ≤ X.heap.size) := by unfold Hid; have := hbx.size; simpa using this
  clear hbx
  go_wp2_with fail
  have HFL : Hid ((((([60] ++ nm.data.toList) ++ sEnc) ++ ([62] ++ txL true tx))).length ≤ 30000) := by
    have h3 := hXl
    rw [← len_toList, HX.out] at h3
    have h4 := spcL_len p
    have h5 := len_toList nm
    unfold Hid
    simp [sXm, sEnc] at h3 ⊢
    omega
  have HS0 : Hid (((((({ data := #[60] } ++ nm) ++ { data := #[32, 101, 110, 99, 61, 34, 98, 54, 52, 34] }) ++ { data := #[62] }) ++ XO)).data.toList = ((([60] ++ nm.data.toList) ++ sEnc) ++ ([62] ++ txL true tx)) ++ docL spcL p (ks.take 0)) := by
    unfold Hid; rw [List.take_zero, ← HX.out]
    simp [ByteArray.data_append, sXm, sEnc, spcL, docL]
  generalize hFr : ((([60] ++ nm.data.toList) ++ sEnc) ++ ([62] ++ txL true tx)) = FR at HS0 HFL
  have HFr := Lib.hid hFr
  clear hFr
  generalize ((((({ data := #[60] } ++ nm) ++ { data := #[32, 101, 110, 99, 61, 34, 98, 54, 52, 34] }) ++ { data := #[62] }) ++ XO)) = S0 at *
  go_loopw [5, 6] (fun sv iv wr => ∃ (i : Nat) (S : ByteArray), i ≤ nk ∧ iv = .int .i64 (i : Int) ∧ sv = .string S ∧ Hid (S.data.toList = FR ++ docL spcL p (ks.take i)) ∧ Hid (Below w.heap.size w wr) ∧ Hid (w.heap.size + 1 ≤ wr.heap.size) ∧ wr.cell? ⟨w.heap.size, 0, none⟩ = some (.int .i64 p) ∧ wr.cell? ⟨w.heap.size, 1, none⟩ = some (.string nm) ∧ wr.cell? ⟨w.heap.size, 2, none⟩ = some (.string tx) ∧ wr.cell? ⟨w.heap.size, 3, none⟩ = some (.bool true) ∧ wr.cell? ⟨w.heap.size, 4, none⟩ = some (.slice a nk c)) (fun _ iv _ => nk - (intOf iv).toNat)
  case atStart => exact ⟨0, S0, Nat.zero_le _, rfl, rfl, HS0.out, HBX.out, HZX.out, y0, y1, y2, y3, y4⟩
  case round =>
    clear y0 y1 y2 y3 y4
    obtain ⟨i, S, hi, rfl, rfl, HS, HB, HZ, y0, y1, y2, y3, y4⟩ := hrel
    have hSl : S.size ≤ 42030000 := by
      rw [size_of_list HS.out, List.length_append]
      have := HDL.out i
      have := HFL.out
      omega
    by_cases hlt : i < nk
    · have j3 : (i : Int) < (nk : Int) := by omega
      have d3 : decide (i < nk) = true := by simp; omega
      have HW1 : Hid (wrap64 ((i : Int) + 1) = (i : Int) + 1) := by unfold Hid wrap64; omega
      have HMs : Hid (nk - (intOf (.int .i64 ((i : Int) + 1))).toNat < nk - (intOf (.int .i64 (i : Int))).toNat) := by unfold Hid; simp [intOf]; omega
      have hik : i < ks.length := by rw [HNK.out]; exact hlt
      obtain ⟨bb, oo, a', c', rfl, hrg, hat⟩ := kid_at HKs.out (HB.out.mono HMw.out) i hik
      have hbb : bb < w.heap.size := by
        have h9 := HKs.out.kid i hik
        obtain ⟨b2, o2, _, _, h1, h2, _⟩ := h9
        have h1 : bb = b2 := congrArg Addr.block (Option.some.inj h1)
        have := HMw.out
        omega
      obtain ⟨x0, x1, x2, x3, x4⟩ := elem_cells hrg
      have hnext : FR ++ docL spcL p (ks.take (i + 1)) = (FR ++ docL spcL p (ks.take i)) ++ docT spcL p ks[i] := by
        rw [List.take_succ_eq_append_getElem hik, docL_snoc, List.append_assoc]
      obtain ⟨KB, hKB⟩ : ∃ KB : ByteArray, (⟨(docT spcL p ks[i]).toArray⟩ : ByteArray) = KB := ⟨_, rfl⟩
      have hKl : KB.size ≤ 42000000 := by
        rw [← hKB]
        have := HDK.out ks[i] (List.getElem_mem hik)
        rw [← len_toList]; exact this
      have HN2 : Hid ((S ++ KB).data.toList = FR ++ docL spcL p (ks.take (i + 1))) := by
        unfold Hid; rw [hnext, ByteArray.data_append, Array.toList_append, HS.out, ← hKB]
      have cI := HIH.out ks[i] (List.getElem_mem hik)
      have CI : Hid (∀ X, Below w.heap.size w X → Calls Tryd.prog 131 #[.agg #[.int .i64 ks[i].page, .string ks[i].name, .string ks[i].text, .bool ks[i].opq, .slice a' ks[i].kids.length c'], .int .i64 p] X fun r w' => r = .returned (.string KB) ∧ Below X.heap.size X w') := fun X hX => by
        rw [← hKB]
        have hat0 := HKs.out.kid i hik
        obtain ⟨b2, o2, a2, c2, h1, h2, h3, h4⟩ := hat0
        have hat2 := AtT.below (hX.mono HMw.out) _ _ h4
        have e0 := (Option.some.inj h1)
        have h5 := h3 4 _ rfl
        have h6 : wr.cell? ⟨b2, o2 + i * 5 + 4, none⟩ = some (.slice a2 ks[i].kids.length c2) := ((HB.out.mono HMw.out).cell (p := ⟨b2, o2 + i * 5 + 4, none⟩) h2).trans h5
        obtain ⟨rfl, rfl⟩ : bb = b2 ∧ oo = o2 := ⟨congrArg Addr.block e0, congrArg Addr.off e0⟩
        rw [x4] at h6
        have h7 : Value.slice a' ks[i].kids.length c' = Value.slice a2 ks[i].kids.length c2 := Option.some.inj h6
        rw [h7]
        exact cI _ p M X (Nat.le_trans HMw.out hX.size) hat2
      generalize ks[i] = k at *
      have HF : Hid (KC w (w.heap.size + 1) [(w.heap.size, 0, .int .i64 p), (w.heap.size, 1, .string nm), (w.heap.size, 2, .string tx), (w.heap.size, 3, .bool true), (w.heap.size, 4, .slice (some ⟨bb, oo, none⟩) nk c), (bb, oo + i * 5, .int .i64 k.page), (bb, oo + i * 5 + 1, .string k.name), (bb, oo + i * 5 + 2, .string k.text), (bb, oo + i * 5 + 3, .bool k.opq), (bb, oo + i * 5 + 4, .slice a' k.kids.length c')] wr) := ⟨y0, y1, y2, y3, y4, x0, x1, x2, x3, x4, HZ.out, HB.out⟩
      have HL : Hid (LtA [(w.heap.size, 0, .int .i64 p), (w.heap.size, 1, .string nm), (w.heap.size, 2, .string tx), (w.heap.size, 3, .bool true), (w.heap.size, 4, .slice (some ⟨bb, oo, none⟩) nk c), (bb, oo + i * 5, .int .i64 k.page), (bb, oo + i * 5 + 1, .string k.name), (bb, oo + i * 5 + 2, .string k.text), (bb, oo + i * 5 + 3, .bool k.opq), (bb, oo + i * 5 + 4, .slice a' k.kids.length c')] (w.heap.size + 1)) := ⟨by omega, by omega, by omega, by omega, by omega, by omega, by omega, by omega, by omega, by omega, trivial⟩
      clear hrg hat hnext hKB cI
      have hcat : ∀ w, (Op.stringOp .add S KB).run Tryd.prog w = .ok (.string (S ++ KB)) w := fun w => run_string_add_sum w S KB (by omega)
      go_wp2_with fail
      go_region_held3 (fun w' => w'.cell? ⟨w.heap.size, 0, none⟩ = some (.int .i64 p) ∧ w'.cell? ⟨w.heap.size, 1, none⟩ = some (.string nm) ∧ w'.cell? ⟨w.heap.size, 2, none⟩ = some (.string tx) ∧ w'.cell? ⟨w.heap.size, 3, none⟩ = some (.bool true) ∧ w'.cell? ⟨w.heap.size, 4, none⟩ = some (.slice (some ⟨bb, oo, none⟩) nk c) ∧ w'.cell? ⟨bb, oo + i * 5, none⟩ = some (.int .i64 k.page) ∧ w'.cell? ⟨bb, oo + i * 5 + 1, none⟩ = some (.string k.name) ∧ w'.cell? ⟨bb, oo + i * 5 + 2, none⟩ = some (.string k.text) ∧ w'.cell? ⟨bb, oo + i * 5 + 3, none⟩ = some (.bool k.opq) ∧ w'.cell? ⟨bb, oo + i * 5 + 4, none⟩ = some (.slice a' k.kids.length c') ∧ (w.heap.size + 1 ≤ w'.heap.size ∧ Below w.heap.size w w')) (first | assumption | exact KC.drew HL.out HF.out | exact KC.call HL.out (by assumption) hb9 | exact KC.call HL.out (KC.drew HL.out HF.out) hb9) (first | (go_at_call 131; (with_reducible refine (CI.out _ ?_).mono ?_); exact (KC.below (w0 := w) (m := w.heap.size + 1) (l := [(w.heap.size, 0, .int .i64 p), (w.heap.size, 1, .string nm), (w.heap.size, 2, .string tx), (w.heap.size, 3, .bool true), (w.heap.size, 4, .slice (some ⟨bb, oo, none⟩) nk c), (bb, oo + i * 5, .int .i64 k.page), (bb, oo + i * 5 + 1, .string k.name), (bb, oo + i * 5 + 2, .string k.text), (bb, oo + i * 5 + 3, .bool k.opq), (bb, oo + i * 5 + 4, .slice a' k.kids.length c')]) (by first | assumption | exact KC.drew HL.out HF.out)); rintro r w9 ⟨rfl, hb9⟩))
      all_goals
        have hq : w9.cell? ⟨w.heap.size, 0, none⟩ = some (.int .i64 p) ∧ w9.cell? ⟨w.heap.size, 1, none⟩ = some (.string nm) ∧ w9.cell? ⟨w.heap.size, 2, none⟩ = some (.string tx) ∧ w9.cell? ⟨w.heap.size, 3, none⟩ = some (.bool true) ∧ w9.cell? ⟨w.heap.size, 4, none⟩ = some (.slice (some ⟨bb, oo, none⟩) nk c) ∧ w9.cell? ⟨bb, oo + i * 5, none⟩ = some (.int .i64 k.page) ∧ w9.cell? ⟨bb, oo + i * 5 + 1, none⟩ = some (.string k.name) ∧ w9.cell? ⟨bb, oo + i * 5 + 2, none⟩ = some (.string k.text) ∧ w9.cell? ⟨bb, oo + i * 5 + 3, none⟩ = some (.bool k.opq) ∧ w9.cell? ⟨bb, oo + i * 5 + 4, none⟩ = some (.slice a' k.kids.length c') ∧ (w.heap.size + 1 ≤ w9.heap.size ∧ Below w.heap.size w w9) := by with_reducible assumption
        obtain ⟨z0, z1, z2, z3, z4, q5, q6, q7, q8, q9, hq1, hq2⟩ := hq
        have HB9 := Lib.hid hq2
        have HZ9 := Lib.hid hq1
        clear hq1 hq2 q5 q6 q7 q8 q9 hb9 hcat i1 j0 j1 hSp hnm htx hkl s3 hXl
        clear y0 y1 y2 y3 y4 x0 x1 x2 x3 x4 HF HL CI
        have hw1 := HW1.out
        go_wp2_with fail
        go_roundw
        case rel => exact ⟨i + 1, S ++ KB, by omega, by go_num, rfl, HN2.out, HB9.out, HZ9.out, z0, z1, z2, z3, z4⟩
        case measure => first | exact HMs.out | (rw [hw1]; exact HMs.out)
    · have j3 : ¬ (i : Int) < (nk : Int) := by omega
      have d3 : decide (i < nk) = false := by simp; omega
      have hkk : ks.take i = ks := List.take_of_length_le (by rw [HNK.out]; omega)
      have hr := HS.out
      rw [hkk, ← HFr.out] at hr
      have HS2 := Lib.hid hr
      clear hr hkk HS
      have hc1 : ∀ w, (Op.stringOp .add S { data := #[60, 47] }).run Tryd.prog w = .ok (.string (S ++ { data := #[60, 47] })) w := fun w => run_string_add_sum w _ _ (by show S.size + 2 ≤ _; omega)
      have hc2 : ∀ w, (Op.stringOp .add (S ++ { data := #[60, 47] }) nm).run Tryd.prog w = .ok (.string (S ++ { data := #[60, 47] } ++ nm)) w := fun w => run_string_add_sum w _ _ (by rw [ByteArray.size_append]; show S.size + 2 + nm.size ≤ _; omega)
      have hc3 : ∀ w, (Op.stringOp .add (S ++ { data := #[60, 47] } ++ nm) { data := #[62] }).run Tryd.prog w = .ok (.string (S ++ { data := #[60, 47] } ++ nm ++ { data := #[62] })) w := fun w => run_string_add_sum w _ _ (by rw [ByteArray.size_append, ByteArray.size_append]; show S.size + 2 + nm.size + 1 ≤ _; omega)
      go_wp2_with fail
      go_ret
      exact ⟨ret_bytes' (by
        rw [HDoc.out, HHead.out]
        refine str_ext ?_
        rw [ByteArray.data_append, ByteArray.data_append, ByteArray.data_append]
        simp only [Array.toList_append]
        rw [HS2.out]
        simp [tailL]), HB.out⟩

set_option maxRecDepth 100000 in
set_option maxHeartbeats 4000000 in
theorem refPut_eptl (e : Tr) (he : chkA e = 0) (ih : ∀ k ∈ e.kids, RefPutOk k) (v : Value) (pg : Int) (M : Nat) (w : World) (hMw : M ≤ w.heap.size) (hv : AtT w M e v)
    (hp : e.page = pg) (ho : e.opq = false) (hx : e.text.size ≠ 0) :
    Calls Tryd.prog 131 #[v, .int .i64 pg] w fun r w' => r = .returned (.string ⟨(docT spcL pg e).toArray⟩) ∧ Below w.heap.size w w' := by
  obtain ⟨hz1, hcT, hpg, hz2, hnm, hkl, htx, hz3, hz4, hz5, hks⟩ := chkA_right he
  clear hz1 hz2 hz3 hz4 hz5
  obtain ⟨hz1, hz2, s3, a, c, rfl, hk⟩ := hv.parts
  clear hz1 hz2
  obtain ⟨XO, hXO⟩ : ∃ XO : ByteArray, (⟨(esc e.text.data.toList).toArray⟩ : ByteArray) = XO := ⟨_, rfl⟩
  have cX := Lib.hid (fun W => refEscape_any e.text W (by omega))
  rw [hXO] at cX
  have HX : Hid (XO.data.toList = txL e.opq e.text) := by unfold Hid txL; rw [ho, ← hXO]; rfl
  have hXl : XO.size ≤ 20000 := by rw [← len_toList, HX.out]; have := (txL_len e.opq e.text).2; omega
  clear hXO
  have i1 := not_empty e.text hx
  have HT0 : Hid (txL e.opq e.text ≠ []) := fun h => by
    have h9 := (txL_len e.opq e.text).1
    rw [h, List.length_nil] at h9
    omega
  have HDoc : Hid (docT spcL pg e = headL spcL pg e.page e.name e.opq ++ (([62] ++ txL e.opq e.text) ++ (docL spcL e.page e.kids ++ tailL e.name))) := by
    unfold Hid; rw [docT_of, if_neg (fun h => HT0.out h.1)]
  have HHead : Hid (headL spcL pg e.page e.name e.opq = ([60] ++ e.name.data.toList)) := by
    unfold Hid headL; rw [if_neg (by simpa using hp), ho]; simp
  have j0 : (e.page == pg) = true := by simpa using hp
  have j1 : (e.page != pg) = false := by simpa using hp
  have j2 : e.opq = false := ho
  have HDL : Hid (∀ i, (docL spcL e.page (e.kids.take i)).length ≤ 42000000) := fun i => by
    have h1 := docL_len spcL spcL_len e.page (e.kids.take i) (fun k hk => hks k (List.mem_of_mem_take hk))
    have h2 := cL_le e.kids i
    rw [cT_of] at hcT
    omega
  have HDK : Hid (∀ k ∈ e.kids, (docT spcL e.page k).length ≤ 42000000) := fun k hk => by
    have h1 := docT_bound spcL spcL_len (hT k) k (Nat.le_refl _) (hks k hk) e.page
    have h2 := (chkA_right (hks k hk)).2.1
    omega
  have HIH := Lib.hid ih
  have HKs := Lib.hid hk
  have hSp : (spc e.page).size ≤ 40 := by have := spcL_len e.page; unfold spcL at this; rw [len_toList] at this; exact this
  have HB0 : Hid (Below (w.heap.size + 1) (w.alloc (.cells #[.int .i64 e.page, .string e.name, .string e.text, .bool e.opq, .slice a e.kids.length c] 46)) (w.alloc (.cells #[.int .i64 e.page, .string e.name, .string e.text, .bool e.opq, .slice a e.kids.length c] 46))) := Below.refl _ _
  have HWB : Hid (Below w.heap.size w (w.alloc (.cells #[.int .i64 e.page, .string e.name, .string e.text, .bool e.opq, .slice a e.kids.length c] 46))) := (Below.refl _ w).alloc (Nat.le_refl _) _
  have HMw := Lib.hid hMw
  have HVV := Lib.hid hv
  clear hp hx hv he ih hks hk hpg hcT hMw HVV
  generalize hgp : e.page = p at *
  generalize hgn : e.name = nm at *
  generalize hgt : e.text = tx at *
  generalize hgo : e.opq = o at *
  generalize hgk : e.kids = ks at *
  clear hgp hgn hgt hgo hgk
  generalize hnk : ks.length = nk at *
  have HNK := Lib.hid hnk
  clear hnk
  subst j2
  clear ho
  go_enter Tryd.func131, Tryd.ntmps131
  go_wp2_with fail
  have cW := cX.out (w.alloc (.cells #[.int .i64 p, .string nm, .string tx, .bool false, .slice a nk c] 46))
  refine cW.mono ?_
  clear cW
  rintro r X ⟨rfl, hbx⟩
  have HBX : Hid (Below w.heap.size w X) := HWB.out.trans (hbx.mono HWB.out.size)
  obtain ⟨y0, y1, y2, y3, y4⟩ := y5_of (v0 := .int .i64 p) (v1 := .string nm) (v2 := .string tx) (v3 := .bool false) (v4 := .slice a nk c) (t := 46) (w := w) (X := X) (by simpa using hbx)
  have HZX : Hid (w.heap.size + 1 ≤ X.heap.size) := by unfold Hid; have := hbx.size; simpa using this
  clear hbx
  go_wp2_with fail
  have HFL : Hid ((((([60] ++ nm.data.toList)) ++ ([62] ++ txL false tx))).length ≤ 30000) := by
    have h3 := hXl
    rw [← len_toList, HX.out] at h3
    have h4 := spcL_len p
    have h5 := len_toList nm
    unfold Hid
    simp [sXm, sEnc] at h3 ⊢
    omega
  have HS0 : Hid ((((({ data := #[60] } ++ nm) ++ { data := #[62] }) ++ XO)).data.toList = ((([60] ++ nm.data.toList)) ++ ([62] ++ txL false tx)) ++ docL spcL p (ks.take 0)) := by
    unfold Hid; rw [List.take_zero, ← HX.out]
    simp [ByteArray.data_append, sXm, sEnc, spcL, docL]
  generalize hFr : ((([60] ++ nm.data.toList)) ++ ([62] ++ txL false tx)) = FR at HS0 HFL
  have HFr := Lib.hid hFr
  clear hFr
  generalize (((({ data := #[60] } ++ nm) ++ { data := #[62] }) ++ XO)) = S0 at *
  go_loopw [5, 6] (fun sv iv wr => ∃ (i : Nat) (S : ByteArray), i ≤ nk ∧ iv = .int .i64 (i : Int) ∧ sv = .string S ∧ Hid (S.data.toList = FR ++ docL spcL p (ks.take i)) ∧ Hid (Below w.heap.size w wr) ∧ Hid (w.heap.size + 1 ≤ wr.heap.size) ∧ wr.cell? ⟨w.heap.size, 0, none⟩ = some (.int .i64 p) ∧ wr.cell? ⟨w.heap.size, 1, none⟩ = some (.string nm) ∧ wr.cell? ⟨w.heap.size, 2, none⟩ = some (.string tx) ∧ wr.cell? ⟨w.heap.size, 3, none⟩ = some (.bool false) ∧ wr.cell? ⟨w.heap.size, 4, none⟩ = some (.slice a nk c)) (fun _ iv _ => nk - (intOf iv).toNat)
  case atStart => exact ⟨0, S0, Nat.zero_le _, rfl, rfl, HS0.out, HBX.out, HZX.out, y0, y1, y2, y3, y4⟩
  case round =>
    clear y0 y1 y2 y3 y4
    obtain ⟨i, S, hi, rfl, rfl, HS, HB, HZ, y0, y1, y2, y3, y4⟩ := hrel
    have hSl : S.size ≤ 42030000 := by
      rw [size_of_list HS.out, List.length_append]
      have := HDL.out i
      have := HFL.out
      omega
    by_cases hlt : i < nk
    · have j3 : (i : Int) < (nk : Int) := by omega
      have d3 : decide (i < nk) = true := by simp; omega
      have HW1 : Hid (wrap64 ((i : Int) + 1) = (i : Int) + 1) := by unfold Hid wrap64; omega
      have HMs : Hid (nk - (intOf (.int .i64 ((i : Int) + 1))).toNat < nk - (intOf (.int .i64 (i : Int))).toNat) := by unfold Hid; simp [intOf]; omega
      have hik : i < ks.length := by rw [HNK.out]; exact hlt
      obtain ⟨bb, oo, a', c', rfl, hrg, hat⟩ := kid_at HKs.out (HB.out.mono HMw.out) i hik
      have hbb : bb < w.heap.size := by
        have h9 := HKs.out.kid i hik
        obtain ⟨b2, o2, _, _, h1, h2, _⟩ := h9
        have h1 : bb = b2 := congrArg Addr.block (Option.some.inj h1)
        have := HMw.out
        omega
      obtain ⟨x0, x1, x2, x3, x4⟩ := elem_cells hrg
      have hnext : FR ++ docL spcL p (ks.take (i + 1)) = (FR ++ docL spcL p (ks.take i)) ++ docT spcL p ks[i] := by
        rw [List.take_succ_eq_append_getElem hik, docL_snoc, List.append_assoc]
      obtain ⟨KB, hKB⟩ : ∃ KB : ByteArray, (⟨(docT spcL p ks[i]).toArray⟩ : ByteArray) = KB := ⟨_, rfl⟩
      have hKl : KB.size ≤ 42000000 := by
        rw [← hKB]
        have := HDK.out ks[i] (List.getElem_mem hik)
        rw [← len_toList]; exact this
      have HN2 : Hid ((S ++ KB).data.toList = FR ++ docL spcL p (ks.take (i + 1))) := by
        unfold Hid; rw [hnext, ByteArray.data_append, Array.toList_append, HS.out, ← hKB]
      have cI := HIH.out ks[i] (List.getElem_mem hik)
      have CI : Hid (∀ X, Below w.heap.size w X → Calls Tryd.prog 131 #[.agg #[.int .i64 ks[i].page, .string ks[i].name, .string ks[i].text, .bool ks[i].opq, .slice a' ks[i].kids.length c'], .int .i64 p] X fun r w' => r = .returned (.string KB) ∧ Below X.heap.size X w') := fun X hX => by
        rw [← hKB]
        have hat0 := HKs.out.kid i hik
        obtain ⟨b2, o2, a2, c2, h1, h2, h3, h4⟩ := hat0
        have hat2 := AtT.below (hX.mono HMw.out) _ _ h4
        have e0 := (Option.some.inj h1)
        have h5 := h3 4 _ rfl
        have h6 : wr.cell? ⟨b2, o2 + i * 5 + 4, none⟩ = some (.slice a2 ks[i].kids.length c2) := ((HB.out.mono HMw.out).cell (p := ⟨b2, o2 + i * 5 + 4, none⟩) h2).trans h5
        obtain ⟨rfl, rfl⟩ : bb = b2 ∧ oo = o2 := ⟨congrArg Addr.block e0, congrArg Addr.off e0⟩
        rw [x4] at h6
        have h7 : Value.slice a' ks[i].kids.length c' = Value.slice a2 ks[i].kids.length c2 := Option.some.inj h6
        rw [h7]
        exact cI _ p M X (Nat.le_trans HMw.out hX.size) hat2
      generalize ks[i] = k at *
      have HF : Hid (KC w (w.heap.size + 1) [(w.heap.size, 0, .int .i64 p), (w.heap.size, 1, .string nm), (w.heap.size, 2, .string tx), (w.heap.size, 3, .bool false), (w.heap.size, 4, .slice (some ⟨bb, oo, none⟩) nk c), (bb, oo + i * 5, .int .i64 k.page), (bb, oo + i * 5 + 1, .string k.name), (bb, oo + i * 5 + 2, .string k.text), (bb, oo + i * 5 + 3, .bool k.opq), (bb, oo + i * 5 + 4, .slice a' k.kids.length c')] wr) := ⟨y0, y1, y2, y3, y4, x0, x1, x2, x3, x4, HZ.out, HB.out⟩
      have HL : Hid (LtA [(w.heap.size, 0, .int .i64 p), (w.heap.size, 1, .string nm), (w.heap.size, 2, .string tx), (w.heap.size, 3, .bool false), (w.heap.size, 4, .slice (some ⟨bb, oo, none⟩) nk c), (bb, oo + i * 5, .int .i64 k.page), (bb, oo + i * 5 + 1, .string k.name), (bb, oo + i * 5 + 2, .string k.text), (bb, oo + i * 5 + 3, .bool k.opq), (bb, oo + i * 5 + 4, .slice a' k.kids.length c')] (w.heap.size + 1)) := ⟨by omega, by omega, by omega, by omega, by omega, by omega, by omega, by omega, by omega, by omega, trivial⟩
      clear hrg hat hnext hKB cI
      have hcat : ∀ w, (Op.stringOp .add S KB).run Tryd.prog w = .ok (.string (S ++ KB)) w := fun w => run_string_add_sum w S KB (by omega)
      go_wp2_with fail
      go_region_held3 (fun w' => w'.cell? ⟨w.heap.size, 0, none⟩ = some (.int .i64 p) ∧ w'.cell? ⟨w.heap.size, 1, none⟩ = some (.string nm) ∧ w'.cell? ⟨w.heap.size, 2, none⟩ = some (.string tx) ∧ w'.cell? ⟨w.heap.size, 3, none⟩ = some (.bool false) ∧ w'.cell? ⟨w.heap.size, 4, none⟩ = some (.slice (some ⟨bb, oo, none⟩) nk c) ∧ w'.cell? ⟨bb, oo + i * 5, none⟩ = some (.int .i64 k.page) ∧ w'.cell? ⟨bb, oo + i * 5 + 1, none⟩ = some (.string k.name) ∧ w'.cell? ⟨bb, oo + i * 5 + 2, none⟩ = some (.string k.text) ∧ w'.cell? ⟨bb, oo + i * 5 + 3, none⟩ = some (.bool k.opq) ∧ w'.cell? ⟨bb, oo + i * 5 + 4, none⟩ = some (.slice a' k.kids.length c') ∧ (w.heap.size + 1 ≤ w'.heap.size ∧ Below w.heap.size w w')) (first | assumption | exact KC.drew HL.out HF.out | exact KC.call HL.out (by assumption) hb9 | exact KC.call HL.out (KC.drew HL.out HF.out) hb9) (first | (go_at_call 131; (with_reducible refine (CI.out _ ?_).mono ?_); exact (KC.below (w0 := w) (m := w.heap.size + 1) (l := [(w.heap.size, 0, .int .i64 p), (w.heap.size, 1, .string nm), (w.heap.size, 2, .string tx), (w.heap.size, 3, .bool false), (w.heap.size, 4, .slice (some ⟨bb, oo, none⟩) nk c), (bb, oo + i * 5, .int .i64 k.page), (bb, oo + i * 5 + 1, .string k.name), (bb, oo + i * 5 + 2, .string k.text), (bb, oo + i * 5 + 3, .bool k.opq), (bb, oo + i * 5 + 4, .slice a' k.kids.length c')]) (by first | assumption | exact KC.drew HL.out HF.out)); rintro r w9 ⟨rfl, hb9⟩))
      all_goals
        have hq : w9.cell? ⟨w.heap.size, 0, none⟩ = some (.int .i64 p) ∧ w9.cell? ⟨w.heap.size, 1, none⟩ = some (.string nm) ∧ w9.cell? ⟨w.heap.size, 2, none⟩ = some (.string tx) ∧ w9.cell? ⟨w.heap.size, 3, none⟩ = some (.bool false) ∧ w9.cell? ⟨w.heap.size, 4, none⟩ = some (.slice (some ⟨bb, oo, none⟩) nk c) ∧ w9.cell? ⟨bb, oo + i * 5, none⟩ = some (.int .i64 k.page) ∧ w9.cell? ⟨bb, oo + i * 5 + 1, none⟩ = some (.string k.name) ∧ w9.cell? ⟨bb, oo + i * 5 + 2, none⟩ = some (.string k.text) ∧ w9.cell? ⟨bb, oo + i * 5 + 3, none⟩ = some (.bool k.opq) ∧ w9.cell? ⟨bb, oo + i * 5 + 4, none⟩ = some (.slice a' k.kids.length c') ∧ (w.heap.size + 1 ≤ w9.heap.size ∧ Below w.heap.size w w9) := by with_reducible assumption
        obtain ⟨z0, z1, z2, z3, z4, q5, q6, q7, q8, q9, hq1, hq2⟩ := hq
        have HB9 := Lib.hid hq2
        have HZ9 := Lib.hid hq1
        clear hq1 hq2 q5 q6 q7 q8 q9 hb9 hcat i1 j0 j1 hSp hnm htx hkl s3 hXl
        clear y0 y1 y2 y3 y4 x0 x1 x2 x3 x4 HF HL CI
        have hw1 := HW1.out
        go_wp2_with fail
        go_roundw
        case rel => exact ⟨i + 1, S ++ KB, by omega, by go_num, rfl, HN2.out, HB9.out, HZ9.out, z0, z1, z2, z3, z4⟩
        case measure => first | exact HMs.out | (rw [hw1]; exact HMs.out)
    · have j3 : ¬ (i : Int) < (nk : Int) := by omega
      have d3 : decide (i < nk) = false := by simp; omega
      have hkk : ks.take i = ks := List.take_of_length_le (by rw [HNK.out]; omega)
      have hr := HS.out
      rw [hkk, ← HFr.out] at hr
      have HS2 := Lib.hid hr
      clear hr hkk HS
      have hc1 : ∀ w, (Op.stringOp .add S { data := #[60, 47] }).run Tryd.prog w = .ok (.string (S ++ { data := #[60, 47] })) w := fun w => run_string_add_sum w _ _ (by show S.size + 2 ≤ _; omega)
      have hc2 : ∀ w, (Op.stringOp .add (S ++ { data := #[60, 47] }) nm).run Tryd.prog w = .ok (.string (S ++ { data := #[60, 47] } ++ nm)) w := fun w => run_string_add_sum w _ _ (by rw [ByteArray.size_append]; show S.size + 2 + nm.size ≤ _; omega)
      have hc3 : ∀ w, (Op.stringOp .add (S ++ { data := #[60, 47] } ++ nm) { data := #[62] }).run Tryd.prog w = .ok (.string (S ++ { data := #[60, 47] } ++ nm ++ { data := #[62] })) w := fun w => run_string_add_sum w _ _ (by rw [ByteArray.size_append, ByteArray.size_append]; show S.size + 2 + nm.size + 1 ≤ _; omega)
      go_wp2_with fail
      go_ret
      exact ⟨ret_bytes' (by
        rw [HDoc.out, HHead.out]
        refine str_ext ?_
        rw [ByteArray.data_append, ByteArray.data_append, ByteArray.data_append]
        simp only [Array.toList_append]
        rw [HS2.out]
        simp [tailL]), HB.out⟩

set_option maxRecDepth 100000 in
set_option maxHeartbeats 4000000 in
theorem refPut_epxl (e : Tr) (he : chkA e = 0) (ih : ∀ k ∈ e.kids, RefPutOk k) (v : Value) (pg : Int) (M : Nat) (w : World) (hMw : M ≤ w.heap.size) (hv : AtT w M e v)
    (hp : e.page = pg) (ho : e.opq = false) (hx : e.text.size = 0) (hk0 : e.kids.length ≠ 0) :
    Calls Tryd.prog 131 #[v, .int .i64 pg] w fun r w' => r = .returned (.string ⟨(docT spcL pg e).toArray⟩) ∧ Below w.heap.size w w' := by
  obtain ⟨hz1, hcT, hpg, hz2, hnm, hkl, htx, hz3, hz4, hz5, hks⟩ := chkA_right he
  clear hz1 hz2 hz3 hz4 hz5
  obtain ⟨hz1, hz2, s3, a, c, rfl, hk⟩ := hv.parts
  clear hz1 hz2
  obtain ⟨XO, hXO⟩ : ∃ XO : ByteArray, (⟨(esc e.text.data.toList).toArray⟩ : ByteArray) = XO := ⟨_, rfl⟩
  have cX := Lib.hid (fun W => refEscape_any e.text W (by omega))
  rw [hXO] at cX
  have HX : Hid (XO.data.toList = txL e.opq e.text) := by unfold Hid txL; rw [ho, ← hXO]; rfl
  have hXl : XO.size ≤ 20000 := by rw [← len_toList, HX.out]; have := (txL_len e.opq e.text).2; omega
  clear hXO
  have i1 := emptyB e.text hx
  have HT0 : Hid (txL e.opq e.text = []) := by unfold Hid; exact List.eq_nil_of_length_eq_zero (by have := (txL_len e.opq e.text).2; omega)
  have HDoc : Hid (docT spcL pg e = headL spcL pg e.page e.name e.opq ++ (([62] ++ txL e.opq e.text) ++ (docL spcL e.page e.kids ++ tailL e.name))) := by
    unfold Hid; rw [docT_of, if_neg (fun h => hk0 (by rw [h.2]; rfl))]
  have HHead : Hid (headL spcL pg e.page e.name e.opq = ([60] ++ e.name.data.toList)) := by
    unfold Hid headL; rw [if_neg (by simpa using hp), ho]; simp
  have j0 : (e.page == pg) = true := by simpa using hp
  have j1 : (e.page != pg) = false := by simpa using hp
  have j2 : e.opq = false := ho
  have j4 : ((e.kids.length : Int) == 0) = false := by rw [beq_eq_false_iff_ne]; omega
  have j5 : (e.kids.length == 0) = false := by rw [beq_eq_false_iff_ne]; omega
  have HDL : Hid (∀ i, (docL spcL e.page (e.kids.take i)).length ≤ 42000000) := fun i => by
    have h1 := docL_len spcL spcL_len e.page (e.kids.take i) (fun k hk => hks k (List.mem_of_mem_take hk))
    have h2 := cL_le e.kids i
    rw [cT_of] at hcT
    omega
  have HDK : Hid (∀ k ∈ e.kids, (docT spcL e.page k).length ≤ 42000000) := fun k hk => by
    have h1 := docT_bound spcL spcL_len (hT k) k (Nat.le_refl _) (hks k hk) e.page
    have h2 := (chkA_right (hks k hk)).2.1
    omega
  have HIH := Lib.hid ih
  have HKs := Lib.hid hk
  have hSp : (spc e.page).size ≤ 40 := by have := spcL_len e.page; unfold spcL at this; rw [len_toList] at this; exact this
  have HB0 : Hid (Below (w.heap.size + 1) (w.alloc (.cells #[.int .i64 e.page, .string e.name, .string e.text, .bool e.opq, .slice a e.kids.length c] 46)) (w.alloc (.cells #[.int .i64 e.page, .string e.name, .string e.text, .bool e.opq, .slice a e.kids.length c] 46))) := Below.refl _ _
  have HWB : Hid (Below w.heap.size w (w.alloc (.cells #[.int .i64 e.page, .string e.name, .string e.text, .bool e.opq, .slice a e.kids.length c] 46))) := (Below.refl _ w).alloc (Nat.le_refl _) _
  have HMw := Lib.hid hMw
  have HVV := Lib.hid hv
  clear hp hx hk0 hv he ih hks hk hpg hcT hMw HVV
  generalize hgp : e.page = p at *
  generalize hgn : e.name = nm at *
  generalize hgt : e.text = tx at *
  generalize hgo : e.opq = o at *
  generalize hgk : e.kids = ks at *
  clear hgp hgn hgt hgo hgk
  generalize hnk : ks.length = nk at *
  have HNK := Lib.hid hnk
  clear hnk
  subst j2
  clear ho
  go_enter Tryd.func131, Tryd.ntmps131
  go_wp2_with fail
  have cW := cX.out (w.alloc (.cells #[.int .i64 p, .string nm, .string tx, .bool false, .slice a nk c] 46))
  refine cW.mono ?_
  clear cW
  rintro r X ⟨rfl, hbx⟩
  have HBX : Hid (Below w.heap.size w X) := HWB.out.trans (hbx.mono HWB.out.size)
  obtain ⟨y0, y1, y2, y3, y4⟩ := y5_of (v0 := .int .i64 p) (v1 := .string nm) (v2 := .string tx) (v3 := .bool false) (v4 := .slice a nk c) (t := 46) (w := w) (X := X) (by simpa using hbx)
  have HZX : Hid (w.heap.size + 1 ≤ X.heap.size) := by unfold Hid; have := hbx.size; simpa using this
  clear hbx
  go_wp2_with fail
  have HFL : Hid ((((([60] ++ nm.data.toList)) ++ ([62] ++ txL false tx))).length ≤ 30000) := by
    have h3 := hXl
    rw [← len_toList, HX.out] at h3
    have h4 := spcL_len p
    have h5 := len_toList nm
    unfold Hid
    simp [sXm, sEnc] at h3 ⊢
    omega
  have HS0 : Hid ((((({ data := #[60] } ++ nm) ++ { data := #[62] }) ++ XO)).data.toList = ((([60] ++ nm.data.toList)) ++ ([62] ++ txL false tx)) ++ docL spcL p (ks.take 0)) := by
    unfold Hid; rw [List.take_zero, ← HX.out]
    simp [ByteArray.data_append, sXm, sEnc, spcL, docL]
  generalize hFr : ((([60] ++ nm.data.toList)) ++ ([62] ++ txL false tx)) = FR at HS0 HFL
  have HFr := Lib.hid hFr
  clear hFr
  generalize (((({ data := #[60] } ++ nm) ++ { data := #[62] }) ++ XO)) = S0 at *
  go_loopw [5, 6] (fun sv iv wr => ∃ (i : Nat) (S : ByteArray), i ≤ nk ∧ iv = .int .i64 (i : Int) ∧ sv = .string S ∧ Hid (S.data.toList = FR ++ docL spcL p (ks.take i)) ∧ Hid (Below w.heap.size w wr) ∧ Hid (w.heap.size + 1 ≤ wr.heap.size) ∧ wr.cell? ⟨w.heap.size, 0, none⟩ = some (.int .i64 p) ∧ wr.cell? ⟨w.heap.size, 1, none⟩ = some (.string nm) ∧ wr.cell? ⟨w.heap.size, 2, none⟩ = some (.string tx) ∧ wr.cell? ⟨w.heap.size, 3, none⟩ = some (.bool false) ∧ wr.cell? ⟨w.heap.size, 4, none⟩ = some (.slice a nk c)) (fun _ iv _ => nk - (intOf iv).toNat)
  case atStart => exact ⟨0, S0, Nat.zero_le _, rfl, rfl, HS0.out, HBX.out, HZX.out, y0, y1, y2, y3, y4⟩
  case round =>
    clear y0 y1 y2 y3 y4
    obtain ⟨i, S, hi, rfl, rfl, HS, HB, HZ, y0, y1, y2, y3, y4⟩ := hrel
    have hSl : S.size ≤ 42030000 := by
      rw [size_of_list HS.out, List.length_append]
      have := HDL.out i
      have := HFL.out
      omega
    by_cases hlt : i < nk
    · have j3 : (i : Int) < (nk : Int) := by omega
      have d3 : decide (i < nk) = true := by simp; omega
      have HW1 : Hid (wrap64 ((i : Int) + 1) = (i : Int) + 1) := by unfold Hid wrap64; omega
      have HMs : Hid (nk - (intOf (.int .i64 ((i : Int) + 1))).toNat < nk - (intOf (.int .i64 (i : Int))).toNat) := by unfold Hid; simp [intOf]; omega
      have hik : i < ks.length := by rw [HNK.out]; exact hlt
      obtain ⟨bb, oo, a', c', rfl, hrg, hat⟩ := kid_at HKs.out (HB.out.mono HMw.out) i hik
      have hbb : bb < w.heap.size := by
        have h9 := HKs.out.kid i hik
        obtain ⟨b2, o2, _, _, h1, h2, _⟩ := h9
        have h1 : bb = b2 := congrArg Addr.block (Option.some.inj h1)
        have := HMw.out
        omega
      obtain ⟨x0, x1, x2, x3, x4⟩ := elem_cells hrg
      have hnext : FR ++ docL spcL p (ks.take (i + 1)) = (FR ++ docL spcL p (ks.take i)) ++ docT spcL p ks[i] := by
        rw [List.take_succ_eq_append_getElem hik, docL_snoc, List.append_assoc]
      obtain ⟨KB, hKB⟩ : ∃ KB : ByteArray, (⟨(docT spcL p ks[i]).toArray⟩ : ByteArray) = KB := ⟨_, rfl⟩
      have hKl : KB.size ≤ 42000000 := by
        rw [← hKB]
        have := HDK.out ks[i] (List.getElem_mem hik)
        rw [← len_toList]; exact this
      have HN2 : Hid ((S ++ KB).data.toList = FR ++ docL spcL p (ks.take (i + 1))) := by
        unfold Hid; rw [hnext, ByteArray.data_append, Array.toList_append, HS.out, ← hKB]
      have cI := HIH.out ks[i] (List.getElem_mem hik)
      have CI : Hid (∀ X, Below w.heap.size w X → Calls Tryd.prog 131 #[.agg #[.int .i64 ks[i].page, .string ks[i].name, .string ks[i].text, .bool ks[i].opq, .slice a' ks[i].kids.length c'], .int .i64 p] X fun r w' => r = .returned (.string KB) ∧ Below X.heap.size X w') := fun X hX => by
        rw [← hKB]
        have hat0 := HKs.out.kid i hik
        obtain ⟨b2, o2, a2, c2, h1, h2, h3, h4⟩ := hat0
        have hat2 := AtT.below (hX.mono HMw.out) _ _ h4
        have e0 := (Option.some.inj h1)
        have h5 := h3 4 _ rfl
        have h6 : wr.cell? ⟨b2, o2 + i * 5 + 4, none⟩ = some (.slice a2 ks[i].kids.length c2) := ((HB.out.mono HMw.out).cell (p := ⟨b2, o2 + i * 5 + 4, none⟩) h2).trans h5
        obtain ⟨rfl, rfl⟩ : bb = b2 ∧ oo = o2 := ⟨congrArg Addr.block e0, congrArg Addr.off e0⟩
        rw [x4] at h6
        have h7 : Value.slice a' ks[i].kids.length c' = Value.slice a2 ks[i].kids.length c2 := Option.some.inj h6
        rw [h7]
        exact cI _ p M X (Nat.le_trans HMw.out hX.size) hat2
      generalize ks[i] = k at *
      have HF : Hid (KC w (w.heap.size + 1) [(w.heap.size, 0, .int .i64 p), (w.heap.size, 1, .string nm), (w.heap.size, 2, .string tx), (w.heap.size, 3, .bool false), (w.heap.size, 4, .slice (some ⟨bb, oo, none⟩) nk c), (bb, oo + i * 5, .int .i64 k.page), (bb, oo + i * 5 + 1, .string k.name), (bb, oo + i * 5 + 2, .string k.text), (bb, oo + i * 5 + 3, .bool k.opq), (bb, oo + i * 5 + 4, .slice a' k.kids.length c')] wr) := ⟨y0, y1, y2, y3, y4, x0, x1, x2, x3, x4, HZ.out, HB.out⟩
      have HL : Hid (LtA [(w.heap.size, 0, .int .i64 p), (w.heap.size, 1, .string nm), (w.heap.size, 2, .string tx), (w.heap.size, 3, .bool false), (w.heap.size, 4, .slice (some ⟨bb, oo, none⟩) nk c), (bb, oo + i * 5, .int .i64 k.page), (bb, oo + i * 5 + 1, .string k.name), (bb, oo + i * 5 + 2, .string k.text), (bb, oo + i * 5 + 3, .bool k.opq), (bb, oo + i * 5 + 4, .slice a' k.kids.length c')] (w.heap.size + 1)) := ⟨by omega, by omega, by omega, by omega, by omega, by omega, by omega, by omega, by omega, by omega, trivial⟩
      clear hrg hat hnext hKB cI
      have hcat : ∀ w, (Op.stringOp .add S KB).run Tryd.prog w = .ok (.string (S ++ KB)) w := fun w => run_string_add_sum w S KB (by omega)
      go_wp2_with fail
      go_region_held3 (fun w' => w'.cell? ⟨w.heap.size, 0, none⟩ = some (.int .i64 p) ∧ w'.cell? ⟨w.heap.size, 1, none⟩ = some (.string nm) ∧ w'.cell? ⟨w.heap.size, 2, none⟩ = some (.string tx) ∧ w'.cell? ⟨w.heap.size, 3, none⟩ = some (.bool false) ∧ w'.cell? ⟨w.heap.size, 4, none⟩ = some (.slice (some ⟨bb, oo, none⟩) nk c) ∧ w'.cell? ⟨bb, oo + i * 5, none⟩ = some (.int .i64 k.page) ∧ w'.cell? ⟨bb, oo + i * 5 + 1, none⟩ = some (.string k.name) ∧ w'.cell? ⟨bb, oo + i * 5 + 2, none⟩ = some (.string k.text) ∧ w'.cell? ⟨bb, oo + i * 5 + 3, none⟩ = some (.bool k.opq) ∧ w'.cell? ⟨bb, oo + i * 5 + 4, none⟩ = some (.slice a' k.kids.length c') ∧ (w.heap.size + 1 ≤ w'.heap.size ∧ Below w.heap.size w w')) (first | assumption | exact KC.drew HL.out HF.out | exact KC.call HL.out (by assumption) hb9 | exact KC.call HL.out (KC.drew HL.out HF.out) hb9) (first | (go_at_call 131; (with_reducible refine (CI.out _ ?_).mono ?_); exact (KC.below (w0 := w) (m := w.heap.size + 1) (l := [(w.heap.size, 0, .int .i64 p), (w.heap.size, 1, .string nm), (w.heap.size, 2, .string tx), (w.heap.size, 3, .bool false), (w.heap.size, 4, .slice (some ⟨bb, oo, none⟩) nk c), (bb, oo + i * 5, .int .i64 k.page), (bb, oo + i * 5 + 1, .string k.name), (bb, oo + i * 5 + 2, .string k.text), (bb, oo + i * 5 + 3, .bool k.opq), (bb, oo + i * 5 + 4, .slice a' k.kids.length c')]) (by first | assumption | exact KC.drew HL.out HF.out)); rintro r w9 ⟨rfl, hb9⟩))
      all_goals
        have hq : w9.cell? ⟨w.heap.size, 0, none⟩ = some (.int .i64 p) ∧ w9.cell? ⟨w.heap.size, 1, none⟩ = some (.string nm) ∧ w9.cell? ⟨w.heap.size, 2, none⟩ = some (.string tx) ∧ w9.cell? ⟨w.heap.size, 3, none⟩ = some (.bool false) ∧ w9.cell? ⟨w.heap.size, 4, none⟩ = some (.slice (some ⟨bb, oo, none⟩) nk c) ∧ w9.cell? ⟨bb, oo + i * 5, none⟩ = some (.int .i64 k.page) ∧ w9.cell? ⟨bb, oo + i * 5 + 1, none⟩ = some (.string k.name) ∧ w9.cell? ⟨bb, oo + i * 5 + 2, none⟩ = some (.string k.text) ∧ w9.cell? ⟨bb, oo + i * 5 + 3, none⟩ = some (.bool k.opq) ∧ w9.cell? ⟨bb, oo + i * 5 + 4, none⟩ = some (.slice a' k.kids.length c') ∧ (w.heap.size + 1 ≤ w9.heap.size ∧ Below w.heap.size w w9) := by with_reducible assumption
        obtain ⟨z0, z1, z2, z3, z4, q5, q6, q7, q8, q9, hq1, hq2⟩ := hq
        have HB9 := Lib.hid hq2
        have HZ9 := Lib.hid hq1
        clear hq1 hq2 q5 q6 q7 q8 q9 hb9 hcat i1 j0 j1 hSp hnm htx hkl s3 hXl
        clear y0 y1 y2 y3 y4 x0 x1 x2 x3 x4 HF HL CI
        have hw1 := HW1.out
        go_wp2_with fail
        go_roundw
        case rel => exact ⟨i + 1, S ++ KB, by omega, by go_num, rfl, HN2.out, HB9.out, HZ9.out, z0, z1, z2, z3, z4⟩
        case measure => first | exact HMs.out | (rw [hw1]; exact HMs.out)
    · have j3 : ¬ (i : Int) < (nk : Int) := by omega
      have d3 : decide (i < nk) = false := by simp; omega
      have hkk : ks.take i = ks := List.take_of_length_le (by rw [HNK.out]; omega)
      have hr := HS.out
      rw [hkk, ← HFr.out] at hr
      have HS2 := Lib.hid hr
      clear hr hkk HS
      have hc1 : ∀ w, (Op.stringOp .add S { data := #[60, 47] }).run Tryd.prog w = .ok (.string (S ++ { data := #[60, 47] })) w := fun w => run_string_add_sum w _ _ (by show S.size + 2 ≤ _; omega)
      have hc2 : ∀ w, (Op.stringOp .add (S ++ { data := #[60, 47] }) nm).run Tryd.prog w = .ok (.string (S ++ { data := #[60, 47] } ++ nm)) w := fun w => run_string_add_sum w _ _ (by rw [ByteArray.size_append]; show S.size + 2 + nm.size ≤ _; omega)
      have hc3 : ∀ w, (Op.stringOp .add (S ++ { data := #[60, 47] } ++ nm) { data := #[62] }).run Tryd.prog w = .ok (.string (S ++ { data := #[60, 47] } ++ nm ++ { data := #[62] })) w := fun w => run_string_add_sum w _ _ (by rw [ByteArray.size_append, ByteArray.size_append]; show S.size + 2 + nm.size + 1 ≤ _; omega)
      go_wp2_with fail
      go_ret
      exact ⟨ret_bytes' (by
        rw [HDoc.out, HHead.out]
        refine str_ext ?_
        rw [ByteArray.data_append, ByteArray.data_append, ByteArray.data_append]
        simp only [Array.toList_append]
        rw [HS2.out]
        simp [tailL]), HB.out⟩

set_option maxRecDepth 100000 in
set_option maxHeartbeats 4000000 in
theorem refPut_epxk (e : Tr) (he : chkA e = 0) (ih : ∀ k ∈ e.kids, RefPutOk k) (v : Value) (pg : Int) (M : Nat) (w : World) (hMw : M ≤ w.heap.size) (hv : AtT w M e v)
    (hp : e.page = pg) (ho : e.opq = false) (hx : e.text.size = 0) (hk0 : e.kids.length = 0) :
    Calls Tryd.prog 131 #[v, .int .i64 pg] w fun r w' => r = .returned (.string ⟨(docT spcL pg e).toArray⟩) ∧ Below w.heap.size w w' := by
  obtain ⟨hz1, hcT, hpg, hz2, hnm, hkl, htx, hz3, hz4, hz5, hks⟩ := chkA_right he
  clear hz1 hz2 hz3 hz4 hz5
  obtain ⟨hz1, hz2, s3, a, c, rfl, hk⟩ := hv.parts
  clear hz1 hz2
  have i1 := emptyB e.text hx
  have HT0 : Hid (txL e.opq e.text = []) := by unfold Hid; exact List.eq_nil_of_length_eq_zero (by have := (txL_len e.opq e.text).2; omega)
  have HDoc : Hid (docT spcL pg e = headL spcL pg e.page e.name e.opq ++ [47, 62]) := by
    unfold Hid; rw [docT_of, if_pos ⟨HT0.out, List.eq_nil_of_length_eq_zero hk0⟩]
  have HHead : Hid (headL spcL pg e.page e.name e.opq = ([60] ++ e.name.data.toList)) := by
    unfold Hid headL; rw [if_neg (by simpa using hp), ho]; simp
  have j0 : (e.page == pg) = true := by simpa using hp
  have j1 : (e.page != pg) = false := by simpa using hp
  have j2 : e.opq = false := ho
  have j4 : ((e.kids.length : Int) == 0) = true := by rw [hk0]; rfl
  have j5 : (e.kids.length == 0) = true := by rw [hk0]; rfl
  have hSp : (spc e.page).size ≤ 40 := by have := spcL_len e.page; unfold spcL at this; rw [len_toList] at this; exact this
  have HB0 : Hid (Below (w.heap.size + 1) (w.alloc (.cells #[.int .i64 e.page, .string e.name, .string e.text, .bool e.opq, .slice a e.kids.length c] 46)) (w.alloc (.cells #[.int .i64 e.page, .string e.name, .string e.text, .bool e.opq, .slice a e.kids.length c] 46))) := Below.refl _ _
  have HWB : Hid (Below w.heap.size w (w.alloc (.cells #[.int .i64 e.page, .string e.name, .string e.text, .bool e.opq, .slice a e.kids.length c] 46))) := (Below.refl _ w).alloc (Nat.le_refl _) _
  have HMw := Lib.hid hMw
  have HVV := Lib.hid hv
  clear hp hx hk0 hv he ih hks hk hpg hcT hMw HVV
  generalize hgp : e.page = p at *
  generalize hgn : e.name = nm at *
  generalize hgt : e.text = tx at *
  generalize hgo : e.opq = o at *
  generalize hgk : e.kids = ks at *
  clear hgp hgn hgt hgo hgk
  generalize hnk : ks.length = nk at *
  have HNK := Lib.hid hnk
  clear hnk
  subst j2
  clear ho
  go_enter Tryd.func131, Tryd.ntmps131
  go_wp2_with fail
  go_ret
  exact ⟨ret_bytes' (by
    rw [HDoc.out, HHead.out]
    refine str_ext ?_
    simp [ByteArray.data_append, sXm, sEnc, spcL]), HWB.out⟩

set_option maxRecDepth 100000 in
set_option maxHeartbeats 4000000 in
theorem refPut_notl (e : Tr) (he : chkA e = 0) (ih : ∀ k ∈ e.kids, RefPutOk k) (v : Value) (pg : Int) (M : Nat) (w : World) (hMw : M ≤ w.heap.size) (hv : AtT w M e v)
    (hp : e.page ≠ pg) (ho : e.opq = true) (hx : e.text.size ≠ 0) :
    Calls Tryd.prog 131 #[v, .int .i64 pg] w fun r w' => r = .returned (.string ⟨(docT spcL pg e).toArray⟩) ∧ Below w.heap.size w w' := by
  obtain ⟨hz1, hcT, hpg, hz2, hnm, hkl, htx, hz3, hz4, hz5, hks⟩ := chkA_right he
  clear hz1 hz2 hz3 hz4 hz5
  obtain ⟨hz1, hz2, s3, a, c, rfl, hk⟩ := hv.parts
  clear hz1 hz2
  obtain ⟨XO, hXO⟩ : ∃ XO : ByteArray, strOfNums (encS e.text.data.toList) = XO := ⟨_, rfl⟩
  have cX := Lib.hid (fun W => refEncode_any e.text W (by omega))
  rw [hXO] at cX
  have HX : Hid (XO.data.toList = txL e.opq e.text) := by unfold Hid txL; rw [ho, if_pos rfl, ← hXO]; simp [strOfNums, u8s]
  have hXl : XO.size ≤ 20000 := by rw [← len_toList, HX.out]; have := (txL_len e.opq e.text).2; omega
  clear hXO
  have i1 := not_empty e.text hx
  have HT0 : Hid (txL e.opq e.text ≠ []) := fun h => by
    have h9 := (txL_len e.opq e.text).1
    rw [h, List.length_nil] at h9
    omega
  have HDoc : Hid (docT spcL pg e = headL spcL pg e.page e.name e.opq ++ (([62] ++ txL e.opq e.text) ++ (docL spcL e.page e.kids ++ tailL e.name))) := by
    unfold Hid; rw [docT_of, if_neg (fun h => HT0.out h.1)]
  have HHead : Hid (headL spcL pg e.page e.name e.opq = ([60] ++ e.name.data.toList) ++ (sXm ++ spcL e.page ++ [34]) ++ sEnc) := by
    unfold Hid headL; rw [if_pos hp, ho]; simp
  have j0 : (e.page == pg) = false := by simpa using hp
  have j1 : (e.page != pg) = true := by simpa using hp
  have j2 : e.opq = true := ho
  have HDL : Hid (∀ i, (docL spcL e.page (e.kids.take i)).length ≤ 42000000) := fun i => by
    have h1 := docL_len spcL spcL_len e.page (e.kids.take i) (fun k hk => hks k (List.mem_of_mem_take hk))
    have h2 := cL_le e.kids i
    rw [cT_of] at hcT
    omega
  have HDK : Hid (∀ k ∈ e.kids, (docT spcL e.page k).length ≤ 42000000) := fun k hk => by
    have h1 := docT_bound spcL spcL_len (hT k) k (Nat.le_refl _) (hks k hk) e.page
    have h2 := (chkA_right (hks k hk)).2.1
    omega
  have HIH := Lib.hid ih
  have HKs := Lib.hid hk
  have hSp : (spc e.page).size ≤ 40 := by have := spcL_len e.page; unfold spcL at this; rw [len_toList] at this; exact this
  have HB0 : Hid (Below (w.heap.size + 1) (w.alloc (.cells #[.int .i64 e.page, .string e.name, .string e.text, .bool e.opq, .slice a e.kids.length c] 46)) (w.alloc (.cells #[.int .i64 e.page, .string e.name, .string e.text, .bool e.opq, .slice a e.kids.length c] 46))) := Below.refl _ _
  have HWB : Hid (Below w.heap.size w (w.alloc (.cells #[.int .i64 e.page, .string e.name, .string e.text, .bool e.opq, .slice a e.kids.length c] 46))) := (Below.refl _ w).alloc (Nat.le_refl _) _
  have HMw := Lib.hid hMw
  have HVV := Lib.hid hv
  clear hp hx hv he ih hks hk hpg hcT hMw HVV
  generalize hgp : e.page = p at *
  generalize hgn : e.name = nm at *
  generalize hgt : e.text = tx at *
  generalize hgo : e.opq = o at *
  generalize hgk : e.kids = ks at *
  clear hgp hgn hgt hgo hgk
  generalize hnk : ks.length = nk at *
  have HNK := Lib.hid hnk
  clear hnk
  subst j2
  clear ho
  go_enter Tryd.func131, Tryd.ntmps131
  go_wp2_with fail
  refine (refSpace_any p _).mono ?_
  rintro r X ⟨rfl, rfl⟩
  go_wp2_with fail
  have cW := cX.out (w.alloc (.cells #[.int .i64 p, .string nm, .string tx, .bool true, .slice a nk c] 46))
  refine cW.mono ?_
  clear cW
  rintro r X ⟨rfl, hbx⟩
  have HBX : Hid (Below w.heap.size w X) := HWB.out.trans (hbx.mono HWB.out.size)
  obtain ⟨y0, y1, y2, y3, y4⟩ := y5_of (v0 := .int .i64 p) (v1 := .string nm) (v2 := .string tx) (v3 := .bool true) (v4 := .slice a nk c) (t := 46) (w := w) (X := X) (by simpa using hbx)
  have HZX : Hid (w.heap.size + 1 ≤ X.heap.size) := by unfold Hid; have := hbx.size; simpa using this
  clear hbx
  go_wp2_with fail
  have HFL : Hid ((((([60] ++ nm.data.toList) ++ (sXm ++ spcL p ++ [34]) ++ sEnc) ++ ([62] ++ txL true tx))).length ≤ 30000) := by
    have h3 := hXl
    rw [← len_toList, HX.out] at h3
    have h4 := spcL_len p
    have h5 := len_toList nm
    unfold Hid
    simp [sXm, sEnc] at h3 ⊢
    omega
  have HS0 : Hid ((((((((({ data := #[60] } ++ nm) ++ { data := #[32, 120, 109, 108, 110, 115, 61, 34] }) ++ spc p) ++ { data := #[34] }) ++ { data := #[32, 101, 110, 99, 61, 34, 98, 54, 52, 34] }) ++ { data := #[62] }) ++ XO)).data.toList = ((([60] ++ nm.data.toList) ++ (sXm ++ spcL p ++ [34]) ++ sEnc) ++ ([62] ++ txL true tx)) ++ docL spcL p (ks.take 0)) := by
    unfold Hid; rw [List.take_zero, ← HX.out]
    simp [ByteArray.data_append, sXm, sEnc, spcL, docL]
  generalize hFr : ((([60] ++ nm.data.toList) ++ (sXm ++ spcL p ++ [34]) ++ sEnc) ++ ([62] ++ txL true tx)) = FR at HS0 HFL
  have HFr := Lib.hid hFr
  clear hFr
  generalize (((((((({ data := #[60] } ++ nm) ++ { data := #[32, 120, 109, 108, 110, 115, 61, 34] }) ++ spc p) ++ { data := #[34] }) ++ { data := #[32, 101, 110, 99, 61, 34, 98, 54, 52, 34] }) ++ { data := #[62] }) ++ XO)) = S0 at *
  go_loopw [5, 6] (fun sv iv wr => ∃ (i : Nat) (S : ByteArray), i ≤ nk ∧ iv = .int .i64 (i : Int) ∧ sv = .string S ∧ Hid (S.data.toList = FR ++ docL spcL p (ks.take i)) ∧ Hid (Below w.heap.size w wr) ∧ Hid (w.heap.size + 1 ≤ wr.heap.size) ∧ wr.cell? ⟨w.heap.size, 0, none⟩ = some (.int .i64 p) ∧ wr.cell? ⟨w.heap.size, 1, none⟩ = some (.string nm) ∧ wr.cell? ⟨w.heap.size, 2, none⟩ = some (.string tx) ∧ wr.cell? ⟨w.heap.size, 3, none⟩ = some (.bool true) ∧ wr.cell? ⟨w.heap.size, 4, none⟩ = some (.slice a nk c)) (fun _ iv _ => nk - (intOf iv).toNat)
  case atStart => exact ⟨0, S0, Nat.zero_le _, rfl, rfl, HS0.out, HBX.out, HZX.out, y0, y1, y2, y3, y4⟩
  case round =>
    clear y0 y1 y2 y3 y4
    obtain ⟨i, S, hi, rfl, rfl, HS, HB, HZ, y0, y1, y2, y3, y4⟩ := hrel
    have hSl : S.size ≤ 42030000 := by
      rw [size_of_list HS.out, List.length_append]
      have := HDL.out i
      have := HFL.out
      omega
    by_cases hlt : i < nk
    · have j3 : (i : Int) < (nk : Int) := by omega
      have d3 : decide (i < nk) = true := by simp; omega
      have HW1 : Hid (wrap64 ((i : Int) + 1) = (i : Int) + 1) := by unfold Hid wrap64; omega
      have HMs : Hid (nk - (intOf (.int .i64 ((i : Int) + 1))).toNat < nk - (intOf (.int .i64 (i : Int))).toNat) := by unfold Hid; simp [intOf]; omega
      have hik : i < ks.length := by rw [HNK.out]; exact hlt
      obtain ⟨bb, oo, a', c', rfl, hrg, hat⟩ := kid_at HKs.out (HB.out.mono HMw.out) i hik
      have hbb : bb < w.heap.size := by
        have h9 := HKs.out.kid i hik
        obtain ⟨b2, o2, _, _, h1, h2, _⟩ := h9
        have h1 : bb = b2 := congrArg Addr.block (Option.some.inj h1)
        have := HMw.out
        omega
      obtain ⟨x0, x1, x2, x3, x4⟩ := elem_cells hrg
      have hnext : FR ++ docL spcL p (ks.take (i + 1)) = (FR ++ docL spcL p (ks.take i)) ++ docT spcL p ks[i] := by
        rw [List.take_succ_eq_append_getElem hik, docL_snoc, List.append_assoc]
      obtain ⟨KB, hKB⟩ : ∃ KB : ByteArray, (⟨(docT spcL p ks[i]).toArray⟩ : ByteArray) = KB := ⟨_, rfl⟩
      have hKl : KB.size ≤ 42000000 := by
        rw [← hKB]
        have := HDK.out ks[i] (List.getElem_mem hik)
        rw [← len_toList]; exact this
      have HN2 : Hid ((S ++ KB).data.toList = FR ++ docL spcL p (ks.take (i + 1))) := by
        unfold Hid; rw [hnext, ByteArray.data_append, Array.toList_append, HS.out, ← hKB]
      have cI := HIH.out ks[i] (List.getElem_mem hik)
      have CI : Hid (∀ X, Below w.heap.size w X → Calls Tryd.prog 131 #[.agg #[.int .i64 ks[i].page, .string ks[i].name, .string ks[i].text, .bool ks[i].opq, .slice a' ks[i].kids.length c'], .int .i64 p] X fun r w' => r = .returned (.string KB) ∧ Below X.heap.size X w') := fun X hX => by
        rw [← hKB]
        have hat0 := HKs.out.kid i hik
        obtain ⟨b2, o2, a2, c2, h1, h2, h3, h4⟩ := hat0
        have hat2 := AtT.below (hX.mono HMw.out) _ _ h4
        have e0 := (Option.some.inj h1)
        have h5 := h3 4 _ rfl
        have h6 : wr.cell? ⟨b2, o2 + i * 5 + 4, none⟩ = some (.slice a2 ks[i].kids.length c2) := ((HB.out.mono HMw.out).cell (p := ⟨b2, o2 + i * 5 + 4, none⟩) h2).trans h5
        obtain ⟨rfl, rfl⟩ : bb = b2 ∧ oo = o2 := ⟨congrArg Addr.block e0, congrArg Addr.off e0⟩
        rw [x4] at h6
        have h7 : Value.slice a' ks[i].kids.length c' = Value.slice a2 ks[i].kids.length c2 := Option.some.inj h6
        rw [h7]
        exact cI _ p M X (Nat.le_trans HMw.out hX.size) hat2
      generalize ks[i] = k at *
      have HF : Hid (KC w (w.heap.size + 1) [(w.heap.size, 0, .int .i64 p), (w.heap.size, 1, .string nm), (w.heap.size, 2, .string tx), (w.heap.size, 3, .bool true), (w.heap.size, 4, .slice (some ⟨bb, oo, none⟩) nk c), (bb, oo + i * 5, .int .i64 k.page), (bb, oo + i * 5 + 1, .string k.name), (bb, oo + i * 5 + 2, .string k.text), (bb, oo + i * 5 + 3, .bool k.opq), (bb, oo + i * 5 + 4, .slice a' k.kids.length c')] wr) := ⟨y0, y1, y2, y3, y4, x0, x1, x2, x3, x4, HZ.out, HB.out⟩
      have HL : Hid (LtA [(w.heap.size, 0, .int .i64 p), (w.heap.size, 1, .string nm), (w.heap.size, 2, .string tx), (w.heap.size, 3, .bool true), (w.heap.size, 4, .slice (some ⟨bb, oo, none⟩) nk c), (bb, oo + i * 5, .int .i64 k.page), (bb, oo + i * 5 + 1, .string k.name), (bb, oo + i * 5 + 2, .string k.text), (bb, oo + i * 5 + 3, .bool k.opq), (bb, oo + i * 5 + 4, .slice a' k.kids.length c')] (w.heap.size + 1)) := ⟨by omega, by omega, by omega, by omega, by omega, by omega, by omega, by omega, by omega, by omega, trivial⟩
      clear hrg hat hnext hKB cI
      have hcat : ∀ w, (Op.stringOp .add S KB).run Tryd.prog w = .ok (.string (S ++ KB)) w := fun w => run_string_add_sum w S KB (by omega)
      go_wp2_with fail
      go_region_held3 (fun w' => w'.cell? ⟨w.heap.size, 0, none⟩ = some (.int .i64 p) ∧ w'.cell? ⟨w.heap.size, 1, none⟩ = some (.string nm) ∧ w'.cell? ⟨w.heap.size, 2, none⟩ = some (.string tx) ∧ w'.cell? ⟨w.heap.size, 3, none⟩ = some (.bool true) ∧ w'.cell? ⟨w.heap.size, 4, none⟩ = some (.slice (some ⟨bb, oo, none⟩) nk c) ∧ w'.cell? ⟨bb, oo + i * 5, none⟩ = some (.int .i64 k.page) ∧ w'.cell? ⟨bb, oo + i * 5 + 1, none⟩ = some (.string k.name) ∧ w'.cell? ⟨bb, oo + i * 5 + 2, none⟩ = some (.string k.text) ∧ w'.cell? ⟨bb, oo + i * 5 + 3, none⟩ = some (.bool k.opq) ∧ w'.cell? ⟨bb, oo + i * 5 + 4, none⟩ = some (.slice a' k.kids.length c') ∧ (w.heap.size + 1 ≤ w'.heap.size ∧ Below w.heap.size w w')) (first | assumption | exact KC.drew HL.out HF.out | exact KC.call HL.out (by assumption) hb9 | exact KC.call HL.out (KC.drew HL.out HF.out) hb9) (first | (go_at_call 131; (with_reducible refine (CI.out _ ?_).mono ?_); exact (KC.below (w0 := w) (m := w.heap.size + 1) (l := [(w.heap.size, 0, .int .i64 p), (w.heap.size, 1, .string nm), (w.heap.size, 2, .string tx), (w.heap.size, 3, .bool true), (w.heap.size, 4, .slice (some ⟨bb, oo, none⟩) nk c), (bb, oo + i * 5, .int .i64 k.page), (bb, oo + i * 5 + 1, .string k.name), (bb, oo + i * 5 + 2, .string k.text), (bb, oo + i * 5 + 3, .bool k.opq), (bb, oo + i * 5 + 4, .slice a' k.kids.length c')]) (by first | assumption | exact KC.drew HL.out HF.out)); rintro r w9 ⟨rfl, hb9⟩))
      all_goals
        have hq : w9.cell? ⟨w.heap.size, 0, none⟩ = some (.int .i64 p) ∧ w9.cell? ⟨w.heap.size, 1, none⟩ = some (.string nm) ∧ w9.cell? ⟨w.heap.size, 2, none⟩ = some (.string tx) ∧ w9.cell? ⟨w.heap.size, 3, none⟩ = some (.bool true) ∧ w9.cell? ⟨w.heap.size, 4, none⟩ = some (.slice (some ⟨bb, oo, none⟩) nk c) ∧ w9.cell? ⟨bb, oo + i * 5, none⟩ = some (.int .i64 k.page) ∧ w9.cell? ⟨bb, oo + i * 5 + 1, none⟩ = some (.string k.name) ∧ w9.cell? ⟨bb, oo + i * 5 + 2, none⟩ = some (.string k.text) ∧ w9.cell? ⟨bb, oo + i * 5 + 3, none⟩ = some (.bool k.opq) ∧ w9.cell? ⟨bb, oo + i * 5 + 4, none⟩ = some (.slice a' k.kids.length c') ∧ (w.heap.size + 1 ≤ w9.heap.size ∧ Below w.heap.size w w9) := by with_reducible assumption
        obtain ⟨z0, z1, z2, z3, z4, q5, q6, q7, q8, q9, hq1, hq2⟩ := hq
        have HB9 := Lib.hid hq2
        have HZ9 := Lib.hid hq1
        clear hq1 hq2 q5 q6 q7 q8 q9 hb9 hcat i1 j0 j1 hSp hnm htx hkl s3 hXl
        clear y0 y1 y2 y3 y4 x0 x1 x2 x3 x4 HF HL CI
        have hw1 := HW1.out
        go_wp2_with fail
        go_roundw
        case rel => exact ⟨i + 1, S ++ KB, by omega, by go_num, rfl, HN2.out, HB9.out, HZ9.out, z0, z1, z2, z3, z4⟩
        case measure => first | exact HMs.out | (rw [hw1]; exact HMs.out)
    · have j3 : ¬ (i : Int) < (nk : Int) := by omega
      have d3 : decide (i < nk) = false := by simp; omega
      have hkk : ks.take i = ks := List.take_of_length_le (by rw [HNK.out]; omega)
      have hr := HS.out
      rw [hkk, ← HFr.out] at hr
      have HS2 := Lib.hid hr
      clear hr hkk HS
      have hc1 : ∀ w, (Op.stringOp .add S { data := #[60, 47] }).run Tryd.prog w = .ok (.string (S ++ { data := #[60, 47] })) w := fun w => run_string_add_sum w _ _ (by show S.size + 2 ≤ _; omega)
      have hc2 : ∀ w, (Op.stringOp .add (S ++ { data := #[60, 47] }) nm).run Tryd.prog w = .ok (.string (S ++ { data := #[60, 47] } ++ nm)) w := fun w => run_string_add_sum w _ _ (by rw [ByteArray.size_append]; show S.size + 2 + nm.size ≤ _; omega)
      have hc3 : ∀ w, (Op.stringOp .add (S ++ { data := #[60, 47] } ++ nm) { data := #[62] }).run Tryd.prog w = .ok (.string (S ++ { data := #[60, 47] } ++ nm ++ { data := #[62] })) w := fun w => run_string_add_sum w _ _ (by rw [ByteArray.size_append, ByteArray.size_append]; show S.size + 2 + nm.size + 1 ≤ _; omega)
      go_wp2_with fail
      go_ret
      exact ⟨ret_bytes' (by
        rw [HDoc.out, HHead.out]
        refine str_ext ?_
        rw [ByteArray.data_append, ByteArray.data_append, ByteArray.data_append]
        simp only [Array.toList_append]
        rw [HS2.out]
        simp [tailL]), HB.out⟩

set_option maxRecDepth 100000 in
set_option maxHeartbeats 4000000 in
theorem refPut_nptl (e : Tr) (he : chkA e = 0) (ih : ∀ k ∈ e.kids, RefPutOk k) (v : Value) (pg : Int) (M : Nat) (w : World) (hMw : M ≤ w.heap.size) (hv : AtT w M e v)
    (hp : e.page ≠ pg) (ho : e.opq = false) (hx : e.text.size ≠ 0) :
    Calls Tryd.prog 131 #[v, .int .i64 pg] w fun r w' => r = .returned (.string ⟨(docT spcL pg e).toArray⟩) ∧ Below w.heap.size w w' := by
  obtain ⟨hz1, hcT, hpg, hz2, hnm, hkl, htx, hz3, hz4, hz5, hks⟩ := chkA_right he
  clear hz1 hz2 hz3 hz4 hz5
  obtain ⟨hz1, hz2, s3, a, c, rfl, hk⟩ := hv.parts
  clear hz1 hz2
  obtain ⟨XO, hXO⟩ : ∃ XO : ByteArray, (⟨(esc e.text.data.toList).toArray⟩ : ByteArray) = XO := ⟨_, rfl⟩
  have cX := Lib.hid (fun W => refEscape_any e.text W (by omega))
  rw [hXO] at cX
  have HX : Hid (XO.data.toList = txL e.opq e.text) := by unfold Hid txL; rw [ho, ← hXO]; rfl
  have hXl : XO.size ≤ 20000 := by rw [← len_toList, HX.out]; have := (txL_len e.opq e.text).2; omega
  clear hXO
  have i1 := not_empty e.text hx
  have HT0 : Hid (txL e.opq e.text ≠ []) := fun h => by
    have h9 := (txL_len e.opq e.text).1
    rw [h, List.length_nil] at h9
    omega
  have HDoc : Hid (docT spcL pg e = headL spcL pg e.page e.name e.opq ++ (([62] ++ txL e.opq e.text) ++ (docL spcL e.page e.kids ++ tailL e.name))) := by
    unfold Hid; rw [docT_of, if_neg (fun h => HT0.out h.1)]
  have HHead : Hid (headL spcL pg e.page e.name e.opq = ([60] ++ e.name.data.toList) ++ (sXm ++ spcL e.page ++ [34])) := by
    unfold Hid headL; rw [if_pos hp, ho]; simp
  have j0 : (e.page == pg) = false := by simpa using hp
  have j1 : (e.page != pg) = true := by simpa using hp
  have j2 : e.opq = false := ho
  have HDL : Hid (∀ i, (docL spcL e.page (e.kids.take i)).length ≤ 42000000) := fun i => by
    have h1 := docL_len spcL spcL_len e.page (e.kids.take i) (fun k hk => hks k (List.mem_of_mem_take hk))
    have h2 := cL_le e.kids i
    rw [cT_of] at hcT
    omega
  have HDK : Hid (∀ k ∈ e.kids, (docT spcL e.page k).length ≤ 42000000) := fun k hk => by
    have h1 := docT_bound spcL spcL_len (hT k) k (Nat.le_refl _) (hks k hk) e.page
    have h2 := (chkA_right (hks k hk)).2.1
    omega
  have HIH := Lib.hid ih
  have HKs := Lib.hid hk
  have hSp : (spc e.page).size ≤ 40 := by have := spcL_len e.page; unfold spcL at this; rw [len_toList] at this; exact this
  have HB0 : Hid (Below (w.heap.size + 1) (w.alloc (.cells #[.int .i64 e.page, .string e.name, .string e.text, .bool e.opq, .slice a e.kids.length c] 46)) (w.alloc (.cells #[.int .i64 e.page, .string e.name, .string e.text, .bool e.opq, .slice a e.kids.length c] 46))) := Below.refl _ _
  have HWB : Hid (Below w.heap.size w (w.alloc (.cells #[.int .i64 e.page, .string e.name, .string e.text, .bool e.opq, .slice a e.kids.length c] 46))) := (Below.refl _ w).alloc (Nat.le_refl _) _
  have HMw := Lib.hid hMw
  have HVV := Lib.hid hv
  clear hp hx hv he ih hks hk hpg hcT hMw HVV
  generalize hgp : e.page = p at *
  generalize hgn : e.name = nm at *
  generalize hgt : e.text = tx at *
  generalize hgo : e.opq = o at *
  generalize hgk : e.kids = ks at *
  clear hgp hgn hgt hgo hgk
  generalize hnk : ks.length = nk at *
  have HNK := Lib.hid hnk
  clear hnk
  subst j2
  clear ho
  go_enter Tryd.func131, Tryd.ntmps131
  go_wp2_with fail
  refine (refSpace_any p _).mono ?_
  rintro r X ⟨rfl, rfl⟩
  go_wp2_with fail
  have cW := cX.out (w.alloc (.cells #[.int .i64 p, .string nm, .string tx, .bool false, .slice a nk c] 46))
  refine cW.mono ?_
  clear cW
  rintro r X ⟨rfl, hbx⟩
  have HBX : Hid (Below w.heap.size w X) := HWB.out.trans (hbx.mono HWB.out.size)
  obtain ⟨y0, y1, y2, y3, y4⟩ := y5_of (v0 := .int .i64 p) (v1 := .string nm) (v2 := .string tx) (v3 := .bool false) (v4 := .slice a nk c) (t := 46) (w := w) (X := X) (by simpa using hbx)
  have HZX : Hid (w.heap.size + 1 ≤ X.heap.size) := by unfold Hid; have := hbx.size; simpa using this
  clear hbx
  go_wp2_with fail
  have HFL : Hid ((((([60] ++ nm.data.toList) ++ (sXm ++ spcL p ++ [34])) ++ ([62] ++ txL false tx))).length ≤ 30000) := by
    have h3 := hXl
    rw [← len_toList, HX.out] at h3
    have h4 := spcL_len p
    have h5 := len_toList nm
    unfold Hid
    simp [sXm, sEnc] at h3 ⊢
    omega
  have HS0 : Hid (((((((({ data := #[60] } ++ nm) ++ { data := #[32, 120, 109, 108, 110, 115, 61, 34] }) ++ spc p) ++ { data := #[34] }) ++ { data := #[62] }) ++ XO)).data.toList = ((([60] ++ nm.data.toList) ++ (sXm ++ spcL p ++ [34])) ++ ([62] ++ txL false tx)) ++ docL spcL p (ks.take 0)) := by
    unfold Hid; rw [List.take_zero, ← HX.out]
    simp [ByteArray.data_append, sXm, sEnc, spcL, docL]
  generalize hFr : ((([60] ++ nm.data.toList) ++ (sXm ++ spcL p ++ [34])) ++ ([62] ++ txL false tx)) = FR at HS0 HFL
  have HFr := Lib.hid hFr
  clear hFr
  generalize ((((((({ data := #[60] } ++ nm) ++ { data := #[32, 120, 109, 108, 110, 115, 61, 34] }) ++ spc p) ++ { data := #[34] }) ++ { data := #[62] }) ++ XO)) = S0 at *
  go_loopw [5, 6] (fun sv iv wr => ∃ (i : Nat) (S : ByteArray), i ≤ nk ∧ iv = .int .i64 (i : Int) ∧ sv = .string S ∧ Hid (S.data.toList = FR ++ docL spcL p (ks.take i)) ∧ Hid (Below w.heap.size w wr) ∧ Hid (w.heap.size + 1 ≤ wr.heap.size) ∧ wr.cell? ⟨w.heap.size, 0, none⟩ = some (.int .i64 p) ∧ wr.cell? ⟨w.heap.size, 1, none⟩ = some (.string nm) ∧ wr.cell? ⟨w.heap.size, 2, none⟩ = some (.string tx) ∧ wr.cell? ⟨w.heap.size, 3, none⟩ = some (.bool false) ∧ wr.cell? ⟨w.heap.size, 4, none⟩ = some (.slice a nk c)) (fun _ iv _ => nk - (intOf iv).toNat)
  case atStart => exact ⟨0, S0, Nat.zero_le _, rfl, rfl, HS0.out, HBX.out, HZX.out, y0, y1, y2, y3, y4⟩
  case round =>
    clear y0 y1 y2 y3 y4
    obtain ⟨i, S, hi, rfl, rfl, HS, HB, HZ, y0, y1, y2, y3, y4⟩ := hrel
    have hSl : S.size ≤ 42030000 := by
      rw [size_of_list HS.out, List.length_append]
      have := HDL.out i
      have := HFL.out
      omega
    by_cases hlt : i < nk
    · have j3 : (i : Int) < (nk : Int) := by omega
      have d3 : decide (i < nk) = true := by simp; omega
      have HW1 : Hid (wrap64 ((i : Int) + 1) = (i : Int) + 1) := by unfold Hid wrap64; omega
      have HMs : Hid (nk - (intOf (.int .i64 ((i : Int) + 1))).toNat < nk - (intOf (.int .i64 (i : Int))).toNat) := by unfold Hid; simp [intOf]; omega
      have hik : i < ks.length := by rw [HNK.out]; exact hlt
      obtain ⟨bb, oo, a', c', rfl, hrg, hat⟩ := kid_at HKs.out (HB.out.mono HMw.out) i hik
      have hbb : bb < w.heap.size := by
        have h9 := HKs.out.kid i hik
        obtain ⟨b2, o2, _, _, h1, h2, _⟩ := h9
        have h1 : bb = b2 := congrArg Addr.block (Option.some.inj h1)
        have := HMw.out
        omega
      obtain ⟨x0, x1, x2, x3, x4⟩ := elem_cells hrg
      have hnext : FR ++ docL spcL p (ks.take (i + 1)) = (FR ++ docL spcL p (ks.take i)) ++ docT spcL p ks[i] := by
        rw [List.take_succ_eq_append_getElem hik, docL_snoc, List.append_assoc]
      obtain ⟨KB, hKB⟩ : ∃ KB : ByteArray, (⟨(docT spcL p ks[i]).toArray⟩ : ByteArray) = KB := ⟨_, rfl⟩
      have hKl : KB.size ≤ 42000000 := by
        rw [← hKB]
        have := HDK.out ks[i] (List.getElem_mem hik)
        rw [← len_toList]; exact this
      have HN2 : Hid ((S ++ KB).data.toList = FR ++ docL spcL p (ks.take (i + 1))) := by
        unfold Hid; rw [hnext, ByteArray.data_append, Array.toList_append, HS.out, ← hKB]
      have cI := HIH.out ks[i] (List.getElem_mem hik)
      have CI : Hid (∀ X, Below w.heap.size w X → Calls Tryd.prog 131 #[.agg #[.int .i64 ks[i].page, .string ks[i].name, .string ks[i].text, .bool ks[i].opq, .slice a' ks[i].kids.length c'], .int .i64 p] X fun r w' => r = .returned (.string KB) ∧ Below X.heap.size X w') := fun X hX => by
        rw [← hKB]
        have hat0 := HKs.out.kid i hik
        obtain ⟨b2, o2, a2, c2, h1, h2, h3, h4⟩ := hat0
        have hat2 := AtT.below (hX.mono HMw.out) _ _ h4
        have e0 := (Option.some.inj h1)
        have h5 := h3 4 _ rfl
        have h6 : wr.cell? ⟨b2, o2 + i * 5 + 4, none⟩ = some (.slice a2 ks[i].kids.length c2) := ((HB.out.mono HMw.out).cell (p := ⟨b2, o2 + i * 5 + 4, none⟩) h2).trans h5
        obtain ⟨rfl, rfl⟩ : bb = b2 ∧ oo = o2 := ⟨congrArg Addr.block e0, congrArg Addr.off e0⟩
        rw [x4] at h6
        have h7 : Value.slice a' ks[i].kids.length c' = Value.slice a2 ks[i].kids.length c2 := Option.some.inj h6
        rw [h7]
        exact cI _ p M X (Nat.le_trans HMw.out hX.size) hat2
      generalize ks[i] = k at *
      have HF : Hid (KC w (w.heap.size + 1) [(w.heap.size, 0, .int .i64 p), (w.heap.size, 1, .string nm), (w.heap.size, 2, .string tx), (w.heap.size, 3, .bool false), (w.heap.size, 4, .slice (some ⟨bb, oo, none⟩) nk c), (bb, oo + i * 5, .int .i64 k.page), (bb, oo + i * 5 + 1, .string k.name), (bb, oo + i * 5 + 2, .string k.text), (bb, oo + i * 5 + 3, .bool k.opq), (bb, oo + i * 5 + 4, .slice a' k.kids.length c')] wr) := ⟨y0, y1, y2, y3, y4, x0, x1, x2, x3, x4, HZ.out, HB.out⟩
      have HL : Hid (LtA [(w.heap.size, 0, .int .i64 p), (w.heap.size, 1, .string nm), (w.heap.size, 2, .string tx), (w.heap.size, 3, .bool false), (w.heap.size, 4, .slice (some ⟨bb, oo, none⟩) nk c), (bb, oo + i * 5, .int .i64 k.page), (bb, oo + i * 5 + 1, .string k.name), (bb, oo + i * 5 + 2, .string k.text), (bb, oo + i * 5 + 3, .bool k.opq), (bb, oo + i * 5 + 4, .slice a' k.kids.length c')] (w.heap.size + 1)) := ⟨by omega, by omega, by omega, by omega, by omega, by omega, by omega, by omega, by omega, by omega, trivial⟩
      clear hrg hat hnext hKB cI
      have hcat : ∀ w, (Op.stringOp .add S KB).run Tryd.prog w = .ok (.string (S ++ KB)) w := fun w => run_string_add_sum w S KB (by omega)
      go_wp2_with fail
      go_region_held3 (fun w' => w'.cell? ⟨w.heap.size, 0, none⟩ = some (.int .i64 p) ∧ w'.cell? ⟨w.heap.size, 1, none⟩ = some (.string nm) ∧ w'.cell? ⟨w.heap.size, 2, none⟩ = some (.string tx) ∧ w'.cell? ⟨w.heap.size, 3, none⟩ = some (.bool false) ∧ w'.cell? ⟨w.heap.size, 4, none⟩ = some (.slice (some ⟨bb, oo, none⟩) nk c) ∧ w'.cell? ⟨bb, oo + i * 5, none⟩ = some (.int .i64 k.page) ∧ w'.cell? ⟨bb, oo + i * 5 + 1, none⟩ = some (.string k.name) ∧ w'.cell? ⟨bb, oo + i * 5 + 2, none⟩ = some (.string k.text) ∧ w'.cell? ⟨bb, oo + i * 5 + 3, none⟩ = some (.bool k.opq) ∧ w'.cell? ⟨bb, oo + i * 5 + 4, none⟩ = some (.slice a' k.kids.length c') ∧ (w.heap.size + 1 ≤ w'.heap.size ∧ Below w.heap.size w w')) (first | assumption | exact KC.drew HL.out HF.out | exact KC.call HL.out (by assumption) hb9 | exact KC.call HL.out (KC.drew HL.out HF.out) hb9) (first | (go_at_call 131; (with_reducible refine (CI.out _ ?_).mono ?_); exact (KC.below (w0 := w) (m := w.heap.size + 1) (l := [(w.heap.size, 0, .int .i64 p), (w.heap.size, 1, .string nm), (w.heap.size, 2, .string tx), (w.heap.size, 3, .bool false), (w.heap.size, 4, .slice (some ⟨bb, oo, none⟩) nk c), (bb, oo + i * 5, .int .i64 k.page), (bb, oo + i * 5 + 1, .string k.name), (bb, oo + i * 5 + 2, .string k.text), (bb, oo + i * 5 + 3, .bool k.opq), (bb, oo + i * 5 + 4, .slice a' k.kids.length c')]) (by first | assumption | exact KC.drew HL.out HF.out)); rintro r w9 ⟨rfl, hb9⟩))
      all_goals
        have hq : w9.cell? ⟨w.heap.size, 0, none⟩ = some (.int .i64 p) ∧ w9.cell? ⟨w.heap.size, 1, none⟩ = some (.string nm) ∧ w9.cell? ⟨w.heap.size, 2, none⟩ = some (.string tx) ∧ w9.cell? ⟨w.heap.size, 3, none⟩ = some (.bool false) ∧ w9.cell? ⟨w.heap.size, 4, none⟩ = some (.slice (some ⟨bb, oo, none⟩) nk c) ∧ w9.cell? ⟨bb, oo + i * 5, none⟩ = some (.int .i64 k.page) ∧ w9.cell? ⟨bb, oo + i * 5 + 1, none⟩ = some (.string k.name) ∧ w9.cell? ⟨bb, oo + i * 5 + 2, none⟩ = some (.string k.text) ∧ w9.cell? ⟨bb, oo + i * 5 + 3, none⟩ = some (.bool k.opq) ∧ w9.cell? ⟨bb, oo + i * 5 + 4, none⟩ = some (.slice a' k.kids.length c') ∧ (w.heap.size + 1 ≤ w9.heap.size ∧ Below w.heap.size w w9) := by with_reducible assumption
        obtain ⟨z0, z1, z2, z3, z4, q5, q6, q7, q8, q9, hq1, hq2⟩ := hq
        have HB9 := Lib.hid hq2
        have HZ9 := Lib.hid hq1
        clear hq1 hq2 q5 q6 q7 q8 q9 hb9 hcat i1 j0 j1 hSp hnm htx hkl s3 hXl
        clear y0 y1 y2 y3 y4 x0 x1 x2 x3 x4 HF HL CI
        have hw1 := HW1.out
        go_wp2_with fail
        go_roundw
        case rel => exact ⟨i + 1, S ++ KB, by omega, by go_num, rfl, HN2.out, HB9.out, HZ9.out, z0, z1, z2, z3, z4⟩
        case measure => first | exact HMs.out | (rw [hw1]; exact HMs.out)
    · have j3 : ¬ (i : Int) < (nk : Int) := by omega
      have d3 : decide (i < nk) = false := by simp; omega
      have hkk : ks.take i = ks := List.take_of_length_le (by rw [HNK.out]; omega)
      have hr := HS.out
      rw [hkk, ← HFr.out] at hr
      have HS2 := Lib.hid hr
      clear hr hkk HS
      have hc1 : ∀ w, (Op.stringOp .add S { data := #[60, 47] }).run Tryd.prog w = .ok (.string (S ++ { data := #[60, 47] })) w := fun w => run_string_add_sum w _ _ (by show S.size + 2 ≤ _; omega)
      have hc2 : ∀ w, (Op.stringOp .add (S ++ { data := #[60, 47] }) nm).run Tryd.prog w = .ok (.string (S ++ { data := #[60, 47] } ++ nm)) w := fun w => run_string_add_sum w _ _ (by rw [ByteArray.size_append]; show S.size + 2 + nm.size ≤ _; omega)
      have hc3 : ∀ w, (Op.stringOp .add (S ++ { data := #[60, 47] } ++ nm) { data := #[62] }).run Tryd.prog w = .ok (.string (S ++ { data := #[60, 47] } ++ nm ++ { data := #[62] })) w := fun w => run_string_add_sum w _ _ (by rw [ByteArray.size_append, ByteArray.size_append]; show S.size + 2 + nm.size + 1 ≤ _; omega)
      go_wp2_with fail
      go_ret
      exact ⟨ret_bytes' (by
        rw [HDoc.out, HHead.out]
        refine str_ext ?_
        rw [ByteArray.data_append, ByteArray.data_append, ByteArray.data_append]
        simp only [Array.toList_append]
        rw [HS2.out]
        simp [tailL]), HB.out⟩

set_option maxRecDepth 100000 in
set_option maxHeartbeats 4000000 in
theorem refPut_npxl (e : Tr) (he : chkA e = 0) (ih : ∀ k ∈ e.kids, RefPutOk k) (v : Value) (pg : Int) (M : Nat) (w : World) (hMw : M ≤ w.heap.size) (hv : AtT w M e v)
    (hp : e.page ≠ pg) (ho : e.opq = false) (hx : e.text.size = 0) (hk0 : e.kids.length ≠ 0) :
    Calls Tryd.prog 131 #[v, .int .i64 pg] w fun r w' => r = .returned (.string ⟨(docT spcL pg e).toArray⟩) ∧ Below w.heap.size w w' := by
  obtain ⟨hz1, hcT, hpg, hz2, hnm, hkl, htx, hz3, hz4, hz5, hks⟩ := chkA_right he
  clear hz1 hz2 hz3 hz4 hz5
  obtain ⟨hz1, hz2, s3, a, c, rfl, hk⟩ := hv.parts
  clear hz1 hz2
  obtain ⟨XO, hXO⟩ : ∃ XO : ByteArray, (⟨(esc e.text.data.toList).toArray⟩ : ByteArray) = XO := ⟨_, rfl⟩
  have cX := Lib.hid (fun W => refEscape_any e.text W (by omega))
  rw [hXO] at cX
  have HX : Hid (XO.data.toList = txL e.opq e.text) := by unfold Hid txL; rw [ho, ← hXO]; rfl
  have hXl : XO.size ≤ 20000 := by rw [← len_toList, HX.out]; have := (txL_len e.opq e.text).2; omega
  clear hXO
  have i1 := emptyB e.text hx
  have HT0 : Hid (txL e.opq e.text = []) := by unfold Hid; exact List.eq_nil_of_length_eq_zero (by have := (txL_len e.opq e.text).2; omega)
  have HDoc : Hid (docT spcL pg e = headL spcL pg e.page e.name e.opq ++ (([62] ++ txL e.opq e.text) ++ (docL spcL e.page e.kids ++ tailL e.name))) := by
    unfold Hid; rw [docT_of, if_neg (fun h => hk0 (by rw [h.2]; rfl))]
  have HHead : Hid (headL spcL pg e.page e.name e.opq = ([60] ++ e.name.data.toList) ++ (sXm ++ spcL e.page ++ [34])) := by
    unfold Hid headL; rw [if_pos hp, ho]; simp
  have j0 : (e.page == pg) = false := by simpa using hp
  have j1 : (e.page != pg) = true := by simpa using hp
  have j2 : e.opq = false := ho
  have j4 : ((e.kids.length : Int) == 0) = false := by rw [beq_eq_false_iff_ne]; omega
  have j5 : (e.kids.length == 0) = false := by rw [beq_eq_false_iff_ne]; omega
  have HDL : Hid (∀ i, (docL spcL e.page (e.kids.take i)).length ≤ 42000000) := fun i => by
    have h1 := docL_len spcL spcL_len e.page (e.kids.take i) (fun k hk => hks k (List.mem_of_mem_take hk))
    have h2 := cL_le e.kids i
    rw [cT_of] at hcT
    omega
  have HDK : Hid (∀ k ∈ e.kids, (docT spcL e.page k).length ≤ 42000000) := fun k hk => by
    have h1 := docT_bound spcL spcL_len (hT k) k (Nat.le_refl _) (hks k hk) e.page
    have h2 := (chkA_right (hks k hk)).2.1
    omega
  have HIH := Lib.hid ih
  have HKs := Lib.hid hk
  have hSp : (spc e.page).size ≤ 40 := by have := spcL_len e.page; unfold spcL at this; rw [len_toList] at this; exact this
  have HB0 : Hid (Below (w.heap.size + 1) (w.alloc (.cells #[.int .i64 e.page, .string e.name, .string e.text, .bool e.opq, .slice a e.kids.length c] 46)) (w.alloc (.cells #[.int .i64 e.page, .string e.name, .string e.text, .bool e.opq, .slice a e.kids.length c] 46))) := Below.refl _ _
  have HWB : Hid (Below w.heap.size w (w.alloc (.cells #[.int .i64 e.page, .string e.name, .string e.text, .bool e.opq, .slice a e.kids.length c] 46))) := (Below.refl _ w).alloc (Nat.le_refl _) _
  have HMw := Lib.hid hMw
  have HVV := Lib.hid hv
  clear hp hx hk0 hv he ih hks hk hpg hcT hMw HVV
  generalize hgp : e.page = p at *
  generalize hgn : e.name = nm at *
  generalize hgt : e.text = tx at *
  generalize hgo : e.opq = o at *
  generalize hgk : e.kids = ks at *
  clear hgp hgn hgt hgo hgk
  generalize hnk : ks.length = nk at *
  have HNK := Lib.hid hnk
  clear hnk
  subst j2
  clear ho
  go_enter Tryd.func131, Tryd.ntmps131
  go_wp2_with fail
  refine (refSpace_any p _).mono ?_
  rintro r X ⟨rfl, rfl⟩
  go_wp2_with fail
  have cW := cX.out (w.alloc (.cells #[.int .i64 p, .string nm, .string tx, .bool false, .slice a nk c] 46))
  refine cW.mono ?_
  clear cW
  rintro r X ⟨rfl, hbx⟩
  have HBX : Hid (Below w.heap.size w X) := HWB.out.trans (hbx.mono HWB.out.size)
  obtain ⟨y0, y1, y2, y3, y4⟩ := y5_of (v0 := .int .i64 p) (v1 := .string nm) (v2 := .string tx) (v3 := .bool false) (v4 := .slice a nk c) (t := 46) (w := w) (X := X) (by simpa using hbx)
  have HZX : Hid (w.heap.size + 1 ≤ X.heap.size) := by unfold Hid; have := hbx.size; simpa using this
  clear hbx
  go_wp2_with fail
  have HFL : Hid ((((([60] ++ nm.data.toList) ++ (sXm ++ spcL p ++ [34])) ++ ([62] ++ txL false tx))).length ≤ 30000) := by
    have h3 := hXl
    rw [← len_toList, HX.out] at h3
    have h4 := spcL_len p
    have h5 := len_toList nm
    unfold Hid
    simp [sXm, sEnc] at h3 ⊢
    omega
  have HS0 : Hid (((((((({ data := #[60] } ++ nm) ++ { data := #[32, 120, 109, 108, 110, 115, 61, 34] }) ++ spc p) ++ { data := #[34] }) ++ { data := #[62] }) ++ XO)).data.toList = ((([60] ++ nm.data.toList) ++ (sXm ++ spcL p ++ [34])) ++ ([62] ++ txL false tx)) ++ docL spcL p (ks.take 0)) := by
    unfold Hid; rw [List.take_zero, ← HX.out]
    simp [ByteArray.data_append, sXm, sEnc, spcL, docL]
  generalize hFr : ((([60] ++ nm.data.toList) ++ (sXm ++ spcL p ++ [34])) ++ ([62] ++ txL false tx)) = FR at HS0 HFL
  have HFr := Lib.hid hFr
  clear hFr
  generalize ((((((({ data := #[60] } ++ nm) ++ { data := #[32, 120, 109, 108, 110, 115, 61, 34] }) ++ spc p) ++ { data := #[34] }) ++ { data := #[62] }) ++ XO)) = S0 at *
  go_loopw [5, 6] (fun sv iv wr => ∃ (i : Nat) (S : ByteArray), i ≤ nk ∧ iv = .int .i64 (i : Int) ∧ sv = .string S ∧ Hid (S.data.toList = FR ++ docL spcL p (ks.take i)) ∧ Hid (Below w.heap.size w wr) ∧ Hid (w.heap.size + 1 ≤ wr.heap.size) ∧ wr.cell? ⟨w.heap.size, 0, none⟩ = some (.int .i64 p) ∧ wr.cell? ⟨w.heap.size, 1, none⟩ = some (.string nm) ∧ wr.cell? ⟨w.heap.size, 2, none⟩ = some (.string tx) ∧ wr.cell? ⟨w.heap.size, 3, none⟩ = some (.bool false) ∧ wr.cell? ⟨w.heap.size, 4, none⟩ = some (.slice a nk c)) (fun _ iv _ => nk - (intOf iv).toNat)
  case atStart => exact ⟨0, S0, Nat.zero_le _, rfl, rfl, HS0.out, HBX.out, HZX.out, y0, y1, y2, y3, y4⟩
  case round =>
    clear y0 y1 y2 y3 y4
    obtain ⟨i, S, hi, rfl, rfl, HS, HB, HZ, y0, y1, y2, y3, y4⟩ := hrel
    have hSl : S.size ≤ 42030000 := by
      rw [size_of_list HS.out, List.length_append]
      have := HDL.out i
      have := HFL.out
      omega
    by_cases hlt : i < nk
    · have j3 : (i : Int) < (nk : Int) := by omega
      have d3 : decide (i < nk) = true := by simp; omega
      have HW1 : Hid (wrap64 ((i : Int) + 1) = (i : Int) + 1) := by unfold Hid wrap64; omega
      have HMs : Hid (nk - (intOf (.int .i64 ((i : Int) + 1))).toNat < nk - (intOf (.int .i64 (i : Int))).toNat) := by unfold Hid; simp [intOf]; omega
      have hik : i < ks.length := by rw [HNK.out]; exact hlt
      obtain ⟨bb, oo, a', c', rfl, hrg, hat⟩ := kid_at HKs.out (HB.out.mono HMw.out) i hik
      have hbb : bb < w.heap.size := by
        have h9 := HKs.out.kid i hik
        obtain ⟨b2, o2, _, _, h1, h2, _⟩ := h9
        have h1 : bb = b2 := congrArg Addr.block (Option.some.inj h1)
        have := HMw.out
        omega
      obtain ⟨x0, x1, x2, x3, x4⟩ := elem_cells hrg
      have hnext : FR ++ docL spcL p (ks.take (i + 1)) = (FR ++ docL spcL p (ks.take i)) ++ docT spcL p ks[i] := by
        rw [List.take_succ_eq_append_getElem hik, docL_snoc, List.append_assoc]
      obtain ⟨KB, hKB⟩ : ∃ KB : ByteArray, (⟨(docT spcL p ks[i]).toArray⟩ : ByteArray) = KB := ⟨_, rfl⟩
      have hKl : KB.size ≤ 42000000 := by
        rw [← hKB]
        have := HDK.out ks[i] (List.getElem_mem hik)
        rw [← len_toList]; exact this
      have HN2 : Hid ((S ++ KB).data.toList = FR ++ docL spcL p (ks.take (i + 1))) := by
        unfold Hid; rw [hnext, ByteArray.data_append, Array.toList_append, HS.out, ← hKB]
      have cI := HIH.out ks[i] (List.getElem_mem hik)
      have CI : Hid (∀ X, Below w.heap.size w X → Calls Tryd.prog 131 #[.agg #[.int .i64 ks[i].page, .string ks[i].name, .string ks[i].text, .bool ks[i].opq, .slice a' ks[i].kids.length c'], .int .i64 p] X fun r w' => r = .returned (.string KB) ∧ Below X.heap.size X w') := fun X hX => by
        rw [← hKB]
        have hat0 := HKs.out.kid i hik
        obtain ⟨b2, o2, a2, c2, h1, h2, h3, h4⟩ := hat0
        have hat2 := AtT.below (hX.mono HMw.out) _ _ h4
        have e0 := (Option.some.inj h1)
        have h5 := h3 4 _ rfl
        have h6 : wr.cell? ⟨b2, o2 + i * 5 + 4, none⟩ = some (.slice a2 ks[i].kids.length c2) := ((HB.out.mono HMw.out).cell (p := ⟨b2, o2 + i * 5 + 4, none⟩) h2).trans h5
        obtain ⟨rfl, rfl⟩ : bb = b2 ∧ oo = o2 := ⟨congrArg Addr.block e0, congrArg Addr.off e0⟩
        rw [x4] at h6
        have h7 : Value.slice a' ks[i].kids.length c' = Value.slice a2 ks[i].kids.length c2 := Option.some.inj h6
        rw [h7]
        exact cI _ p M X (Nat.le_trans HMw.out hX.size) hat2
      generalize ks[i] = k at *
      have HF : Hid (KC w (w.heap.size + 1) [(w.heap.size, 0, .int .i64 p), (w.heap.size, 1, .string nm), (w.heap.size, 2, .string tx), (w.heap.size, 3, .bool false), (w.heap.size, 4, .slice (some ⟨bb, oo, none⟩) nk c), (bb, oo + i * 5, .int .i64 k.page), (bb, oo + i * 5 + 1, .string k.name), (bb, oo + i * 5 + 2, .string k.text), (bb, oo + i * 5 + 3, .bool k.opq), (bb, oo + i * 5 + 4, .slice a' k.kids.length c')] wr) := ⟨y0, y1, y2, y3, y4, x0, x1, x2, x3, x4, HZ.out, HB.out⟩
      have HL : Hid (LtA [(w.heap.size, 0, .int .i64 p), (w.heap.size, 1, .string nm), (w.heap.size, 2, .string tx), (w.heap.size, 3, .bool false), (w.heap.size, 4, .slice (some ⟨bb, oo, none⟩) nk c), (bb, oo + i * 5, .int .i64 k.page), (bb, oo + i * 5 + 1, .string k.name), (bb, oo + i * 5 + 2, .string k.text), (bb, oo + i * 5 + 3, .bool k.opq), (bb, oo + i * 5 + 4, .slice a' k.kids.length c')] (w.heap.size + 1)) := ⟨by omega, by omega, by omega, by omega, by omega, by omega, by omega, by omega, by omega, by omega, trivial⟩
      clear hrg hat hnext hKB cI
      have hcat : ∀ w, (Op.stringOp .add S KB).run Tryd.prog w = .ok (.string (S ++ KB)) w := fun w => run_string_add_sum w S KB (by omega)
      go_wp2_with fail
      go_region_held3 (fun w' => w'.cell? ⟨w.heap.size, 0, none⟩ = some (.int .i64 p) ∧ w'.cell? ⟨w.heap.size, 1, none⟩ = some (.string nm) ∧ w'.cell? ⟨w.heap.size, 2, none⟩ = some (.string tx) ∧ w'.cell? ⟨w.heap.size, 3, none⟩ = some (.bool false) ∧ w'.cell? ⟨w.heap.size, 4, none⟩ = some (.slice (some ⟨bb, oo, none⟩) nk c) ∧ w'.cell? ⟨bb, oo + i * 5, none⟩ = some (.int .i64 k.page) ∧ w'.cell? ⟨bb, oo + i * 5 + 1, none⟩ = some (.string k.name) ∧ w'.cell? ⟨bb, oo + i * 5 + 2, none⟩ = some (.string k.text) ∧ w'.cell? ⟨bb, oo + i * 5 + 3, none⟩ = some (.bool k.opq) ∧ w'.cell? ⟨bb, oo + i * 5 + 4, none⟩ = some (.slice a' k.kids.length c') ∧ (w.heap.size + 1 ≤ w'.heap.size ∧ Below w.heap.size w w')) (first | assumption | exact KC.drew HL.out HF.out | exact KC.call HL.out (by assumption) hb9 | exact KC.call HL.out (KC.drew HL.out HF.out) hb9) (first | (go_at_call 131; (with_reducible refine (CI.out _ ?_).mono ?_); exact (KC.below (w0 := w) (m := w.heap.size + 1) (l := [(w.heap.size, 0, .int .i64 p), (w.heap.size, 1, .string nm), (w.heap.size, 2, .string tx), (w.heap.size, 3, .bool false), (w.heap.size, 4, .slice (some ⟨bb, oo, none⟩) nk c), (bb, oo + i * 5, .int .i64 k.page), (bb, oo + i * 5 + 1, .string k.name), (bb, oo + i * 5 + 2, .string k.text), (bb, oo + i * 5 + 3, .bool k.opq), (bb, oo + i * 5 + 4, .slice a' k.kids.length c')]) (by first | assumption | exact KC.drew HL.out HF.out)); rintro r w9 ⟨rfl, hb9⟩))
      all_goals
        have hq : w9.cell? ⟨w.heap.size, 0, none⟩ = some (.int .i64 p) ∧ w9.cell? ⟨w.heap.size, 1, none⟩ = some (.string nm) ∧ w9.cell? ⟨w.heap.size, 2, none⟩ = some (.string tx) ∧ w9.cell? ⟨w.heap.size, 3, none⟩ = some (.bool false) ∧ w9.cell? ⟨w.heap.size, 4, none⟩ = some (.slice (some ⟨bb, oo, none⟩) nk c) ∧ w9.cell? ⟨bb, oo + i * 5, none⟩ = some (.int .i64 k.page) ∧ w9.cell? ⟨bb, oo + i * 5 + 1, none⟩ = some (.string k.name) ∧ w9.cell? ⟨bb, oo + i * 5 + 2, none⟩ = some (.string k.text) ∧ w9.cell? ⟨bb, oo + i * 5 + 3, none⟩ = some (.bool k.opq) ∧ w9.cell? ⟨bb, oo + i * 5 + 4, none⟩ = some (.slice a' k.kids.length c') ∧ (w.heap.size + 1 ≤ w9.heap.size ∧ Below w.heap.size w w9) := by with_reducible assumption
        obtain ⟨z0, z1, z2, z3, z4, q5, q6, q7, q8, q9, hq1, hq2⟩ := hq
        have HB9 := Lib.hid hq2
        have HZ9 := Lib.hid hq1
        clear hq1 hq2 q5 q6 q7 q8 q9 hb9 hcat i1 j0 j1 hSp hnm htx hkl s3 hXl
        clear y0 y1 y2 y3 y4 x0 x1 x2 x3 x4 HF HL CI
        have hw1 := HW1.out
        go_wp2_with fail
        go_roundw
        case rel => exact ⟨i + 1, S ++ KB, by omega, by go_num, rfl, HN2.out, HB9.out, HZ9.out, z0, z1, z2, z3, z4⟩
        case measure => first | exact HMs.out | (rw [hw1]; exact HMs.out)
    · have j3 : ¬ (i : Int) < (nk : Int) := by omega
      have d3 : decide (i < nk) = false := by simp; omega
      have hkk : ks.take i = ks := List.take_of_length_le (by rw [HNK.out]; omega)
      have hr := HS.out
      rw [hkk, ← HFr.out] at hr
      have HS2 := Lib.hid hr
      clear hr hkk HS
      have hc1 : ∀ w, (Op.stringOp .add S { data := #[60, 47] }).run Tryd.prog w = .ok (.string (S ++ { data := #[60, 47] })) w := fun w => run_string_add_sum w _ _ (by show S.size + 2 ≤ _; omega)
      have hc2 : ∀ w, (Op.stringOp .add (S ++ { data := #[60, 47] }) nm).run Tryd.prog w = .ok (.string (S ++ { data := #[60, 47] } ++ nm)) w := fun w => run_string_add_sum w _ _ (by rw [ByteArray.size_append]; show S.size + 2 + nm.size ≤ _; omega)
      have hc3 : ∀ w, (Op.stringOp .add (S ++ { data := #[60, 47] } ++ nm) { data := #[62] }).run Tryd.prog w = .ok (.string (S ++ { data := #[60, 47] } ++ nm ++ { data := #[62] })) w := fun w => run_string_add_sum w _ _ (by rw [ByteArray.size_append, ByteArray.size_append]; show S.size + 2 + nm.size + 1 ≤ _; omega)
      go_wp2_with fail
      go_ret
      exact ⟨ret_bytes' (by
        rw [HDoc.out, HHead.out]
        refine str_ext ?_
        rw [ByteArray.data_append, ByteArray.data_append, ByteArray.data_append]
        simp only [Array.toList_append]
        rw [HS2.out]
        simp [tailL]), HB.out⟩

set_option maxRecDepth 100000 in
set_option maxHeartbeats 4000000 in
theorem refPut_npxk (e : Tr) (he : chkA e = 0) (ih : ∀ k ∈ e.kids, RefPutOk k) (v : Value) (pg : Int) (M : Nat) (w : World) (hMw : M ≤ w.heap.size) (hv : AtT w M e v)
    (hp : e.page ≠ pg) (ho : e.opq = false) (hx : e.text.size = 0) (hk0 : e.kids.length = 0) :
    Calls Tryd.prog 131 #[v, .int .i64 pg] w fun r w' => r = .returned (.string ⟨(docT spcL pg e).toArray⟩) ∧ Below w.heap.size w w' := by
  obtain ⟨hz1, hcT, hpg, hz2, hnm, hkl, htx, hz3, hz4, hz5, hks⟩ := chkA_right he
  clear hz1 hz2 hz3 hz4 hz5
  obtain ⟨hz1, hz2, s3, a, c, rfl, hk⟩ := hv.parts
  clear hz1 hz2
  have i1 := emptyB e.text hx
  have HT0 : Hid (txL e.opq e.text = []) := by unfold Hid; exact List.eq_nil_of_length_eq_zero (by have := (txL_len e.opq e.text).2; omega)
  have HDoc : Hid (docT spcL pg e = headL spcL pg e.page e.name e.opq ++ [47, 62]) := by
    unfold Hid; rw [docT_of, if_pos ⟨HT0.out, List.eq_nil_of_length_eq_zero hk0⟩]
  have HHead : Hid (headL spcL pg e.page e.name e.opq = ([60] ++ e.name.data.toList) ++ (sXm ++ spcL e.page ++ [34])) := by
    unfold Hid headL; rw [if_pos hp, ho]; simp
  have j0 : (e.page == pg) = false := by simpa using hp
  have j1 : (e.page != pg) = true := by simpa using hp
  have j2 : e.opq = false := ho
  have j4 : ((e.kids.length : Int) == 0) = true := by rw [hk0]; rfl
  have j5 : (e.kids.length == 0) = true := by rw [hk0]; rfl
  have hSp : (spc e.page).size ≤ 40 := by have := spcL_len e.page; unfold spcL at this; rw [len_toList] at this; exact this
  have HB0 : Hid (Below (w.heap.size + 1) (w.alloc (.cells #[.int .i64 e.page, .string e.name, .string e.text, .bool e.opq, .slice a e.kids.length c] 46)) (w.alloc (.cells #[.int .i64 e.page, .string e.name, .string e.text, .bool e.opq, .slice a e.kids.length c] 46))) := Below.refl _ _
  have HWB : Hid (Below w.heap.size w (w.alloc (.cells #[.int .i64 e.page, .string e.name, .string e.text, .bool e.opq, .slice a e.kids.length c] 46))) := (Below.refl _ w).alloc (Nat.le_refl _) _
  have HMw := Lib.hid hMw
  have HVV := Lib.hid hv
  clear hp hx hk0 hv he ih hks hk hpg hcT hMw HVV
  generalize hgp : e.page = p at *
  generalize hgn : e.name = nm at *
  generalize hgt : e.text = tx at *
  generalize hgo : e.opq = o at *
  generalize hgk : e.kids = ks at *
  clear hgp hgn hgt hgo hgk
  generalize hnk : ks.length = nk at *
  have HNK := Lib.hid hnk
  clear hnk
  subst j2
  clear ho
  go_enter Tryd.func131, Tryd.ntmps131
  go_wp2_with fail
  refine (refSpace_any p _).mono ?_
  rintro r X ⟨rfl, rfl⟩
  go_wp2_with fail
  go_ret
  exact ⟨ret_bytes' (by
    rw [HDoc.out, HHead.out]
    refine str_ext ?_
    simp [ByteArray.data_append, sXm, sEnc, spcL]), HWB.out⟩

theorem refPut_any : ∀ (n : Nat) (e : Tr), hT e ≤ n → chkA e = 0 → RefPutOk e := by
  intro n
  induction n with
  | zero => intro e he; cases e; rw [hT] at he; omega
  | succ n ih =>
    intro e he h v pg M w h1 h2
    have hr := chkA_right h
    have ih' : ∀ k ∈ e.kids, RefPutOk k := fun k hk => ih k (Nat.le_of_lt_succ (Nat.lt_of_lt_of_le (hT_kid hk) he)) (hr.2.2.2.2.2.2.2.2.2.2 k hk)
    by_cases hp : e.page = pg
    · cases ho : e.opq with
      | true => exact refPut_eotl e h ih' v pg M w h1 h2 hp ho (hr.2.2.2.2.2.2.2.2.1 ho)
      | false =>
        by_cases hx : e.text.size = 0
        · by_cases hk : e.kids.length = 0
          · exact refPut_epxk e h ih' v pg M w h1 h2 hp ho hx hk
          · exact refPut_epxl e h ih' v pg M w h1 h2 hp ho hx hk
        · exact refPut_eptl e h ih' v pg M w h1 h2 hp ho hx
    · cases ho : e.opq with
      | true => exact refPut_notl e h ih' v pg M w h1 h2 hp ho (hr.2.2.2.2.2.2.2.2.1 ho)
      | false =>
        by_cases hx : e.text.size = 0
        · by_cases hk : e.kids.length = 0
          · exact refPut_npxk e h ih' v pg M w h1 h2 hp ho hx hk
          · exact refPut_npxl e h ih' v pg M w h1 h2 hp ho hx hk
        · exact refPut_nptl e h ih' v pg M w h1 h2 hp ho hx
end Go.Proofs.YtgechifbbhipaaaDoor
