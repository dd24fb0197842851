/- markup: Write, both. No condition but the tables. -/
import Derived.Test.YtgechifbbhipaaaDoorMkR
import Derived.Test.YtgechifbbhipaaaDoorTrZ
import Derived.Test.YtgechifbbhipaaaDoorTrN
import Derived.Test.YtgechifbbhipaaaDoorTrE
import Derived.OpenShut
import Derived.ShutString
import Derived.ChangeMaps5
set_option linter.unusedVariables false
set_option linter.unusedSimpArgs false
namespace Go.Proofs.YtgechifbbhipaaaDoor
open Go.RowKit Go.ChangeShapes Go.WideShapes

def hdS : List UInt8 := [60, 63, 120, 109, 108, 32, 118, 101, 114, 115, 105, 111, 110, 61, 34, 49, 46, 48, 34, 63, 62]
theorem ret_si {R : ByteArray × Int} {s : ByteArray} {a : Int} (h : (s, a) = R) : Ending.returned (.tuple #[.string s, .int .i64 a]) = .returned (.tuple #[.string R.1, .int .i64 R.2]) := by rw [← h]
/-- an element's document, and what is wrong -/
noncomputable def wrtV (e : Tr) : ByteArray × Int := if chkA e = 0 then (if 12000 < (hdS ++ docT spcL 0 e).length then (⟨#[]⟩, 8) else (⟨(hdS ++ docT spcL 0 e).toArray⟩, 0)) else (⟨#[]⟩, chkA e)

set_option maxRecDepth 100000 in
set_option maxHeartbeats 4000000 in
theorem write_any (e : Tr) (v : Value) (w : World) (hv : AtT w w.heap.size e v) (hT : Lib.Utf8Tabs 2 3 w) :
    Calls Tryd.prog 70 #[v] w fun r w' => r = .returned (.tuple #[.string (wrtV e).1, .int .i64 (wrtV e).2]) ∧ Below w.heap.size w w' := by
  obtain ⟨hz1, hz2, hz3, a, c, rfl, hk⟩ := hv.parts
  clear hz1 hz2 hz3
  have c7 := Lib.hid (fun X (hX : Below w.heap.size w X) => checkA_any e _ X (AtT.mono hX.size _ _ (AtT.below hX _ _ hv)) (Utf8Tabs_below hT hX))
  have HV := Lib.hid hv
  have HBox : Hid (Below w.heap.size w (w.alloc (.cells #[.int .i64 e.page, .string e.name, .string e.text, .bool e.opq, .slice a e.kids.length c] 46))) := (Below.refl _ w).alloc (Nat.le_refl _) _
  clear hv hT hk
  by_cases hq : chkA e = 0
  · rw [hq] at c7
    have hlen : (hdS ++ docT spcL 0 e).length ≤ 43000000 := by
      have h1 := docT_bound spcL spcL_len (hT e) e (Nat.le_refl _) hq 0
      have h2 := (chkA_right hq).2.1
      have h3 : hdS.length = 21 := rfl
      rw [List.length_append]; omega
    have HOk := Lib.hid (put_any (hT e) e (Nat.le_refl _) hq)
    have HC := Lib.hid (chkA_right hq).2.1
    have HV2 : Hid (wrtV e = if 12000 < (hdS ++ docT spcL 0 e).length then (⟨#[]⟩, 8) else (⟨(hdS ++ docT spcL 0 e).toArray⟩, 0)) := by unfold Hid wrtV; rw [if_pos hq]
    clear hq
    obtain ⟨D, hD⟩ : ∃ D, hdS ++ docT spcL 0 e = D := ⟨_, rfl⟩
    rw [hD] at hlen HV2
    have HD := Lib.hid hD
    clear hD
    obtain ⟨R, hR⟩ : ∃ R, wrtV e = R := ⟨_, rfl⟩
    rw [hR] at HV2 ⊢
    clear hR
    generalize hgp : e.page = p at *
    generalize hgn : e.name = nm at *
    generalize hgt : e.text = tx at *
    generalize hgo : e.opq = o at *
    generalize hgk : e.kids.length = nk at *
    clear hgp hgn hgt hgo hgk
    by_cases hbig : 12000 < D.length
    · have j1 : (12000 : Int) < (D.length : Int) := by omega
      have HR : Hid (R = (⟨#[]⟩, 8)) := by unfold Hid; rw [HV2.out, if_pos hbig]
      clear HV2 hbig
      go_enter Tryd.func70, Tryd.ntmps70
      go_wp2_with fail
      have cW := c7.out _ HBox.out
      refine cW.mono ?_
      clear cW
      rintro r X ⟨rfl, hb1⟩
      have HX1 := Lib.hid (HBox.out.trans (hb1.mono HBox.out.size))
      have HSz : Hid (w.heap.size + 1 ≤ X.heap.size) := by unfold Hid; have := hb1.size; simpa using this
      obtain ⟨y0, y1, y2, y3, y4⟩ := y5_of (v0 := .int .i64 p) (v1 := .string nm) (v2 := .string tx) (v3 := .bool o) (v4 := .slice a nk c) (t := 46) (w := w) (X := X) (by simpa using hb1)
      clear hb1
      go_wp2_with fail
      have HB2 : Hid (BdV (X.heap.size + 1) X.heap.size (Lib.byteCells []) (.slice none 0 0) (X.alloc (.cells #[.pointer none, .slice none 0 0] 139))) := BdV.new X _
      have cW := bdv_write _ _ _ _ { data := #[60, 63, 120, 109, 108, 32, 118, 101, 114, 115, 105, 111, 110, 61, 34, 49, 46, 48, 34, 63, 62] } _ HB2.out (by show 0 + 21 ≤ _; omega) (by simp)
      refine cW.mono ?_
      clear cW
      rintro r w4 ⟨⟨n4, rfl⟩, v4', hbd4, hgr4⟩
      have HG4 : Hid (Below X.heap.size X w4) := ((Below.refl _ X).alloc (Nat.le_refl _) _).trans (hgr4.below HB2.out (by omega) (Nat.le_refl _) (by simp))
      have HB4 : Hid (BdV (X.heap.size + 1) X.heap.size (Lib.byteCells hdS) v4' w4) := hbd4
      clear hbd4 hgr4
      have hy : ∀ k u, X.cell? ⟨w.heap.size, k, none⟩ = some u → w4.cell? ⟨w.heap.size, k, none⟩ = some u := fun k u h => (HG4.out.cell (p := ⟨w.heap.size, k, none⟩) (World.block_lt_of_cell? _ _ h)).trans h
      have z0 := hy 0 _ y0
      have z1 := hy 1 _ y1
      have z2 := hy 2 _ y2
      have z3 := hy 3 _ y3
      have z4 := hy 4 _ y4
      clear hy y0 y1 y2 y3 y4
      have HBw : Hid (Below w.heap.size w w4) := HX1.out.trans (HG4.out.mono HX1.out.size)
      have hs4 : X.heap.size < w4.heap.size := HB4.out.lt
      go_wp2_with fail
      have cW := HOk.out _ 0 _ _ w.heap.size _ _ w4 (Nat.le_trans HX1.out.size (Nat.le_succ _)) HX1.out.size hs4 (AtT.below HBw.out _ _ HV.out) HB4.out (by have h3 : hdS.length = 21 := rfl; have := HC.out; omega)
      rw [HD.out] at cW
      refine cW.mono ?_
      clear cW
      rintro r w5 ⟨rfl, v5, hbd5, hgr5⟩
      have HB5 := Lib.hid hbd5
      have HBF : Hid (Below w.heap.size w w5) := HBw.out.trans (hgr5.below HB4.out (Nat.le_trans HX1.out.size (Nat.le_succ _)) HX1.out.size HBw.out.size)
      clear hbd5 hgr5 z0 z1 z2 z3 z4
      go_wp2_with fail
      have cW := bdv_len _ _ _ _ w5 HB5.out
      rw [Lib.byteCells_length] at cW
      refine cW.mono ?_
      clear cW
      rintro r w6 ⟨rfl, rfl⟩
      go_wp2_with fail
      go_ret2
      exact ⟨ret_si HR.out.symm, HBF.out⟩
    · have j1 : ¬ (12000 : Int) < (D.length : Int) := by omega
      have HR : Hid (R = (⟨D.toArray⟩, 0)) := by unfold Hid; rw [HV2.out, if_neg hbig]
      clear HV2 hbig
      go_enter Tryd.func70, Tryd.ntmps70
      go_wp2_with fail
      have cW := c7.out _ HBox.out
      refine cW.mono ?_
      clear cW
      rintro r X ⟨rfl, hb1⟩
      have HX1 := Lib.hid (HBox.out.trans (hb1.mono HBox.out.size))
      have HSz : Hid (w.heap.size + 1 ≤ X.heap.size) := by unfold Hid; have := hb1.size; simpa using this
      obtain ⟨y0, y1, y2, y3, y4⟩ := y5_of (v0 := .int .i64 p) (v1 := .string nm) (v2 := .string tx) (v3 := .bool o) (v4 := .slice a nk c) (t := 46) (w := w) (X := X) (by simpa using hb1)
      clear hb1
      go_wp2_with fail
      have HB2 : Hid (BdV (X.heap.size + 1) X.heap.size (Lib.byteCells []) (.slice none 0 0) (X.alloc (.cells #[.pointer none, .slice none 0 0] 139))) := BdV.new X _
      have cW := bdv_write _ _ _ _ { data := #[60, 63, 120, 109, 108, 32, 118, 101, 114, 115, 105, 111, 110, 61, 34, 49, 46, 48, 34, 63, 62] } _ HB2.out (by show 0 + 21 ≤ _; omega) (by simp)
      refine cW.mono ?_
      clear cW
      rintro r w4 ⟨⟨n4, rfl⟩, v4', hbd4, hgr4⟩
      have HG4 : Hid (Below X.heap.size X w4) := ((Below.refl _ X).alloc (Nat.le_refl _) _).trans (hgr4.below HB2.out (by omega) (Nat.le_refl _) (by simp))
      have HB4 : Hid (BdV (X.heap.size + 1) X.heap.size (Lib.byteCells hdS) v4' w4) := hbd4
      clear hbd4 hgr4
      have hy : ∀ k u, X.cell? ⟨w.heap.size, k, none⟩ = some u → w4.cell? ⟨w.heap.size, k, none⟩ = some u := fun k u h => (HG4.out.cell (p := ⟨w.heap.size, k, none⟩) (World.block_lt_of_cell? _ _ h)).trans h
      have z0 := hy 0 _ y0
      have z1 := hy 1 _ y1
      have z2 := hy 2 _ y2
      have z3 := hy 3 _ y3
      have z4 := hy 4 _ y4
      clear hy y0 y1 y2 y3 y4
      have HBw : Hid (Below w.heap.size w w4) := HX1.out.trans (HG4.out.mono HX1.out.size)
      have hs4 : X.heap.size < w4.heap.size := HB4.out.lt
      go_wp2_with fail
      have cW := HOk.out _ 0 _ _ w.heap.size _ _ w4 (Nat.le_trans HX1.out.size (Nat.le_succ _)) HX1.out.size hs4 (AtT.below HBw.out _ _ HV.out) HB4.out (by have h3 : hdS.length = 21 := rfl; have := HC.out; omega)
      rw [HD.out] at cW
      refine cW.mono ?_
      clear cW
      rintro r w5 ⟨rfl, v5, hbd5, hgr5⟩
      have HB5 := Lib.hid hbd5
      have HBF : Hid (Below w.heap.size w w5) := HBw.out.trans (hgr5.below HB4.out (Nat.le_trans HX1.out.size (Nat.le_succ _)) HX1.out.size HBw.out.size)
      clear hbd5 hgr5 z0 z1 z2 z3 z4
      go_wp2_with fail
      have cW := bdv_len _ _ _ _ w5 HB5.out
      rw [Lib.byteCells_length] at cW
      refine cW.mono ?_
      clear cW
      rintro r w6 ⟨rfl, rfl⟩
      have cW := bd_string _ _ D w5 w.heap.size HB5.out.bd (Nat.le_trans HX1.out.size (Nat.le_succ _)) HX1.out.size HBF.out.size
      go_wp2_with (go_at_call 130; refine cW.mono ?_; rintro e w6 ⟨rfl, hb6, _⟩)
      go_ret2
      exact ⟨ret_si HR.out.symm, HBF.out.trans hb6⟩
  · have j1 : (chkA e != 0) = true := by rw [bne_iff_ne]; exact hq
    have HV2 : Hid (wrtV e = (⟨#[]⟩, chkA e)) := by unfold Hid wrtV; rw [if_neg hq]
    clear hq
    generalize chkA e = q at *
    generalize wrtV e = R at *
    generalize e.page = p at *
    generalize e.name = nm at *
    generalize e.text = tx at *
    generalize e.opq = o at *
    generalize e.kids.length = nk at *
    go_enter Tryd.func70, Tryd.ntmps70
    go_wp2_with fail
    have cW := c7.out _ HBox.out
    refine cW.mono ?_
    rintro r X ⟨rfl, hb1⟩
    go_wp2_with fail
    go_ret2
    exact ⟨ret_si HV2.out.symm, HBox.out.trans (hb1.mono HBox.out.size)⟩

set_option maxRecDepth 100000 in
set_option maxHeartbeats 4000000 in
theorem refWrite_any (e : Tr) (v : Value) (w : World) (hv : AtT w w.heap.size e v) :
    Calls Tryd.prog 71 #[v] w fun r w' => r = .returned (.tuple #[.string (wrtV e).1, .int .i64 (wrtV e).2]) ∧ Below w.heap.size w w' := by
  obtain ⟨hz1, hz2, hz3, a, c, rfl, hk⟩ := hv.parts
  clear hz1 hz2 hz3
  have c7 := Lib.hid (fun X (hX : Below w.heap.size w X) => refCheck_any e _ X (AtT.mono hX.size _ _ (AtT.below hX _ _ hv)))
  have HV := Lib.hid hv
  have HBox : Hid (Below w.heap.size w (w.alloc (.cells #[.int .i64 e.page, .string e.name, .string e.text, .bool e.opq, .slice a e.kids.length c] 46))) := (Below.refl _ w).alloc (Nat.le_refl _) _
  clear hv hk
  by_cases hq : chkA e = 0
  · rw [hq] at c7
    have hlen : (docT spcL 0 e).length ≤ 42000000 := by
      have h1 := docT_bound spcL spcL_len (hT e) e (Nat.le_refl _) hq 0
      have h2 := (chkA_right hq).2.1
      omega
    have HOk := Lib.hid (refPut_any (hT e) e (Nat.le_refl _) hq)
    obtain ⟨KB, hKB⟩ : ∃ KB : ByteArray, (⟨(docT spcL 0 e).toArray⟩ : ByteArray) = KB := ⟨_, rfl⟩
    have hKl : KB.size ≤ 42000000 := by rw [← hKB, ← len_toList]; exact hlen
    have HD : Hid ((({ data := #[60, 63, 120, 109, 108, 32, 118, 101, 114, 115, 105, 111, 110, 61, 34, 49, 46, 48, 34, 63, 62] } : ByteArray) ++ KB) = ⟨(hdS ++ docT spcL 0 e).toArray⟩) := by
      unfold Hid; refine str_ext ?_
      rw [← hKB, ByteArray.data_append]; simp [hdS]
    have HDl : Hid (KB.size + 21 = (hdS ++ docT spcL 0 e).length) := by
      unfold Hid; rw [← hKB, ← len_toList, List.length_append]
      have h3 : hdS.length = 21 := rfl
      rw [h3]; exact Nat.add_comm _ _
    have HV2 : Hid (wrtV e = if 12000 < (hdS ++ docT spcL 0 e).length then (⟨#[]⟩, 8) else (⟨(hdS ++ docT spcL 0 e).toArray⟩, 0)) := by unfold Hid wrtV; rw [if_pos hq]
    have HP : Hid (∀ X, Below w.heap.size w X → Calls Tryd.prog 131 #[.agg #[.int .i64 e.page, .string e.name, .string e.text, .bool e.opq, .slice a e.kids.length c], .int .i64 0] X fun r w' => r = .returned (.string KB) ∧ Below X.heap.size X w') := fun X hX => by
      rw [← hKB]; exact HOk.out _ 0 w.heap.size X hX.size (AtT.below hX _ _ HV.out)
    clear hq hlen hKB HOk HV
    generalize hdS ++ docT spcL 0 e = D at *
    obtain ⟨R, hR⟩ : ∃ R, wrtV e = R := ⟨_, rfl⟩
    rw [hR] at HV2 ⊢
    clear hR
    have hcat : ∀ w, (Op.stringOp .add { data := #[60, 63, 120, 109, 108, 32, 118, 101, 114, 115, 105, 111, 110, 61, 34, 49, 46, 48, 34, 63, 62] } KB).run Tryd.prog w = .ok (.string ({ data := #[60, 63, 120, 109, 108, 32, 118, 101, 114, 115, 105, 111, 110, 61, 34, 49, 46, 48, 34, 63, 62] } ++ KB)) w := fun w => Go.run_string_add_sum w _ _ (by show 21 + KB.size ≤ _; omega)
    have HCs : Hid (({ data := #[60, 63, 120, 109, 108, 32, 118, 101, 114, 115, 105, 111, 110, 61, 34, 49, 46, 48, 34, 63, 62] } ++ KB : ByteArray).size = D.length) := by unfold Hid; rw [ByteArray.size_append, ← HDl.out]; exact Nat.add_comm _ _
    generalize hSS : ({ data := #[60, 63, 120, 109, 108, 32, 118, 101, 114, 115, 105, 111, 110, 61, 34, 49, 46, 48, 34, 63, 62] } ++ KB : ByteArray) = SS at *
    clear hSS
    generalize e.page = p at *
    generalize e.name = nm at *
    generalize e.text = tx at *
    generalize e.opq = o at *
    generalize e.kids.length = nk at *
    have hSl := HCs.out
    by_cases hbig : 12000 < D.length
    · have j1 : (12000 : Int) < (SS.size : Int) := by omega
      have HR : Hid (R = (⟨#[]⟩, 8)) := by unfold Hid; rw [HV2.out, if_pos hbig]
      clear HV2 hbig hSl
      go_enter Tryd.func71, Tryd.ntmps71
      go_wp2_with fail
      have cW := c7.out _ HBox.out
      refine cW.mono ?_
      clear cW
      rintro r X ⟨rfl, hb1⟩
      have HX1 := Lib.hid (HBox.out.trans (hb1.mono HBox.out.size))
      obtain ⟨y0, y1, y2, y3, y4⟩ := y5_of (v0 := .int .i64 p) (v1 := .string nm) (v2 := .string tx) (v3 := .bool o) (v4 := .slice a nk c) (t := 46) (w := w) (X := X) (by simpa using hb1)
      clear hb1
      go_wp2_with fail
      have cW := HP.out _ HX1.out
      refine cW.mono ?_
      clear cW
      rintro r X2 ⟨rfl, hb2⟩
      have HX2 := Lib.hid (HX1.out.trans (hb2.mono HX1.out.size))
      clear hb2 y0 y1 y2 y3 y4
      go_wp2_with fail
      go_ret2
      exact ⟨ret_si HR.out.symm, HX2.out⟩
    · have j1 : ¬ (12000 : Int) < (SS.size : Int) := by omega
      have HR : Hid (R = (⟨D.toArray⟩, 0)) := by unfold Hid; rw [HV2.out, if_neg hbig]
      clear HV2 hbig hSl
      go_enter Tryd.func71, Tryd.ntmps71
      go_wp2_with fail
      have cW := c7.out _ HBox.out
      refine cW.mono ?_
      clear cW
      rintro r X ⟨rfl, hb1⟩
      have HX1 := Lib.hid (HBox.out.trans (hb1.mono HBox.out.size))
      obtain ⟨y0, y1, y2, y3, y4⟩ := y5_of (v0 := .int .i64 p) (v1 := .string nm) (v2 := .string tx) (v3 := .bool o) (v4 := .slice a nk c) (t := 46) (w := w) (X := X) (by simpa using hb1)
      clear hb1
      go_wp2_with fail
      have cW := HP.out _ HX1.out
      refine cW.mono ?_
      clear cW
      rintro r X2 ⟨rfl, hb2⟩
      have HX2 := Lib.hid (HX1.out.trans (hb2.mono HX1.out.size))
      clear hb2 y0 y1 y2 y3 y4
      go_wp2_with fail
      go_ret2
      exact ⟨ret_si (by rw [HD.out, HR.out]), HX2.out⟩
  · have j1 : (chkA e != 0) = true := by rw [bne_iff_ne]; exact hq
    have HV2 : Hid (wrtV e = (⟨#[]⟩, chkA e)) := by unfold Hid wrtV; rw [if_neg hq]
    clear hq HV
    generalize chkA e = q at *
    generalize wrtV e = R at *
    generalize e.page = p at *
    generalize e.name = nm at *
    generalize e.text = tx at *
    generalize e.opq = o at *
    generalize e.kids.length = nk at *
    go_enter Tryd.func71, Tryd.ntmps71
    go_wp2_with fail
    have cW := c7.out _ HBox.out
    refine cW.mono ?_
    rintro r X ⟨rfl, hb1⟩
    go_wp2_with fail
    go_ret2
    exact ⟨ret_si HV2.out.symm, HBox.out.trans (hb1.mono HBox.out.size)⟩
end Go.Proofs.YtgechifbbhipaaaDoor
