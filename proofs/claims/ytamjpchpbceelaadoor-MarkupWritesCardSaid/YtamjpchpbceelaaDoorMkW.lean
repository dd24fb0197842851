/- markup: Write, both; MarkupWrites: the walk, and the law over arguments that came in. No condition but the tables. -/
import Derived.Test.YtamjpchpbceelaaDoorMkR
import Derived.Test.YtamjpchpbceelaaDoorTrQ
import Derived.Test.YtamjpchpbceelaaDoorTrO
import Derived.Test.YtamjpchpbceelaaDoorTrE
import Derived.OpenShut
import Derived.ShutString
import Derived.ChangeMaps5
namespace Go.Proofs.YtamjpchpbceelaaDoor
open Go.RowKit Go.ChangeShapes Go.WideShapes

def hdS : List UInt8 := [60, 63, 120, 109, 108, 32, 118, 101, 114, 115, 105, 111, 110, 61, 34, 49, 46, 48, 34, 63, 62]
theorem ret_si {R : ByteArray × Int} {s : ByteArray} {a : Int} (h : (s, a) = R) : Ending.returned (.tuple #[.string s, .int .i64 a]) = .returned (.tuple #[.string R.1, .int .i64 R.2]) := by rw [← h]
/-- an element's document, and what is wrong -/
noncomputable def wrtV (e : Tr) : ByteArray × Int := if chkA e = 0 then (if 12000 < (hdS ++ docT spcL 0 e).length then (⟨#[]⟩, 8) else (⟨(hdS ++ docT spcL 0 e).toArray⟩, 0)) else (⟨#[]⟩, chkA e)

set_option maxRecDepth 100000 in
set_option maxHeartbeats 4000000 in
theorem write_any (e : Tr) (v : Value) (w : World) (hv : AtT w w.heap.size e v) (hT : Lib.Utf8Tabs 3 4 w) :
    Calls Tryd.prog 16 #[v] w fun r w' => r = .returned (.tuple #[.string (wrtV e).1, .int .i64 (wrtV e).2]) ∧ Below w.heap.size w w' := by
  obtain ⟨hz1, hz2, hz3, a, c, rfl, hk⟩ := hv.parts
  clear hz1 hz2 hz3
  have c7 := Lib.hid (fun X (hX : Below w.heap.size w X) => checkA_any e _ X (AtT.mono hX.size _ _ (AtT.below hX _ _ hv)) (Utf8Tabs_below hT hX))
  have HV := Lib.hid hv
  have HBox : Hid (Below w.heap.size w (w.alloc (.cells #[.int .i64 e.page, .string e.name, .string e.text, .bool e.opq, .slice a e.kids.length c] 24))) := (Below.refl _ w).alloc (Nat.le_refl _) _
  clear hv hT hk
  by_cases hq : chkA e = 0
  · rw [hq] at c7
    have hlen : (hdS ++ docT spcL 0 e).length ≤ 43000000 := by
      have h1 := docT_bound spcL spcL_len (hT e) e (Nat.le_refl _) hq 0
      have h2 := (chkA_right hq).2.1
      have h3 : hdS.length = 21 := rfl
      rw [List.length_append]; omega
    have HOk := Lib.hid (put_any (hT e) e (Nat.le_refl _) hq)
    have HC := Lib.hid (chkA_right hq).2.1
    have HV2 : Hid (wrtV e = if 12000 < (hdS ++ docT spcL 0 e).length then (⟨#[]⟩, 8) else (⟨(hdS ++ docT spcL 0 e).toArray⟩, 0)) := by unfold Hid wrtV; rw [if_pos hq]
    clear hq
    obtain ⟨D, hD⟩ : ∃ D, hdS ++ docT spcL 0 e = D := ⟨_, rfl⟩
    rw [hD] at hlen HV2
    have HD := Lib.hid hD
    clear hD
    obtain ⟨R, hR⟩ : ∃ R, wrtV e = R := ⟨_, rfl⟩
    rw [hR] at HV2 ⊢
    clear hR
    generalize hgp : e.page = p at *
    generalize hgn : e.name = nm at *
    generalize hgt : e.text = tx at *
    generalize hgo : e.opq = o at *
    generalize hgk : e.kids.length = nk at *
    clear hgp hgn hgt hgo hgk
    by_cases hbig : 12000 < D.length
    · have j1 : (12000 : Int) < (D.length : Int) := by omega
      have HR : Hid (R = (⟨#[]⟩, 8)) := by unfold Hid; rw [HV2.out, if_pos hbig]
      clear HV2 hbig
      go_enter Tryd.func16, Tryd.ntmps16
      go_wp2_with fail
      have cW := c7.out _ HBox.out
      refine cW.mono ?_
      clear cW
      rintro r X ⟨rfl, hb1⟩
      have HX1 := Lib.hid (HBox.out.trans (hb1.mono HBox.out.size))
      have HSz : Hid (w.heap.size + 1 ≤ X.heap.size) := by unfold Hid; have := hb1.size; simpa using this
      obtain ⟨y0, y1, y2, y3, y4⟩ := y5_of (v0 := .int .i64 p) (v1 := .string nm) (v2 := .string tx) (v3 := .bool o) (v4 := .slice a nk c) (t := 24) (w := w) (X := X) (by simpa using hb1)
      clear hb1
      go_wp2_with fail
      have HB2 : Hid (BdV (X.heap.size + 1) X.heap.size (Lib.byteCells []) (.slice none 0 0) (X.alloc (.cells #[.pointer none, .slice none 0 0] 86))) := BdV.new X _
      have cW := bdv_write _ _ _ _ { data := #[60, 63, 120, 109, 108, 32, 118, 101, 114, 115, 105, 111, 110, 61, 34, 49, 46, 48, 34, 63, 62] } _ HB2.out (by show 0 + 21 ≤ _; omega) (by simp)
      refine cW.mono ?_
      clear cW
      rintro r w4 ⟨⟨n4, rfl⟩, v4', hbd4, hgr4⟩
      have HG4 : Hid (Below X.heap.size X w4) := ((Below.refl _ X).alloc (Nat.le_refl _) _).trans (hgr4.below HB2.out (by omega) (Nat.le_refl _) (by simp))
      have HB4 : Hid (BdV (X.heap.size + 1) X.heap.size (Lib.byteCells hdS) v4' w4) := hbd4
      clear hbd4 hgr4
      have hy : ∀ k u, X.cell? ⟨w.heap.size, k, none⟩ = some u → w4.cell? ⟨w.heap.size, k, none⟩ = some u := fun k u h => (HG4.out.cell (p := ⟨w.heap.size, k, none⟩) (World.block_lt_of_cell? _ _ h)).trans h
      have z0 := hy 0 _ y0
      have z1 := hy 1 _ y1
      have z2 := hy 2 _ y2
      have z3 := hy 3 _ y3
      have z4 := hy 4 _ y4
      clear hy y0 y1 y2 y3 y4
      have HBw : Hid (Below w.heap.size w w4) := HX1.out.trans (HG4.out.mono HX1.out.size)
      have hs4 : X.heap.size < w4.heap.size := HB4.out.lt
      go_wp2_with fail
      have cW := HOk.out _ 0 _ _ w.heap.size _ _ w4 (Nat.le_trans HX1.out.size (Nat.le_succ _)) HX1.out.size hs4 (AtT.below HBw.out _ _ HV.out) HB4.out (by have h3 : hdS.length = 21 := rfl; have := HC.out; omega)
      rw [HD.out] at cW
      refine cW.mono ?_
      clear cW
      rintro r w5 ⟨rfl, v5, hbd5, hgr5⟩
      have HB5 := Lib.hid hbd5
      have HBF : Hid (Below w.heap.size w w5) := HBw.out.trans (hgr5.below HB4.out (Nat.le_trans HX1.out.size (Nat.le_succ _)) HX1.out.size HBw.out.size)
      clear hbd5 hgr5 z0 z1 z2 z3 z4
      go_wp2_with fail
      have cW := bdv_len _ _ _ _ w5 HB5.out
      rw [Lib.byteCells_length] at cW
      refine cW.mono ?_
      clear cW
      rintro r w6 ⟨rfl, rfl⟩
      go_wp2_with fail
      go_ret2
      exact ⟨ret_si HR.out.symm, HBF.out⟩
    · have j1 : ¬ (12000 : Int) < (D.length : Int) := by omega
      have HR : Hid (R = (⟨D.toArray⟩, 0)) := by unfold Hid; rw [HV2.out, if_neg hbig]
      clear HV2 hbig
      go_enter Tryd.func16, Tryd.ntmps16
      go_wp2_with fail
      have cW := c7.out _ HBox.out
      refine cW.mono ?_
      clear cW
      rintro r X ⟨rfl, hb1⟩
      have HX1 := Lib.hid (HBox.out.trans (hb1.mono HBox.out.size))
      have HSz : Hid (w.heap.size + 1 ≤ X.heap.size) := by unfold Hid; have := hb1.size; simpa using this
      obtain ⟨y0, y1, y2, y3, y4⟩ := y5_of (v0 := .int .i64 p) (v1 := .string nm) (v2 := .string tx) (v3 := .bool o) (v4 := .slice a nk c) (t := 24) (w := w) (X := X) (by simpa using hb1)
      clear hb1
      go_wp2_with fail
      have HB2 : Hid (BdV (X.heap.size + 1) X.heap.size (Lib.byteCells []) (.slice none 0 0) (X.alloc (.cells #[.pointer none, .slice none 0 0] 86))) := BdV.new X _
      have cW := bdv_write _ _ _ _ { data := #[60, 63, 120, 109, 108, 32, 118, 101, 114, 115, 105, 111, 110, 61, 34, 49, 46, 48, 34, 63, 62] } _ HB2.out (by show 0 + 21 ≤ _; omega) (by simp)
      refine cW.mono ?_
      clear cW
      rintro r w4 ⟨⟨n4, rfl⟩, v4', hbd4, hgr4⟩
      have HG4 : Hid (Below X.heap.size X w4) := ((Below.refl _ X).alloc (Nat.le_refl _) _).trans (hgr4.below HB2.out (by omega) (Nat.le_refl _) (by simp))
      have HB4 : Hid (BdV (X.heap.size + 1) X.heap.size (Lib.byteCells hdS) v4' w4) := hbd4
      clear hbd4 hgr4
      have hy : ∀ k u, X.cell? ⟨w.heap.size, k, none⟩ = some u → w4.cell? ⟨w.heap.size, k, none⟩ = some u := fun k u h => (HG4.out.cell (p := ⟨w.heap.size, k, none⟩) (World.block_lt_of_cell? _ _ h)).trans h
      have z0 := hy 0 _ y0
      have z1 := hy 1 _ y1
      have z2 := hy 2 _ y2
      have z3 := hy 3 _ y3
      have z4 := hy 4 _ y4
      clear hy y0 y1 y2 y3 y4
      have HBw : Hid (Below w.heap.size w w4) := HX1.out.trans (HG4.out.mono HX1.out.size)
      have hs4 : X.heap.size < w4.heap.size := HB4.out.lt
      go_wp2_with fail
      have cW := HOk.out _ 0 _ _ w.heap.size _ _ w4 (Nat.le_trans HX1.out.size (Nat.le_succ _)) HX1.out.size hs4 (AtT.below HBw.out _ _ HV.out) HB4.out (by have h3 : hdS.length = 21 := rfl; have := HC.out; omega)
      rw [HD.out] at cW
      refine cW.mono ?_
      clear cW
      rintro r w5 ⟨rfl, v5, hbd5, hgr5⟩
      have HB5 := Lib.hid hbd5
      have HBF : Hid (Below w.heap.size w w5) := HBw.out.trans (hgr5.below HB4.out (Nat.le_trans HX1.out.size (Nat.le_succ _)) HX1.out.size HBw.out.size)
      clear hbd5 hgr5 z0 z1 z2 z3 z4
      go_wp2_with fail
      have cW := bdv_len _ _ _ _ w5 HB5.out
      rw [Lib.byteCells_length] at cW
      refine cW.mono ?_
      clear cW
      rintro r w6 ⟨rfl, rfl⟩
      have cW := bd_string _ _ D w5 w.heap.size HB5.out.bd (Nat.le_trans HX1.out.size (Nat.le_succ _)) HX1.out.size HBF.out.size
      go_wp2_with (go_at_call 64; refine cW.mono ?_; rintro e w6 ⟨rfl, hb6, _⟩)
      go_ret2
      exact ⟨ret_si HR.out.symm, HBF.out.trans hb6⟩
  · have j1 : (chkA e != 0) = true := by rw [bne_iff_ne]; exact hq
    have HV2 : Hid (wrtV e = (⟨#[]⟩, chkA e)) := by unfold Hid wrtV; rw [if_neg hq]
    clear hq
    generalize chkA e = q at *
    generalize wrtV e = R at *
    generalize e.page = p at *
    generalize e.name = nm at *
    generalize e.text = tx at *
    generalize e.opq = o at *
    generalize e.kids.length = nk at *
    go_enter Tryd.func16, Tryd.ntmps16
    go_wp2_with fail
    have cW := c7.out _ HBox.out
    refine cW.mono ?_
    rintro r X ⟨rfl, hb1⟩
    go_wp2_with fail
    go_ret2
    exact ⟨ret_si HV2.out.symm, HBox.out.trans (hb1.mono HBox.out.size)⟩

set_option maxRecDepth 100000 in
set_option maxHeartbeats 4000000 in
theorem refWrite_any (e : Tr) (v : Value) (w : World) (hv : AtT w w.heap.size e v) :
    Calls Tryd.prog 17 #[v] w fun r w' => r = .returned (.tuple #[.string (wrtV e).1, .int .i64 (wrtV e).2]) ∧ Below w.heap.size w w' := by
  obtain ⟨hz1, hz2, hz3, a, c, rfl, hk⟩ := hv.parts
  clear hz1 hz2 hz3
  have c7 := Lib.hid (fun X (hX : Below w.heap.size w X) => refCheck_any e _ X (AtT.mono hX.size _ _ (AtT.below hX _ _ hv)))
  have HV := Lib.hid hv
  have HBox : Hid (Below w.heap.size w (w.alloc (.cells #[.int .i64 e.page, .string e.name, .string e.text, .bool e.opq, .slice a e.kids.length c] 24))) := (Below.refl _ w).alloc (Nat.le_refl _) _
  clear hv hk
  by_cases hq : chkA e = 0
  · rw [hq] at c7
    have hlen : (docT spcL 0 e).length ≤ 42000000 := by
      have h1 := docT_bound spcL spcL_len (hT e) e (Nat.le_refl _) hq 0
      have h2 := (chkA_right hq).2.1
      omega
    have HOk := Lib.hid (refPut_any (hT e) e (Nat.le_refl _) hq)
    obtain ⟨KB, hKB⟩ : ∃ KB : ByteArray, (⟨(docT spcL 0 e).toArray⟩ : ByteArray) = KB := ⟨_, rfl⟩
    have hKl : KB.size ≤ 42000000 := by rw [← hKB, ← len_toList]; exact hlen
    have HD : Hid ((({ data := #[60, 63, 120, 109, 108, 32, 118, 101, 114, 115, 105, 111, 110, 61, 34, 49, 46, 48, 34, 63, 62] } : ByteArray) ++ KB) = ⟨(hdS ++ docT spcL 0 e).toArray⟩) := by
      unfold Hid; refine str_ext ?_
      rw [← hKB, ByteArray.data_append]; simp [hdS]
    have HDl : Hid (KB.size + 21 = (hdS ++ docT spcL 0 e).length) := by
      unfold Hid; rw [← hKB, ← len_toList, List.length_append]
      have h3 : hdS.length = 21 := rfl
      rw [h3]; exact Nat.add_comm _ _
    have HV2 : Hid (wrtV e = if 12000 < (hdS ++ docT spcL 0 e).length then (⟨#[]⟩, 8) else (⟨(hdS ++ docT spcL 0 e).toArray⟩, 0)) := by unfold Hid wrtV; rw [if_pos hq]
    have HP : Hid (∀ X, Below w.heap.size w X → Calls Tryd.prog 65 #[.agg #[.int .i64 e.page, .string e.name, .string e.text, .bool e.opq, .slice a e.kids.length c], .int .i64 0] X fun r w' => r = .returned (.string KB) ∧ Below X.heap.size X w') := fun X hX => by
      rw [← hKB]; exact HOk.out _ 0 w.heap.size X hX.size (AtT.below hX _ _ HV.out)
    clear hq hlen hKB HOk HV
    generalize hdS ++ docT spcL 0 e = D at *
    obtain ⟨R, hR⟩ : ∃ R, wrtV e = R := ⟨_, rfl⟩
    rw [hR] at HV2 ⊢
    clear hR
    have hcat : ∀ w, (Op.stringOp .add { data := #[60, 63, 120, 109, 108, 32, 118, 101, 114, 115, 105, 111, 110, 61, 34, 49, 46, 48, 34, 63, 62] } KB).run Tryd.prog w = .ok (.string ({ data := #[60, 63, 120, 109, 108, 32, 118, 101, 114, 115, 105, 111, 110, 61, 34, 49, 46, 48, 34, 63, 62] } ++ KB)) w := fun w => Go.run_string_add_sum w _ _ (by show 21 + KB.size ≤ _; omega)
    have HCs : Hid (({ data := #[60, 63, 120, 109, 108, 32, 118, 101, 114, 115, 105, 111, 110, 61, 34, 49, 46, 48, 34, 63, 62] } ++ KB : ByteArray).size = D.length) := by unfold Hid; rw [ByteArray.size_append, ← HDl.out]; exact Nat.add_comm _ _
    generalize hSS : ({ data := #[60, 63, 120, 109, 108, 32, 118, 101, 114, 115, 105, 111, 110, 61, 34, 49, 46, 48, 34, 63, 62] } ++ KB : ByteArray) = SS at *
    clear hSS
    generalize e.page = p at *
    generalize e.name = nm at *
    generalize e.text = tx at *
    generalize e.opq = o at *
    generalize e.kids.length = nk at *
    have hSl := HCs.out
    by_cases hbig : 12000 < D.length
    · have j1 : (12000 : Int) < (SS.size : Int) := by omega
      have HR : Hid (R = (⟨#[]⟩, 8)) := by unfold Hid; rw [HV2.out, if_pos hbig]
      clear HV2 hbig hSl
      go_enter Tryd.func17, Tryd.ntmps17
      go_wp2_with fail
      have cW := c7.out _ HBox.out
      refine cW.mono ?_
      clear cW
      rintro r X ⟨rfl, hb1⟩
      have HX1 := Lib.hid (HBox.out.trans (hb1.mono HBox.out.size))
      obtain ⟨y0, y1, y2, y3, y4⟩ := y5_of (v0 := .int .i64 p) (v1 := .string nm) (v2 := .string tx) (v3 := .bool o) (v4 := .slice a nk c) (t := 24) (w := w) (X := X) (by simpa using hb1)
      clear hb1
      go_wp2_with fail
      have cW := HP.out _ HX1.out
      refine cW.mono ?_
      clear cW
      rintro r X2 ⟨rfl, hb2⟩
      have HX2 := Lib.hid (HX1.out.trans (hb2.mono HX1.out.size))
      clear hb2 y0 y1 y2 y3 y4
      go_wp2_with fail
      go_ret2
      exact ⟨ret_si HR.out.symm, HX2.out⟩
    · have j1 : ¬ (12000 : Int) < (SS.size : Int) := by omega
      have HR : Hid (R = (⟨D.toArray⟩, 0)) := by unfold Hid; rw [HV2.out, if_neg hbig]
      clear HV2 hbig hSl
      go_enter Tryd.func17, Tryd.ntmps17
      go_wp2_with fail
      have cW := c7.out _ HBox.out
      refine cW.mono ?_
      clear cW
      rintro r X ⟨rfl, hb1⟩
      have HX1 := Lib.hid (HBox.out.trans (hb1.mono HBox.out.size))
      obtain ⟨y0, y1, y2, y3, y4⟩ := y5_of (v0 := .int .i64 p) (v1 := .string nm) (v2 := .string tx) (v3 := .bool o) (v4 := .slice a nk c) (t := 24) (w := w) (X := X) (by simpa using hb1)
      clear hb1
      go_wp2_with fail
      have cW := HP.out _ HX1.out
      refine cW.mono ?_
      clear cW
      rintro r X2 ⟨rfl, hb2⟩
      have HX2 := Lib.hid (HX1.out.trans (hb2.mono HX1.out.size))
      clear hb2 y0 y1 y2 y3 y4
      go_wp2_with fail
      go_ret2
      exact ⟨ret_si (by rw [HD.out, HR.out]), HX2.out⟩
  · have j1 : (chkA e != 0) = true := by rw [bne_iff_ne]; exact hq
    have HV2 : Hid (wrtV e = (⟨#[]⟩, chkA e)) := by unfold Hid wrtV; rw [if_neg hq]
    clear hq HV
    generalize chkA e = q at *
    generalize wrtV e = R at *
    generalize e.page = p at *
    generalize e.name = nm at *
    generalize e.text = tx at *
    generalize e.opq = o at *
    generalize e.kids.length = nk at *
    go_enter Tryd.func17, Tryd.ntmps17
    go_wp2_with fail
    have cW := c7.out _ HBox.out
    refine cW.mono ?_
    rintro r X ⟨rfl, hb1⟩
    go_wp2_with fail
    go_ret2
    exact ⟨ret_si HV2.out.symm, HBox.out.trans (hb1.mono HBox.out.size)⟩

set_option maxRecDepth 100000 in
set_option maxHeartbeats 4000000 in
theorem markupWrites_walk (e : Tr) (v : Value) (s : ByteArray) (w : World) (hv : AtT w w.heap.size e v) (hs : s.size ≤ 140737488355328) (hT : Lib.Utf8Tabs 3 4 w) :
    Calls Tryd.prog 3 #[v, .string s] w fun r w' => r = .returned (.bool true) ∧ Below w.heap.size w w' := by
  obtain ⟨hz1, hz2, hz3, a, c, rfl, hk⟩ := hv.parts
  clear hz1 hz2 hz3 hk
  have cG := Lib.hid (fun X (hX : Below w.heap.size w X) => great_any e _ X (AtT.mono hX.size _ _ (AtT.below hX _ _ hv)))
  have cP := Lib.hid (fun X (hX : Below w.heap.size w X) => write_any e _ X (AtT.mono hX.size _ _ (AtT.below hX _ _ hv)) (Utf8Tabs_below hT hX))
  have cR := Lib.hid (fun X (hX : Below w.heap.size w X) => refWrite_any e _ X (AtT.mono hX.size _ _ (AtT.below hX _ _ hv)))
  have HBox : Hid (Below w.heap.size w (w.alloc (.cells #[.int .i64 e.page, .string e.name, .string e.text, .bool e.opq, .slice a e.kids.length c] 24))) := (Below.refl _ w).alloc (Nat.le_refl _) _
  clear hv hT
  generalize wrtV e = R at *
  obtain ⟨D, q⟩ := R
  generalize greatV e = g at *
  generalize e.page = p at *
  generalize e.name = nm at *
  generalize e.text = tx at *
  generalize e.opq = o at *
  generalize e.kids.length = nk at *
  have iD : (D.toList == D.toList) = true := str_self D
  cases g with
  | true =>
    go_enter Tryd.func3, Tryd.ntmps3
    go_wp2_with fail
    have cW := cG.out _ HBox.out
    refine cW.mono ?_
    rintro r X ⟨rfl, hb1⟩
    go_wp2_with fail
    go_ret
    exact ⟨rfl, HBox.out.trans (hb1.mono HBox.out.size)⟩
  | false =>
    by_cases hbig : 5000 < s.size
    · have j1 : (5000 : Int) < (s.size : Int) := by omega
      go_enter Tryd.func3, Tryd.ntmps3
      go_wp2_with fail
      have cW := cG.out _ HBox.out
      refine cW.mono ?_
      rintro r X ⟨rfl, hb1⟩
      go_wp2_with fail
      go_ret
      exact ⟨rfl, HBox.out.trans (hb1.mono HBox.out.size)⟩
    · have j1 : ¬ (5000 : Int) < (s.size : Int) := by omega
      obtain ⟨XE, hXE⟩ : ∃ XE : ByteArray, (⟨(esc s.data.toList).toArray⟩ : ByteArray) = XE := ⟨_, rfl⟩
      have cE := Lib.hid (fun X => escape_any s X (by omega))
      have cF := Lib.hid (fun X => refEscape_any s X (by omega))
      rw [hXE] at cE cF
      clear hXE hbig
      have iE : (XE.toList == XE.toList) = true := str_self XE
      go_enter Tryd.func3, Tryd.ntmps3
      go_wp2_with fail
      have cW := cG.out _ HBox.out
      refine cW.mono ?_
      clear cW
      rintro r X ⟨rfl, hb1⟩
      have HX1 := Lib.hid (HBox.out.trans (hb1.mono HBox.out.size))
      obtain ⟨y0, y1, y2, y3, y4⟩ := y5_of (v0 := .int .i64 p) (v1 := .string nm) (v2 := .string tx) (v3 := .bool o) (v4 := .slice a nk c) (t := 24) (w := w) (X := X) (by simpa using hb1)
      have HZ1 : Hid (w.heap.size + 1 ≤ X.heap.size) := by unfold Hid; have := hb1.size; simpa using this
      have HBa : Hid (Below (w.heap.size + 1) (w.alloc (.cells #[.int .i64 p, .string nm, .string tx, .bool o, .slice a nk c] 24)) X) := by unfold Hid; simpa using hb1
      clear hb1
      go_wp2_with fail
      have cW := cP.out _ HX1.out
      refine cW.mono ?_
      clear cW
      rintro r X2 ⟨rfl, hb1⟩
      have HX2 := Lib.hid (HX1.out.trans (hb1.mono HX1.out.size))
      have HBb : Hid (Below (w.heap.size + 1) (w.alloc (.cells #[.int .i64 p, .string nm, .string tx, .bool o, .slice a nk c] 24)) X2) := HBa.out.trans (hb1.mono HZ1.out)
      clear hb1 y0 y1 y2 y3 y4 HBa
      obtain ⟨y0, y1, y2, y3, y4⟩ := y5_of HBb.out
      go_wp2_with fail
      have cW := cR.out _ HX2.out
      refine cW.mono ?_
      clear cW
      rintro r X3 ⟨rfl, hb1⟩
      have HX3 := Lib.hid (HX2.out.trans (hb1.mono HX2.out.size))
      clear hb1 y0 y1 y2 y3 y4
      go_wp2_with (first | (go_at_call 18; have cW := cE.out X3; refine cW.mono ?_; clear cW; rintro r X4 ⟨rfl, hb4⟩; have HX4 := Lib.hid (HX3.out.trans (hb4.mono HX3.out.size)); clear hb4) | (go_at_call 19; have cW := cF.out X4; refine cW.mono ?_; clear cW; rintro r X5 ⟨rfl, hb5⟩; have HX5 := Lib.hid (HX4.out.trans (hb5.mono HX4.out.size)); clear hb5))
      go_ret
      exact ⟨rfl, HX5.out⟩

set_option maxRecDepth 100000 in
theorem elem_of {H : Type} {enc : TypeId × Value → H} {W : World} {v : Value} {d : DataW H} {p : List MemPlace} (k : DataW.Trod enc Tryd.prog W 0 (fun _ => true) true 24 v d p) {base : Nat} (ok : Value.okWide Tryd.prog W .any base 24 v)
    (hz : ∀ q ∈ d.weights Tryd.prog 24, q ≤ reachBytes) : ∃ e : Tr, AtT W W.heap.size e v := by
  obtain ⟨cs, rfl, hsz⟩ := okWide_struct Tryd.underlying24 ok
  obtain ⟨fuel, hf⟩ := k
  exact open_tr fuel _ _ hf hz

set_option maxRecDepth 100000 in
theorem markupWrites_law {H : Type} {enc : TypeId × Value → H} {W : World} (v v1 : Value) (d d1 : DataW H) (p p1 : List MemPlace) (k : DataW.Trod enc Tryd.prog W 0 (fun _ => true) true 24 v d p) (k1 : DataW.Trod enc Tryd.prog W 0 (fun _ => true) true 9 v1 d1 p1) {base : Nat} (ok : Value.okWide Tryd.prog W .any base 24 v) (ok1 : Value.okWide Tryd.prog W .any base 9 v1)
    (hz : ∀ q ∈ d.weights Tryd.prog 24, q ≤ reachBytes) (hz1 : ∀ q ∈ d1.weights Tryd.prog 9, q ≤ reachBytes) (hT : Lib.Utf8Tabs 3 4 W) : Calls Tryd.prog 3 #[v, v1] W fun e w' => e = .returned (.bool true) ∧ Below W.heap.size W w' := by
  obtain ⟨e, he⟩ := elem_of k ok hz
  obtain ⟨s, rfl, rfl, rfl, hs⟩ := Go.ChangeMaps.open_string Tryd.underlying9 ok1 k1
  have h1 : s.size ≤ reachBytes := by
    have := hz1 s.data.toList.length (by simp [DataW.weights])
    rwa [len_toList] at this
  have h2 : s.size ≤ 140737488351232 := by simpa [reachBytes] using h1
  exact markupWrites_walk e v s W he (by omega) hT
end Go.Proofs.YtamjpchpbceelaaDoor
