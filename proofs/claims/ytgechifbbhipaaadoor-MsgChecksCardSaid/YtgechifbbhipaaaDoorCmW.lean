/- msg: the law of MsgChecks, its walk. No condition but the tables. -/
import Derived.Test.YtgechifbbhipaaaDoorCmV
import Derived.Deep.RegionHeld3
set_option linter.unusedVariables false
set_option linter.unusedSimpArgs false
namespace Go.Proofs.YtgechifbbhipaaaDoor
open Go.RowKit Go.Shelf

def rowOk9 (X : World) (g : Nat) : Bool := match X.heap[g]? with | some (.cells cs _ (0, 0)) => cs.size == 9 | _ => false
def row31 (a : Addr) : Sem Value := loadVar 31 a
theorem size31c : (Tryd.prog.info? 31).map (·.size) = some 9 := by kernel_rfl
theorem lc_row31 (a : Addr) : loadVar 31 a = row31 a := rfl
theorem run_row31 (g : Nat) (X : World) (h : rowOk9 X g = true) : (row31 ⟨g, 0, none⟩).run Tryd.prog X = .ok (.agg (rowOf X g)) X := by
  unfold rowOk9 at h
  split at h
  · rename_i cs t hX
    have hs : cs.size = 9 := by simpa using h
    have e : rowOf X g = cs := by unfold rowOf; rw [hX]
    rw [e]
    exact run_loadVar_row X g t 31 cs (0, 0) _ hX Tryd.underlying31 rfl (by rw [hs]; exact size31c)
  · cases h
theorem rowOk9_drew (X : World) (g : Nat) : rowOk9 X.drew g = rowOk9 X g := rfl
theorem rowOk9_of {X : World} {g : Nat} {cs : Array Value} {t : TypeId} (h : X.heap[g]? = some (.cells cs t (0, 0))) (hs : cs.size = 9) : rowOk9 X g = true := by
  unfold rowOk9; rw [h]; simpa using hs
/-- a world behind the boxes of the two arguments -/
def Tb (w : World) (c1 c2 : Array Value) (X : World) : Prop := X.heap[w.heap.size]? = some (.cells c1 27 (0, 0)) ∧ X.heap[w.heap.size + 1]? = some (.cells c2 31 (0, 0)) ∧ Below w.heap.size w X
theorem Tb.start (w : World) (c1 c2 : Array Value) : Tb w c1 c2 ((w.alloc (.cells c1 27)).alloc (.cells c2 31)) := by
  refine ⟨(Below.heap_alloc _ _ _ (by simp)).trans (World.alloc_heap_new w _), ?_, ((Below.refl _ w).alloc (Nat.le_refl _) _).alloc (by simp) _⟩
  have h := World.alloc_heap_new (w.alloc (.cells c1 27)) (.cells c2 31)
  rw [World.size_alloc] at h; exact h
theorem Tb.below {w X Y : World} {c1 c2 : Array Value} (h : Tb w c1 c2 X) (hb : Below X.heap.size X Y) : Tb w c1 c2 Y :=
  ⟨as_below h.1 hb, as_below h.2.1 hb, h.2.2.trans (hb.mono h.2.2.size)⟩
theorem Tb.drew {w X : World} {c1 c2 : Array Value} (h : Tb w c1 c2 X) : Tb w c1 c2 X.drew := h.below ((Below.refl _ _).drew)
abbrev SW (w : World) (C1 C2 : Array Value) (kd : Int) (X : World) : Prop := rowOk X w.heap.size = true ∧ rowOf X w.heap.size = C1 ∧ rowOk9 X (w.heap.size + 1) = true ∧ rowOf X (w.heap.size + 1) = C2 ∧ X.cell? ⟨w.heap.size, 0, none⟩ = some (.int .i64 kd) ∧ Tb w C1 C2 X
theorem SW.of {w X : World} {C1 C2 : Array Value} {kd : Int} (hs : C1.size = 19) (h9 : C2.size = 9) (h0 : C1[0]? = some (.int .i64 kd)) (h : Tb w C1 C2 X) : SW w C1 C2 kd X := ⟨rowOk_of h.1 hs, rowOf_of h.1, rowOk9_of h.2.1 h9, rowOf_of h.2.1, cell_block h.1 0 _ h0, h⟩
theorem SW.call {w X Y : World} {C1 C2 : Array Value} {kd : Int} (hs : C1.size = 19) (h9 : C2.size = 9) (h0 : C1[0]? = some (.int .i64 kd)) (h : SW w C1 C2 kd X) (hb : Below X.heap.size X Y) : SW w C1 C2 kd Y := SW.of hs h9 h0 (h.2.2.2.2.2.below hb)
theorem SW.drew {w X : World} {C1 C2 : Array Value} {kd : Int} (hs : C1.size = 19) (h9 : C2.size = 9) (h0 : C1[0]? = some (.int .i64 kd)) (h : SW w C1 C2 kd X) : SW w C1 C2 kd X.drew := h.call hs h9 h0 ((Below.refl _ _).drew)
theorem SW.bel {w X : World} {C1 C2 : Array Value} {kd : Int} (h : SW w C1 C2 kd X) : Below w.heap.size w X := h.2.2.2.2.2.2.2
set_option maxRecDepth 100000 in
theorem fill_row (C : Array Value) (hs : C.size = 19) : Array.foldl (fun (cs : Array Value) (x : Value × Nat) => cs.setIfInBounds x.snd x.fst) (#[.int .i64 0, .int .i64 0, .int .i64 0, .int .i64 0, .string ⟨#[]⟩, .int .i64 0, .string ⟨#[]⟩, .string ⟨#[]⟩, .string ⟨#[]⟩, .string ⟨#[]⟩, .int .i64 0, .int .i64 0, .string ⟨#[]⟩, .string ⟨#[]⟩, .string ⟨#[]⟩, .int .i64 0, .int .i64 0, .slice none 0 0, .slice none 0 0] : Array Value) C.zipIdx 0 19 = C := by
  obtain ⟨l⟩ := C
  obtain ⟨c0, c1, c2, c3, c4, c5, c6, c7, c8, c9, c10, c11, c12, c13, c14, c15, c16, c17, c18, rfl⟩ := list19 (show l.length = 19 from hs)
  simp
attribute [local go_sem] undef rowOk_drew rowOf_drew run_rowSem rowOk9_drew run_row31 in
attribute [local go_sem ↓] lc_row lc_row31 in
attribute [local irreducible] wpList in
set_option maxRecDepth 100000 in
set_option maxHeartbeats 2000000 in
theorem msgChecks_walk (C1 C2 : Array Value) (c : Cm) (se id : Int) (ta so ct cd : ByteArray) (mx : Int) (fi : Bool) (ks : List Cm) (ab : Option Addr) (cb : Nat) (w : World) (hT : Lib.Utf8Tabs 2 3 w) (hat : AtC w w.heap.size c C1) (hab : AtCs w w.heap.size ab 0 ks) (hs : C1.size = 19) (h0 : C1[0]? = some (.int .i64 c.hd.kd)) (hC : C2 = #[.int .i64 se, .int .i64 id, .string ta, .string so, .string ct, .string cd, .int .i64 mx, .slice ab ks.length cb, .bool fi]) :
    Calls Tryd.prog 3 #[.agg C1, .agg C2] w fun r w' => r = .returned (.bool true) ∧ Below w.heap.size w w' := by
  have HC2 := Lib.hid hC
  have HC0 := Lib.hid h0
  clear hC h0
  have HT0 := Lib.hid (Tb.start w C1 C2)
  go_enter Tryd.func3, Tryd.ntmps3
  go_upto_region 1 with fail
  generalize (w.alloc (.cells C1 27)).alloc (.cells C2 31) = W at *
  have ro := rowOk_of HT0.out.1 hs
  have rf := rowOf_of HT0.out.1
  have HAT := Lib.hid hat
  clear hat
  go_wp2_with fail
  rw [fill_row C1 hs]
  have hA : Below W.heap.size W (W.alloc (.cells C1 27)) := (Below.refl _ _).alloc (Nat.le_refl _) _
  have hb2 : Below w.heap.size w (W.alloc (.cells C1 27)) := HT0.out.2.2.trans (hA.mono HT0.out.2.2.size)
  have hl : AtCs (W.alloc (.cells C1 27)) (W.alloc (.cells C1 27)).heap.size (some ⟨W.heap.size, 0, none⟩) 0 [c] := by
    refine atCs_of (by simp) [c] 0 fun j hj => ?_
    obtain rfl : j = 0 := by have : j < 1 := hj; omega
    exact ⟨C1, fun k v hv => by
      have h := cell_block (World.alloc_heap_new W (.cells C1 27)) k v (by rw [← Array.getElem?_toList]; exact hv)
      simpa using h, AtC.mono hb2.size _ _ (AtC.below hb2 _ _ HAT.out)⟩
  refine (great9_any 5 (by omega) [c] _ 1 30000 _ hl).mono ?_
  rintro r X ⟨⟨x, g, rfl, hg⟩, hb⟩
  have HT1 := Lib.hid (Tb.below (Tb.below HT0.out hA) hb)
  clear hl hb2 hA hb ro rf
  cases g with
  | true =>
    go_wp2_with fail
    go_ret
    exact ⟨rfl, HT1.out.2.2⟩
  | false =>
    have HSM := Lib.hid (smallN_small (n := 3) (hg rfl) c (by simp))
    clear hg
    have cG := Lib.hid (fun X (hX : Below w.heap.size w X) => greatMsg_any C2 se id ta so ct cd mx fi ks ab cb X (AtCs.mono hX.size _ _ _ (AtCs.below hX _ _ _ hab)) HC2.out)
    have HS9 : Hid (C2.size = 9) := by have h := HC2.out; unfold Hid; rw [h]; rfl
    have HTT := Lib.hid hT
    have HAB := Lib.hid hab
    clear hT hab
    have KB := HT1.out.2.2
    have ro9 := rowOk9_of HT1.out.2.1 HS9.out
    have rf9 := rowOf_of HT1.out.2.1
    go_upto_region 4 with (go_at_call 10; refine (cG.out _ KB).mono ?_; rintro r X2 ⟨⟨g2, rfl, hg2⟩, hb2⟩; have HG2 := Lib.hid hg2; have HT2 := Lib.hid (HT1.out.below hb2); clear hg2)
    all_goals first
      | (go_ret; exact ⟨rfl, HT2.out.2.2⟩)
      | skip
    have HSB := Lib.hid (HG2.out (by first | rfl | assumption | simp_all))
    have c11 := Lib.hid (fun X (hX : Below w.heap.size w X) => checkC_any c HSM.out C1 X (Utf8Tabs_below HTT.out hX) (AtC.mono hX.size _ _ (AtC.below hX _ _ HAT.out)))
    have c12 := Lib.hid (fun X (hX : Below w.heap.size w X) => refCheckC_any c HSM.out C1 X (AtC.mono hX.size _ _ (AtC.below hX _ _ HAT.out)))
    have c13 := Lib.hid (fun X (hX : Below w.heap.size w X) => right_aux C2 se id ta so ct cd mx fi ks ab cb X (Utf8Tabs_below HTT.out hX) HSB.out (AtCs.mono hX.size _ _ _ (AtCs.below hX _ _ _ HAB.out)) HC2.out)
    have c14 := Lib.hid (fun X (hX : Below w.heap.size w X) => refRight_aux C2 se id ta so ct cd mx fi ks ab cb X HSB.out (AtCs.mono hX.size _ _ _ (AtCs.below hX _ _ _ HAB.out)) HC2.out)
    have c15 := Lib.hid (fun X => kname_any c.hd.kd X)
    have c16 := Lib.hid (fun X => refKname_any c.hd.kd X)
    have c15s := Lib.hid (fun X => kname_any 2 X)
    rw [show nameK 2 = ⟨#[83, 121, 110, 99]⟩ from rfl] at c15s
    have HS19 := Lib.hid hs
    have KK := Lib.hid HT2.out
    clear hb2 KB ro9 rf9 cG HG2 HSB HSM HTT HAB HAT HT1 HC2 hs
    generalize chkC c = q1 at *
    generalize rightV se id ta so ct cd mx ks = q2 at *
    generalize nameK c.hd.kd = nm at *
    generalize c.hd.kd = kd at *
    have i1 : (q1 == q1) = true := by simp
    have i2 : (q2 == q2) = true := by simp
    have i3 : (nm.toList == nm.toList) = true := str_self nm
    have i4 : ((⟨#[83, 121, 110, 99]⟩ : ByteArray).toList == (⟨#[83, 121, 110, 99]⟩ : ByteArray).toList) = true := str_self _
    have KB := KK.out.2.2; have ro := rowOk_of KK.out.1 HS19.out; have rf := rowOf_of KK.out.1; have ro9 := rowOk9_of KK.out.2.1 HS9.out; have rf9 := rowOf_of KK.out.2.1; have y0 := cell_block KK.out.1 0 _ HC0.out
    have HSW := SW.of (w := w) (C1 := C1) (C2 := C2) (kd := kd) HS19.out HS9.out HC0.out KK.out
    go_region_held3 (fun X => rowOk X w.heap.size = true ∧ rowOf X w.heap.size = C1 ∧ rowOk9 X (w.heap.size + 1) = true ∧ rowOf X (w.heap.size + 1) = C2 ∧ X.cell? ⟨w.heap.size, 0, none⟩ = some (.int .i64 kd) ∧ Tb w C1 C2 X) (first | assumption | exact SW.drew (w := w) (C1 := C1) (C2 := C2) (kd := kd) HS19.out HS9.out HC0.out (by assumption) | exact SW.call (w := w) (C1 := C1) (C2 := C2) (kd := kd) HS19.out HS9.out HC0.out (by assumption) hb9 | exact SW.call (w := w) (C1 := C1) (C2 := C2) (kd := kd) HS19.out HS9.out HC0.out (SW.drew (w := w) (C1 := C1) (C2 := C2) (kd := kd) HS19.out HS9.out HC0.out (by assumption)) hb9) (first | (go_at_call 11; (with_reducible refine (c11.out _ ?_).mono ?_); exact SW.bel (w := w) (C1 := C1) (C2 := C2) (kd := kd) (by first | assumption | exact SW.drew (w := w) (C1 := C1) (C2 := C2) (kd := kd) HS19.out HS9.out HC0.out (by assumption)); rintro e9 w9 ⟨rfl, hb9⟩) | (go_at_call 12; (with_reducible refine (c12.out _ ?_).mono ?_); exact SW.bel (w := w) (C1 := C1) (C2 := C2) (kd := kd) (by first | assumption | exact SW.drew (w := w) (C1 := C1) (C2 := C2) (kd := kd) HS19.out HS9.out HC0.out (by assumption)); rintro e9 w9 ⟨rfl, hb9⟩) | (go_at_call 13; (with_reducible refine (c13.out _ ?_).mono ?_); exact SW.bel (w := w) (C1 := C1) (C2 := C2) (kd := kd) (by first | assumption | exact SW.drew (w := w) (C1 := C1) (C2 := C2) (kd := kd) HS19.out HS9.out HC0.out (by assumption)); rintro e9 w9 ⟨rfl, hb9⟩) | (go_at_call 14; (with_reducible refine (c14.out _ ?_).mono ?_); exact SW.bel (w := w) (C1 := C1) (C2 := C2) (kd := kd) (by first | assumption | exact SW.drew (w := w) (C1 := C1) (C2 := C2) (kd := kd) HS19.out HS9.out HC0.out (by assumption)); rintro e9 w9 ⟨rfl, hb9⟩) | (go_at_call 15; (with_reducible refine (c15.out _).mono ?_); rintro e9 w9 ⟨rfl, rfl⟩) | (go_at_call 15; (with_reducible refine (c15s.out _).mono ?_); rintro e9 w9 ⟨rfl, rfl⟩) | (go_at_call 16; (with_reducible refine (c16.out _).mono ?_); rintro e9 w9 ⟨rfl, hb9⟩))
    all_goals
      have HQ : Hid (Below w.heap.size w w9) := SW.bel (w := w) (C1 := C1) (C2 := C2) (kd := kd) (by assumption)
      go_wp2_with fail
      go_ret
      exact ⟨rfl, HQ.out⟩
end Go.Proofs.YtgechifbbhipaaaDoor
