/- devinf: Text of a device, the program's, over what its Elem does. No condition but the tables. -/
import Derived.Test.YtgechifbbhipaaaDoorDwE
set_option linter.unusedVariables false
set_option linter.unusedSimpArgs false
namespace Go.Proofs.YtgechifbbhipaaaDoor
open Go.RowKit

/-- what the program's Elem does of a device that is right -/
def ElemOk : Prop := ∀ (h : Dh) (ps : List Pl) (ab : Option Addr) (cb : Nat) (w : World), Lib.Utf8Tabs 2 3 w → AtPs w w.heap.size ab ps → devV h ps = 0 →
    Calls Tryd.prog 18 #[.agg (cellsD h ab ps.length cb)] w fun r w' => (∃ v, r = .returned (.tuple #[v, .int .i64 (devV h ps)]) ∧ AtQ w' (fun b => w.heap.size ≤ b ∧ b < w'.heap.size) (elemD h ps) v) ∧ Below w.heap.size w w'
set_option maxRecDepth 100000 in
set_option maxHeartbeats 8000000 in
theorem devElem_bad (h : Dh) (ps : List Pl) (ab : Option Addr) (cb : Nat) (w : World) (hT : Lib.Utf8Tabs 2 3 w) (hab : AtPs w w.heap.size ab ps) (hv : devV h ps ≠ 0) :
    Calls Tryd.prog 18 #[.agg (cellsD h ab ps.length cb)] w fun r w' => (∃ v, r = .returned (.tuple #[v, .int .i64 (devV h ps)]) ∧ AtQ w' (fun b => w.heap.size ≤ b ∧ b < w'.heap.size) (elemD h ps) v) ∧ Below w.heap.size w w' := by
  have hE : elemD h ps = .mk 0 ⟨#[]⟩ ⟨#[]⟩ false [] := if_neg hv
  rw [hE]
  have cC := Lib.hid (fun X (hX : Below w.heap.size w X) => devCheck_any h ps ab cb X (Utf8Tabs_below hT hX) (hab.below hX |>.mono hX.size))
  clear hE hT hab
  generalize devV h ps = q at *
  obtain ⟨man, mod, soft, id, ty, lg⟩ := h
  simp only [cellsD] at cC ⊢
  obtain ⟨W2, hW2⟩ : ∃ W2, (w.alloc (.cells #[.string man, .string mod, .string soft, .string id, .string ty, .bool lg, .slice ab ps.length cb] 42)).alloc (.cells #[.int .i64 0, .string ⟨#[]⟩, .string ⟨#[]⟩, .bool false, .slice none 0 0] 46) = W2 := ⟨_, rfl⟩
  have hB2 : Below w.heap.size w W2 := by rw [← hW2]; exact ((Below.refl _ w).alloc (Nat.le_refl _) _).alloc (by simp) _
  have hres : W2.heap[w.heap.size + 1]? = some (.cells #[.int .i64 0, .string ⟨#[]⟩, .string ⟨#[]⟩, .bool false, .slice none 0 0] 46 (0, 0)) := by rw [← hW2]; have := World.alloc_heap_new (w.alloc (.cells #[.string man, .string mod, .string soft, .string id, .string ty, .bool lg, .slice ab ps.length cb] 42)) (.cells #[.int .i64 0, .string ⟨#[]⟩, .string ⟨#[]⟩, .bool false, .slice none 0 0] 46); rwa [World.size_alloc] at this
  have hZ2 : w.heap.size + 1 < W2.heap.size := by rw [← hW2]; simp
  have HW2 := Lib.hid hW2
  have HB2 := Lib.hid hB2
  have HR := Lib.hid hres
  have HZ := Lib.hid hZ2
  have hq : (q != 0) = true := by simpa using hv
  clear hW2 hB2 hres hZ2
  go_enter Tryd.func18, Tryd.ntmps18
  go_wp2_with fail
  rw [HW2.out]
  refine (cC.out _ HB2.out).mono ?_
  rintro r X0 ⟨rfl, hb0⟩
  have hz0 : X0.heap[w.heap.size + 1]? = some (.cells #[.int .i64 0, .string ⟨#[]⟩, .string ⟨#[]⟩, .bool false, .slice none 0 0] 46 (0, 0)) := (hb0.block _ HZ.out).trans HR.out
  obtain ⟨hcs, hfz⟩ := dv_cells_of hz0
  have u0 := hcs 0 _ rfl
  have u1 := hcs 1 _ rfl
  have u2 := hcs 2 _ rfl
  have u3 := hcs 3 _ rfl
  have u4 := hcs 4 _ rfl
  have HZ0 := Lib.hid hz0
  have HB0 := Lib.hid (HB2.out.trans (hb0.mono HB2.out.size))
  clear hcs hz0 hb0
  go_wp2_with fail
  have hfin := dv_stored_at (w := w) (w2 := X0) (g := w.heap.size + 1) (P := fun _ => False) (c0 := .int .i64 0) (c1 := .string ⟨#[]⟩) (c2 := .string ⟨#[]⟩) (c3 := .bool false) (c4 := .slice none 0 0) HB0.out (Nat.le_succ _) (AtQ.leaf (p := 0) (nm := ⟨#[]⟩) (tx := ⟨#[]⟩) (by decide) (by decide)) (fun b hb => hb.elim)
  refine bodyPost_ret (dv_results_row_tmp rfl rfl rfl (run_loadVar_row _ (w.heap.size + 1) 46 46 #[.int .i64 0, .string ⟨#[]⟩, .string ⟨#[]⟩, .bool false, .slice none 0 0] (0, 0) _ (dv_set5_row HZ0.out) Tryd.underlying46 rfl (by kernel_rfl))) rfl ?_
  exact ⟨⟨_, rfl, hfin.1⟩, hfin.2⟩
theorem devElem_any (hOk : ElemOk) (h : Dh) (ps : List Pl) (ab : Option Addr) (cb : Nat) (w : World) (hT : Lib.Utf8Tabs 2 3 w) (hab : AtPs w w.heap.size ab ps) :
    Calls Tryd.prog 18 #[.agg (cellsD h ab ps.length cb)] w fun r w' => (∃ v, r = .returned (.tuple #[v, .int .i64 (devV h ps)]) ∧ AtQ w' (fun b => w.heap.size ≤ b ∧ b < w'.heap.size) (elemD h ps) v) ∧ Below w.heap.size w w' := by
  by_cases hv : devV h ps = 0
  · exact hOk h ps ab cb w hT hab hv
  · exact devElem_bad h ps ab cb w hT hab hv
set_option maxRecDepth 100000 in
set_option maxHeartbeats 8000000 in
theorem devText_any (hOk : ElemOk) (h : Dh) (ps : List Pl) (ab : Option Addr) (cb : Nat) (w : World) (hT : Lib.Utf8Tabs 2 3 w) (hab : AtPs w w.heap.size ab ps) :
    Calls Tryd.prog 20 #[.agg (cellsD h ab ps.length cb)] w fun r w' => r = .returned (.tuple #[.string (textD h ps).1, .int .i64 (textD h ps).2]) ∧ Below w.heap.size w w' := by
  have cE := Lib.hid (fun X (hX : Below w.heap.size w X) => devElem_any hOk h ps ab cb X (Utf8Tabs_below hT hX) (hab.below hX |>.mono hX.size))
  have cW := Lib.hid (fun e v X (hX : Below w.heap.size w X) (hv : AtT X X.heap.size e v) => write_any e v X hv (Utf8Tabs_below hT hX))
  have HTD : Hid (textD h ps = if devV h ps = 0 then wrtV (elemD h ps) else (⟨#[]⟩, devV h ps)) := rfl
  clear hab hT
  generalize textD h ps = R at *
  generalize elemD h ps = E at *
  generalize devV h ps = q at *
  obtain ⟨man, mod, soft, id, ty, lg⟩ := h
  simp only [cellsD] at cE ⊢
  have hB1 : Below w.heap.size w (w.alloc (.cells #[.string man, .string mod, .string soft, .string id, .string ty, .bool lg, .slice ab ps.length cb] 42)) := (Below.refl _ w).alloc (Nat.le_refl _) _
  have HB1 := Lib.hid hB1
  clear hB1
  go_enter Tryd.func20, Tryd.ntmps20
  go_wp2_with fail
  refine (cE.out _ HB1.out).mono ?_
  rintro r X1 ⟨⟨v, rfl, hat⟩, hb⟩
  obtain ⟨a6, c6, rfl⟩ := hat.cells5
  have HX1 := Lib.hid (HB1.out.trans (hb.mono HB1.out.size))
  have HV := Lib.hid (AtQ.to (M := X1.heap.size) (fun b hb => hb.2) _ _ hat)
  have HA : Hid (∀ o, AtT (X1.alloc o) (X1.alloc o).heap.size E (.agg #[.int .i64 E.page, .string E.name, .string E.text, .bool E.opq, .slice a6 E.kids.length c6])) := fun o => by
    have hA : Below X1.heap.size X1 (X1.alloc o) := (Below.refl _ _).alloc (Nat.le_refl _) _
    exact AtT.mono hA.size _ _ (AtT.below hA _ _ HV.out)
  have HXA : Hid (∀ o, Below w.heap.size w (X1.alloc o)) := fun o => HX1.out.alloc HX1.out.size o
  have cW1 := Lib.hid (fun o => cW.out E _ (X1.alloc o) (HXA.out o) (HA.out o))
  clear hat hb
  generalize E.page = e0 at *
  generalize E.name = e1 at *
  generalize E.text = e2 at *
  generalize E.opq = e3 at *
  generalize E.kids.length = e4 at *
  generalize wrtV E = WV at *
  by_cases hq : q = 0
  · subst hq
    have HR : Hid (R = WV) := by unfold Hid; rw [HTD.out, if_pos rfl]
    clear HTD
    go_wp2_with (go_at_call 70; (with_reducible refine (cW1.out _).mono ?_); rintro r X2 ⟨rfl, hb2⟩; have HX2 := Lib.hid ((HXA.out _).trans (hb2.mono (HXA.out _).size)))
    go_ret2
    exact ⟨by rw [HR.out]; rfl, HX2.out⟩
  · have hq2 : (q != 0) = true := by simpa using hq
    have HR : Hid (R = (⟨#[]⟩, q)) := by unfold Hid; rw [HTD.out, if_neg hq]
    clear HTD hq
    go_wp2_with fail
    go_ret2
    exact ⟨by rw [HR.out]; rfl, HXA.out _⟩
end Go.Proofs.YtgechifbbhipaaaDoor
