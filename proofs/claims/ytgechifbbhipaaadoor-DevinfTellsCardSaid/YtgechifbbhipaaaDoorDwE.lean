/- devinf: Text of a device, the reference's. No condition. -/
import Derived.Test.YtgechifbbhipaaaDoorDwD
import Derived.Test.YtgechifbbhipaaaDoorMkV
set_option linter.unusedVariables false
set_option linter.unusedSimpArgs false
namespace Go.Proofs.YtgechifbbhipaaaDoor
open Go.RowKit

/-- a device's document, and what is wrong -/
noncomputable def textD (h : Dh) (ps : List Pl) : ByteArray × Int := if devV h ps = 0 then wrtV (elemD h ps) else (⟨#[]⟩, devV h ps)
theorem refElem_any (h : Dh) (ps : List Pl) (ab : Option Addr) (cb : Nat) (w : World) (hab : AtPs w w.heap.size ab ps) :
    Calls Tryd.prog 19 #[.agg (cellsD h ab ps.length cb)] w fun r w' => (∃ v, r = .returned (.tuple #[v, .int .i64 (devV h ps)]) ∧ AtQ w' (fun b => w.heap.size ≤ b ∧ b < w'.heap.size) (elemD h ps) v) ∧ Below w.heap.size w w' := by
  by_cases hv : devV h ps = 0
  · exact refElem_ok h ps ab cb w hab hv
  · exact refElem_bad h ps ab cb w hab hv
set_option maxRecDepth 100000 in
set_option maxHeartbeats 8000000 in
theorem refDevText_any (h : Dh) (ps : List Pl) (ab : Option Addr) (cb : Nat) (w : World) (hab : AtPs w w.heap.size ab ps) :
    Calls Tryd.prog 21 #[.agg (cellsD h ab ps.length cb)] w fun r w' => r = .returned (.tuple #[.string (textD h ps).1, .int .i64 (textD h ps).2]) ∧ Below w.heap.size w w' := by
  have cE := Lib.hid (fun X (hX : Below w.heap.size w X) => refElem_any h ps ab cb X (hab.below hX |>.mono hX.size))
  have cW := Lib.hid (fun e v X (hX : Below w.heap.size w X) (hv : AtT X X.heap.size e v) => refWrite_any e v X hv)
  have HTD : Hid (textD h ps = if devV h ps = 0 then wrtV (elemD h ps) else (⟨#[]⟩, devV h ps)) := rfl
  clear hab
  generalize textD h ps = R at *
  generalize elemD h ps = E at *
  generalize devV h ps = q at *
  obtain ⟨man, mod, soft, id, ty, lg⟩ := h
  simp only [cellsD] at cE ⊢
  have hB1 : Below w.heap.size w (w.alloc (.cells #[.string man, .string mod, .string soft, .string id, .string ty, .bool lg, .slice ab ps.length cb] 42)) := (Below.refl _ w).alloc (Nat.le_refl _) _
  have HB1 := Lib.hid hB1
  clear hB1
  go_enter Tryd.func21, Tryd.ntmps21
  go_wp2_with fail
  refine (cE.out _ HB1.out).mono ?_
  rintro r X1 ⟨⟨v, rfl, hat⟩, hb⟩
  obtain ⟨a6, c6, rfl⟩ := hat.cells5
  have HX1 := Lib.hid (HB1.out.trans (hb.mono HB1.out.size))
  have HV := Lib.hid (AtQ.to (M := X1.heap.size) (fun b hb => hb.2) _ _ hat)
  have HA : Hid (∀ o, AtT (X1.alloc o) (X1.alloc o).heap.size E (.agg #[.int .i64 E.page, .string E.name, .string E.text, .bool E.opq, .slice a6 E.kids.length c6])) := fun o => by
    have hA : Below X1.heap.size X1 (X1.alloc o) := (Below.refl _ _).alloc (Nat.le_refl _) _
    exact AtT.mono hA.size _ _ (AtT.below hA _ _ HV.out)
  have HXA : Hid (∀ o, Below w.heap.size w (X1.alloc o)) := fun o => HX1.out.alloc HX1.out.size o
  have cW1 := Lib.hid (fun o => cW.out E _ (X1.alloc o) (HXA.out o) (HA.out o))
  clear hat hb
  generalize E.page = e0 at *
  generalize E.name = e1 at *
  generalize E.text = e2 at *
  generalize E.opq = e3 at *
  generalize E.kids.length = e4 at *
  generalize wrtV E = WV at *
  by_cases hq : q = 0
  · subst hq
    have HR : Hid (R = WV) := by unfold Hid; rw [HTD.out, if_pos rfl]
    clear HTD
    go_wp2_with (go_at_call 71; (with_reducible refine (cW1.out _).mono ?_); rintro r X2 ⟨rfl, hb2⟩; have HX2 := Lib.hid ((HXA.out _).trans (hb2.mono (HXA.out _).size)))
    go_ret2
    exact ⟨by rw [HR.out]; rfl, HX2.out⟩
  · have hq2 : (q != 0) = true := by simpa using hq
    have HR : Hid (R = (⟨#[]⟩, q)) := by unfold Hid; rw [HTD.out, if_neg hq]
    clear HTD hq
    go_wp2_with fail
    go_ret2
    exact ⟨by rw [HR.out]; rfl, HXA.out _⟩
end Go.Proofs.YtgechifbbhipaaaDoor
