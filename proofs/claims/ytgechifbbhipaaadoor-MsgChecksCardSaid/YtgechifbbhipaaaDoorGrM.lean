/- grammar: the anchor (works), the program's Check under its tables. No condition but the tables. -/
import Derived.Test.YtgechifbbhipaaaDoorGrJ
import Derived.Test.YtgechifbbhipaaaDoorTrN
set_option linter.unusedVariables false
set_option linter.unusedSimpArgs false
namespace Go.Proofs.YtgechifbbhipaaaDoor
open Go.RowKit Go.Shelf

theorem rule_target : ruleVal (ruleF 0 (ByteArray.mk #[84, 97, 114, 103, 101, 116]).data.toList) = (mkB [76, 111, 99, 85, 82, 73, 32, 76, 111, 99, 78, 97, 109, 101, 63], true) := by kernel_rfl
def trT : Tr := .mk 0 ⟨#[84, 97, 114, 103, 101, 116]⟩ ByteArray.empty false []
def trL : Tr := .mk 0 ⟨#[76, 111, 99, 85, 82, 73]⟩ ⟨#[97]⟩ false []
def trU : Tr := .mk 0 ⟨#[84, 97, 114, 103, 101, 116]⟩ ByteArray.empty false [trL]
theorem chk_trT : chkG trT = (1, 15) := by kernel_rfl
theorem chk_trU : chkG trU = (0, 0) := by kernel_rfl
theorem name_target : nameB ⟨#[84, 97, 114, 103, 101, 116]⟩ = true := by kernel_rfl

/-- what the library's tables hold -/
def TabG (m : Int) (w : World) : Prop := Lib.Utf8Tabs 2 3 w ∧ w.cell? ⟨0, 0, none⟩ = some (.int .i64 m) ∧ SpT w
theorem TabG.below {m : Int} {w w' : World} (h : TabG m w) (hb : Below w.heap.size w w') : TabG m w' :=
  ⟨Utf8Tabs_below h.1 hb, (hb.cell (p := ⟨0, 0, none⟩) (World.block_lt_of_cell? _ _ h.2.1)).trans h.2.1, h.2.2.below hb h.2.2.lt⟩
theorem gCheckT_any (e : Tr) (v : Value) (w : World) (m : Int) (hv : AtT w w.heap.size e v) (hT : TabG m w) :
    Calls Tryd.prog 33 #[v] w fun r w' => r = .returned (.tuple #[.int .i64 ((chkG e).1 : Int), .int .i64 (chkG e).2]) ∧ Below w.heap.size w w' := gCheck_any e v w m hv hT.1 hT.2.1 hT.2.2

set_option maxRecDepth 100000 in
set_option maxHeartbeats 1000000 in
theorem gWorks_any (w : World) (m : Int) (hT : TabG m w) : Calls Tryd.prog 32 #[] w fun r w' => r = .returned (.bool true) ∧ Below w.heap.size w w' := by
  have HT := Lib.hid (fun Y (hY : Below w.heap.size w Y) => hT.below hY)
  obtain ⟨RB, hRB⟩ : ∃ RB : ByteArray, mkB [76, 111, 99, 85, 82, 73, 32, 76, 111, 99, 78, 97, 109, 101, 63] = RB := ⟨_, rfl⟩
  have iR : (RB.toList == [76, 111, 99, 85, 82, 73, 32, 76, 111, 99, 78, 97, 109, 101, 63]) = true := by rw [← hRB]; kernel_rfl
  have iR2 : RB.toList = [76, 111, 99, 85, 82, 73, 32, 76, 111, 99, 78, 97, 109, 101, 63] := by rw [← hRB, ByteArray.toList_eq]; rfl
  have cR := Lib.hid (ruleB_any 0 ⟨#[84, 97, 114, 103, 101, 116]⟩ name_target (by decide) m w hT.2.1 RB true (by rw [rule_target, hRB]))
  have cN := Lib.hid (fun (Y : World) => node_any 0 0 ⟨#[84, 97, 114, 103, 101, 116]⟩ (by decide) [] none 0 Y (Nat.zero_le _) (by unfold AtL; trivial) (by decide) (fun _ => ⟨rfl, rfl⟩))
  have cC1 := Lib.hid (fun (Y : World) v (hv : AtT Y Y.heap.size trT v) (hY : Below w.heap.size w Y) => gCheckT_any trT v Y m hv (HT.out Y hY))
  have cC2 := Lib.hid (fun (Y : World) v (hv : AtT Y Y.heap.size trU v) (hY : Below w.heap.size w Y) => gCheckT_any trU v Y m hv (HT.out Y hY))
  rw [chk_trT] at cC1
  rw [chk_trU] at cC2
  clear hT hRB
  go_enter Tryd.func32, Tryd.ntmps32
  go_wp2_with fail
  have cW := cR.out
  refine cW.mono ?_
  clear cW
  rintro r X1 ⟨rfl, hb1⟩
  have HX1 := Lib.hid hb1
  clear hb1
  go_wp2_with fail
  have cW := cN.out X1
  refine cW.mono ?_
  clear cW
  rintro r X2 ⟨⟨v2, rfl, hat⟩, hb2⟩
  have HX2 := Lib.hid (HX1.out.trans (hb2.mono HX1.out.size))
  have HAT := Lib.hid hat
  clear hb2 hat
  go_wp2_with fail
  have cW := cC1.out X2 _ HAT.out HX2.out
  refine cW.mono ?_
  clear cW
  rintro r X3 ⟨rfl, hb3⟩
  have HX3 := Lib.hid (HX2.out.trans (hb3.mono HX2.out.size))
  clear hb3
  go_wp2_with fail
  have cW := leaf_any 0 ⟨#[76, 111, 99, 85, 82, 73]⟩ ⟨#[97]⟩ X3
  refine cW.mono ?_
  clear cW
  rintro r X4 ⟨rfl, hb4⟩
  have HX4 := Lib.hid (HX3.out.trans (hb4.mono HX3.out.size))
  clear hb4
  go_wp2_with fail
  have hAL : AtL (X4.alloc (.cells #[.int .i64 0, .string { data := #[76, 111, 99, 85, 82, 73] }, .string { data := #[97] }, .bool false, .slice none 0 0] 46)) (X4.alloc (.cells #[.int .i64 0, .string { data := #[76, 111, 99, 85, 82, 73] }, .string { data := #[97] }, .bool false, .slice none 0 0] 46)).heap.size (some ⟨X4.heap.size, 0, none⟩) 0 [trL] := atL_of (by simp) [trL] 0 fun j hj => by
    obtain rfl : j = 0 := by simp at hj; exact hj
    refine ⟨[.int .i64 0, .string { data := #[76, 111, 99, 85, 82, 73] }, .string { data := #[97] }, .bool false, .slice none 0 0], fun k v hv => ?_, ?_⟩
    · rw [World.cell?_alloc_at _ _ _ _ rfl]
      simpa using hv
    · show AtT _ _ trL _
      unfold trL AtT
      exact ⟨by decide, by decide, by decide, none, 0, rfl, by unfold AtL; trivial, Nat.le_refl _⟩
  have cW := node_any _ 0 ⟨#[84, 97, 114, 103, 101, 116]⟩ (by decide) [trL] (some ⟨X4.heap.size, 0, none⟩) 1 (X4.alloc (.cells #[.int .i64 0, .string { data := #[76, 111, 99, 85, 82, 73] }, .string { data := #[97] }, .bool false, .slice none 0 0] 46)) (Nat.le_refl _) hAL (by decide) (fun h => by cases h)
  clear hAL
  refine cW.mono ?_
  clear cW
  rintro r X5 ⟨⟨v5, rfl, hat⟩, hb5⟩
  have HX5 := Lib.hid (HX4.out.trans ((((Below.refl _ X4).alloc (Nat.le_refl _) _).trans (hb5.mono (by simp))).mono HX4.out.size))
  have HAT5 := Lib.hid hat
  clear hb5 hat
  go_wp2_with fail
  have cW := cC2.out X5 _ HAT5.out HX5.out
  refine cW.mono ?_
  clear cW
  rintro r X6 ⟨rfl, hb6⟩
  have HX6 := Lib.hid (HX5.out.trans (hb6.mono HX5.out.size))
  clear hb6
  go_wp2_with fail
  go_ret
  exact ⟨rfl, HX6.out⟩

theorem y5_ofG {w X : World} {t : TypeId} {v0 v1 v2 v3 v4 : Value} (hb : Below (w.heap.size + 1) (w.alloc (.cells #[v0, v1, v2, v3, v4] t)) X) :
    X.cell? ⟨w.heap.size, 0, none⟩ = some v0 ∧ X.cell? ⟨w.heap.size, 1, none⟩ = some v1 ∧ X.cell? ⟨w.heap.size, 2, none⟩ = some v2 ∧ X.cell? ⟨w.heap.size, 3, none⟩ = some v3 ∧ X.cell? ⟨w.heap.size, 4, none⟩ = some v4 := by
  have h : ∀ k, X.cell? ⟨w.heap.size, k, none⟩ = (w.alloc (.cells #[v0, v1, v2, v3, v4] t)).cell? ⟨w.heap.size, k, none⟩ := fun k => hb.cell (p := ⟨w.heap.size, k, none⟩) (by show w.heap.size < _; omega)
  refine ⟨?_, ?_, ?_, ?_, ?_⟩ <;> (rw [h, World.cell?_alloc_at _ _ _ _ rfl]; rfl)

set_option maxRecDepth 100000 in
theorem elem_ofG {H : Type} {enc : TypeId × Value → H} {W : World} {v : Value} {d : DataW H} {p : List MemPlace} (k : DataW.Trod enc Tryd.prog W 0 (fun _ => true) true 46 v d p) {base : Nat} (ok : Value.okWide Tryd.prog W .any base 46 v)
    (hz : ∀ q ∈ d.weights Tryd.prog 46, q ≤ reachBytes) : ∃ e : Tr, AtT W W.heap.size e v := by
  obtain ⟨cs, rfl, hsz⟩ := Go.WideShapes.okWide_struct Tryd.underlying46 ok
  obtain ⟨fuel, hf⟩ := k
  exact open_tr fuel _ _ hf hz
end Go.Proofs.YtgechifbbhipaaaDoor
