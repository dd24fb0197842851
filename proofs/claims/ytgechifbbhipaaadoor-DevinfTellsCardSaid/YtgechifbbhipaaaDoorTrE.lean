/- tree: the reference's Same. No condition. -/
import Derived.Test.YtgechifbbhipaaaDoorTrS
set_option linter.unusedVariables false
set_option linter.unusedSimpArgs false
namespace Go.Proofs.YtgechifbbhipaaaDoor
open Go.RowKit

set_option maxRecDepth 100000 in
theorem same_any (x y : Tr) (va vb : Value) (w : World) (hx : AtT w w.heap.size x va) (hy : AtT w w.heap.size y vb) : Calls Tryd.prog 22 #[va, vb] w fun r w' => r = .returned (.bool (sameT 19 x y)) ∧ Below w.heap.size w w' := by
  have cS := Lib.hid (fun (W : World) (hW : Below w.heap.size w W) => refSame_any 19 (by decide) x y va vb w.heap.size W hW.size (AtT.below hW _ _ hx) (AtT.below hW _ _ hy))
  obtain ⟨_, _, _, aa, ca, rfl, _⟩ := hx.parts
  obtain ⟨_, _, _, ab, cb, rfl, _⟩ := hy.parts
  clear hx hy
  generalize sameT 19 x y = q at *
  have HB : Hid (Below w.heap.size w ((w.alloc (.cells #[.int .i64 x.page, .string x.name, .string x.text, .bool x.opq, .slice aa x.kids.length ca] 46)).alloc (.cells #[.int .i64 y.page, .string y.name, .string y.text, .bool y.opq, .slice ab y.kids.length cb] 46))) := ((Below.refl _ w).alloc (Nat.le_refl _) _).alloc (by simp) _
  go_enter Tryd.func22, Tryd.ntmps22
  go_wp2_with (go_at_call 72; refine (cS.out _ HB.out).mono ?_; rintro r w1 ⟨rfl, hb1⟩)
  go_ret
  exact ⟨rfl, HB.out.trans (hb1.mono HB.out.size)⟩
end Go.Proofs.YtgechifbbhipaaaDoor
