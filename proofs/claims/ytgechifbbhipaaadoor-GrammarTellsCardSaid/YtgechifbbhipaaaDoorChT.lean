/- charset: the reference's Valid. No condition but sizes. -/
import Derived.Test.YtgechifbbhipaaaDoorChM
set_option linter.unusedVariables false
set_option linter.unusedSimpArgs false
namespace Go.Proofs.YtgechifbbhipaaaDoor
open Go.RowKit

theorem refValid_any (s : ByteArray) (hs : s.size ≤ 1000000) (w : World) : Calls Tryd.prog 150 #[.string s] w fun e w' => e = .returned (.bool (ltS s).2) ∧ Below w.heap.size w w' := by
  have cL := Lib.hid (refLetters_any s hs w)
  unfold LetP at cL
  generalize (ltS s).1 = l at *
  generalize (ltS s).2 = q at *
  go_enter Tryd.func150, Tryd.ntmps150
  go_wp2_with (go_at_call 183; refine cL.out.mono ?_; rintro e w1 ⟨a, c, rfl, _, hb1⟩)
  go_ret
  exact ⟨rfl, hb1⟩

end Go.Proofs.YtgechifbbhipaaaDoor
