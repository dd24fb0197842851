/- msg: Great of a message. No condition. -/
import Derived.Test.YtgechifbbhipaaaDoorCmU
import Derived.Test.YtgechifbbhipaaaDoorCmT
set_option linter.unusedVariables false
set_option linter.unusedSimpArgs false
namespace Go.Proofs.YtgechifbbhipaaaDoor
open Go.RowKit Go.Shelf

def GmR (ks : List Cm) (r : Ending) : Prop := ∃ g : Bool, r = .returned (.bool g) ∧ (g = false → SmallB ks)
attribute [local irreducible] wpList in
set_option maxRecDepth 100000 in
set_option maxHeartbeats 8000000 in
theorem greatMsg_any (C1 : Array Value) (se id : Int) (ta so ct cd : ByteArray) (mx : Int) (fi : Bool) (ks : List Cm) (ab : Option Addr) (cb : Nat) (w : World) (hab : AtCs w w.heap.size ab 0 ks) (hC : C1 = #[.int .i64 se, .int .i64 id, .string ta, .string so, .string ct, .string cd, .int .i64 mx, .slice ab ks.length cb, .bool fi]) : Calls Tryd.prog 10 #[.agg C1] w fun r w' => GmR ks r ∧ Below w.heap.size w w' := by
  have HC1 : Hid (∀ (i : Nat) (v : Value), (#[.int .i64 se, .int .i64 id, .string ta, .string so, .string ct, .string cd, .int .i64 mx, .slice ab ks.length cb, .bool fi] : Array Value)[i]? = some v → C1[i]? = some v) := fun i v h => by rw [hC]; exact h
  have HF0 := Lib.hid (Sb.start w C1 31)
  have cG := Lib.hid (fun X (hX : Below w.heap.size w X) => (great9_any 5 (by omega) ks ab cb 30000 X (AtCs.mono hX.size _ _ _ (AtCs.below hX _ _ _ hab)) : Calls Tryd.prog 9 #[.slice ab ks.length cb, .int .i64 30000, .int .i64 5] X fun r w' => GrR 5 ks r ∧ Below X.heap.size X w'))
  clear hC hab
  go_enter Tryd.func10, Tryd.ntmps10
  go_upto_region 1 with fail
  generalize w.alloc (.cells C1 31) = W at *
  have KB := HF0.out.bel
  have y2 := cell_block HF0.out.blk 2 _ (HC1.out 2 (.string ta) rfl); have y3 := cell_block HF0.out.blk 3 _ (HC1.out 3 (.string so) rfl); have y4 := cell_block HF0.out.blk 4 _ (HC1.out 4 (.string ct) rfl); have y5 := cell_block HF0.out.blk 5 _ (HC1.out 5 (.string cd) rfl); have y7 := cell_block HF0.out.blk 7 _ (HC1.out 7 (.slice ab ks.length cb) rfl)
  go_wp2_with (go_at_call 9; refine (cG.out _ KB).mono ?_; rintro r X ⟨⟨x, g, rfl, hg⟩, hb⟩; have HG := Lib.hid hg; have KX := Lib.hid (KB.trans (hb.mono KB.size)); clear hg)
  all_goals first
    | (go_ret; exact ⟨⟨_, rfl, fun h => smallN_small (n := 3) (HG.out h)⟩, KX.out⟩)
    | (go_ret; exact ⟨⟨true, rfl, fun h => by cases h⟩, KB⟩)
end Go.Proofs.YtgechifbbhipaaaDoor
