/- the iterator that figure.Digits hands back: its contract. No condition. -/
import Derived.RangeFuncBox
import Derived.RangeFuncLeaves
import Derived.Shelf.Abstract
import Derived.OwnWalkIn
import Derived.TacticsInMore
import Derived.LoopNIn
import Derived.LoopIn
import Derived.Maps.AppendAt
import Derived.Test.YtgechifbbhipaaaDoorRev
import Derived.Test.YtgechifbbhipaaaDoorKit
set_option linter.unusedVariables false
set_option linter.unusedSimpArgs false
namespace Go.Proofs.YtgechifbbhipaaaDoor
open Go.RowKit Go.Shelf

attribute [local go_sem] Oper.semAt_some

def ItCells (w : World) (g : Nat) (xs : List Int) : Prop := ∀ j, j < xs.length → w.cell? ⟨g, j, none⟩ = some (.int .u8 (xs[j]?.getD 0))

set_option maxRecDepth 100000 in
set_option maxHeartbeats 1000000 in
theorem digits1_in (n : Nat) (hn : 1 ≤ n) (l bx g c : Nat) (xs : List Int) (Kp : World → World → Prop) (hKp : ∀ W W', Kp W W' → ∀ j, W'.cell? ⟨g, j, none⟩ = W.cell? ⟨g, j, none⟩) (J Jx : List Int → World → Prop) (hlen : xs.length ≤ 9223372036854775806)
    (hY : ∀ pre x W, J pre W → pre.length < xs.length → YieldAt Fence.wide (n - 1) Tryd.prog l #[.int .u8 x] W fun e W' =>
      (e = .returned (.bool true) ∧ J (pre ++ [x]) W' ∧ Kp W W') ∨ (e = .returned (.bool false) ∧ Jx (pre ++ [x]) W'))
    (W : World) (hbx : W.cell? ⟨bx, 0, none⟩ = some (.slice (some ⟨g, 0, none⟩) xs.length c)) (hC : ItCells W g xs) (h0 : J [] W) :
    CallsIn Fence.wide n Tryd.prog 187 #[.func (.yield l) #[] #[], .pointer (some ⟨bx, 0, none⟩)] W fun e W' => (∃ v, e = .returned v) ∧
      ((∃ ys, ys = xs ∧ J ys W') ∨ (∃ pre, pre <+: xs ∧ Jx pre W')) := by
  refine callsIn_of_wp Tryd.func187 rfl trivial ?_ rfl
  simp only [Tryd.ntmps187, List.size_toArray, List.length_cons, List.length_nil, Nat.reduceAdd, Nat.reduceSub, Array.replicate_succ, Array.replicate_zero, List.push_toArray, List.append_toArray, List.nil_append, List.cons_append]
  gi_wp2
  gi_loopw [7] (fun i wr => ∃ k : Nat, k ≤ xs.length ∧ i = .int .i64 k ∧ J (xs.take k) wr ∧ ItCells wr g xs) (fun i _ => xs.length - (intOf i).toNat)
  case atStart => exact ⟨0, Nat.zero_le _, rfl, h0, hC⟩
  case round =>
    obtain ⟨k, hk, rfl, hJ, hC⟩ := hrel
    by_cases hlt : k < xs.length
    · have hc0 := hC k hlt
      obtain ⟨fn, tmps, assign, body, hy, hR⟩ := hY (xs.take k) (xs[k]?.getD 0) wr hJ (by rw [List.length_take]; omega)
      have HT : Hid (xs.take k ++ [xs[k]?.getD 0] = xs.take (k + 1)) := by
        unfold Hid; rw [List.take_succ_eq_append_getElem hlt, List.getElem?_eq_getElem hlt]; rfl
      have HC := Lib.hid hC
      clear hC hJ
      generalize xs[k]?.getD 0 = x at *
      gi_wp2
      refine hR.mono ?_
      rintro e W3 (⟨rfl, hJ3, hk3⟩ | ⟨rfl, hJx3⟩)
      · rw [HT.out] at hJ3
        have HJ := Lib.hid hJ3
        have HC3 : Hid (ItCells W3 g xs) := fun j hj => (hKp _ _ hk3 j).trans (HC.out j hj)
        clear hJ3 hk3 hc0
        gi_wp2
        go_roundw
        case rel => exact ⟨k + 1, by omega, by go_num, HJ.out, HC3.out⟩
        case measure => simp [intOf]; omega
      · gi_wp2
        refine bodyPost_ret (results_none rfl _ _ _) rfl ?_
        exact ⟨⟨_, rfl⟩, .inr ⟨_, by rw [HT.out]; exact List.take_prefix _ _, hJx3⟩⟩
    · have HJ := Lib.hid hJ
      clear hJ hC
      gi_wp2
      go_end0
      exact ⟨⟨_, rfl⟩, .inl ⟨_, rfl, by have := HJ.out; rw [List.take_of_length_le (by omega)] at this; exact this⟩⟩

theorem digits1_stops (n : Nat) (hn : 1 ≤ n) (bx g c : Nat) (xs : List Int) (hlen : xs.length ≤ 9223372036854775806) (Kp : World → World → Prop) (hKp : ∀ W W', Kp W W' → ∀ j, W'.cell? ⟨g, j, none⟩ = W.cell? ⟨g, j, none⟩) (w : World)
    (hbx : w.cell? ⟨bx, 0, none⟩ = some (.slice (some ⟨g, 0, none⟩) xs.length c)) (hb : bx < w.heap.size) (hg : g < w.heap.size) (hC : ItCells w g xs) :
    SeqStopsK Fence.wide n Tryd.prog 187 #[.pointer (some ⟨bx, 0, none⟩)] (fun x : Int => #[Value.int .u8 x]) Kp (fun ys => ys = xs) (fun pre => pre <+: xs) xs.length w := fun l J Jx W hW _ _ hY h0 =>
  digits1_in n hn l bx g c xs Kp hKp J Jx hlen hY W ((hW.cell (p := ⟨bx, 0, none⟩) hb).trans hbx) (fun j hj => (hW.cell (p := ⟨g, j, none⟩) hg).trans (hC j hj)) h0
end Go.Proofs.YtgechifbbhipaaaDoor
