/- strings.Builder's WriteRune over Bd. No condition but sizes. -/
import Derived.Test.YtcpmgnejbfnnjaaDoorBd
namespace Go.Proofs.YtcpmgnejbfnnjaaDoor
open Go.RowKit

set_option maxRecDepth 100000 in
set_option maxHeartbeats 2000000 in
theorem bd_writeRune (C b : Nat) (bs : List Value) (r : Int) (hr0 : -2147483648 ≤ r) (hr1 : r ≤ 2147483647) (w : World) (h : Bd C b bs w) (hlen : bs.length + 4 ≤ 140737488355328) (hCw : C ≤ w.heap.size) :
    Calls Tryd.prog 37 #[.pointer (some ⟨b, 0, none⟩), .int .i32 r] w fun e w' => (∃ n, e = .returned (.tuple #[.int .i64 n, .nilIface])) ∧ Bd C b (bs ++ Lib.runeCells r) w' ∧ BelowBut C b w w' ∧ KeepsOthers w w' := by
  obtain ⟨rc, hrc⟩ : ∃ rc, Lib.runeCells r = rc := ⟨_, rfl⟩
  have HRC := Lib.hid hrc
  rw [hrc]
  clear hrc
  go_enter Tryd.func37, Tryd.ntmps37
  go_wp2_with (go_at_call 46; refine (bd_copyCheck C b bs _ h).mono ?_)
  rintro e w1 ⟨rfl, ⟨v, hbk, hown, hne⟩, hb1, hsz1, hk1⟩
  obtain ⟨a0, c0', rfl⟩ := own_form hown
  have c0 : w1.cell? ⟨b, 0, none⟩ = some (.pointer (some ⟨b, 0, none⟩)) := by rw [Lib.cell_of_heap hbk]; rfl
  have c1 : w1.cell? ⟨b, 1, none⟩ = some (.slice a0 bs.length c0') := by rw [Lib.cell_of_heap hbk]; rfl
  have cA := Lib.hid (Tryd.utf8_AppendRune_plain C _ bs.length bs r hr0 hr1 w1 hown hlen (by omega))
  rw [HRC.out] at cA
  go_wp2_with (go_at_call 47; refine cA.out.mono ?_)
  rintro e w2 ⟨v', rfl, hown', o, hgrow⟩
  have hlt : b < w1.heap.size := (Array.getElem?_eq_some_iff.1 hbk).1
  have hb2 : w2.heap[b]? = some (.cells #[.pointer (some ⟨b, 0, none⟩), .slice a0 bs.length c0'] 58 (0, 0)) := by
    rw [hgrow.block b (by simp; omega) (fun e => hne e.symm), Lib.alloc_old w1 _ b hlt]
    exact hbk
  have d0 : w2.cell? ⟨b, 0, none⟩ = some (.pointer (some ⟨b, 0, none⟩)) := by rw [Lib.cell_of_heap hb2]; rfl
  have d1 : w2.cell? ⟨b, 1, none⟩ = some (.slice a0 bs.length c0') := by rw [Lib.cell_of_heap hb2]; rfl
  have f1 : w2.frozen? ⟨b, 1, none⟩ = false := Lib.frozen_of_heap hb2 1
  obtain ⟨g, cap, rfl⟩ := own_form hown'
  have hne2 := Lib.ownBlock_ne hown' hb2 (by decide)
  have hr : ∀ k, k ≠ b → (w2.setCell ⟨b, 1, none⟩ (.slice g (bs.length + rc.length) cap)).heap[k]? = w2.heap[k]? := fun k hk => Below.heap_setCell _ _ _ _ (by simpa using hk)
  go_wp2
  go_ret2
  refine ⟨⟨_, rfl⟩, ⟨_, _, .inr rfl, ?_, ?_, hne2⟩, ?_, ?_⟩
  · simp [World.setCell, Array.getElem?_modify, hb2]
  · have : w2.ownsRow C 5 1 (.slice g (bs.length + rc.length) cap) (bs ++ rc).length (bs ++ rc) := by simpa using hown'
    exact this.kept (row := some b) ⟨rfl, rfl, rfl, by simp [World.setCell], fun k _ hk => hr k (fun e => hk (by rw [e]))⟩ (.inr hne2)
  · have s2 := hgrow.size
    simp only [World.size_alloc] at s2
    refine hb1.trans ⟨hgrow.os, hgrow.tape, hgrow.output, by simp [World.setCell]; omega, fun k hk hkb => ?_⟩
    rw [hr k hkb, hgrow.block k (by simp; omega) (fun e => by have := (hown.lt k e.symm).1; omega)]
    exact Below.heap_alloc _ _ _ (by omega)
  · exact ((hk1.trans (KeepsOthers.alloc _ _)).trans (keeps_row hgrow (hown.alloc _))).trans (KeepsOthers.setCell _ _ _)
end Go.Proofs.YtcpmgnejbfnnjaaDoor
