/- parts: the walks of PartsTells and PartsBack. No condition but sizes. -/
import Derived.Test.YtcpmgnejbfnnjaaPtQ
namespace Go.Proofs.Ytcpmgnejbfnnjaa
open Go.RowKit

def tx1 : ByteArray := { data := #[97, 92, 59, 98, 59, 99] }
def tx2 : ByteArray := { data := #[97, 92] }
theorem tx1_parts : PartsOf tx1 = [{ data := #[97, 59, 98] }, { data := #[99] }] := by decide +kernel
theorem tx1_wrong : WrongAt tx1 = -1 := by decide +kernel
theorem tx2_wrong : WrongAt tx2 = 1 := by decide +kernel
theorem tx1_join : mkT (jnL (lts [{ data := #[97, 59, 98] }, { data := #[99] }])) = tx1 := by decide +kernel

theorem split_ok (s : ByteArray) (hs : s.size ≤ 1000000) (hw : WrongAt s = -1) (l : List ByteArray) (hp : PartsOf s = l) (w : World) : Calls Try.prog 26 #[.string s] w fun e w' => ∃ a c, e = .returned (.tuple #[.slice a l.length c, .int .i64 0, .int .i64 0]) ∧ w'.ownsRow w.heap.size 9 1 (.slice a l.length c) l.length (l.map Value.string) ∧ Below w.heap.size w w' := by
  refine (split_any s hs w).mono ?_
  rintro e w' (⟨h, _⟩ | ⟨_, a, c, he, ho, hb⟩)
  · omega
  · rw [hp] at he ho; exact ⟨a, c, he, ho, hb⟩
theorem split_no (s : ByteArray) (hs : s.size ≤ 1000000) (i : Int) (hw : WrongAt s = i) (hi : 0 ≤ i) (w : World) : Calls Try.prog 26 #[.string s] w fun e w' => e = .returned (.tuple #[.slice none 0 0, .int .i64 i, .int .i64 3]) ∧ Below w.heap.size w w' := by
  refine (split_any s hs w).mono ?_
  rintro e w' (⟨_, he, hb⟩ | ⟨h, _⟩)
  · rw [hw] at he; exact ⟨he, hb⟩
  · omega

set_option maxRecDepth 100000 in
set_option maxHeartbeats 4000000 in
theorem worksP_any (w : World) : Calls Try.prog 31 #[] w fun e w' => e = .returned (.bool true) ∧ Below w.heap.size w w' := by
  have c1 : Hid (∀ w, Calls Try.prog 26 #[.string { data := #[97, 92, 59, 98, 59, 99] }] w fun e w' => ∃ a c, e = .returned (.tuple #[.slice a 2 c, .int .i64 0, .int .i64 0]) ∧ w'.ownsRow w.heap.size 9 1 (.slice a 2 c) 2 [.string { data := #[97, 59, 98] }, .string { data := #[99] }] ∧ Below w.heap.size w w') := fun w => split_ok tx1 (by decide) tx1_wrong _ tx1_parts w
  have c2 : Hid (∀ w, Calls Try.prog 26 #[.string { data := #[97, 92] }] w fun e w' => e = .returned (.tuple #[.slice none 0 0, .int .i64 1, .int .i64 3]) ∧ Below w.heap.size w w') := fun w => split_no tx2 (by decide) 1 tx2_wrong (by decide) w
  go_enter Try.func31, Try.ntmps31
  go_wp2_with fail
  refine (c1.out _).mono ?_
  rintro e w1 ⟨a, c, rfl, hown, hb1⟩
  have HO := Lib.hid hown
  have HB1 := Lib.hid hb1
  clear hown hb1
  go_wp2_with fail
  refine (c2.out _).mono ?_
  rintro e w2 ⟨rfl, hb2⟩
  have HB2 := Lib.hid (HB1.out.trans (hb2.mono HB1.out.size))
  have hT : Txts w2 a [{ data := #[97, 59, 98] }, { data := #[99] }] := (Txts.own (c := c) HO.out).below hb2 (Nat.le_refl _)
  obtain ⟨b1, o1, rfl, hl1, hc0⟩ := hT 0 (by decide)
  obtain ⟨b2, o2, he2, _, hc1⟩ := hT 1 (by decide)
  simp only [Option.some.injEq, Addr.mk.injEq, and_true] at he2
  obtain ⟨rfl, rfl⟩ := he2
  have hc0' : w2.cell? ⟨b1, o1, none⟩ = some (.string { data := #[97, 59, 98] }) := hc0
  have hc1' : w2.cell? ⟨b1, o1 + 1, none⟩ = some (.string { data := #[99] }) := hc1
  have cJ : Hid (Calls Try.prog 29 #[.slice (some ⟨b1, o1, none⟩) 2 c] w2 fun e w' => e = .returned (.string { data := #[97, 92, 59, 98, 59, 99] }) ∧ Below w2.heap.size w2 w') := by
    have := join_any (some ⟨b1, o1, none⟩) c [{ data := #[97, 59, 98] }, { data := #[99] }] w2 hT (by decide) (by decide)
    rw [tx1_join] at this
    exact this
  clear hT hc0 hc1 hb2 HO
  go_wp2_with fail
  refine cJ.out.mono ?_
  rintro e w3 ⟨rfl, hb3⟩
  go_wp2_with fail
  go_ret
  exact ⟨rfl, HB2.out.trans (hb3.mono HB2.out.size)⟩
end Go.Proofs.Ytcpmgnejbfnnjaa
