/- metinf: number, anchor. No condition but sizes. -/
import Derived.Test.YtgechifbbhipaaaDoorMeS
import Derived.Test.YtgechifbbhipaaaDoorTrB
import Derived.Test.YtgechifbbhipaaaDoorText
import Derived.Test.YtgechifbbhipaaaDoorMeD
import Derived.Deep.RegionWith
import Derived.Deep.RegionHeld3
set_option linter.unusedVariables false
set_option linter.unusedSimpArgs false
namespace Go.Proofs.YtgechifbbhipaaaDoor
open Go.RowKit

theorem dl_pos (f m : Nat) (h : 0 < f) : 0 < (dl f m).length := by
  cases f with
  | zero => omega
  | succ f => rw [dl]; simp
theorem numT_size (n : Int) : (numT n).size ≠ 0 ∧ (numT n).size ≤ 21 := by
  unfold numT
  rw [strOfNums_size]
  refine ⟨?_, textL_len n⟩
  unfold textL
  have := dl_pos 20 n.natAbs (by omega)
  split <;> simp <;> (intro h; rw [h] at this; simp at this)

theorem say_any (bl B : Nat) (hbl : bl < B) (nm tx : ByteArray) (h1 : nm.size ≤ reachT) (h2 : tx.size ≤ reachT) (v : Value) (ks : List Tr) (hn : ks.length ≤ 1000) (w : World) (hB : B ≤ w.heap.size) (hx : Boxed w bl 44 v) (hr : RowQ w B v ks) :
    Calls Tryd.prog 106 #[.string nm, .string tx, .pointer (some ⟨bl, 0, none⟩)] w fun r w' => PutP bl B (ks ++ sayL nm tx) w r w' := by
  by_cases ht : tx.size = 0
  · unfold sayL
    rw [if_pos ht, List.append_nil]
    refine (say_no bl nm tx w ht).mono ?_
    rintro r w' ⟨hu, rfl⟩
    exact ⟨hu, ⟨v, hx, hr⟩, BelowBut.refl _ _ _⟩
  · unfold sayL
    rw [if_neg ht]
    exact say_put bl B hbl nm tx h1 h2 v ks hn w hB hx hr ht

set_option maxRecDepth 100000 in
set_option maxHeartbeats 4000000 in
theorem number_any (bl bs B : Nat) (hbl : bl < B) (nm : ByteArray) (h1 : nm.size ≤ reachT) (n : Int) (hn0 : -9223372036854775808 ≤ n) (hn1 : n ≤ 9223372036854775807) (v : Value) (ks : List Tr) (hn : ks.length ≤ 1000) (w : World) (hB : B ≤ w.heap.size) (hx : Boxed w bl 44 v) (hr : RowQ w B v ks)
    (hs : w.cell? ⟨bs, 0, none⟩ = some (.func (.func 106) #[] #[.pointer (some ⟨bl, 0, none⟩)])) :
    Calls Tryd.prog 107 #[.string nm, .int .i64 n, .pointer (some ⟨bs, 0, none⟩)] w fun r w' => PutP bl B (ks ++ numL nm n) w r w' := by
  by_cases ht : n = 0
  · subst ht
    have hE : numL nm 0 = [] := rfl
    rw [hE, List.append_nil]
    have HX := Lib.hid hx
    have HR := Lib.hid hr
    clear hx hr hE
    go_enter Tryd.func107, Tryd.ntmps107
    go_wp2_with fail
    go_end0
    exact ⟨⟨_, rfl⟩, ⟨v, HX.out, HR.out⟩, BelowBut.refl _ _ _⟩
  · have hE : numL nm n = sayL nm (numT n) := by unfold numL sayL; rw [if_neg ht, if_neg (numT_size n).1]
    rw [hE]
    have i1 : (n != 0) = true := by simpa using ht
    have HD : Hid (Below w.heap.size w w.drew) := (Below.refl _ w).drew
    have cT := Lib.hid (fun X => text_any n X hn0 hn1)
    have cS := Lib.hid (fun X (hX : Below w.heap.size w X) => say_any bl B hbl nm (numT n) h1 (Nat.le_trans (numT_size n).2 (by decide)) v ks hn X (Nat.le_trans hB hX.size) ((hX.block bl hx.lt).trans hx) (hr.below hX))
    have HZ : Hid (bs < w.heap.size) := World.block_lt_of_cell? _ _ hs
    have hn0' := Lib.hid hn0
    have hn1' := Lib.hid hn1
    clear hx hr hE ht hn0 hn1
    have hnum : numT n = strOfNums (textL n) := rfl
    rw [hnum] at cS ⊢
    clear hnum
    generalize strOfNums (textL n) = tx at *
    go_enter Tryd.func107, Tryd.ntmps107
    go_wp2_with fail
    go_region_with (first | (go_at_call 108; (with_reducible refine (cT.out _).mono ?_); rintro r w1 ⟨rfl, hb1⟩; have HB1 := Lib.hid (HD.out.trans (hb1.mono HD.out.size)); have hs1 := (HB1.out.cell (p := ⟨bs, 0, none⟩) HZ.out).trans hs; clear hb1) | (go_at_call 106; refine (cS.out _ HB1.out).mono ?_; rintro r w2 ⟨⟨u, rfl⟩, hv, hbb⟩))
    all_goals
      go_end0
      exact ⟨⟨_, rfl⟩, hv, (BelowBut.of_below (HB1.out.mono hB)).trans hbb⟩

theorem leafs_two {w : World} {P : Nat → Prop} {g : Nat} {nm1 t1 nm2 t2 : ByteArray} (hg : P g) (h1 : nm1.size ≤ reachT) (h2 : t1.size ≤ reachT) (h3 : nm2.size ≤ reachT) (h4 : t2.size ≤ reachT)
    (hc : ∀ j u, ([.int .i64 1, .string nm1, .string t1, .bool false, .slice none 0 0, .int .i64 1, .string nm2, .string t2, .bool false, .slice none 0 0] : List Value)[j]? = some u → w.cell? ⟨g, j, none⟩ = some u) :
    AtLQ w P (some ⟨g, 0, none⟩) 0 [.mk 1 nm1 t1 false [], .mk 1 nm2 t2 false []] :=
  KLQ.atL hg (xs := [.int .i64 1, .string nm1, .string t1, .bool false, .slice none 0 0, .int .i64 1, .string nm2, .string t2, .bool false, .slice none 0 0]) (i := 0)
    ⟨[.int .i64 1, .string nm1, .string t1, .bool false, .slice none 0 0], _, rfl, rfl, AtQ.leaf h1 h2, [.int .i64 1, .string nm2, .string t2, .bool false, .slice none 0 0], [], rfl, rfl, AtQ.leaf h3 h4, rfl⟩ (fun j u hu => by have := hc j u hu; simpa using this)
theorem leafs_one {w : World} {P : Nat → Prop} {g : Nat} {nm2 t2 : ByteArray} (hg : P g) (h3 : nm2.size ≤ reachT) (h4 : t2.size ≤ reachT)
    (hc : ∀ j u, ([.int .i64 1, .string nm2, .string t2, .bool false, .slice none 0 0] : List Value)[j]? = some u → w.cell? ⟨g, j, none⟩ = some u) :
    AtLQ w P (some ⟨g, 0, none⟩) 0 [.mk 1 nm2 t2 false []] :=
  KLQ.atL hg (xs := [.int .i64 1, .string nm2, .string t2, .bool false, .slice none 0 0]) (i := 0)
    ⟨[.int .i64 1, .string nm2, .string t2, .bool false, .slice none 0 0], [], rfl, rfl, AtQ.leaf h3 h4, rfl⟩ (fun j u hu => by have := hc j u hu; simpa using this)
end Go.Proofs.YtgechifbbhipaaaDoor
