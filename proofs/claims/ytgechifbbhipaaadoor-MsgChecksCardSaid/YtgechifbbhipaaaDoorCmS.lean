/- msg: counts, addresses, items; both sides. No condition but the tables and sizes. -/
import Derived.Test.YtgechifbbhipaaaDoorCmP
import Derived.Test.YtgechifbbhipaaaDoorMeP
import Derived.Test.YtgechifbbhipaaaDoorMeO
import Derived.Test.YtgechifbbhipaaaDoorTrS
set_option linter.unusedVariables false
set_option linter.unusedSimpArgs false
namespace Go.Proofs.YtgechifbbhipaaaDoor
open Go.RowKit

def cntB (n least : Int) : Bool := decide (least ≤ n) && decide (n ≤ 268435456)
theorem cnt_any (n l : Int) (w : World) : Calls Tryd.prog 41 #[.int .i64 n, .int .i64 l] w fun r w' => r = .returned (.bool (cntB n l)) ∧ w' = w := by
  cases h0 : decide (l ≤ n) with
  | false =>
    have hR : cntB n l = false := by unfold cntB; rw [h0]; rfl
    rw [hR]
    go_enter Tryd.func41, Tryd.ntmps41
    go_wp2
    go_ret
    exact ⟨rfl, rfl⟩
  | true =>
    cases h1 : decide (n ≤ 268435456) with
    | false =>
      have hR : cntB n l = false := by unfold cntB; rw [h0, h1]; rfl
      rw [hR]
      go_enter Tryd.func41, Tryd.ntmps41
      go_wp2
      go_ret
      exact ⟨rfl, rfl⟩
    | true =>
      have hR : cntB n l = true := by unfold cntB; rw [h0, h1]; rfl
      rw [hR]
      go_enter Tryd.func41, Tryd.ntmps41
      go_wp2
      go_ret
      exact ⟨rfl, rfl⟩
theorem refCnt_any (n l : Int) (w : World) : Calls Tryd.prog 54 #[.int .i64 n, .int .i64 l] w fun r w' => r = .returned (.bool (cntB n l)) ∧ w' = w := by
  cases h0 : decide (l ≤ n) with
  | false =>
    have hR : cntB n l = false := by unfold cntB; rw [h0]; rfl
    rw [hR]
    go_enter Tryd.func54, Tryd.ntmps54
    go_wp2
    go_ret
    exact ⟨rfl, rfl⟩
  | true =>
    cases h1 : decide (n ≤ 268435456) with
    | false =>
      have hR : cntB n l = false := by unfold cntB; rw [h0, h1]; rfl
      rw [hR]
      go_enter Tryd.func54, Tryd.ntmps54
      go_wp2
      go_ret
      exact ⟨rfl, rfl⟩
    | true =>
      have hR : cntB n l = true := by unfold cntB; rw [h0, h1]; rfl
      rw [hR]
      go_enter Tryd.func54, Tryd.ntmps54
      go_wp2
      go_ret
      exact ⟨rfl, rfl⟩
def dataN : ByteArray := { data := #[68, 97, 116, 97] }
def shB (s : ByteArray) : Bool := decide ((s.size : Int) ≤ 4000) && shownB s
theorem chk_data (s : ByteArray) (h2 : s.size ≤ 4000) : (chkA (.mk 0 dataN s false []) == 0) = shownB s := by
  have hp : preT 13 1 (.mk 0 dataN s false []) = [(1, .mk 0 dataN s false [])] := by rw [preT_in (by omega)]; show _ :: preL 13 2 [] = _; rw [preL]
  have hp2 : preT 5000 1 (.mk 0 dataN s false []) = [(1, .mk 0 dataN s false [])] := by rw [preT_in (by omega)]; show _ :: preL 5000 2 [] = _; rw [preL]
  have hh : hT (.mk 0 dataN s false []) ≤ 12 := by rw [hT, hL]; decide
  have hc : chkA (.mk 0 dataN s false []) = chkV 0 dataN s false 0 := by
    rw [chkA_of hh (by rw [hp2]; simp), hp, firstC]
    show (if chkV 0 dataN s false 0 = 0 then firstC [] else chkV 0 dataN s false 0) = _
    split
    · rename_i h; rw [h]; rfl
    · rfl
  rw [hc]
  unfold chkV
  have hn : nameB dataN = true := by decide
  simp only [hn]
  cases h : shownB s <;> simp <;> omega
theorem shown121_any (s : ByteArray) (w : World) (hT : Lib.Utf8Tabs 2 3 w) : Calls Tryd.prog 121 #[.string s] w fun r w' => r = .returned (.bool (shB s)) ∧ Below w.heap.size w w' := by
  cases h0 : decide ((s.size : Int) ≤ 4000) with
  | false =>
    have hR : shB s = false := by unfold shB; rw [h0]; rfl
    rw [hR]
    go_enter Tryd.func121, Tryd.ntmps121
    go_wp2
    go_ret
    exact ⟨rfl, Below.refl _ _⟩
  | true =>
    have hs : s.size ≤ 4000 := by rw [decide_eq_true_eq] at h0; omega
    have hs2 : s.size ≤ reachT := by simp only [reachT]; omega
    have hL : ∀ X, AtT X X.heap.size (.mk 0 dataN s false []) (.agg #[.int .i64 0, .string dataN, .string s, .bool false, .slice none 0 0]) := fun X => by
      unfold AtT; exact ⟨by decide, hs2, by decide, none, 0, rfl, by unfold AtL; trivial, Nat.le_refl _⟩
    have c7 := Lib.hid (fun X (hX : Below w.heap.size w X) => checkA_any _ _ X (hL X) (Utf8Tabs_below hT hX))
    have hR : shB s = (chkA (.mk 0 dataN s false []) == 0) := by unfold shB; rw [h0, chk_data s hs]; rfl
    rw [hR]
    clear hL hT hs hs2 hR
    generalize chkA (.mk 0 dataN s false []) = q at *
    have c11 := Lib.hid (fun X => leaf_any 0 dataN s X)
    unfold dataN at *
    go_enter Tryd.func121, Tryd.ntmps121
    go_wp2_with (first | (go_at_call 63; refine (c11.out _).mono ?_; rintro r w1 ⟨rfl, hb1⟩) | (go_at_call 96; refine (c7.out _ hb1).mono ?_; rintro r w2 ⟨rfl, hb2⟩))
    go_ret
    exact ⟨rfl, hb1.trans (hb2.mono hb1.size)⟩
/-- may a text stand as an address -/
def adrB (s : ByteArray) : Bool := (!s.toList.isEmpty) && (decide ((s.size : Int) ≤ 200) && shownB s)
def mayB (s : ByteArray) : Bool := s.toList.isEmpty || adrB s
theorem adr_any (s : ByteArray) (w : World) (hT : Lib.Utf8Tabs 2 3 w) : Calls Tryd.prog 50 #[.string s] w fun r w' => r = .returned (.bool (adrB s)) ∧ Below w.heap.size w w' := by
  cases h0 : s.toList.isEmpty with
  | true =>
    have hR : adrB s = false := by unfold adrB; rw [h0]; rfl
    rw [hR]
    go_enter Tryd.func50, Tryd.ntmps50
    go_wp2
    go_ret
    exact ⟨rfl, Below.refl _ _⟩
  | false =>
    cases h1 : decide ((s.size : Int) ≤ 200) with
    | false =>
      have hR : adrB s = false := by unfold adrB; rw [h0, h1]; rfl
      rw [hR]
      go_enter Tryd.func50, Tryd.ntmps50
      go_wp2
      go_ret
      exact ⟨rfl, Below.refl _ _⟩
    | true =>
      have cS := Lib.hid (shown121_any s w hT)
      have hR : adrB s = shB s := by
        have h4 : decide ((s.size : Int) ≤ 4000) = true := by rw [decide_eq_true_eq] at h1 ⊢; omega
        unfold adrB shB; rw [h0, h1, h4]; rfl
      rw [hR]
      generalize shB s = q at *
      go_enter Tryd.func50, Tryd.ntmps50
      go_wp2_with (go_at_call 121; refine cS.out.mono ?_; rintro r w1 ⟨rfl, hb1⟩)
      go_ret
      exact ⟨rfl, hb1⟩
theorem refAdr_any (s : ByteArray) (w : World) : Calls Tryd.prog 58 #[.string s] w fun r w' => r = .returned (.bool (adrB s)) ∧ Below w.heap.size w w' := by
  cases h0 : s.toList.isEmpty with
  | true =>
    have hR : adrB s = false := by unfold adrB; rw [h0]; rfl
    rw [hR]
    go_enter Tryd.func58, Tryd.ntmps58
    go_wp2
    go_ret
    exact ⟨rfl, Below.refl _ _⟩
  | false =>
    cases h1 : decide ((s.size : Int) ≤ 200) with
    | false =>
      have hR : adrB s = false := by unfold adrB; rw [h0, h1]; rfl
      rw [hR]
      go_enter Tryd.func58, Tryd.ntmps58
      go_wp2
      go_ret
      exact ⟨rfl, Below.refl _ _⟩
    | true =>
      have cS := Lib.hid (refShown_any s (by rw [decide_eq_true_eq] at h1; omega) w)
      have hR : adrB s = shownB s := by unfold adrB; rw [h0, h1]; rfl
      rw [hR]
      generalize shownB s = q at *
      go_enter Tryd.func58, Tryd.ntmps58
      go_wp2_with (go_at_call 101; refine cS.out.mono ?_; rintro r w1 ⟨rfl, hb1⟩)
      go_ret
      exact ⟨rfl, hb1⟩
theorem may_any (s : ByteArray) (w : World) (hT : Lib.Utf8Tabs 2 3 w) : Calls Tryd.prog 46 #[.string s] w fun r w' => r = .returned (.bool (mayB s)) ∧ Below w.heap.size w w' := by
  have cS := Lib.hid (adr_any s w hT)
  cases h0 : s.toList.isEmpty with
  | true =>
    have hR : mayB s = true := by unfold mayB; rw [h0]; rfl
    rw [hR]
    clear cS
    go_enter Tryd.func46, Tryd.ntmps46
    go_wp2
    go_ret
    exact ⟨rfl, Below.refl _ _⟩
  | false =>
    have hR : mayB s = adrB s := by unfold mayB; rw [h0]; rfl
    rw [hR]
    generalize adrB s = q at *
    go_enter Tryd.func46, Tryd.ntmps46
    go_wp2_with (go_at_call 50; refine cS.out.mono ?_; rintro r w1 ⟨rfl, hb1⟩)
    go_ret
    exact ⟨rfl, hb1⟩
theorem refMay_any (s : ByteArray) (w : World) : Calls Tryd.prog 57 #[.string s] w fun r w' => r = .returned (.bool (mayB s)) ∧ Below w.heap.size w w' := by
  have cS := Lib.hid (refAdr_any s w)
  cases h0 : s.toList.isEmpty with
  | true =>
    have hR : mayB s = true := by unfold mayB; rw [h0]; rfl
    rw [hR]
    clear cS
    go_enter Tryd.func57, Tryd.ntmps57
    go_wp2
    go_ret
    exact ⟨rfl, Below.refl _ _⟩
  | false =>
    have hR : mayB s = adrB s := by unfold mayB; rw [h0]; rfl
    rw [hR]
    generalize adrB s = q at *
    go_enter Tryd.func57, Tryd.ntmps57
    go_wp2_with (go_at_call 58; refine cS.out.mono ?_; rintro r w1 ⟨rfl, hb1⟩)
    go_ret
    exact ⟨rfl, hb1⟩
/-- a world behind the box of the argument -/
def Sb (w : World) (cs : Array Value) (t : TypeId) (X : World) : Prop := Below w.heap.size w X ∧ X.heap[w.heap.size]? = some (.cells cs t (0, 0)) ∧ w.heap.size + 1 ≤ X.heap.size
theorem Sb.bel {w X : World} {cs : Array Value} {t : TypeId} (h : Sb w cs t X) : Below w.heap.size w X := h.1
theorem Sb.blk {w X : World} {cs : Array Value} {t : TypeId} (h : Sb w cs t X) : X.heap[w.heap.size]? = some (.cells cs t (0, 0)) := h.2.1
theorem Sb.siz {w X : World} {cs : Array Value} {t : TypeId} (h : Sb w cs t X) : w.heap.size + 1 ≤ X.heap.size := h.2.2
theorem Sb.below {w X Y : World} {cs : Array Value} {t : TypeId} (h : Sb w cs t X) (hb : Below X.heap.size X Y) : Sb w cs t Y :=
  ⟨h.1.trans (hb.mono h.1.size), (hb.block _ (by have := h.2.2; omega)).trans h.2.1, Nat.le_trans h.2.2 hb.size⟩
theorem Sb.start (w : World) (cs : Array Value) (t : TypeId) : Sb w cs t (w.alloc (.cells cs t)) :=
  ⟨(Below.refl _ w).alloc (Nat.le_refl _) _, World.alloc_heap_new w _, by simp⟩
/-- a Meta's texts are small -/
def SmallMe (m : MetV) : Prop := m.fo.size ≤ 1000000 ∧ m.ty.size ≤ 1000000 ∧ m.no.size ≤ 1000000 ∧ m.la.size ≤ 1000000 ∧ m.ne.size ≤ 1000000
/-- is an item as it should be -/
def itB (x : It) : Bool := mayB x.ta && (mayB x.so && ((chkMV x.me == 0) && decide ((x.da.size : Int) ≤ 4000)))
set_option maxHeartbeats 2000000 in
theorem item_any (x : It) (hm : SmallMe x.me) (w : World) (hT : Lib.Utf8Tabs 2 3 w) : Calls Tryd.prog 119 #[.agg x.cells] w fun r w' => r = .returned (.bool (itB x)) ∧ Below w.heap.size w w' := by
  obtain ⟨ta, so, ⟨fo, ty, sz, ve, la, ne, no, mm, mo⟩, da, mr⟩ := x
  obtain ⟨s1, s2, s3, s4, s5⟩ := hm
  simp only [It.cells] at s1 s2 s3 s4 s5 ⊢
  have cM := Lib.hid (fun s X (hX : Below w.heap.size w X) => may_any s X (Utf8Tabs_below hT hX))
  have cK := Lib.hid (fun X (hX : Below w.heap.size w X) => metCheck_any fo ty sz ve la ne no mm mo s1 s2 s3 s4 s5 X (Utf8Tabs_below hT hX))
  have hE : itB ⟨ta, so, ⟨fo, ty, sz, ve, la, ne, no, mm, mo⟩, da, mr⟩ = (mayB ta && (mayB so && ((chkM fo ty sz ve la ne no mm mo == 0) && decide ((da.size : Int) ≤ 4000)))) := rfl
  clear s1 s2 s3 s4 s5 hT
  generalize chkM fo ty sz ve la ne no mm mo = q at *
  have KK := Lib.hid (Sb.start w #[.string ta, .string so, .string fo, .string ty, .int .i64 sz, .int .i64 ve, .string la, .string ne, .string no, .int .i64 mm, .int .i64 mo, .string da, .bool mr] 69)
  have KB := KK.out.bel
  cases h0 : mayB ta with
  | false =>
    have hR : itB ⟨ta, so, ⟨fo, ty, sz, ve, la, ne, no, mm, mo⟩, da, mr⟩ = false := by rw [hE, h0]; rfl
    rw [hR]
    clear hR hE
    go_enter Tryd.func119, Tryd.ntmps119
    go_wp2_with (first | (go_at_call 46; (with_reducible refine (cM.out _ _ KB).mono ?_); rintro r X ⟨rfl, hb⟩; have KK := Lib.hid (KK.out.below hb); have KB := KK.out.bel; have y0 := cell_block KK.out.blk 0 _ rfl; have y1 := cell_block KK.out.blk 1 _ rfl; have y2 := cell_block KK.out.blk 2 _ rfl; have y3 := cell_block KK.out.blk 3 _ rfl; have y4 := cell_block KK.out.blk 4 _ rfl; have y5 := cell_block KK.out.blk 5 _ rfl; have y6 := cell_block KK.out.blk 6 _ rfl; have y7 := cell_block KK.out.blk 7 _ rfl; have y8 := cell_block KK.out.blk 8 _ rfl; have y9 := cell_block KK.out.blk 9 _ rfl; have y10 := cell_block KK.out.blk 10 _ rfl; have y11 := cell_block KK.out.blk 11 _ rfl; have y12 := cell_block KK.out.blk 12 _ rfl) | (go_at_call 42; (with_reducible refine (cK.out _ KB).mono ?_); rintro r X ⟨rfl, hb⟩; have KK := Lib.hid (KK.out.below hb); have KB := KK.out.bel; have y0 := cell_block KK.out.blk 0 _ rfl; have y1 := cell_block KK.out.blk 1 _ rfl; have y2 := cell_block KK.out.blk 2 _ rfl; have y3 := cell_block KK.out.blk 3 _ rfl; have y4 := cell_block KK.out.blk 4 _ rfl; have y5 := cell_block KK.out.blk 5 _ rfl; have y6 := cell_block KK.out.blk 6 _ rfl; have y7 := cell_block KK.out.blk 7 _ rfl; have y8 := cell_block KK.out.blk 8 _ rfl; have y9 := cell_block KK.out.blk 9 _ rfl; have y10 := cell_block KK.out.blk 10 _ rfl; have y11 := cell_block KK.out.blk 11 _ rfl; have y12 := cell_block KK.out.blk 12 _ rfl))
    go_ret
    exact ⟨rfl, KB⟩
  | true =>
    cases h1 : mayB so with
    | false =>
      have hR : itB ⟨ta, so, ⟨fo, ty, sz, ve, la, ne, no, mm, mo⟩, da, mr⟩ = false := by rw [hE, h0, h1]; rfl
      rw [hR]
      clear hR hE
      go_enter Tryd.func119, Tryd.ntmps119
      go_wp2_with (first | (go_at_call 46; (with_reducible refine (cM.out _ _ KB).mono ?_); rintro r X ⟨rfl, hb⟩; have KK := Lib.hid (KK.out.below hb); have KB := KK.out.bel; have y0 := cell_block KK.out.blk 0 _ rfl; have y1 := cell_block KK.out.blk 1 _ rfl; have y2 := cell_block KK.out.blk 2 _ rfl; have y3 := cell_block KK.out.blk 3 _ rfl; have y4 := cell_block KK.out.blk 4 _ rfl; have y5 := cell_block KK.out.blk 5 _ rfl; have y6 := cell_block KK.out.blk 6 _ rfl; have y7 := cell_block KK.out.blk 7 _ rfl; have y8 := cell_block KK.out.blk 8 _ rfl; have y9 := cell_block KK.out.blk 9 _ rfl; have y10 := cell_block KK.out.blk 10 _ rfl; have y11 := cell_block KK.out.blk 11 _ rfl; have y12 := cell_block KK.out.blk 12 _ rfl) | (go_at_call 42; (with_reducible refine (cK.out _ KB).mono ?_); rintro r X ⟨rfl, hb⟩; have KK := Lib.hid (KK.out.below hb); have KB := KK.out.bel; have y0 := cell_block KK.out.blk 0 _ rfl; have y1 := cell_block KK.out.blk 1 _ rfl; have y2 := cell_block KK.out.blk 2 _ rfl; have y3 := cell_block KK.out.blk 3 _ rfl; have y4 := cell_block KK.out.blk 4 _ rfl; have y5 := cell_block KK.out.blk 5 _ rfl; have y6 := cell_block KK.out.blk 6 _ rfl; have y7 := cell_block KK.out.blk 7 _ rfl; have y8 := cell_block KK.out.blk 8 _ rfl; have y9 := cell_block KK.out.blk 9 _ rfl; have y10 := cell_block KK.out.blk 10 _ rfl; have y11 := cell_block KK.out.blk 11 _ rfl; have y12 := cell_block KK.out.blk 12 _ rfl))
      go_ret
      exact ⟨rfl, KB⟩
    | true =>
      cases h2 : (q == 0) with
      | false =>
        have hR : itB ⟨ta, so, ⟨fo, ty, sz, ve, la, ne, no, mm, mo⟩, da, mr⟩ = false := by rw [hE, h0, h1, h2]; rfl
        rw [hR]
        clear hR hE
        go_enter Tryd.func119, Tryd.ntmps119
        go_wp2_with (first | (go_at_call 46; (with_reducible refine (cM.out _ _ KB).mono ?_); rintro r X ⟨rfl, hb⟩; have KK := Lib.hid (KK.out.below hb); have KB := KK.out.bel; have y0 := cell_block KK.out.blk 0 _ rfl; have y1 := cell_block KK.out.blk 1 _ rfl; have y2 := cell_block KK.out.blk 2 _ rfl; have y3 := cell_block KK.out.blk 3 _ rfl; have y4 := cell_block KK.out.blk 4 _ rfl; have y5 := cell_block KK.out.blk 5 _ rfl; have y6 := cell_block KK.out.blk 6 _ rfl; have y7 := cell_block KK.out.blk 7 _ rfl; have y8 := cell_block KK.out.blk 8 _ rfl; have y9 := cell_block KK.out.blk 9 _ rfl; have y10 := cell_block KK.out.blk 10 _ rfl; have y11 := cell_block KK.out.blk 11 _ rfl; have y12 := cell_block KK.out.blk 12 _ rfl) | (go_at_call 42; (with_reducible refine (cK.out _ KB).mono ?_); rintro r X ⟨rfl, hb⟩; have KK := Lib.hid (KK.out.below hb); have KB := KK.out.bel; have y0 := cell_block KK.out.blk 0 _ rfl; have y1 := cell_block KK.out.blk 1 _ rfl; have y2 := cell_block KK.out.blk 2 _ rfl; have y3 := cell_block KK.out.blk 3 _ rfl; have y4 := cell_block KK.out.blk 4 _ rfl; have y5 := cell_block KK.out.blk 5 _ rfl; have y6 := cell_block KK.out.blk 6 _ rfl; have y7 := cell_block KK.out.blk 7 _ rfl; have y8 := cell_block KK.out.blk 8 _ rfl; have y9 := cell_block KK.out.blk 9 _ rfl; have y10 := cell_block KK.out.blk 10 _ rfl; have y11 := cell_block KK.out.blk 11 _ rfl; have y12 := cell_block KK.out.blk 12 _ rfl))
        go_ret
        exact ⟨rfl, KB⟩
      | true =>
        cases h3 : decide ((da.size : Int) ≤ 4000) with
        | false =>
          have hR : itB ⟨ta, so, ⟨fo, ty, sz, ve, la, ne, no, mm, mo⟩, da, mr⟩ = false := by rw [hE, h0, h1, h2, h3]; rfl
          rw [hR]
          clear hR hE
          go_enter Tryd.func119, Tryd.ntmps119
          go_wp2_with (first | (go_at_call 46; (with_reducible refine (cM.out _ _ KB).mono ?_); rintro r X ⟨rfl, hb⟩; have KK := Lib.hid (KK.out.below hb); have KB := KK.out.bel; have y0 := cell_block KK.out.blk 0 _ rfl; have y1 := cell_block KK.out.blk 1 _ rfl; have y2 := cell_block KK.out.blk 2 _ rfl; have y3 := cell_block KK.out.blk 3 _ rfl; have y4 := cell_block KK.out.blk 4 _ rfl; have y5 := cell_block KK.out.blk 5 _ rfl; have y6 := cell_block KK.out.blk 6 _ rfl; have y7 := cell_block KK.out.blk 7 _ rfl; have y8 := cell_block KK.out.blk 8 _ rfl; have y9 := cell_block KK.out.blk 9 _ rfl; have y10 := cell_block KK.out.blk 10 _ rfl; have y11 := cell_block KK.out.blk 11 _ rfl; have y12 := cell_block KK.out.blk 12 _ rfl) | (go_at_call 42; (with_reducible refine (cK.out _ KB).mono ?_); rintro r X ⟨rfl, hb⟩; have KK := Lib.hid (KK.out.below hb); have KB := KK.out.bel; have y0 := cell_block KK.out.blk 0 _ rfl; have y1 := cell_block KK.out.blk 1 _ rfl; have y2 := cell_block KK.out.blk 2 _ rfl; have y3 := cell_block KK.out.blk 3 _ rfl; have y4 := cell_block KK.out.blk 4 _ rfl; have y5 := cell_block KK.out.blk 5 _ rfl; have y6 := cell_block KK.out.blk 6 _ rfl; have y7 := cell_block KK.out.blk 7 _ rfl; have y8 := cell_block KK.out.blk 8 _ rfl; have y9 := cell_block KK.out.blk 9 _ rfl; have y10 := cell_block KK.out.blk 10 _ rfl; have y11 := cell_block KK.out.blk 11 _ rfl; have y12 := cell_block KK.out.blk 12 _ rfl))
          go_ret
          exact ⟨rfl, KB⟩
        | true =>
          have hR : itB ⟨ta, so, ⟨fo, ty, sz, ve, la, ne, no, mm, mo⟩, da, mr⟩ = true := by rw [hE, h0, h1, h2, h3]; rfl
          rw [hR]
          clear hR hE
          go_enter Tryd.func119, Tryd.ntmps119
          go_wp2_with (first | (go_at_call 46; (with_reducible refine (cM.out _ _ KB).mono ?_); rintro r X ⟨rfl, hb⟩; have KK := Lib.hid (KK.out.below hb); have KB := KK.out.bel; have y0 := cell_block KK.out.blk 0 _ rfl; have y1 := cell_block KK.out.blk 1 _ rfl; have y2 := cell_block KK.out.blk 2 _ rfl; have y3 := cell_block KK.out.blk 3 _ rfl; have y4 := cell_block KK.out.blk 4 _ rfl; have y5 := cell_block KK.out.blk 5 _ rfl; have y6 := cell_block KK.out.blk 6 _ rfl; have y7 := cell_block KK.out.blk 7 _ rfl; have y8 := cell_block KK.out.blk 8 _ rfl; have y9 := cell_block KK.out.blk 9 _ rfl; have y10 := cell_block KK.out.blk 10 _ rfl; have y11 := cell_block KK.out.blk 11 _ rfl; have y12 := cell_block KK.out.blk 12 _ rfl) | (go_at_call 42; (with_reducible refine (cK.out _ KB).mono ?_); rintro r X ⟨rfl, hb⟩; have KK := Lib.hid (KK.out.below hb); have KB := KK.out.bel; have y0 := cell_block KK.out.blk 0 _ rfl; have y1 := cell_block KK.out.blk 1 _ rfl; have y2 := cell_block KK.out.blk 2 _ rfl; have y3 := cell_block KK.out.blk 3 _ rfl; have y4 := cell_block KK.out.blk 4 _ rfl; have y5 := cell_block KK.out.blk 5 _ rfl; have y6 := cell_block KK.out.blk 6 _ rfl; have y7 := cell_block KK.out.blk 7 _ rfl; have y8 := cell_block KK.out.blk 8 _ rfl; have y9 := cell_block KK.out.blk 9 _ rfl; have y10 := cell_block KK.out.blk 10 _ rfl; have y11 := cell_block KK.out.blk 11 _ rfl; have y12 := cell_block KK.out.blk 12 _ rfl))
          go_ret
          exact ⟨rfl, KB⟩
set_option maxHeartbeats 2000000 in
theorem refItem_any (x : It) (hm : SmallMe x.me) (w : World) : Calls Tryd.prog 123 #[.agg x.cells] w fun r w' => r = .returned (.bool (itB x)) ∧ Below w.heap.size w w' := by
  obtain ⟨ta, so, ⟨fo, ty, sz, ve, la, ne, no, mm, mo⟩, da, mr⟩ := x
  obtain ⟨s1, s2, s3, s4, s5⟩ := hm
  simp only [It.cells] at s1 s2 s3 s4 s5 ⊢
  have cM := Lib.hid (fun s X (hX : Below w.heap.size w X) => refMay_any s X)
  have cK := Lib.hid (fun X (hX : Below w.heap.size w X) => refMet_any fo ty sz ve la ne no mm mo s1 s2 s3 s4 s5 X)
  have hE : itB ⟨ta, so, ⟨fo, ty, sz, ve, la, ne, no, mm, mo⟩, da, mr⟩ = (mayB ta && (mayB so && ((chkM fo ty sz ve la ne no mm mo == 0) && decide ((da.size : Int) ≤ 4000)))) := rfl
  clear s1 s2 s3 s4 s5
  generalize chkM fo ty sz ve la ne no mm mo = q at *
  have KK := Lib.hid (Sb.start w #[.string ta, .string so, .string fo, .string ty, .int .i64 sz, .int .i64 ve, .string la, .string ne, .string no, .int .i64 mm, .int .i64 mo, .string da, .bool mr] 69)
  have KB := KK.out.bel
  cases h0 : mayB ta with
  | false =>
    have hR : itB ⟨ta, so, ⟨fo, ty, sz, ve, la, ne, no, mm, mo⟩, da, mr⟩ = false := by rw [hE, h0]; rfl
    rw [hR]
    clear hR hE
    go_enter Tryd.func123, Tryd.ntmps123
    go_wp2_with (first | (go_at_call 57; (with_reducible refine (cM.out _ _ KB).mono ?_); rintro r X ⟨rfl, hb⟩; have KK := Lib.hid (KK.out.below hb); have KB := KK.out.bel; have y0 := cell_block KK.out.blk 0 _ rfl; have y1 := cell_block KK.out.blk 1 _ rfl; have y2 := cell_block KK.out.blk 2 _ rfl; have y3 := cell_block KK.out.blk 3 _ rfl; have y4 := cell_block KK.out.blk 4 _ rfl; have y5 := cell_block KK.out.blk 5 _ rfl; have y6 := cell_block KK.out.blk 6 _ rfl; have y7 := cell_block KK.out.blk 7 _ rfl; have y8 := cell_block KK.out.blk 8 _ rfl; have y9 := cell_block KK.out.blk 9 _ rfl; have y10 := cell_block KK.out.blk 10 _ rfl; have y11 := cell_block KK.out.blk 11 _ rfl; have y12 := cell_block KK.out.blk 12 _ rfl) | (go_at_call 39; (with_reducible refine (cK.out _ KB).mono ?_); rintro r X ⟨rfl, hb⟩; have KK := Lib.hid (KK.out.below hb); have KB := KK.out.bel; have y0 := cell_block KK.out.blk 0 _ rfl; have y1 := cell_block KK.out.blk 1 _ rfl; have y2 := cell_block KK.out.blk 2 _ rfl; have y3 := cell_block KK.out.blk 3 _ rfl; have y4 := cell_block KK.out.blk 4 _ rfl; have y5 := cell_block KK.out.blk 5 _ rfl; have y6 := cell_block KK.out.blk 6 _ rfl; have y7 := cell_block KK.out.blk 7 _ rfl; have y8 := cell_block KK.out.blk 8 _ rfl; have y9 := cell_block KK.out.blk 9 _ rfl; have y10 := cell_block KK.out.blk 10 _ rfl; have y11 := cell_block KK.out.blk 11 _ rfl; have y12 := cell_block KK.out.blk 12 _ rfl))
    go_ret
    exact ⟨rfl, KB⟩
  | true =>
    cases h1 : mayB so with
    | false =>
      have hR : itB ⟨ta, so, ⟨fo, ty, sz, ve, la, ne, no, mm, mo⟩, da, mr⟩ = false := by rw [hE, h0, h1]; rfl
      rw [hR]
      clear hR hE
      go_enter Tryd.func123, Tryd.ntmps123
      go_wp2_with (first | (go_at_call 57; (with_reducible refine (cM.out _ _ KB).mono ?_); rintro r X ⟨rfl, hb⟩; have KK := Lib.hid (KK.out.below hb); have KB := KK.out.bel; have y0 := cell_block KK.out.blk 0 _ rfl; have y1 := cell_block KK.out.blk 1 _ rfl; have y2 := cell_block KK.out.blk 2 _ rfl; have y3 := cell_block KK.out.blk 3 _ rfl; have y4 := cell_block KK.out.blk 4 _ rfl; have y5 := cell_block KK.out.blk 5 _ rfl; have y6 := cell_block KK.out.blk 6 _ rfl; have y7 := cell_block KK.out.blk 7 _ rfl; have y8 := cell_block KK.out.blk 8 _ rfl; have y9 := cell_block KK.out.blk 9 _ rfl; have y10 := cell_block KK.out.blk 10 _ rfl; have y11 := cell_block KK.out.blk 11 _ rfl; have y12 := cell_block KK.out.blk 12 _ rfl) | (go_at_call 39; (with_reducible refine (cK.out _ KB).mono ?_); rintro r X ⟨rfl, hb⟩; have KK := Lib.hid (KK.out.below hb); have KB := KK.out.bel; have y0 := cell_block KK.out.blk 0 _ rfl; have y1 := cell_block KK.out.blk 1 _ rfl; have y2 := cell_block KK.out.blk 2 _ rfl; have y3 := cell_block KK.out.blk 3 _ rfl; have y4 := cell_block KK.out.blk 4 _ rfl; have y5 := cell_block KK.out.blk 5 _ rfl; have y6 := cell_block KK.out.blk 6 _ rfl; have y7 := cell_block KK.out.blk 7 _ rfl; have y8 := cell_block KK.out.blk 8 _ rfl; have y9 := cell_block KK.out.blk 9 _ rfl; have y10 := cell_block KK.out.blk 10 _ rfl; have y11 := cell_block KK.out.blk 11 _ rfl; have y12 := cell_block KK.out.blk 12 _ rfl))
      go_ret
      exact ⟨rfl, KB⟩
    | true =>
      cases h2 : (q == 0) with
      | false =>
        have hR : itB ⟨ta, so, ⟨fo, ty, sz, ve, la, ne, no, mm, mo⟩, da, mr⟩ = false := by rw [hE, h0, h1, h2]; rfl
        rw [hR]
        clear hR hE
        go_enter Tryd.func123, Tryd.ntmps123
        go_wp2_with (first | (go_at_call 57; (with_reducible refine (cM.out _ _ KB).mono ?_); rintro r X ⟨rfl, hb⟩; have KK := Lib.hid (KK.out.below hb); have KB := KK.out.bel; have y0 := cell_block KK.out.blk 0 _ rfl; have y1 := cell_block KK.out.blk 1 _ rfl; have y2 := cell_block KK.out.blk 2 _ rfl; have y3 := cell_block KK.out.blk 3 _ rfl; have y4 := cell_block KK.out.blk 4 _ rfl; have y5 := cell_block KK.out.blk 5 _ rfl; have y6 := cell_block KK.out.blk 6 _ rfl; have y7 := cell_block KK.out.blk 7 _ rfl; have y8 := cell_block KK.out.blk 8 _ rfl; have y9 := cell_block KK.out.blk 9 _ rfl; have y10 := cell_block KK.out.blk 10 _ rfl; have y11 := cell_block KK.out.blk 11 _ rfl; have y12 := cell_block KK.out.blk 12 _ rfl) | (go_at_call 39; (with_reducible refine (cK.out _ KB).mono ?_); rintro r X ⟨rfl, hb⟩; have KK := Lib.hid (KK.out.below hb); have KB := KK.out.bel; have y0 := cell_block KK.out.blk 0 _ rfl; have y1 := cell_block KK.out.blk 1 _ rfl; have y2 := cell_block KK.out.blk 2 _ rfl; have y3 := cell_block KK.out.blk 3 _ rfl; have y4 := cell_block KK.out.blk 4 _ rfl; have y5 := cell_block KK.out.blk 5 _ rfl; have y6 := cell_block KK.out.blk 6 _ rfl; have y7 := cell_block KK.out.blk 7 _ rfl; have y8 := cell_block KK.out.blk 8 _ rfl; have y9 := cell_block KK.out.blk 9 _ rfl; have y10 := cell_block KK.out.blk 10 _ rfl; have y11 := cell_block KK.out.blk 11 _ rfl; have y12 := cell_block KK.out.blk 12 _ rfl))
        go_ret
        exact ⟨rfl, KB⟩
      | true =>
        cases h3 : decide ((da.size : Int) ≤ 4000) with
        | false =>
          have hR : itB ⟨ta, so, ⟨fo, ty, sz, ve, la, ne, no, mm, mo⟩, da, mr⟩ = false := by rw [hE, h0, h1, h2, h3]; rfl
          rw [hR]
          clear hR hE
          go_enter Tryd.func123, Tryd.ntmps123
          go_wp2_with (first | (go_at_call 57; (with_reducible refine (cM.out _ _ KB).mono ?_); rintro r X ⟨rfl, hb⟩; have KK := Lib.hid (KK.out.below hb); have KB := KK.out.bel; have y0 := cell_block KK.out.blk 0 _ rfl; have y1 := cell_block KK.out.blk 1 _ rfl; have y2 := cell_block KK.out.blk 2 _ rfl; have y3 := cell_block KK.out.blk 3 _ rfl; have y4 := cell_block KK.out.blk 4 _ rfl; have y5 := cell_block KK.out.blk 5 _ rfl; have y6 := cell_block KK.out.blk 6 _ rfl; have y7 := cell_block KK.out.blk 7 _ rfl; have y8 := cell_block KK.out.blk 8 _ rfl; have y9 := cell_block KK.out.blk 9 _ rfl; have y10 := cell_block KK.out.blk 10 _ rfl; have y11 := cell_block KK.out.blk 11 _ rfl; have y12 := cell_block KK.out.blk 12 _ rfl) | (go_at_call 39; (with_reducible refine (cK.out _ KB).mono ?_); rintro r X ⟨rfl, hb⟩; have KK := Lib.hid (KK.out.below hb); have KB := KK.out.bel; have y0 := cell_block KK.out.blk 0 _ rfl; have y1 := cell_block KK.out.blk 1 _ rfl; have y2 := cell_block KK.out.blk 2 _ rfl; have y3 := cell_block KK.out.blk 3 _ rfl; have y4 := cell_block KK.out.blk 4 _ rfl; have y5 := cell_block KK.out.blk 5 _ rfl; have y6 := cell_block KK.out.blk 6 _ rfl; have y7 := cell_block KK.out.blk 7 _ rfl; have y8 := cell_block KK.out.blk 8 _ rfl; have y9 := cell_block KK.out.blk 9 _ rfl; have y10 := cell_block KK.out.blk 10 _ rfl; have y11 := cell_block KK.out.blk 11 _ rfl; have y12 := cell_block KK.out.blk 12 _ rfl))
          go_ret
          exact ⟨rfl, KB⟩
        | true =>
          have hR : itB ⟨ta, so, ⟨fo, ty, sz, ve, la, ne, no, mm, mo⟩, da, mr⟩ = true := by rw [hE, h0, h1, h2, h3]; rfl
          rw [hR]
          clear hR hE
          go_enter Tryd.func123, Tryd.ntmps123
          go_wp2_with (first | (go_at_call 57; (with_reducible refine (cM.out _ _ KB).mono ?_); rintro r X ⟨rfl, hb⟩; have KK := Lib.hid (KK.out.below hb); have KB := KK.out.bel; have y0 := cell_block KK.out.blk 0 _ rfl; have y1 := cell_block KK.out.blk 1 _ rfl; have y2 := cell_block KK.out.blk 2 _ rfl; have y3 := cell_block KK.out.blk 3 _ rfl; have y4 := cell_block KK.out.blk 4 _ rfl; have y5 := cell_block KK.out.blk 5 _ rfl; have y6 := cell_block KK.out.blk 6 _ rfl; have y7 := cell_block KK.out.blk 7 _ rfl; have y8 := cell_block KK.out.blk 8 _ rfl; have y9 := cell_block KK.out.blk 9 _ rfl; have y10 := cell_block KK.out.blk 10 _ rfl; have y11 := cell_block KK.out.blk 11 _ rfl; have y12 := cell_block KK.out.blk 12 _ rfl) | (go_at_call 39; (with_reducible refine (cK.out _ KB).mono ?_); rintro r X ⟨rfl, hb⟩; have KK := Lib.hid (KK.out.below hb); have KB := KK.out.bel; have y0 := cell_block KK.out.blk 0 _ rfl; have y1 := cell_block KK.out.blk 1 _ rfl; have y2 := cell_block KK.out.blk 2 _ rfl; have y3 := cell_block KK.out.blk 3 _ rfl; have y4 := cell_block KK.out.blk 4 _ rfl; have y5 := cell_block KK.out.blk 5 _ rfl; have y6 := cell_block KK.out.blk 6 _ rfl; have y7 := cell_block KK.out.blk 7 _ rfl; have y8 := cell_block KK.out.blk 8 _ rfl; have y9 := cell_block KK.out.blk 9 _ rfl; have y10 := cell_block KK.out.blk 10 _ rfl; have y11 := cell_block KK.out.blk 11 _ rfl; have y12 := cell_block KK.out.blk 12 _ rfl))
          go_ret
          exact ⟨rfl, KB⟩
end Go.Proofs.YtgechifbbhipaaaDoor
