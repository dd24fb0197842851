/- tree: what is wrong with an element, the reference's Check. No condition. -/
import Derived.Test.YtgechifbbhipaaaDoorTrZ
set_option linter.unusedVariables false
set_option linter.unusedSimpArgs false
namespace Go.Proofs.YtgechifbbhipaaaDoor
open Go.RowKit

theorem firstC_append (A B : List (Nat × Tr)) : firstC (A ++ B) = if firstC A = 0 then firstC B else firstC A := by
  induction A with
  | nil => show firstC B = if (0 : Int) = 0 then firstC B else 0; rw [if_pos rfl]
  | cons x l ih =>
    rw [List.cons_append, firstC, firstC, ih]
    by_cases h : chkT x.2 = 0
    · rw [if_pos h, if_pos h]
    · rw [if_neg h, if_neg h, if_neg h]
theorem firstC_at {L : List (Nat × Tr)} {i : Nat} {v : Int} (hi : i < L.length) (h0 : firstC (L.take i) = 0) (hv : chkT L[i].2 = v) (hn : v ≠ 0) : firstC L = v := by
  have h2 : L = L.take i ++ L[i] :: L.drop (i + 1) := by rw [← List.drop_eq_getElem_cons hi, List.take_append_drop]
  have h3 : firstC L = firstC (L.take i ++ L[i] :: L.drop (i + 1)) := congrArg _ h2
  rw [h3, firstC_append, if_pos h0, firstC, if_neg (by rw [hv]; exact hn), hv]
theorem firstC_next {L : List (Nat × Tr)} {i : Nat} (hi : i < L.length) (h0 : firstC (L.take i) = 0) (hv : chkT L[i].2 = 0) : firstC (L.take (i + 1)) = 0 := by
  rw [List.take_succ_eq_append_getElem hi, firstC_append, if_pos h0, firstC, if_pos hv]; rfl
theorem deepC_le (L : List (Nat × Tr)) (m : Nat) : L.foldl (fun m p => max m p.1) m ≤ 12 ↔ m ≤ 12 ∧ ∀ p ∈ L, p.1 ≤ 12 := by
  induction L generalizing m with
  | nil => simp
  | cons x l ih =>
    rw [List.foldl_cons, ih]
    constructor
    · rintro ⟨h1, h2⟩
      refine ⟨by omega, fun p hp => ?_⟩
      rcases List.mem_cons.1 hp with rfl | hp
      · omega
      · exact h2 p hp
    · rintro ⟨h1, h2⟩
      have := h2 x (List.mem_cons_self)
      exact ⟨by omega, fun p hp => h2 p (List.mem_cons_of_mem _ hp)⟩
theorem deepC_no {L : List (Nat × Tr)} (h : ∀ j (hj : j < L.length), ¬ 12 < L[j].1) : ¬ 12 < deepC L := by
  have : deepC L ≤ 12 := (deepC_le L 0).2 ⟨by omega, fun p hp => by
    obtain ⟨j, hj, rfl⟩ := List.getElem_of_mem hp
    have := h j hj; omega⟩
  omega
theorem deepC_yes {L : List (Nat × Tr)} {j : Nat} (hj : j < L.length) (h : 12 < L[j].1) : 12 < deepC L := by
  apply Decidable.byContradiction
  intro hn
  have := ((deepC_le L 0).1 (by unfold deepC at hn; omega)).2 _ (List.getElem_mem hj)
  omega

set_option maxRecDepth 100000 in
set_option maxHeartbeats 8000000 in
theorem refCheck_any (e : Tr) (v : Value) (w : World) (hv : AtT w w.heap.size e v) : Calls Tryd.prog 34 #[v] w fun r w' => r = .returned (.int .i64 (chkA e)) ∧ Below w.heap.size w w' := by
  obtain ⟨s1, s2, s3, a, c, rfl, hk⟩ := hv.parts
  have hal : Below w.heap.size w (w.alloc (.cells #[.int .i64 e.page, .string e.name, .string e.text, .bool e.opq, .slice a e.kids.length c] 46)) := (Below.refl _ w).alloc (Nat.le_refl _) _
  have cA := all_any 5000 13 (by decide) (by decide) e _ _ (AtT.mono hal.size _ _ (AtT.below hal _ _ hv))
  have HLen : Hid (((preT 13 1 e).take 5000).length ≤ 5000) := by unfold Hid; rw [List.length_take]; omega
  have HE : Hid (chkA e = if 12 < deepC ((preT 13 1 e).take 5000) then 9 else if 2000 < wgt e then 4 else firstC ((preT 13 1 e).take 5000)) := rfl
  generalize (preT 13 1 e).take 5000 = L at *
  have cW := Lib.hid (fun (X : World) (hX : Below w.heap.size w X) => refWeight_any e _ X (AtT.mono hX.size _ _ (AtT.below hX _ _ hv)))
  have cA := Lib.hid cA
  have HAl := Lib.hid hal
  generalize chkA e = R at *
  generalize hwg : wgt e = wg at *
  clear hv hk hal hwg
  go_enter Tryd.func34, Tryd.ntmps34
  go_wp2_with (go_at_call 84; refine cA.out.mono ?_; rintro r w5 ⟨⟨l, rfl, a', c', xs, rfl, ho, hp⟩, hb5⟩)
  have HO := Lib.hid ho
  have HP := Lib.hid hp
  have HB := Lib.hid (HAl.out.trans (hb5.mono HAl.out.size))
  have hbx : Hid (w5.rangeAt w.heap.size 0 [.int .i64 e.page, .string e.name, .string e.text, .bool e.opq, .slice a e.kids.length c]) := fun j v hv => by
    rw [hb5.cell (p := ⟨w.heap.size, 0 + j, none⟩) (by show w.heap.size < _; simp), World.cell?_alloc_at _ _ _ _ rfl]
    simpa using hv
  clear ho hp hb5
  have hL5 : L.length ≤ 5000 := HLen.out
  go_loopw [4] (fun iv wr => ∃ (i : Nat), i ≤ L.length ∧ iv = .int .i64 (i : Int) ∧ Hid (∀ j (hj : j < L.length), j < i → ¬ 12 < L[j].1) ∧ w5 = wr) (fun iv _ => L.length - (intOf iv).toNat)
  case atStart => exact ⟨0, Nat.zero_le _, rfl, fun _ _ h => absurd h (Nat.not_lt_zero _), rfl⟩
  case round =>
    obtain ⟨i, hi, rfl, HJ, rfl⟩ := hrel
    by_cases hlt : i < L.length
    · have j3 : (i : Int) < (L.length : Int) := by omega
      have d3 : decide (i < L.length) = true := by simp; omega
      have hw1 : wrap64 ((i : Int) + 1) = (i : Int) + 1 := by unfold wrap64; omega
      obtain ⟨g, a2, c2, rfl, hrg, hat⟩ := HP.out.at HO.out i hlt
      have y0 : w5.cell? ⟨g, i * 6, none⟩ = _ := hrg 0 _ rfl
      clear hrg hat
      by_cases hd : 12 < L[i].1
      · have i12 : (12 : Int) < (L[i].1 : Int) := by omega
        have HR : Hid (R = 9) := by unfold Hid; rw [HE.out, if_pos (deepC_yes hlt hd)]
        go_wp2_with fail
        go_ret
        exact ⟨by rw [HR.out]; rfl, HB.out⟩
      · have i12 : ¬ (12 : Int) < (L[i].1 : Int) := by omega
        have HJ2 : Hid (∀ j (hj : j < L.length), j < i + 1 → ¬ 12 < L[j].1) := fun j hj h => by
          by_cases e : j = i
          · subst e; exact hd
          · exact HJ.out j hj (by omega)
        go_wp2_with fail
        go_roundw
        case rel => exact ⟨i + 1, by omega, by go_num, HJ2, trivial⟩
        case measure => simp [intOf]; omega
    · have j3 : ¬ (i : Int) < (L.length : Int) := by omega
      have d3 : decide (i < L.length) = false := by simp; omega
      have HE2 : Hid (R = if 2000 < wg then 4 else firstC L) := by unfold Hid; rw [HE.out, if_neg (deepC_no (fun j hj => HJ.out j hj (by omega)))]
      obtain ⟨x0, x1, x2, x3, x4⟩ := elem_cells hbx.out
      rw [Nat.zero_add] at x1 x2 x3 x4
      clear HJ hlt hi j3 hL5
      have cW2 := Lib.hid (cW.out w5 HB.out)
      by_cases hw2 : 2000 < wg
      · have iw2 : (2000 : Int) < (wg : Int) := Int.ofNat_lt.2 hw2
        have HR : Hid (R = 4) := by unfold Hid; rw [HE2.out, if_pos hw2]
        clear hw2
        have j3 : ¬ (i : Int) < (L.length : Int) := by simpa using d3
        go_wp2_with (go_at_call 99; refine cW2.out.mono ?_; rintro r w6 ⟨rfl, hb6⟩)
        go_ret
        exact ⟨by rw [HR.out]; rfl, HB.out.trans (hb6.mono HB.out.size)⟩
      · have iw2 : ¬ (2000 : Int) < (wg : Int) := fun h => hw2 (Int.ofNat_lt.1 h)
        have HR : Hid (R = firstC L) := by unfold Hid; rw [HE2.out, if_neg hw2]
        clear hw2
        have j3 : ¬ (i : Int) < (L.length : Int) := by simpa using d3
        go_wp2_with (go_at_call 99; refine cW2.out.mono ?_; rintro r w6 ⟨rfl, hb6⟩)
        have HB6 := Lib.hid (HB.out.trans (hb6.mono HB.out.size))
        have HO6 : Hid (w6.ownsRow (w.alloc (.cells #[.int .i64 e.page, .string e.name, .string e.text, .bool e.opq, .slice a e.kids.length c] 46)).heap.size 106 6 (.slice a' L.length c') L.length xs) := owns_below HO.out hb6 (fun k hk => (HO.out.lt k hk).2)
        have HM5 : Hid ((w.alloc (.cells #[.int .i64 e.page, .string e.name, .string e.text, .bool e.opq, .slice a e.kids.length c] 46)).heap.size ≤ w5.heap.size) := by
          unfold Hid
          have h9 := World.block_lt_of_cell? _ _ x0
          rw [World.size_alloc]; exact h9
        have HM6 : Hid ((w.alloc (.cells #[.int .i64 e.page, .string e.name, .string e.text, .bool e.opq, .slice a e.kids.length c] 46)).heap.size ≤ w6.heap.size) := Nat.le_trans HM5.out hb6.size
        have HP6 : Hid (PrL w6 (w.alloc (.cells #[.int .i64 e.page, .string e.name, .string e.text, .bool e.opq, .slice a e.kids.length c] 46)).heap.size L xs) := HP.out.below (hb6.mono HM5.out)
        clear hb6 HO HP HB hbx x0 x1 x2 x3 x4 cW cW2 cA HE HE2 j3 d3 iw2
        generalize (w.alloc (.cells #[.int .i64 e.page, .string e.name, .string e.text, .bool e.opq, .slice a e.kids.length c] 46)).heap.size = M at *
        go_loopw [5] (fun iv wr => ∃ (k : Nat), k ≤ L.length ∧ iv = .int .i64 (k : Int) ∧ Hid (firstC (L.take k) = 0) ∧ Hid (Below w6.heap.size w6 wr)) (fun iv _ => L.length - (intOf iv).toNat)
        case atStart => exact ⟨0, Nat.zero_le _, rfl, rfl, Below.refl _ _⟩
        case round =>
          obtain ⟨k, hk, rfl, HF, HW⟩ := hrel
          by_cases hlt : k < L.length
          · have HOw := Lib.hid (owns_below HO6.out HW.out (fun k hk => (HO6.out.lt k hk).2))
            have HMw : Hid (M ≤ w6.heap.size) := HM6.out
            have HPw := Lib.hid (HP6.out.below (HW.out.mono HMw.out))
            have hL5 : L.length ≤ 5000 := HLen.out
            have j3 : (k : Int) < (L.length : Int) := by omega
            have d3 : decide (k < L.length) = true := by simp; omega
            have hw1 : wrap64 ((k : Int) + 1) = (k : Int) + 1 := by unfold wrap64; omega
            have HK1 : Hid (k + 1 ≤ L.length) := hlt
            have HMs : Hid (L.length - (intOf (.int .i64 ((k : Int) + 1))).toNat < L.length - (intOf (.int .i64 (k : Int))).toNat) := by unfold Hid; simp [intOf]; omega
            obtain ⟨g, a2, c2, rfl, hrg, hat⟩ := HPw.out.at HOw.out k hlt
            have HHit : Hid (∀ v, chkT L[k].2 = v → v ≠ 0 → R = v) := fun v h1 h2 => by rw [HR.out]; exact firstC_at hlt HF.out h1 h2
            have HNxt : Hid (chkT L[k].2 = 0 → firstC (L.take (k + 1)) = 0) := fun h1 => firstC_next hlt HF.out h1
            have y1 : wr.cell? ⟨g, k * 6 + 1, none⟩ = _ := hrg 1 _ rfl
            have y2 : wr.cell? ⟨g, k * 6 + 1 + 1, none⟩ = _ := hrg 2 _ rfl
            have y3 : wr.cell? ⟨g, k * 6 + 1 + 2, none⟩ = _ := hrg 3 _ rfl
            have y4 : wr.cell? ⟨g, k * 6 + 1 + 3, none⟩ = _ := hrg 4 _ rfl
            have y5 : wr.cell? ⟨g, k * 6 + 1 + 4, none⟩ = _ := hrg 5 _ rfl
            obtain ⟨t1, t2, t3, _⟩ := hat.parts
            have hbn : Hid (Below wr.heap.size wr (wr.alloc (.cells #[.int .i64 L[k].2.page, .string L[k].2.name, .string L[k].2.text, .bool L[k].2.opq, .slice a2 L[k].2.kids.length c2] 46))) := (Below.refl _ wr).alloc (Nat.le_refl _) _
            have HBn : Hid (Below w6.heap.size w6 (wr.alloc (.cells #[.int .i64 L[k].2.page, .string L[k].2.name, .string L[k].2.text, .bool L[k].2.opq, .slice a2 L[k].2.kids.length c2] 46))) := HW.out.trans (hbn.out.mono HW.out.size)
            clear hrg hat HOw HPw HO6 HP6 HF HW HR hL5
            unfold chkT at HHit HNxt
            generalize L[k].2.page = p at *
            generalize L[k].2.name = nm at *
            generalize L[k].2.text = tx at *
            generalize L[k].2.opq = oq at *
            generalize L[k].2.kids.length = n at *
            have cN := Lib.hid (fun w => refName_any nm w)
            have HC : Hid (chkV p nm tx oq n = if p < 0 ∨ 3 ≤ p then 5 else if nameB nm = false then 14 else if 200 < n then 4 else if 0 < n ∧ tx.size ≠ 0 then 7 else if 4000 < tx.size then 8 else if (oq = true ∧ tx.size = 0) ∨ (oq = false ∧ shownB tx = false) then 3 else 0) := rfl
            generalize chkV p nm tx oq n = V at *
            by_cases h1 : p < 0
            · have HV := Lib.hid (HC.out.trans (if_pos (.inl h1)))
              have HR := Lib.hid (HHit.out 5 HV.out (by decide))
              clear HHit HNxt HV
              go_wp2_with fail
              go_ret
              exact ⟨by rw [HR.out]; rfl, HB6.out.trans (HBn.out.mono HB6.out.size)⟩
            by_cases h2 : 3 ≤ p
            · have HV := Lib.hid (HC.out.trans (if_pos (.inr h2)))
              have h2p : 2 < p := by omega
              have HR := Lib.hid (HHit.out 5 HV.out (by decide))
              clear HHit HNxt HV
              go_wp2_with fail
              go_ret
              exact ⟨by rw [HR.out]; rfl, HB6.out.trans (HBn.out.mono HB6.out.size)⟩
            have h2n : ¬ 2 < p := by omega
            have HC2 := Lib.hid (HC.out.trans (if_neg (by omega)))
            clear HC h2
            cases hn : nameB nm with
            | false =>
              have HV := Lib.hid (HC2.out.trans (if_pos hn))
              rw [hn] at cN
              clear HC2 hn
              have HR := Lib.hid (HHit.out 14 HV.out (by decide))
              clear HHit HNxt HV
              go_wp2_with (go_at_call 100; refine (cN.out _).mono ?_; rintro r w7 ⟨rfl, rfl⟩)
              go_ret
              exact ⟨by rw [HR.out]; rfl, HB6.out.trans (HBn.out.mono HB6.out.size)⟩
            | true =>
              have HC3 := Lib.hid (HC2.out.trans (if_neg (by rw [hn]; simp)))
              rw [hn] at cN
              clear HC2 hn
              by_cases h3 : 200 < n
              · have HV := Lib.hid (HC3.out.trans (if_pos h3))
                have i3 : (200 : Int) < n := by omega
                have HR := Lib.hid (HHit.out 4 HV.out (by decide))
                clear HHit HNxt HV
                go_wp2_with (go_at_call 100; refine (cN.out _).mono ?_; rintro r w7 ⟨rfl, rfl⟩)
                go_ret
                exact ⟨by rw [HR.out]; rfl, HB6.out.trans (HBn.out.mono HB6.out.size)⟩
              have i3 : ¬ (200 : Int) < n := by omega
              have HC4 := Lib.hid (HC3.out.trans (if_neg h3))
              clear HC3
              by_cases h4 : 0 < n ∧ tx.size ≠ 0
              · have HV := Lib.hid (HC4.out.trans (if_pos h4))
                have i4 : (0 : Int) < n := by omega
                have he := not_empty tx h4.2
                have HR := Lib.hid (HHit.out 7 HV.out (by decide))
                clear HHit HNxt HV
                go_wp2_with (go_at_call 100; refine (cN.out _).mono ?_; rintro r w7 ⟨rfl, rfl⟩)
                go_ret
                exact ⟨by rw [HR.out]; rfl, HB6.out.trans (HBn.out.mono HB6.out.size)⟩
              have HC5 := Lib.hid (HC4.out.trans (if_neg h4))
              clear HC4
              by_cases hn0 : n = 0
              · have i4 : ¬ (0 : Int) < (n : Int) := by omega
                have d4 : decide (0 < n) = false := by simp; omega
                clear hn0 h4
                by_cases h5 : 4000 < tx.size
                · have HV := Lib.hid (HC5.out.trans (if_pos h5))
                  have i5 : (4000 : Int) < tx.size := by omega
                  have HR := Lib.hid (HHit.out 8 HV.out (by decide))
                  clear HHit HNxt HV
                  go_wp2_with (go_at_call 100; refine (cN.out _).mono ?_; rintro r w7 ⟨rfl, rfl⟩)
                  go_ret
                  exact ⟨by rw [HR.out]; rfl, HB6.out.trans (HBn.out.mono HB6.out.size)⟩
                have i5 : ¬ (4000 : Int) < tx.size := by omega
                have HC6 := Lib.hid (HC5.out.trans (if_neg h5))
                clear HC5
                have cS := Lib.hid (fun w => refShown_any tx (by omega) w)
                cases oq with
                | true =>
                  by_cases h6 : tx.size = 0
                  · have HV := Lib.hid (HC6.out.trans (if_pos (.inl ⟨rfl, h6⟩)))
                    have he := emptyB tx h6
                    have HR := Lib.hid (HHit.out 3 HV.out (by decide))
                    clear HHit HNxt HV
                    go_wp2_with (go_at_call 100; refine (cN.out _).mono ?_; rintro r w7 ⟨rfl, rfl⟩)
                    go_ret
                    exact ⟨by rw [HR.out]; rfl, HB6.out.trans (HBn.out.mono HB6.out.size)⟩
                  · have HV := Lib.hid (HC6.out.trans (if_neg (by simp [h6])))
                    have he := not_empty tx h6
                    have HF2 := Lib.hid (HNxt.out HV.out)
                    clear HHit HNxt HV
                    go_wp2_with (go_at_call 100; refine (cN.out _).mono ?_; rintro r w7 ⟨rfl, rfl⟩)
                    go_roundw
                    case rel => exact ⟨k + 1, HK1.out, by go_num, HF2, HBn⟩
                    case measure => (rw [hw1]; exact HMs.out)
                | false =>
                  cases hsh : shownB tx with
                  | false =>
                    have HV := Lib.hid (HC6.out.trans (if_pos (.inr ⟨rfl, hsh⟩)))
                    rw [hsh] at cS
                    clear HC6 hsh
                    have HR := Lib.hid (HHit.out 3 HV.out (by decide))
                    clear HHit HNxt HV
                    go_wp2_with (first | (go_at_call 100; refine (cN.out _).mono ?_; rintro r w7 ⟨rfl, rfl⟩) | (go_at_call 101; refine (cS.out _).mono ?_; rintro r w8 ⟨rfl, hb8⟩))
                    go_ret
                    exact ⟨by rw [HR.out]; rfl, (HB6.out.trans (HBn.out.mono HB6.out.size)).trans (hb8.mono (Nat.le_trans HB6.out.size HBn.out.size))⟩
                  | true =>
                    have HV := Lib.hid (HC6.out.trans (if_neg (by rw [hsh]; simp)))
                    rw [hsh] at cS
                    clear HC6 hsh
                    have HF2 := Lib.hid (HNxt.out HV.out)
                    clear HHit HNxt HV
                    go_wp2_with (first | (go_at_call 100; refine (cN.out _).mono ?_; rintro r w7 ⟨rfl, rfl⟩) | (go_at_call 101; refine (cS.out _).mono ?_; rintro r w8 ⟨rfl, hb8⟩))
                    go_roundw
                    case rel => exact ⟨k + 1, HK1.out, by go_num, HF2, HBn.out.trans (hb8.mono HBn.out.size)⟩
                    case measure => (rw [hw1]; exact HMs.out)
              · have i4 : (0 : Int) < (n : Int) := by omega
                have h60 : tx.size = 0 := by omega
                have he0 := emptyB tx h60
                clear hn0 h4
                have h5 : ¬ 4000 < tx.size := by omega
                have i5 : ¬ (4000 : Int) < tx.size := by omega
                have HC6 := Lib.hid (HC5.out.trans (if_neg h5))
                clear HC5
                have cS := Lib.hid (fun w => refShown_any tx (by omega) w)
                cases oq with
                | true =>
                  have HV := Lib.hid (HC6.out.trans (if_pos (.inl ⟨rfl, h60⟩)))
                  have HR := Lib.hid (HHit.out 3 HV.out (by decide))
                  clear HHit HNxt HV
                  go_wp2_with (go_at_call 100; refine (cN.out _).mono ?_; rintro r w7 ⟨rfl, rfl⟩)
                  go_ret
                  exact ⟨by rw [HR.out]; rfl, HB6.out.trans (HBn.out.mono HB6.out.size)⟩
                | false =>
                  cases hsh : shownB tx with
                  | false =>
                    have HV := Lib.hid (HC6.out.trans (if_pos (.inr ⟨rfl, hsh⟩)))
                    rw [hsh] at cS
                    clear HC6 hsh
                    have HR := Lib.hid (HHit.out 3 HV.out (by decide))
                    clear HHit HNxt HV
                    go_wp2_with (first | (go_at_call 100; refine (cN.out _).mono ?_; rintro r w7 ⟨rfl, rfl⟩) | (go_at_call 101; refine (cS.out _).mono ?_; rintro r w8 ⟨rfl, hb8⟩))
                    go_ret
                    exact ⟨by rw [HR.out]; rfl, (HB6.out.trans (HBn.out.mono HB6.out.size)).trans (hb8.mono (Nat.le_trans HB6.out.size HBn.out.size))⟩
                  | true =>
                    have HV := Lib.hid (HC6.out.trans (if_neg (by rw [hsh]; simp)))
                    rw [hsh] at cS
                    clear HC6 hsh
                    have HF2 := Lib.hid (HNxt.out HV.out)
                    clear HHit HNxt HV
                    go_wp2_with (first | (go_at_call 100; refine (cN.out _).mono ?_; rintro r w7 ⟨rfl, rfl⟩) | (go_at_call 101; refine (cS.out _).mono ?_; rintro r w8 ⟨rfl, hb8⟩))
                    go_roundw
                    case rel => exact ⟨k + 1, HK1.out, by go_num, HF2, HBn.out.trans (hb8.mono HBn.out.size)⟩
                    case measure => (rw [hw1]; exact HMs.out)
          · have j3 : ¬ (k : Int) < (L.length : Int) := by omega
            have d3 : decide (k < L.length) = false := by simp; omega
            have HR0 : Hid (R = 0) := by
              have h1 := HF.out
              rw [List.take_of_length_le (by omega)] at h1
              unfold Hid; rw [HR.out, h1]
            go_wp2_with fail
            go_ret
            exact ⟨by rw [HR0.out]; rfl, HB6.out.trans (HW.out.mono HB6.out.size)⟩
end Go.Proofs.YtgechifbbhipaaaDoor
