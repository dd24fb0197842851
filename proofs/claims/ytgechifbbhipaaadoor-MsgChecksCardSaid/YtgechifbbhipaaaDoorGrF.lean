/- grammar: kids held against a rule's words, the reference's. No condition but that the words are words. -/
import Derived.Test.YtgechifbbhipaaaDoorGrT
import Derived.Test.YtgechifbbhipaaaDoorTrM
set_option linter.unusedVariables false
set_option linter.unusedSimpArgs false
namespace Go.Proofs.YtgechifbbhipaaaDoor
open Go.RowKit

def manyB (w : List UInt8) : Bool := w.getLast? == some 42 || w.getLast? == some 43
theorem takeWhile_len {α : Type} (q : α → Bool) : ∀ (l : List α) (j : Nat), (∀ i (h : i < l.length), i < j → q l[i] = true) → j ≤ l.length → (j = l.length ∨ ∃ h : j < l.length, q l[j] = false) → (l.takeWhile q).length = j
  | [], j, _, hj, _ => by simp at hj; subst hj; rfl
  | a :: l, j, h1, hj, h2 => by
    cases j with
    | zero =>
      rcases h2 with h2 | ⟨h, h2⟩
      · simp at h2
      · have h2 : q a = false := h2
        simp [List.takeWhile, h2]
    | succ j =>
      have ha : q a = true := h1 0 (by simp) (by omega)
      rw [List.takeWhile_cons_of_pos ha, List.length_cons, takeWhile_len q l j (fun i h hi => h1 (i + 1) (by simpa using h) (by omega)) (by simpa using hj) (by
        rcases h2 with h2 | ⟨h, h2⟩
        · exact .inl (by simpa using h2)
        · exact .inr ⟨by simpa using h, h2⟩)]
/-- how many kids a word takes -/
theorem takeW_of {pg : Int} {w : List UInt8} {ks : List Tr} {k0 j : Nat} (ht : ∀ i (h : k0 + i < ks.length), i < j → takesB pg (namesW w) ks[k0 + i] = true) (hj : k0 + j ≤ ks.length)
    (he : k0 + j = ks.length ∨ (∃ h : k0 + j < ks.length, takesB pg (namesW w) ks[k0 + j] = false) ∨ (manyB w = false ∧ j = 1)) (hm : manyB w = false → j ≤ 1) : takeW pg w (ks.drop k0) = j := by
  unfold takeW
  by_cases hw : manyB w = true
  · have hw2 : w.getLast? = some 42 ∨ w.getLast? = some 43 := by
      unfold manyB at hw; simpa using hw
    rw [if_pos hw2]
    refine takeWhile_len _ _ j (fun i h hi => ?_) (by rw [List.length_drop]; omega) ?_
    · rw [List.getElem_drop]; exact ht i (by rw [List.length_drop] at h; omega) hi
    · rcases he with he | ⟨h, he⟩ | ⟨h, _⟩
      · exact .inl (by rw [List.length_drop]; omega)
      · exact .inr ⟨by rw [List.length_drop]; omega, by rw [List.getElem_drop]; exact he⟩
      · rw [hw] at h; cases h
  · have hw' : manyB w = false := by simpa using hw
    have hw2 : ¬ (w.getLast? = some 42 ∨ w.getLast? = some 43) := by
      unfold manyB at hw'; simpa using hw'
    rw [if_neg hw2]
    have hj1 := hm hw'
    by_cases hk : k0 < ks.length
    · have hd : ks.drop k0 = ks[k0] :: ks.drop (k0 + 1) := List.drop_eq_getElem_cons hk
      rw [hd]
      simp only []
      rcases (by omega : j = 0 ∨ j = 1) with rfl | rfl
      · rcases he with he | ⟨h, he⟩ | ⟨_, he⟩
        · omega
        · have he : takesB pg (namesW w) ks[k0] = false := he
          rw [he]; rfl
        · omega
      · have := ht 0 hk (by omega)
        have : takesB pg (namesW w) ks[k0] = true := this
        rw [this]; rfl
    · have hd : ks.drop k0 = [] := List.drop_of_length_le (by omega)
      rw [hd]
      show 0 = j
      omega
/-- what is left to be held -/
theorem fitsW_text {pg : Int} {ws : List (List UInt8)} {ks : List Tr} {i k : Nat} (hi : i < ws.length) (h : ws[i] = textW) : fitsW pg (ws.drop i) (ks.drop k) = fitsW pg (ws.drop (i + 1)) (ks.drop k) := by
  rw [List.drop_eq_getElem_cons hi, fitsW, if_pos h]
theorem fitsW_no {pg : Int} {ws : List (List UInt8)} {ks : List Tr} {i k : Nat} (hi : i < ws.length) (h : ws[i] ≠ textW) (h0 : takeW pg ws[i] (ks.drop k) = 0) (h1 : ws[i].getLast? ≠ some 63) (h2 : ws[i].getLast? ≠ some 42) : fitsW pg (ws.drop i) (ks.drop k) = false := by
  rw [List.drop_eq_getElem_cons hi, fitsW, if_neg h, if_pos ⟨h0, h1, h2⟩]
theorem fitsW_on {pg : Int} {ws : List (List UInt8)} {ks : List Tr} {i k j : Nat} (hi : i < ws.length) (h : ws[i] ≠ textW) (h0 : takeW pg ws[i] (ks.drop k) = j) (h1 : j ≠ 0 ∨ ws[i].getLast? = some 63 ∨ ws[i].getLast? = some 42) : fitsW pg (ws.drop i) (ks.drop k) = fitsW pg (ws.drop (i + 1)) (ks.drop (k + j)) := by
  rw [List.drop_eq_getElem_cons hi, fitsW, if_neg h, if_neg (by
    rintro ⟨a, b, c⟩
    rcases h1 with h1 | h1 | h1
    · exact h1 (h0 ▸ a)
    · exact b h1
    · exact c h1), h0, List.drop_drop]
theorem fitsW_end {pg : Int} {ws : List (List UInt8)} {ks : List Tr} {i k : Nat} (hi : ws.length ≤ i) : fitsW pg (ws.drop i) (ks.drop k) = decide (ks.length ≤ k) := by
  rw [List.drop_of_length_le hi, fitsW]
  by_cases h : ks.length ≤ k
  · rw [List.drop_of_length_le h, decide_eq_true h]; rfl
  · rw [decide_eq_false h, List.drop_eq_getElem_cons (by omega)]; rfl
/-- a word's last letter, as the walk meets it -/
theorem last_at (s : ByteArray) (h : s.size ≠ 0) : ∃ ch : UInt8, s.data.toList.getLast? = some ch ∧ ∀ w, (Instr.index 9 (.string s) (.int .i64 ((s.size : Int) - 1))).run Tryd.prog w = .ok (.int .u8 (ch.toNat : Int)) w := by
  have h1 : s.size - 1 < s.size := by omega
  refine ⟨s[s.size - 1], ?_, fun w => ?_⟩
  · rw [List.getLast?_eq_getElem?, len_toList, bat_get s _ h1]
  · have := run_at9 s (s.size - 1) h1 w
    rw [show (((s.size - 1 : Nat)) : Int) = (s.size : Int) - 1 from by omega] at this
    exact this
theorem namesW_mark {s : ByteArray} {ch : UInt8} (h : s.data.toList.getLast? = some ch) (hm : markB ch = true) (hz : s.size ≠ 0) : (s.extract 0 (s.size - 1)).data.toList = namesW s.data.toList := by
  unfold namesW
  rw [h, Option.getD_some, hm, if_pos rfl, ByteArray.data_extract, Array.toList_extract, List.extract, List.drop_zero, Nat.sub_zero, List.dropLast_eq_take, len_toList]
theorem namesW_none {s : ByteArray} {ch : UInt8} (h : s.data.toList.getLast? = some ch) (hm : markB ch = false) : s.data.toList = namesW s.data.toList := by
  unfold namesW
  rw [h, Option.getD_some, hm, if_neg (by decide)]

theorem kid_at2 {w X : World} {M : Nat} {a : Option Addr} {ks : List Tr} (hk : AtL w M a 0 ks) (hb : Below M w X) (i : Nat) (hi : i < ks.length) : ∃ bb o a' c', a = some ⟨bb, o, none⟩ ∧
    X.rangeAt bb (o + i * 5) [.int .i64 ks[i].page, .string ks[i].name, .string ks[i].text, .bool ks[i].opq, .slice a' ks[i].kids.length c'] ∧
    AtT X M ks[i] (.agg #[.int .i64 ks[i].page, .string ks[i].name, .string ks[i].text, .bool ks[i].opq, .slice a' ks[i].kids.length c']) := by
  obtain ⟨bb, o, a', c', h1, h2, h3, h4⟩ := hk.kid i hi
  exact ⟨bb, o, a', c', h1, range_below h3 hb h2, AtT.below hb _ _ h4⟩
/-- the words' cells -/
def WC (g oo : Nat) (ws : List (List UInt8)) (w : World) : Prop := ∀ i x, ws[i]? = some x → w.cell? ⟨g, oo + i, none⟩ = some (.string (mkB x))
theorem WC.below {g oo : Nat} {ws : List (List UInt8)} {w w' : World} (h : WC g oo ws w) (hb : Below w.heap.size w w') : WC g oo ws w' := fun i x hx =>
  (hb.cell (p := ⟨g, oo + i, none⟩) (World.block_lt_of_cell? _ _ (h i x hx))).trans (h i x hx)
theorem okWord_ne {x : List UInt8} (h : okWord x = true) : x ≠ [] := by
  rintro rfl; simp [okWord] at h

set_option maxRecDepth 100000 in
set_option maxHeartbeats 8000000 in
theorem refFits_any (pg : Int) (ws : List (List UInt8)) (hws : ∀ x ∈ ws, okWord x = true) (hwl : ws.length ≤ 2000) (hxl : ∀ x ∈ ws, x.length ≤ 2000) (aw : Option Addr) (cw : Nat) (ks : List Tr) (a : Option Addr) (c M : Nat) (w : World) (hM : M ≤ w.heap.size) (hk : AtL w M a 0 ks) (hkl : ks.length ≤ 3000)
    (hwc : ∀ i x, ws[i]? = some x → ∃ g o, aw = some ⟨g, o, none⟩ ∧ w.cell? ⟨g, o + i, none⟩ = some (.string (mkB x))) :
    Calls Tryd.prog 95 #[.int .i64 pg, .slice aw ws.length cw, .slice a ks.length c] w fun e w' => e = .returned (.bool (fitsW pg ws ks)) ∧ Below w.heap.size w w' := by
  have HWd : Hid (∀ (i : Nat) (x : List UInt8), ws[i]? = some x → okWord x = true ∧ x.length ≤ 2000) := fun i x h => ⟨hws x (List.mem_of_getElem? h), hxl x (List.mem_of_getElem? h)⟩
  have HWc := Lib.hid hwc
  have HKs := Lib.hid hk
  have HM := Lib.hid hM
  obtain ⟨R, hR⟩ : ∃ R, fitsW pg ws ks = R := ⟨_, rfl⟩
  rw [hR]
  have HR0 : Hid (fitsW pg (ws.drop 0) (ks.drop 0) = R) := by unfold Hid; rw [List.drop_zero, List.drop_zero]; exact hR
  have HTx : Hid (∀ (i k : Nat) (x : List UInt8), ws[i]? = some x → x = textW → fitsW pg (ws.drop i) (ks.drop k) = R → fitsW pg (ws.drop (i + 1)) (ks.drop k) = R) := fun i k x hx h e => by
    obtain ⟨hi, h2⟩ := List.getElem?_eq_some_iff.1 hx
    rw [← e, fitsW_text hi (h2.trans h)]
  have HNo : Hid (∀ (i k : Nat) (x : List UInt8), ws[i]? = some x → x ≠ textW → takeW pg x (ks.drop k) = 0 → x.getLast? ≠ some 63 → x.getLast? ≠ some 42 → fitsW pg (ws.drop i) (ks.drop k) = R → R = false) := fun i k x hx h h0 h1 h2 e => by
    obtain ⟨hi, rfl⟩ := List.getElem?_eq_some_iff.1 hx
    rw [← e, fitsW_no hi h h0 h1 h2]
  have HOn : Hid (∀ (i k j : Nat) (x : List UInt8), ws[i]? = some x → x ≠ textW → takeW pg x (ks.drop k) = j → (j ≠ 0 ∨ x.getLast? = some 63 ∨ x.getLast? = some 42) → fitsW pg (ws.drop i) (ks.drop k) = R → fitsW pg (ws.drop (i + 1)) (ks.drop (k + j)) = R) := fun i k j x hx h h0 h1 e => by
    obtain ⟨hi, rfl⟩ := List.getElem?_eq_some_iff.1 hx
    rw [← e, fitsW_on hi h h0 h1]
  have HEn : Hid (∀ (i k : Nat), ws.length ≤ i → fitsW pg (ws.drop i) (ks.drop k) = R → R = decide (ks.length ≤ k)) := fun i k hi e => by rw [← e, fitsW_end hi]
  clear hR hws hxl hwc hk hM
  generalize hnw : ws.length = nw at *
  have HNW := Lib.hid hnw
  generalize hnk : ks.length = nk at *
  have HNK := Lib.hid hnk
  clear hnw hnk
  go_enter Tryd.func95, Tryd.ntmps95
  go_wp2_with fail
  go_loopw [7, 8] (fun kv iv wr => ∃ (i k : Nat), i ≤ nw ∧ k ≤ nk ∧ iv = .int .i64 (i : Int) ∧ kv = .int .i64 (k : Int) ∧ Hid (fitsW pg (ws.drop i) (ks.drop k) = R) ∧ Hid (Below w.heap.size w wr)) (fun _ iv _ => nw - (intOf iv).toNat)
  case atStart => exact ⟨0, 0, Nat.zero_le _, Nat.zero_le _, rfl, rfl, HR0.out, Below.refl _ _⟩
  case round =>
    obtain ⟨i, k, hi, hk, rfl, rfl, HF, HB⟩ := hrel
    clear HR0
    by_cases hlt : i < nw
    · have j3 : (i : Int) < (nw : Int) := by omega
      have d3 : decide (i < nw) = true := by simp; omega
      have HW1 : Hid (wrap64 ((i : Int) + 1) = (i : Int) + 1) := by unfold Hid wrap64; omega
      have HMs : Hid (nw - (intOf (.int .i64 ((i : Int) + 1))).toNat < nw - (intOf (.int .i64 (i : Int))).toNat) := by unfold Hid; simp [intOf]; omega
      obtain ⟨x, hx⟩ : ∃ x, ws[i]? = some x := ⟨ws[i]'(by rw [HNW.out]; exact hlt), List.getElem?_eq_getElem (by rw [HNW.out]; exact hlt)⟩
      obtain ⟨g, oo, rfl, hc0⟩ := HWc.out i x hx
      have hxc : wr.cell? ⟨g, oo + i, none⟩ = some (.string (mkB x)) := (HB.out.cell (p := ⟨g, oo + i, none⟩) (World.block_lt_of_cell? _ _ hc0)).trans hc0
      obtain ⟨hok, hxl⟩ := HWd.out i x hx
      have HTx2 := Lib.hid (HTx.out i k x hx)
      have HNo2 := Lib.hid (HNo.out i k x hx)
      have HOn2 := Lib.hid (fun j => HOn.out i k j x hx)
      by_cases htx : x = textW
      · have hq : mkB x = { data := #[84, 69, 88, 84] } := by rw [htx]; rfl
        rw [hq] at hxc
        have HF2 := Lib.hid (HTx2.out htx HF.out)
        have hw1 := HW1.out
        clear HTx2 HNo2 HOn2 HTx HNo HOn hq htx hok hc0 HWd
        go_wp2_with fail
        go_roundw
        case rel => exact ⟨i + 1, k, by omega, hk, by go_num, rfl, HF2.out, HB.out⟩
        case measure => first | exact HMs.out | (rw [hw1]; exact HMs.out)
      · have hne : mkB x ≠ { data := #[84, 69, 88, 84] } := fun e => htx (by have := congrArg (fun b : ByteArray => b.data.toList) e; exact this)
        have t0 : ((mkB x).toList == [84, 69, 88, 84]) = false := by rw [ByteArray.toList_eq, beq_eq_false_iff_ne]; exact fun e => htx e
        have t0' : ¬ (mkB x).toList = [84, 69, 88, 84] := by rw [ByteArray.toList_eq]; exact fun e => htx e
        have hz : (mkB x).size ≠ 0 := by rw [mkB_size]; intro e; exact okWord_ne hok (List.eq_nil_of_length_eq_zero e)
        obtain ⟨ch, hlast, hat⟩ := last_at (mkB x) hz
        have hms : (mkB x).size ≤ 2000 := by rw [mkB_size]; exact hxl
        have HTw : Hid (∀ j, (∀ i (h : k + i < ks.length), i < j → takesB pg (namesW x) ks[k + i] = true) → k + j ≤ ks.length → (k + j = ks.length ∨ (∃ h : k + j < ks.length, takesB pg (namesW x) ks[k + j] = false) ∨ (manyB x = false ∧ j = 1)) → (manyB x = false → j ≤ 1) → takeW pg x (ks.drop k) = j) := fun j h1 h2 h3 h4 => takeW_of h1 h2 h3 h4
        have hlast2 : x.getLast? = some ch := hlast
        have k9 : (1 : Int) ≤ ((mkB x).size : Int) := by omega
        have k8 : wrap64 (((mkB x).size : Int) - 1) = ((mkB x).size : Int) - 1 := by unfold wrap64; omega
        have k7 : (0 : Int) ≤ ((mkB x).size : Int) - 1 := by omega
        have k6 : ((mkB x).size : Int) - 1 ≤ ((mkB x).size : Int) := by omega
        have k5 : (((mkB x).size : Int) - 1).toNat = (mkB x).size - 1 := by omega
        have HNm : Hid (markB ch = true → ((mkB x).extract 0 ((mkB x).size - 1)).data.toList = namesW x) := fun h => namesW_mark hlast h hz
        have HNn : Hid (markB ch = false → (mkB x).data.toList = namesW x) := fun h => namesW_none hlast h
        have HNl : Hid (((mkB x).extract 0 ((mkB x).size - 1)).size ≤ 2000) := by unfold Hid; rw [ByteArray.size_extract]; omega
        have HMl : Hid ((mkB x).size ≤ 2000) := hms
        have HMany : Hid (manyB x = (ch == 42 || ch == 43)) := by unfold Hid manyB; rw [hlast2]; simp
        have HLast := Lib.hid hlast2
        have HNe := Lib.hid htx
        clear hz hlast hlast2 hms hne htx hok hc0 HTx2 HTx HNo HOn HWd hxl
        generalize namesW x = nmw at *
        generalize mkB x = WB at *
        by_cases h63 : ch = 63
        · have hch := h63
          have HN1 := Lib.hid (HNm.out (by rw [hch]; decide))
          have HNs := Lib.hid HNl.out
          generalize hNB : WB.extract 0 (WB.size - 1) = NB at *
          have t63 : ((ch.toNat : Int) == 63) = true := by rw [hch]; rfl
          have n63 : ((ch.toNat : Int) != 63) = false := by rw [hch]; rfl
          have t42 : ((ch.toNat : Int) == 42) = false := by rw [hch]; rfl
          have n42 : ((ch.toNat : Int) != 42) = true := by rw [hch]; rfl
          have t43 : ((ch.toNat : Int) == 43) = false := by rw [hch]; rfl
          have n43 : ((ch.toNat : Int) != 43) = true := by rw [hch]; rfl
          have HMy : Hid (manyB x = false) := by unfold Hid; rw [HMany.out, hch]; decide
          have HLs : Hid (x.getLast? = some 63) := by unfold Hid; rw [HLast.out, hch]
          have cC := fun X => cut_any NB 124 X (by have := HNs.out; omega)
          rw [HN1.out] at cC
          have CC := Lib.hid cC
          have HCl : Hid (∀ y ∈ cutB 124 nmw, y.length ≤ 2000) := fun y hy => by
            have h1 := cutB_mem_len 124 nmw y hy
            rw [← HN1.out, len_toList] at h1
            have := HNs.out; omega
          have HCn : Hid ((cutB 124 nmw).length ≤ 2001) := by
            have h1 := cutB_len 124 nmw
            rw [← HN1.out, len_toList, HN1.out] at h1
            have := HNs.out; unfold Hid; omega
          have HCz : Hid ((cutB 124 nmw).length ≠ 0) := fun e => cutB_ne 124 nmw (List.eq_nil_of_length_eq_zero e)
          have HTK : Hid (∀ t : Tr, takesB pg nmw t = (cutB 124 nmw).any fun n => takes1 pg n t.page t.name.data.toList) := fun t => rfl
          clear cC hch HNm HNn HNl HMl HMany HLast HN1 HNs h63
          generalize (ch.toNat : Int) = chn at *
          generalize cutB 124 nmw = CL at *
          have HI1 : Hid (i + 1 ≤ nw) := hlt
          have HKk0 := Lib.hid hk
          go_wp2_with (go_at_call 93; refine (CC.out _).mono ?_; rintro e w2 ⟨ac, cp, rfl, hown, hb2⟩)
          clear k5 k6 k7 k8 k9
          have HB2 : Hid (Below w.heap.size w w2) := HB.out.trans (hb2.mono HB.out.size)
          obtain ⟨g2, rfl, hg0, hg2, hg3⟩ := extract_tail hown rfl 0 (by have := HCz.out; omega)
          clear hg0 hg3
          have HCC : Hid (∀ q y, CL[q]? = some y → w2.cell? ⟨g2, 0 + q, none⟩ = some (.string (mkB y))) := fun q y hq => by
            obtain ⟨hq1, rfl⟩ := List.getElem?_eq_some_iff.1 hq
            obtain ⟨g3, e3, _, _, h3⟩ := extract_tail hown rfl q hq1
            have e4 : g2 = g3 := congrArg Addr.block (Option.some.inj e3)
            subst e4
            rw [Nat.zero_add]; exact h3
          clear hown hb2 CC hg2
          go_loopw [7, 12] (fun kv nv wq => ∃ (kk j : Nat), kk ≤ nk ∧ kv = .int .i64 (kk : Int) ∧ nv = .int .i64 (j : Int) ∧ Hid (kk = k + j) ∧ Hid (∀ q (h : k + q < ks.length), q < j → takesB pg nmw ks[k + q] = true) ∧ Hid (Below w2.heap.size w2 wq) ∧ Hid (j ≤ 1)) (fun kv _ _ => nk - (intOf kv).toNat)
          case atStart => exact ⟨k, 0, hk, rfl, rfl, rfl, fun _ _ h => absurd h (Nat.not_lt_zero _), Below.refl _ _, Nat.zero_le _⟩
          case round =>
            obtain ⟨kk, j, hkk, rfl, rfl, HK, HT, HBq, HJ1⟩ := hrel
            clear hk hi hlt j3 d3 hx hwl
            have HKK := Lib.hid hkk
            have HBw : Hid (Below w.heap.size w wr) := HB2.out.trans (HBq.out.mono HB2.out.size)
            by_cases hkl2 : kk < nk
            · have p1 : (kk : Int) < (nk : Int) := by omega
              have p2 : decide (kk < nk) = true := by simp; omega
              have hkL : kk < ks.length := by rw [HNK.out]; exact hkl2
              obtain ⟨bb, o5, a', c', rfl, hrg, hat5⟩ := kid_at2 HKs.out (HBw.out.mono HM.out) kk hkL
              obtain ⟨x0, x1, x2, x3, x4⟩ := elem_cells hrg
              have cT := gTakes_any pg g2 0 cp CL ks[kk].page ks[kk].name ks[kk].text ks[kk].opq a' ks[kk].kids.length c' wr (by have := HCn.out; omega) (fun y hy => by have := HCl.out y hy; omega) (fun q y hq => (HBq.out.cell (p := ⟨g2, 0 + q, none⟩) (World.block_lt_of_cell? _ _ (HCC.out q y hq))).trans (HCC.out q y hq))
              rw [← HTK.out] at cT
              have CT := Lib.hid cT
              have HTkk : Hid (∀ h : k + j < ks.length, ks[kk] = ks[k + j]) := fun h => by have e : kk = k + j := HK.out; subst e; rfl
              have hpg : ∀ t : Tr, True := fun _ => trivial
              clear cT hrg hat5 hpg
              by_cases htk : takesB pg nmw ks[kk] = true
              · rw [htk] at CT
                by_cases hj : j = 0
                · have q0 : ((j : Int) == 0) = true := by rw [hj]; rfl
                  have HJz := Lib.hid hj
                  clear hj
                  have HT2 : Hid (∀ q (h : k + q < ks.length), q < j + 1 → takesB pg nmw ks[k + q] = true) := fun q h hq => by
                    by_cases e : q = j
                    · subst e; rw [← HTkk.out h]; exact htk
                    · exact HT.out q h (by omega)
                  have HM2 : Hid (nk - (intOf (.int .i64 ((kk : Int) + 1))).toNat < nk - (intOf (.int .i64 (kk : Int))).toNat) := by unfold Hid; simp [intOf]; omega
                  have HK2 : Hid (kk + 1 = k + (j + 1)) := by have := HK.out; unfold Hid; omega
                  have HW2 : Hid (wrap64 ((kk : Int) + 1) = (kk : Int) + 1) := by unfold Hid wrap64; omega
                  have hjb : (j : Int) ≤ 3000 := by have := HK.out; omega
                  have HW3 : Hid (wrap64 ((j : Int) + 1) = (j : Int) + 1) := by unfold Hid wrap64; omega
                  have HK3 : Hid (kk + 1 ≤ nk) := hkl2
                  clear htk HTkk HT
                  generalize ks[kk] = kid at *
                  clear hkl2 hkL hkl hkk hjb
                  have hW2 := HW2.out
                  have hW3 := HW3.out
                  go_wp2_with (go_at_call 144; (with_reducible refine CT.out.mono ?_); rintro e w4 ⟨rfl, hb4⟩; have HB4 := Lib.hid (HBq.out.trans (hb4.mono HBq.out.size)); clear hb4)
                  go_roundw
                  case rel => exact ⟨kk + 1, j + 1, HK3.out, by go_num, by go_num, HK2.out, HT2.out, HB4.out, by have := HJz.out; unfold Hid; omega⟩
                  case measure => first | exact HM2.out | (rw [hW2]; exact HM2.out)
                · have q0 : ((j : Int) == 0) = false := by rw [beq_eq_false_iff_ne]; omega
                  have HJ2 : Hid (j = 1) := by have := HJ1.out; unfold Hid; omega
                  clear hj
                  have HTj := Lib.hid (HTw.out j HT.out (by have := HK.out; have := HNK.out; omega) (.inr (.inr ⟨HMy.out, HJ2.out⟩)) (fun _ => HJ1.out))
                  have z1 := q0
                  have HF2 := Lib.hid (HOn2.out j HNe.out HTj.out (.inr (.inl HLs.out)) HF.out)
                  have HK3 := Lib.hid HK.out
                  clear htk HTkk
                  generalize ks[kk] = kid at *
                  clear hkk hkl hkl2 hkL
                  have hw1 := HW1.out
                  go_wp2_with (go_at_call 144; (with_reducible refine CT.out.mono ?_); rintro e w4 ⟨rfl, hb4⟩; have HB4 := Lib.hid (HBw.out.trans (hb4.mono HBw.out.size)); clear hb4)
                  go_roundw
                  case rel => exact ⟨i + 1, kk, HI1.out, HKK.out, by go_num, rfl, by unfold Hid; rw [HK3.out]; exact HF2.out, HB4.out⟩
                  case measure => first | exact HMs.out | (rw [hw1]; exact HMs.out)
              · have htk : takesB pg nmw ks[kk] = false := by simpa using htk
                rw [htk] at CT
                have HTj := Lib.hid (HTw.out j HT.out (by have := HK.out; have := HNK.out; omega) (.inr (.inl ⟨by have := HK.out; omega, by rw [← HTkk.out (by have := HK.out; omega)]; exact htk⟩)) (fun _ => HJ1.out))
                by_cases hj0 : j = 0
                · have z1 : ((j : Int) == 0) = true := by rw [hj0]; rfl
                  clear hj0
                  have HF2 := Lib.hid (HOn2.out j HNe.out HTj.out (.inr (.inl HLs.out)) HF.out)
                  have HK3 := Lib.hid HK.out
                  clear htk HTkk
                  generalize ks[kk] = kid at *
                  clear hkk hkl hkl2 hkL
                  have hw1 := HW1.out
                  go_wp2_with (go_at_call 144; (with_reducible refine CT.out.mono ?_); rintro e w4 ⟨rfl, hb4⟩; have HB4 := Lib.hid (HBw.out.trans (hb4.mono HBw.out.size)); clear hb4)
                  go_roundw
                  case rel => exact ⟨i + 1, kk, HI1.out, HKK.out, by go_num, rfl, by unfold Hid; rw [HK3.out]; exact HF2.out, HB4.out⟩
                  case measure => first | exact HMs.out | (rw [hw1]; exact HMs.out)
                · have z1 : ((j : Int) == 0) = false := by rw [beq_eq_false_iff_ne]; omega
                  clear hj0
                  have HF2 := Lib.hid (HOn2.out j HNe.out HTj.out (.inr (.inl HLs.out)) HF.out)
                  have HK3 := Lib.hid HK.out
                  clear htk HTkk
                  generalize ks[kk] = kid at *
                  clear hkk hkl hkl2 hkL
                  have hw1 := HW1.out
                  go_wp2_with (go_at_call 144; (with_reducible refine CT.out.mono ?_); rintro e w4 ⟨rfl, hb4⟩; have HB4 := Lib.hid (HBw.out.trans (hb4.mono HBw.out.size)); clear hb4)
                  go_roundw
                  case rel => exact ⟨i + 1, kk, HI1.out, HKK.out, by go_num, rfl, by unfold Hid; rw [HK3.out]; exact HF2.out, HB4.out⟩
                  case measure => first | exact HMs.out | (rw [hw1]; exact HMs.out)
            · have p1 : ¬ (kk : Int) < (nk : Int) := by omega
              have p2 : decide (kk < nk) = false := by simp; omega
              have HTj := Lib.hid (HTw.out j HT.out (by have := HK.out; have := HNK.out; omega) (.inl (by have := HK.out; have := HNK.out; omega)) (fun _ => HJ1.out))
              by_cases hj0 : j = 0
              · have z1 : ((j : Int) == 0) = true := by rw [hj0]; rfl
                clear hj0
                have HF2 := Lib.hid (HOn2.out j HNe.out HTj.out (.inr (.inl HLs.out)) HF.out)
                have HK3 := Lib.hid HK.out
                clear hkk hkl hkl2
                have hw1 := HW1.out
                go_wp2_with fail
                go_roundw
                case rel => exact ⟨i + 1, kk, HI1.out, HKK.out, by go_num, rfl, by unfold Hid; rw [HK3.out]; exact HF2.out, HBw.out⟩
                case measure => first | exact HMs.out | (rw [hw1]; exact HMs.out)
              · have z1 : ((j : Int) == 0) = false := by rw [beq_eq_false_iff_ne]; omega
                clear hj0
                have HF2 := Lib.hid (HOn2.out j HNe.out HTj.out (.inr (.inl HLs.out)) HF.out)
                have HK3 := Lib.hid HK.out
                clear hkk hkl hkl2
                have hw1 := HW1.out
                go_wp2_with fail
                go_roundw
                case rel => exact ⟨i + 1, kk, HI1.out, HKK.out, by go_num, rfl, by unfold Hid; rw [HK3.out]; exact HF2.out, HBw.out⟩
                case measure => first | exact HMs.out | (rw [hw1]; exact HMs.out)
        · by_cases h42 : ch = 42
          · have hch := h42
            have HN1 := Lib.hid (HNm.out (by rw [hch]; decide))
            have HNs := Lib.hid HNl.out
            generalize hNB : WB.extract 0 (WB.size - 1) = NB at *
            have t63 : ((ch.toNat : Int) == 63) = false := by rw [hch]; rfl
            have n63 : ((ch.toNat : Int) != 63) = true := by rw [hch]; rfl
            have t42 : ((ch.toNat : Int) == 42) = true := by rw [hch]; rfl
            have n42 : ((ch.toNat : Int) != 42) = false := by rw [hch]; rfl
            have t43 : ((ch.toNat : Int) == 43) = false := by rw [hch]; rfl
            have n43 : ((ch.toNat : Int) != 43) = true := by rw [hch]; rfl
            have HMy : Hid (manyB x = true) := by unfold Hid; rw [HMany.out, hch]; decide
            have HLs : Hid (x.getLast? = some 42) := by unfold Hid; rw [HLast.out, hch]
            have cC := fun X => cut_any NB 124 X (by have := HNs.out; omega)
            rw [HN1.out] at cC
            have CC := Lib.hid cC
            have HCl : Hid (∀ y ∈ cutB 124 nmw, y.length ≤ 2000) := fun y hy => by
              have h1 := cutB_mem_len 124 nmw y hy
              rw [← HN1.out, len_toList] at h1
              have := HNs.out; omega
            have HCn : Hid ((cutB 124 nmw).length ≤ 2001) := by
              have h1 := cutB_len 124 nmw
              rw [← HN1.out, len_toList, HN1.out] at h1
              have := HNs.out; unfold Hid; omega
            have HCz : Hid ((cutB 124 nmw).length ≠ 0) := fun e => cutB_ne 124 nmw (List.eq_nil_of_length_eq_zero e)
            have HTK : Hid (∀ t : Tr, takesB pg nmw t = (cutB 124 nmw).any fun n => takes1 pg n t.page t.name.data.toList) := fun t => rfl
            clear cC hch HNm HNn HNl HMl HMany HLast HN1 HNs h63 h42
            generalize (ch.toNat : Int) = chn at *
            generalize cutB 124 nmw = CL at *
            have HI1 : Hid (i + 1 ≤ nw) := hlt
            have HKk0 := Lib.hid hk
            go_wp2_with (go_at_call 93; refine (CC.out _).mono ?_; rintro e w2 ⟨ac, cp, rfl, hown, hb2⟩)
            clear k5 k6 k7 k8 k9
            have HB2 : Hid (Below w.heap.size w w2) := HB.out.trans (hb2.mono HB.out.size)
            obtain ⟨g2, rfl, hg0, hg2, hg3⟩ := extract_tail hown rfl 0 (by have := HCz.out; omega)
            clear hg0 hg3
            have HCC : Hid (∀ q y, CL[q]? = some y → w2.cell? ⟨g2, 0 + q, none⟩ = some (.string (mkB y))) := fun q y hq => by
              obtain ⟨hq1, rfl⟩ := List.getElem?_eq_some_iff.1 hq
              obtain ⟨g3, e3, _, _, h3⟩ := extract_tail hown rfl q hq1
              have e4 : g2 = g3 := congrArg Addr.block (Option.some.inj e3)
              subst e4
              rw [Nat.zero_add]; exact h3
            clear hown hb2 CC hg2
            go_loopw [7, 12] (fun kv nv wq => ∃ (kk j : Nat), kk ≤ nk ∧ kv = .int .i64 (kk : Int) ∧ nv = .int .i64 (j : Int) ∧ Hid (kk = k + j) ∧ Hid (∀ q (h : k + q < ks.length), q < j → takesB pg nmw ks[k + q] = true) ∧ Hid (Below w2.heap.size w2 wq)) (fun kv _ _ => nk - (intOf kv).toNat)
            case atStart => exact ⟨k, 0, hk, rfl, rfl, rfl, fun _ _ h => absurd h (Nat.not_lt_zero _), Below.refl _ _⟩
            case round =>
              obtain ⟨kk, j, hkk, rfl, rfl, HK, HT, HBq⟩ := hrel
              clear hk hi hlt j3 d3 hx hwl
              have HKK := Lib.hid hkk
              have HBw : Hid (Below w.heap.size w wr) := HB2.out.trans (HBq.out.mono HB2.out.size)
              by_cases hkl2 : kk < nk
              · have p1 : (kk : Int) < (nk : Int) := by omega
                have p2 : decide (kk < nk) = true := by simp; omega
                have hkL : kk < ks.length := by rw [HNK.out]; exact hkl2
                obtain ⟨bb, o5, a', c', rfl, hrg, hat5⟩ := kid_at2 HKs.out (HBw.out.mono HM.out) kk hkL
                obtain ⟨x0, x1, x2, x3, x4⟩ := elem_cells hrg
                have cT := gTakes_any pg g2 0 cp CL ks[kk].page ks[kk].name ks[kk].text ks[kk].opq a' ks[kk].kids.length c' wr (by have := HCn.out; omega) (fun y hy => by have := HCl.out y hy; omega) (fun q y hq => (HBq.out.cell (p := ⟨g2, 0 + q, none⟩) (World.block_lt_of_cell? _ _ (HCC.out q y hq))).trans (HCC.out q y hq))
                rw [← HTK.out] at cT
                have CT := Lib.hid cT
                have HTkk : Hid (∀ h : k + j < ks.length, ks[kk] = ks[k + j]) := fun h => by have e : kk = k + j := HK.out; subst e; rfl
                have hpg : ∀ t : Tr, True := fun _ => trivial
                clear cT hrg hat5 hpg
                by_cases htk : takesB pg nmw ks[kk] = true
                · rw [htk] at CT
                  by_cases hj : j = 0
                  · have q0 : ((j : Int) == 0) = true := by rw [hj]; rfl
                    clear hj
                    have HT2 : Hid (∀ q (h : k + q < ks.length), q < j + 1 → takesB pg nmw ks[k + q] = true) := fun q h hq => by
                      by_cases e : q = j
                      · subst e; rw [← HTkk.out h]; exact htk
                      · exact HT.out q h (by omega)
                    have HM2 : Hid (nk - (intOf (.int .i64 ((kk : Int) + 1))).toNat < nk - (intOf (.int .i64 (kk : Int))).toNat) := by unfold Hid; simp [intOf]; omega
                    have HK2 : Hid (kk + 1 = k + (j + 1)) := by have := HK.out; unfold Hid; omega
                    have HW2 : Hid (wrap64 ((kk : Int) + 1) = (kk : Int) + 1) := by unfold Hid wrap64; omega
                    have hjb : (j : Int) ≤ 3000 := by have := HK.out; omega
                    have HW3 : Hid (wrap64 ((j : Int) + 1) = (j : Int) + 1) := by unfold Hid wrap64; omega
                    have HK3 : Hid (kk + 1 ≤ nk) := hkl2
                    clear htk HTkk HT
                    generalize ks[kk] = kid at *
                    clear hkl2 hkL hkl hkk hjb
                    have hW2 := HW2.out
                    have hW3 := HW3.out
                    go_wp2_with (go_at_call 144; (with_reducible refine CT.out.mono ?_); rintro e w4 ⟨rfl, hb4⟩; have HB4 := Lib.hid (HBq.out.trans (hb4.mono HBq.out.size)); clear hb4)
                    go_roundw
                    case rel => exact ⟨kk + 1, j + 1, HK3.out, by go_num, by go_num, HK2.out, HT2.out, HB4.out⟩
                    case measure => first | exact HM2.out | (rw [hW2]; exact HM2.out)
                  · have q0 : ((j : Int) == 0) = false := by rw [beq_eq_false_iff_ne]; omega
                    clear hj
                    have HT2 : Hid (∀ q (h : k + q < ks.length), q < j + 1 → takesB pg nmw ks[k + q] = true) := fun q h hq => by
                      by_cases e : q = j
                      · subst e; rw [← HTkk.out h]; exact htk
                      · exact HT.out q h (by omega)
                    have HM2 : Hid (nk - (intOf (.int .i64 ((kk : Int) + 1))).toNat < nk - (intOf (.int .i64 (kk : Int))).toNat) := by unfold Hid; simp [intOf]; omega
                    have HK2 : Hid (kk + 1 = k + (j + 1)) := by have := HK.out; unfold Hid; omega
                    have HW2 : Hid (wrap64 ((kk : Int) + 1) = (kk : Int) + 1) := by unfold Hid wrap64; omega
                    have hjb : (j : Int) ≤ 3000 := by have := HK.out; omega
                    have HW3 : Hid (wrap64 ((j : Int) + 1) = (j : Int) + 1) := by unfold Hid wrap64; omega
                    have HK3 : Hid (kk + 1 ≤ nk) := hkl2
                    clear htk HTkk HT
                    generalize ks[kk] = kid at *
                    clear hkl2 hkL hkl hkk hjb
                    have hW2 := HW2.out
                    have hW3 := HW3.out
                    go_wp2_with (go_at_call 144; (with_reducible refine CT.out.mono ?_); rintro e w4 ⟨rfl, hb4⟩; have HB4 := Lib.hid (HBq.out.trans (hb4.mono HBq.out.size)); clear hb4)
                    go_roundw
                    case rel => exact ⟨kk + 1, j + 1, HK3.out, by go_num, by go_num, HK2.out, HT2.out, HB4.out⟩
                    case measure => first | exact HM2.out | (rw [hW2]; exact HM2.out)
                · have htk : takesB pg nmw ks[kk] = false := by simpa using htk
                  rw [htk] at CT
                  have HTj := Lib.hid (HTw.out j HT.out (by have := HK.out; have := HNK.out; omega) (.inr (.inl ⟨by have := HK.out; omega, by rw [← HTkk.out (by have := HK.out; omega)]; exact htk⟩)) (fun hh => by rw [HMy.out] at hh; cases hh))
                  by_cases hj0 : j = 0
                  · have z1 : ((j : Int) == 0) = true := by rw [hj0]; rfl
                    clear hj0
                    have HF2 := Lib.hid (HOn2.out j HNe.out HTj.out (.inr (.inr HLs.out)) HF.out)
                    have HK3 := Lib.hid HK.out
                    clear htk HTkk
                    generalize ks[kk] = kid at *
                    clear hkk hkl hkl2 hkL
                    have hw1 := HW1.out
                    go_wp2_with (go_at_call 144; (with_reducible refine CT.out.mono ?_); rintro e w4 ⟨rfl, hb4⟩; have HB4 := Lib.hid (HBw.out.trans (hb4.mono HBw.out.size)); clear hb4)
                    go_roundw
                    case rel => exact ⟨i + 1, kk, HI1.out, HKK.out, by go_num, rfl, by unfold Hid; rw [HK3.out]; exact HF2.out, HB4.out⟩
                    case measure => first | exact HMs.out | (rw [hw1]; exact HMs.out)
                  · have z1 : ((j : Int) == 0) = false := by rw [beq_eq_false_iff_ne]; omega
                    clear hj0
                    have HF2 := Lib.hid (HOn2.out j HNe.out HTj.out (.inr (.inr HLs.out)) HF.out)
                    have HK3 := Lib.hid HK.out
                    clear htk HTkk
                    generalize ks[kk] = kid at *
                    clear hkk hkl hkl2 hkL
                    have hw1 := HW1.out
                    go_wp2_with (go_at_call 144; (with_reducible refine CT.out.mono ?_); rintro e w4 ⟨rfl, hb4⟩; have HB4 := Lib.hid (HBw.out.trans (hb4.mono HBw.out.size)); clear hb4)
                    go_roundw
                    case rel => exact ⟨i + 1, kk, HI1.out, HKK.out, by go_num, rfl, by unfold Hid; rw [HK3.out]; exact HF2.out, HB4.out⟩
                    case measure => first | exact HMs.out | (rw [hw1]; exact HMs.out)
              · have p1 : ¬ (kk : Int) < (nk : Int) := by omega
                have p2 : decide (kk < nk) = false := by simp; omega
                have HTj := Lib.hid (HTw.out j HT.out (by have := HK.out; have := HNK.out; omega) (.inl (by have := HK.out; have := HNK.out; omega)) (fun hh => by rw [HMy.out] at hh; cases hh))
                by_cases hj0 : j = 0
                · have z1 : ((j : Int) == 0) = true := by rw [hj0]; rfl
                  clear hj0
                  have HF2 := Lib.hid (HOn2.out j HNe.out HTj.out (.inr (.inr HLs.out)) HF.out)
                  have HK3 := Lib.hid HK.out
                  clear hkk hkl hkl2
                  have hw1 := HW1.out
                  go_wp2_with fail
                  go_roundw
                  case rel => exact ⟨i + 1, kk, HI1.out, HKK.out, by go_num, rfl, by unfold Hid; rw [HK3.out]; exact HF2.out, HBw.out⟩
                  case measure => first | exact HMs.out | (rw [hw1]; exact HMs.out)
                · have z1 : ((j : Int) == 0) = false := by rw [beq_eq_false_iff_ne]; omega
                  clear hj0
                  have HF2 := Lib.hid (HOn2.out j HNe.out HTj.out (.inr (.inr HLs.out)) HF.out)
                  have HK3 := Lib.hid HK.out
                  clear hkk hkl hkl2
                  have hw1 := HW1.out
                  go_wp2_with fail
                  go_roundw
                  case rel => exact ⟨i + 1, kk, HI1.out, HKK.out, by go_num, rfl, by unfold Hid; rw [HK3.out]; exact HF2.out, HBw.out⟩
                  case measure => first | exact HMs.out | (rw [hw1]; exact HMs.out)
          · by_cases h43 : ch = 43
            · have hch := h43
              have HN1 := Lib.hid (HNm.out (by rw [hch]; decide))
              have HNs := Lib.hid HNl.out
              generalize hNB : WB.extract 0 (WB.size - 1) = NB at *
              have t63 : ((ch.toNat : Int) == 63) = false := by rw [hch]; rfl
              have n63 : ((ch.toNat : Int) != 63) = true := by rw [hch]; rfl
              have t42 : ((ch.toNat : Int) == 42) = false := by rw [hch]; rfl
              have n42 : ((ch.toNat : Int) != 42) = true := by rw [hch]; rfl
              have t43 : ((ch.toNat : Int) == 43) = true := by rw [hch]; rfl
              have n43 : ((ch.toNat : Int) != 43) = false := by rw [hch]; rfl
              have HMy : Hid (manyB x = true) := by unfold Hid; rw [HMany.out, hch]; decide
              have HLs : Hid (x.getLast? = some 43) := by unfold Hid; rw [HLast.out, hch]
              have cC := fun X => cut_any NB 124 X (by have := HNs.out; omega)
              rw [HN1.out] at cC
              have CC := Lib.hid cC
              have HCl : Hid (∀ y ∈ cutB 124 nmw, y.length ≤ 2000) := fun y hy => by
                have h1 := cutB_mem_len 124 nmw y hy
                rw [← HN1.out, len_toList] at h1
                have := HNs.out; omega
              have HCn : Hid ((cutB 124 nmw).length ≤ 2001) := by
                have h1 := cutB_len 124 nmw
                rw [← HN1.out, len_toList, HN1.out] at h1
                have := HNs.out; unfold Hid; omega
              have HCz : Hid ((cutB 124 nmw).length ≠ 0) := fun e => cutB_ne 124 nmw (List.eq_nil_of_length_eq_zero e)
              have HTK : Hid (∀ t : Tr, takesB pg nmw t = (cutB 124 nmw).any fun n => takes1 pg n t.page t.name.data.toList) := fun t => rfl
              clear cC hch HNm HNn HNl HMl HMany HLast HN1 HNs h63 h42 h43
              generalize (ch.toNat : Int) = chn at *
              generalize cutB 124 nmw = CL at *
              have HI1 : Hid (i + 1 ≤ nw) := hlt
              have HKk0 := Lib.hid hk
              go_wp2_with (go_at_call 93; refine (CC.out _).mono ?_; rintro e w2 ⟨ac, cp, rfl, hown, hb2⟩)
              clear k5 k6 k7 k8 k9
              have HB2 : Hid (Below w.heap.size w w2) := HB.out.trans (hb2.mono HB.out.size)
              obtain ⟨g2, rfl, hg0, hg2, hg3⟩ := extract_tail hown rfl 0 (by have := HCz.out; omega)
              clear hg0 hg3
              have HCC : Hid (∀ q y, CL[q]? = some y → w2.cell? ⟨g2, 0 + q, none⟩ = some (.string (mkB y))) := fun q y hq => by
                obtain ⟨hq1, rfl⟩ := List.getElem?_eq_some_iff.1 hq
                obtain ⟨g3, e3, _, _, h3⟩ := extract_tail hown rfl q hq1
                have e4 : g2 = g3 := congrArg Addr.block (Option.some.inj e3)
                subst e4
                rw [Nat.zero_add]; exact h3
              clear hown hb2 CC hg2
              go_loopw [7, 12] (fun kv nv wq => ∃ (kk j : Nat), kk ≤ nk ∧ kv = .int .i64 (kk : Int) ∧ nv = .int .i64 (j : Int) ∧ Hid (kk = k + j) ∧ Hid (∀ q (h : k + q < ks.length), q < j → takesB pg nmw ks[k + q] = true) ∧ Hid (Below w2.heap.size w2 wq)) (fun kv _ _ => nk - (intOf kv).toNat)
              case atStart => exact ⟨k, 0, hk, rfl, rfl, rfl, fun _ _ h => absurd h (Nat.not_lt_zero _), Below.refl _ _⟩
              case round =>
                obtain ⟨kk, j, hkk, rfl, rfl, HK, HT, HBq⟩ := hrel
                clear hk hi hlt j3 d3 hx hwl
                have HKK := Lib.hid hkk
                have HBw : Hid (Below w.heap.size w wr) := HB2.out.trans (HBq.out.mono HB2.out.size)
                by_cases hkl2 : kk < nk
                · have p1 : (kk : Int) < (nk : Int) := by omega
                  have p2 : decide (kk < nk) = true := by simp; omega
                  have hkL : kk < ks.length := by rw [HNK.out]; exact hkl2
                  obtain ⟨bb, o5, a', c', rfl, hrg, hat5⟩ := kid_at2 HKs.out (HBw.out.mono HM.out) kk hkL
                  obtain ⟨x0, x1, x2, x3, x4⟩ := elem_cells hrg
                  have cT := gTakes_any pg g2 0 cp CL ks[kk].page ks[kk].name ks[kk].text ks[kk].opq a' ks[kk].kids.length c' wr (by have := HCn.out; omega) (fun y hy => by have := HCl.out y hy; omega) (fun q y hq => (HBq.out.cell (p := ⟨g2, 0 + q, none⟩) (World.block_lt_of_cell? _ _ (HCC.out q y hq))).trans (HCC.out q y hq))
                  rw [← HTK.out] at cT
                  have CT := Lib.hid cT
                  have HTkk : Hid (∀ h : k + j < ks.length, ks[kk] = ks[k + j]) := fun h => by have e : kk = k + j := HK.out; subst e; rfl
                  have hpg : ∀ t : Tr, True := fun _ => trivial
                  clear cT hrg hat5 hpg
                  by_cases htk : takesB pg nmw ks[kk] = true
                  · rw [htk] at CT
                    by_cases hj : j = 0
                    · have q0 : ((j : Int) == 0) = true := by rw [hj]; rfl
                      clear hj
                      have HT2 : Hid (∀ q (h : k + q < ks.length), q < j + 1 → takesB pg nmw ks[k + q] = true) := fun q h hq => by
                        by_cases e : q = j
                        · subst e; rw [← HTkk.out h]; exact htk
                        · exact HT.out q h (by omega)
                      have HM2 : Hid (nk - (intOf (.int .i64 ((kk : Int) + 1))).toNat < nk - (intOf (.int .i64 (kk : Int))).toNat) := by unfold Hid; simp [intOf]; omega
                      have HK2 : Hid (kk + 1 = k + (j + 1)) := by have := HK.out; unfold Hid; omega
                      have HW2 : Hid (wrap64 ((kk : Int) + 1) = (kk : Int) + 1) := by unfold Hid wrap64; omega
                      have hjb : (j : Int) ≤ 3000 := by have := HK.out; omega
                      have HW3 : Hid (wrap64 ((j : Int) + 1) = (j : Int) + 1) := by unfold Hid wrap64; omega
                      have HK3 : Hid (kk + 1 ≤ nk) := hkl2
                      clear htk HTkk HT
                      generalize ks[kk] = kid at *
                      clear hkl2 hkL hkl hkk hjb
                      have hW2 := HW2.out
                      have hW3 := HW3.out
                      go_wp2_with (go_at_call 144; (with_reducible refine CT.out.mono ?_); rintro e w4 ⟨rfl, hb4⟩; have HB4 := Lib.hid (HBq.out.trans (hb4.mono HBq.out.size)); clear hb4)
                      go_roundw
                      case rel => exact ⟨kk + 1, j + 1, HK3.out, by go_num, by go_num, HK2.out, HT2.out, HB4.out⟩
                      case measure => first | exact HM2.out | (rw [hW2]; exact HM2.out)
                    · have q0 : ((j : Int) == 0) = false := by rw [beq_eq_false_iff_ne]; omega
                      clear hj
                      have HT2 : Hid (∀ q (h : k + q < ks.length), q < j + 1 → takesB pg nmw ks[k + q] = true) := fun q h hq => by
                        by_cases e : q = j
                        · subst e; rw [← HTkk.out h]; exact htk
                        · exact HT.out q h (by omega)
                      have HM2 : Hid (nk - (intOf (.int .i64 ((kk : Int) + 1))).toNat < nk - (intOf (.int .i64 (kk : Int))).toNat) := by unfold Hid; simp [intOf]; omega
                      have HK2 : Hid (kk + 1 = k + (j + 1)) := by have := HK.out; unfold Hid; omega
                      have HW2 : Hid (wrap64 ((kk : Int) + 1) = (kk : Int) + 1) := by unfold Hid wrap64; omega
                      have hjb : (j : Int) ≤ 3000 := by have := HK.out; omega
                      have HW3 : Hid (wrap64 ((j : Int) + 1) = (j : Int) + 1) := by unfold Hid wrap64; omega
                      have HK3 : Hid (kk + 1 ≤ nk) := hkl2
                      clear htk HTkk HT
                      generalize ks[kk] = kid at *
                      clear hkl2 hkL hkl hkk hjb
                      have hW2 := HW2.out
                      have hW3 := HW3.out
                      go_wp2_with (go_at_call 144; (with_reducible refine CT.out.mono ?_); rintro e w4 ⟨rfl, hb4⟩; have HB4 := Lib.hid (HBq.out.trans (hb4.mono HBq.out.size)); clear hb4)
                      go_roundw
                      case rel => exact ⟨kk + 1, j + 1, HK3.out, by go_num, by go_num, HK2.out, HT2.out, HB4.out⟩
                      case measure => first | exact HM2.out | (rw [hW2]; exact HM2.out)
                  · have htk : takesB pg nmw ks[kk] = false := by simpa using htk
                    rw [htk] at CT
                    have HTj := Lib.hid (HTw.out j HT.out (by have := HK.out; have := HNK.out; omega) (.inr (.inl ⟨by have := HK.out; omega, by rw [← HTkk.out (by have := HK.out; omega)]; exact htk⟩)) (fun hh => by rw [HMy.out] at hh; cases hh))
                    by_cases hj0 : j = 0
                    · have z1 : ((j : Int) == 0) = true := by rw [hj0]; rfl
                      have HJ0 := Lib.hid hj0
                      clear hj0
                      have HRf := Lib.hid (HNo2.out HNe.out (by rw [HTj.out]; exact HJ0.out) (by rw [HLs.out]; decide) (by rw [HLs.out]; decide) HF.out)
                      clear htk HTkk
                      generalize ks[kk] = kid at *
                      clear hkk hkl hkl2 hkL
                      go_wp2_with (go_at_call 144; (with_reducible refine CT.out.mono ?_); rintro e w4 ⟨rfl, hb4⟩; have HB4 := Lib.hid (HBw.out.trans (hb4.mono HBw.out.size)); clear hb4)
                      go_ret
                      exact ⟨by rw [HRf.out]; rfl, HB4.out⟩
                    · have z1 : ((j : Int) == 0) = false := by rw [beq_eq_false_iff_ne]; omega
                      have HJ0 := Lib.hid hj0
                      clear hj0
                      have HF2 := Lib.hid (HOn2.out j HNe.out HTj.out (.inl HJ0.out) HF.out)
                      have HK3 := Lib.hid HK.out
                      clear htk HTkk
                      generalize ks[kk] = kid at *
                      clear hkk hkl hkl2 hkL
                      have hw1 := HW1.out
                      go_wp2_with (go_at_call 144; (with_reducible refine CT.out.mono ?_); rintro e w4 ⟨rfl, hb4⟩; have HB4 := Lib.hid (HBw.out.trans (hb4.mono HBw.out.size)); clear hb4)
                      go_roundw
                      case rel => exact ⟨i + 1, kk, HI1.out, HKK.out, by go_num, rfl, by unfold Hid; rw [HK3.out]; exact HF2.out, HB4.out⟩
                      case measure => first | exact HMs.out | (rw [hw1]; exact HMs.out)
                · have p1 : ¬ (kk : Int) < (nk : Int) := by omega
                  have p2 : decide (kk < nk) = false := by simp; omega
                  have HTj := Lib.hid (HTw.out j HT.out (by have := HK.out; have := HNK.out; omega) (.inl (by have := HK.out; have := HNK.out; omega)) (fun hh => by rw [HMy.out] at hh; cases hh))
                  by_cases hj0 : j = 0
                  · have z1 : ((j : Int) == 0) = true := by rw [hj0]; rfl
                    have HJ0 := Lib.hid hj0
                    clear hj0
                    have HRf := Lib.hid (HNo2.out HNe.out (by rw [HTj.out]; exact HJ0.out) (by rw [HLs.out]; decide) (by rw [HLs.out]; decide) HF.out)
                    clear hkk hkl hkl2
                    go_wp2_with fail
                    go_ret
                    exact ⟨by rw [HRf.out]; rfl, HBw.out⟩
                  · have z1 : ((j : Int) == 0) = false := by rw [beq_eq_false_iff_ne]; omega
                    have HJ0 := Lib.hid hj0
                    clear hj0
                    have HF2 := Lib.hid (HOn2.out j HNe.out HTj.out (.inl HJ0.out) HF.out)
                    have HK3 := Lib.hid HK.out
                    clear hkk hkl hkl2
                    have hw1 := HW1.out
                    go_wp2_with fail
                    go_roundw
                    case rel => exact ⟨i + 1, kk, HI1.out, HKK.out, by go_num, rfl, by unfold Hid; rw [HK3.out]; exact HF2.out, HBw.out⟩
                    case measure => first | exact HMs.out | (rw [hw1]; exact HMs.out)
            · have hch : ch ≠ 63 ∧ ch ≠ 42 ∧ ch ≠ 43 ∧ markB ch = false := ⟨h63, h42, h43, by unfold markB; rw [beq_eq_false_iff_ne.2 h63, beq_eq_false_iff_ne.2 h42, beq_eq_false_iff_ne.2 h43]; rfl⟩
              have HN1 := Lib.hid (HNn.out hch.2.2.2)
              have HNs := Lib.hid HMl.out
              have t63 : ((ch.toNat : Int) == 63) = false := by rw [beq_eq_false_iff_ne]; intro e; exact hch.1 (byte_eq 63 rfl e)
              have n63 : ((ch.toNat : Int) != 63) = true := by rw [bne_iff_ne]; intro e; exact hch.1 (byte_eq 63 rfl e)
              have t42 : ((ch.toNat : Int) == 42) = false := by rw [beq_eq_false_iff_ne]; intro e; exact hch.2.1 (byte_eq 42 rfl e)
              have n42 : ((ch.toNat : Int) != 42) = true := by rw [bne_iff_ne]; intro e; exact hch.2.1 (byte_eq 42 rfl e)
              have t43 : ((ch.toNat : Int) == 43) = false := by rw [beq_eq_false_iff_ne]; intro e; exact hch.2.2.1 (byte_eq 43 rfl e)
              have n43 : ((ch.toNat : Int) != 43) = true := by rw [bne_iff_ne]; intro e; exact hch.2.2.1 (byte_eq 43 rfl e)
              have HMy : Hid (manyB x = false) := by unfold Hid; rw [HMany.out, beq_eq_false_iff_ne.2 hch.2.1, beq_eq_false_iff_ne.2 hch.2.2.1]; rfl
              have HL63 : Hid (x.getLast? ≠ some 63 ∧ x.getLast? ≠ some 42) := by unfold Hid; rw [HLast.out]; exact ⟨fun e => hch.1 (Option.some.inj e), fun e => hch.2.1 (Option.some.inj e)⟩
              have cC := fun X => cut_any WB 124 X (by have := HNs.out; omega)
              rw [HN1.out] at cC
              have CC := Lib.hid cC
              have HCl : Hid (∀ y ∈ cutB 124 nmw, y.length ≤ 2000) := fun y hy => by
                have h1 := cutB_mem_len 124 nmw y hy
                rw [← HN1.out, len_toList] at h1
                have := HNs.out; omega
              have HCn : Hid ((cutB 124 nmw).length ≤ 2001) := by
                have h1 := cutB_len 124 nmw
                rw [← HN1.out, len_toList, HN1.out] at h1
                have := HNs.out; unfold Hid; omega
              have HCz : Hid ((cutB 124 nmw).length ≠ 0) := fun e => cutB_ne 124 nmw (List.eq_nil_of_length_eq_zero e)
              have HTK : Hid (∀ t : Tr, takesB pg nmw t = (cutB 124 nmw).any fun n => takes1 pg n t.page t.name.data.toList) := fun t => rfl
              clear cC hch HNm HNn HNl HMl HMany HLast HN1 HNs h63 h42 h43
              generalize (ch.toNat : Int) = chn at *
              generalize cutB 124 nmw = CL at *
              have HI1 : Hid (i + 1 ≤ nw) := hlt
              have HKk0 := Lib.hid hk
              go_wp2_with (go_at_call 93; refine (CC.out _).mono ?_; rintro e w2 ⟨ac, cp, rfl, hown, hb2⟩)
              clear k5 k6 k7 k8 k9
              have HB2 : Hid (Below w.heap.size w w2) := HB.out.trans (hb2.mono HB.out.size)
              obtain ⟨g2, rfl, hg0, hg2, hg3⟩ := extract_tail hown rfl 0 (by have := HCz.out; omega)
              clear hg0 hg3
              have HCC : Hid (∀ q y, CL[q]? = some y → w2.cell? ⟨g2, 0 + q, none⟩ = some (.string (mkB y))) := fun q y hq => by
                obtain ⟨hq1, rfl⟩ := List.getElem?_eq_some_iff.1 hq
                obtain ⟨g3, e3, _, _, h3⟩ := extract_tail hown rfl q hq1
                have e4 : g2 = g3 := congrArg Addr.block (Option.some.inj e3)
                subst e4
                rw [Nat.zero_add]; exact h3
              clear hown hb2 CC hg2
              go_loopw [7, 12] (fun kv nv wq => ∃ (kk j : Nat), kk ≤ nk ∧ kv = .int .i64 (kk : Int) ∧ nv = .int .i64 (j : Int) ∧ Hid (kk = k + j) ∧ Hid (∀ q (h : k + q < ks.length), q < j → takesB pg nmw ks[k + q] = true) ∧ Hid (Below w2.heap.size w2 wq) ∧ Hid (j ≤ 1)) (fun kv _ _ => nk - (intOf kv).toNat)
              case atStart => exact ⟨k, 0, hk, rfl, rfl, rfl, fun _ _ h => absurd h (Nat.not_lt_zero _), Below.refl _ _, Nat.zero_le _⟩
              case round =>
                obtain ⟨kk, j, hkk, rfl, rfl, HK, HT, HBq, HJ1⟩ := hrel
                clear hk hi hlt j3 d3 hx hwl
                have HKK := Lib.hid hkk
                have HBw : Hid (Below w.heap.size w wr) := HB2.out.trans (HBq.out.mono HB2.out.size)
                by_cases hkl2 : kk < nk
                · have p1 : (kk : Int) < (nk : Int) := by omega
                  have p2 : decide (kk < nk) = true := by simp; omega
                  have hkL : kk < ks.length := by rw [HNK.out]; exact hkl2
                  obtain ⟨bb, o5, a', c', rfl, hrg, hat5⟩ := kid_at2 HKs.out (HBw.out.mono HM.out) kk hkL
                  obtain ⟨x0, x1, x2, x3, x4⟩ := elem_cells hrg
                  have cT := gTakes_any pg g2 0 cp CL ks[kk].page ks[kk].name ks[kk].text ks[kk].opq a' ks[kk].kids.length c' wr (by have := HCn.out; omega) (fun y hy => by have := HCl.out y hy; omega) (fun q y hq => (HBq.out.cell (p := ⟨g2, 0 + q, none⟩) (World.block_lt_of_cell? _ _ (HCC.out q y hq))).trans (HCC.out q y hq))
                  rw [← HTK.out] at cT
                  have CT := Lib.hid cT
                  have HTkk : Hid (∀ h : k + j < ks.length, ks[kk] = ks[k + j]) := fun h => by have e : kk = k + j := HK.out; subst e; rfl
                  have hpg : ∀ t : Tr, True := fun _ => trivial
                  clear cT hrg hat5 hpg
                  by_cases htk : takesB pg nmw ks[kk] = true
                  · rw [htk] at CT
                    by_cases hj : j = 0
                    · have q0 : ((j : Int) == 0) = true := by rw [hj]; rfl
                      have HJz := Lib.hid hj
                      clear hj
                      have HT2 : Hid (∀ q (h : k + q < ks.length), q < j + 1 → takesB pg nmw ks[k + q] = true) := fun q h hq => by
                        by_cases e : q = j
                        · subst e; rw [← HTkk.out h]; exact htk
                        · exact HT.out q h (by omega)
                      have HM2 : Hid (nk - (intOf (.int .i64 ((kk : Int) + 1))).toNat < nk - (intOf (.int .i64 (kk : Int))).toNat) := by unfold Hid; simp [intOf]; omega
                      have HK2 : Hid (kk + 1 = k + (j + 1)) := by have := HK.out; unfold Hid; omega
                      have HW2 : Hid (wrap64 ((kk : Int) + 1) = (kk : Int) + 1) := by unfold Hid wrap64; omega
                      have hjb : (j : Int) ≤ 3000 := by have := HK.out; omega
                      have HW3 : Hid (wrap64 ((j : Int) + 1) = (j : Int) + 1) := by unfold Hid wrap64; omega
                      have HK3 : Hid (kk + 1 ≤ nk) := hkl2
                      clear htk HTkk HT
                      generalize ks[kk] = kid at *
                      clear hkl2 hkL hkl hkk hjb
                      have hW2 := HW2.out
                      have hW3 := HW3.out
                      go_wp2_with (go_at_call 144; (with_reducible refine CT.out.mono ?_); rintro e w4 ⟨rfl, hb4⟩; have HB4 := Lib.hid (HBq.out.trans (hb4.mono HBq.out.size)); clear hb4)
                      go_roundw
                      case rel => exact ⟨kk + 1, j + 1, HK3.out, by go_num, by go_num, HK2.out, HT2.out, HB4.out, by have := HJz.out; unfold Hid; omega⟩
                      case measure => first | exact HM2.out | (rw [hW2]; exact HM2.out)
                    · have q0 : ((j : Int) == 0) = false := by rw [beq_eq_false_iff_ne]; omega
                      have HJ2 : Hid (j = 1) := by have := HJ1.out; unfold Hid; omega
                      clear hj
                      have HTj := Lib.hid (HTw.out j HT.out (by have := HK.out; have := HNK.out; omega) (.inr (.inr ⟨HMy.out, HJ2.out⟩)) (fun _ => HJ1.out))
                      have z1 := q0
                      have HF2 := Lib.hid (HOn2.out j HNe.out HTj.out (.inl (by rw [HJ2.out]; decide)) HF.out)
                      have HK3 := Lib.hid HK.out
                      clear htk HTkk
                      generalize ks[kk] = kid at *
                      clear hkk hkl hkl2 hkL
                      have hw1 := HW1.out
                      go_wp2_with (go_at_call 144; (with_reducible refine CT.out.mono ?_); rintro e w4 ⟨rfl, hb4⟩; have HB4 := Lib.hid (HBw.out.trans (hb4.mono HBw.out.size)); clear hb4)
                      go_roundw
                      case rel => exact ⟨i + 1, kk, HI1.out, HKK.out, by go_num, rfl, by unfold Hid; rw [HK3.out]; exact HF2.out, HB4.out⟩
                      case measure => first | exact HMs.out | (rw [hw1]; exact HMs.out)
                  · have htk : takesB pg nmw ks[kk] = false := by simpa using htk
                    rw [htk] at CT
                    have HTj := Lib.hid (HTw.out j HT.out (by have := HK.out; have := HNK.out; omega) (.inr (.inl ⟨by have := HK.out; omega, by rw [← HTkk.out (by have := HK.out; omega)]; exact htk⟩)) (fun _ => HJ1.out))
                    by_cases hj0 : j = 0
                    · have z1 : ((j : Int) == 0) = true := by rw [hj0]; rfl
                      have HJ0 := Lib.hid hj0
                      clear hj0
                      have HRf := Lib.hid (HNo2.out HNe.out (by rw [HTj.out]; exact HJ0.out) HL63.out.1 HL63.out.2 HF.out)
                      clear htk HTkk
                      generalize ks[kk] = kid at *
                      clear hkk hkl hkl2 hkL
                      go_wp2_with (go_at_call 144; (with_reducible refine CT.out.mono ?_); rintro e w4 ⟨rfl, hb4⟩; have HB4 := Lib.hid (HBw.out.trans (hb4.mono HBw.out.size)); clear hb4)
                      go_ret
                      exact ⟨by rw [HRf.out]; rfl, HB4.out⟩
                    · have z1 : ((j : Int) == 0) = false := by rw [beq_eq_false_iff_ne]; omega
                      have HJ0 := Lib.hid hj0
                      clear hj0
                      have HF2 := Lib.hid (HOn2.out j HNe.out HTj.out (.inl HJ0.out) HF.out)
                      have HK3 := Lib.hid HK.out
                      clear htk HTkk
                      generalize ks[kk] = kid at *
                      clear hkk hkl hkl2 hkL
                      have hw1 := HW1.out
                      go_wp2_with (go_at_call 144; (with_reducible refine CT.out.mono ?_); rintro e w4 ⟨rfl, hb4⟩; have HB4 := Lib.hid (HBw.out.trans (hb4.mono HBw.out.size)); clear hb4)
                      go_roundw
                      case rel => exact ⟨i + 1, kk, HI1.out, HKK.out, by go_num, rfl, by unfold Hid; rw [HK3.out]; exact HF2.out, HB4.out⟩
                      case measure => first | exact HMs.out | (rw [hw1]; exact HMs.out)
                · have p1 : ¬ (kk : Int) < (nk : Int) := by omega
                  have p2 : decide (kk < nk) = false := by simp; omega
                  have HTj := Lib.hid (HTw.out j HT.out (by have := HK.out; have := HNK.out; omega) (.inl (by have := HK.out; have := HNK.out; omega)) (fun _ => HJ1.out))
                  by_cases hj0 : j = 0
                  · have z1 : ((j : Int) == 0) = true := by rw [hj0]; rfl
                    have HJ0 := Lib.hid hj0
                    clear hj0
                    have HRf := Lib.hid (HNo2.out HNe.out (by rw [HTj.out]; exact HJ0.out) HL63.out.1 HL63.out.2 HF.out)
                    clear hkk hkl hkl2
                    go_wp2_with fail
                    go_ret
                    exact ⟨by rw [HRf.out]; rfl, HBw.out⟩
                  · have z1 : ((j : Int) == 0) = false := by rw [beq_eq_false_iff_ne]; omega
                    have HJ0 := Lib.hid hj0
                    clear hj0
                    have HF2 := Lib.hid (HOn2.out j HNe.out HTj.out (.inl HJ0.out) HF.out)
                    have HK3 := Lib.hid HK.out
                    clear hkk hkl hkl2
                    have hw1 := HW1.out
                    go_wp2_with fail
                    go_roundw
                    case rel => exact ⟨i + 1, kk, HI1.out, HKK.out, by go_num, rfl, by unfold Hid; rw [HK3.out]; exact HF2.out, HBw.out⟩
                    case measure => first | exact HMs.out | (rw [hw1]; exact HMs.out)
    · have j3 : ¬ (i : Int) < (nw : Int) := by omega
      have d3 : decide (i < nw) = false := by simp; omega
      have hRR := HEn.out i k (by omega) HF.out
      have HRR : Hid (R = decide ((k : Int) = (nk : Int))) := by
        unfold Hid; rw [hRR, decide_eq_decide]; omega
      clear hRR
      go_wp2_with fail
      go_ret
      exact ⟨by rw [HRR.out]; rfl, HB.out⟩
end Go.Proofs.YtgechifbbhipaaaDoor
