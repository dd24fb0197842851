/- grammar: the first element that is not as its rule has it, the reference's Check. No condition. -/
import Derived.Test.YtgechifbbhipaaaDoorGrH
import Derived.Test.YtgechifbbhipaaaDoorGrJ
set_option linter.unusedVariables false
set_option linter.unusedSimpArgs false
namespace Go.Proofs.YtgechifbbhipaaaDoor
open Go.RowKit

theorem chkL_hit {L : List (Nat × Tr)} {i : Nat} {f : Int} (hi : i < L.length) (h : ∀ j (hj : j < L.length), j < i → chkR1 L[j].2 = 0) (hf : chkR1 L[i].2 = f) (hn : f ≠ 0) : chkL (L.map (·.2)) 0 = (i + 1, f) := by
  have h2 : L.map (·.2) = (L.take i).map (·.2) ++ L[i].2 :: (L.drop (i + 1)).map (·.2) := by
    rw [← List.map_cons (f := fun p : Nat × Tr => p.2), ← List.map_append, ← List.drop_eq_getElem_cons hi, List.take_append_drop]
  rw [h2, chkL_at _ _ _ (fun y hy => ?_) (by rw [hf]; exact hn), hf]
  · simp; omega
  · obtain ⟨p, hp, rfl⟩ := List.mem_map.1 hy
    obtain ⟨j, hj, rfl⟩ := List.getElem_of_mem hp
    rw [List.length_take] at hj
    rw [List.getElem_take]
    exact h j (by omega) (by omega)
theorem chkL_none {L : List (Nat × Tr)} (h : ∀ j (hj : j < L.length), chkR1 L[j].2 = 0) : chkL (L.map (·.2)) 0 = (0, 0) := by
  refine chkL_ok _ fun y hy => ?_
  obtain ⟨p, hp, rfl⟩ := List.mem_map.1 hy
  obtain ⟨j, hj, rfl⟩ := List.getElem_of_mem hp
  exact h j hj
theorem ret_ni {R : Nat × Int} {n : Nat} {a b : Int} (h : R = (n, b)) (ha : a = (n : Int)) : Ending.returned (.tuple #[.int .i64 a, .int .i64 b]) = .returned (.tuple #[.int .i64 (R.1 : Int), .int .i64 R.2]) := by rw [h, ha]
theorem contains_next {l : List (List UInt8)} {k : Nat} (hk : k < l.length) : (l.take (k + 1)).contains textW = ((l.take k).contains textW || decide (l[k] = textW)) := by
  rw [List.take_succ_eq_append_getElem hk, Bool.eq_iff_iff]
  simp only [List.contains_iff_mem, Bool.or_eq_true, decide_eq_true_eq, List.mem_append, List.mem_singleton]
  constructor
  · rintro (h | h)
    · exact .inl h
    · exact .inr h.symm
  · rintro (h | h)
    · exact .inl h
    · exact .inr h.symm

set_option maxRecDepth 100000 in
set_option maxHeartbeats 600000 in
theorem gRefCheck_any (e : Tr) (v : Value) (w : World) (hv : AtT w w.heap.size e v) :
    Calls Tryd.prog 103 #[v] w fun r w' => r = .returned (.tuple #[.int .i64 ((chkG e).1 : Int), .int .i64 (chkG e).2]) ∧ Below w.heap.size w w' := by
  obtain ⟨s1, s2, s3, a, c, rfl, hk⟩ := hv.parts
  have hal : Below w.heap.size w (w.alloc (.cells #[.int .i64 e.page, .string e.name, .string e.text, .bool e.opq, .slice a e.kids.length c] 46)) := (Below.refl _ w).alloc (Nat.le_refl _) _
  have cC := Lib.hid (fun (X : World) (hX : Below w.heap.size w X) => refCheck_any e _ X (AtT.mono hX.size _ _ (AtT.below hX _ _ hv)))
  have cA := Lib.hid (fun (X : World) (hX : Below w.heap.size w X) => all_any 3000 20 (by decide) (by decide) e _ X (AtT.mono hX.size _ _ (AtT.below hX _ _ hv)))
  have HAl := Lib.hid hal
  clear hv hk hal
  by_cases hq : chkA e = 0
  case neg =>
    have j1 : (chkA e != 0) = true := by rw [bne_iff_ne]; exact hq
    have HR : Hid (chkG e = (0, chkA e)) := by unfold Hid chkG; rw [if_neg hq]
    clear hq
    generalize chkA e = q at *
    go_enter Tryd.func103, Tryd.ntmps103
    go_wp2_with (go_at_call 34; refine (cC.out _ HAl.out).mono ?_; rintro r w5 ⟨rfl, hb5⟩)
    go_ret2
    exact ⟨ret_ni HR.out rfl, HAl.out.trans (hb5.mono HAl.out.size)⟩
  have HLen : Hid (((preT 20 1 e).take 3000).length ≤ 2000) := by unfold Hid; have := chkA_len hq; rw [List.length_take]; omega
  have HMem : Hid (∀ j (hj : j < ((preT 20 1 e).take 3000).length), 0 ≤ ((preT 20 1 e).take 3000)[j].2.page ∧ ((preT 20 1 e).take 3000)[j].2.page ≤ 2 ∧ nameB ((preT 20 1 e).take 3000)[j].2.name = true ∧ ((preT 20 1 e).take 3000)[j].2.name.size ≤ 32 ∧ ((preT 20 1 e).take 3000)[j].2.kids.length ≤ 200 ∧ ((preT 20 1 e).take 3000)[j].2.text.size ≤ 4000) := fun j hj =>
    chkA_mem hq (List.mem_map.2 ⟨_, List.mem_of_mem_take (List.getElem_mem hj), rfl⟩)
  have HE : Hid (chkG e = chkL (((preT 20 1 e).take 3000).map (·.2)) 0) := by
    have := chkA_len hq
    unfold Hid chkG
    rw [if_pos hq, List.take_of_length_le (by omega)]
  rw [hq] at cC
  clear hq
  generalize (preT 20 1 e).take 3000 = L at *
  generalize chkG e = R at *
  go_enter Tryd.func103, Tryd.ntmps103
  go_wp2_with (first | (go_at_call 34; refine (cC.out _ HAl.out).mono ?_; rintro r w4 ⟨rfl, hb4⟩; have HB4 := Lib.hid (HAl.out.trans (hb4.mono HAl.out.size)); obtain ⟨y0, y1, y2, y3, y4⟩ := box5 e.page e.name e.text e.opq (.slice a e.kids.length c) (by simpa using hb4); clear hb4) | (go_at_call 84; refine (cA.out w4 HB4.out).mono ?_; rintro r w5 ⟨⟨l, rfl, a', c', xs, rfl, ho, hp⟩, hb5⟩))
  have HO := Lib.hid ho
  have HP := Lib.hid hp
  have HB := Lib.hid (HB4.out.trans (hb5.mono HB4.out.size))
  have hM4 : w4.heap.size ≤ w5.heap.size := hb5.size
  have hL5 : L.length ≤ 2000 := HLen.out
  clear ho hp hb5 y0 y1 y2 y3 y4
  have HM4 := Lib.hid hM4
  clear hM4
  go_loopw [6] (fun iv wr => ∃ (i : Nat), i ≤ L.length ∧ iv = .int .i64 (i : Int) ∧ Hid (∀ j (hj : j < L.length), j < i → chkR1 L[j].2 = 0) ∧ Hid (Below w5.heap.size w5 wr)) (fun iv _ => L.length - (intOf iv).toNat)
  case atStart => exact ⟨0, Nat.zero_le _, rfl, fun _ _ h => absurd h (Nat.not_lt_zero _), Below.refl _ _⟩
  case round =>
    obtain ⟨i, hi, rfl, HJ, HBr⟩ := hrel
    by_cases hlt : i < L.length
    case neg =>
      have j3 : ¬ (i : Int) < (L.length : Int) := by omega
      have d3 : decide (i < L.length) = false := by simp; omega
      have HR : Hid (R = (0, 0)) := by unfold Hid; rw [HE.out, chkL_none (fun j hj => HJ.out j hj (by omega))]
      clear hlt hi hL5
      go_wp2_with fail
      go_ret2
      exact ⟨ret_ni HR.out (by first | rfl | exact HW1.out), HB.out.trans (HBr.out.mono HB.out.size)⟩
    have j3 : (i : Int) < (L.length : Int) := by omega
    have d3 : decide (i < L.length) = true := by simp; omega
    have HW1 : Hid (wrap64 ((i : Int) + 1) = (i : Int) + 1) := by unfold Hid wrap64; omega
    obtain ⟨g, a2, c2, rfl, hrg, hat⟩ := HP.out.at HO.out i hlt
    obtain ⟨g1, g2, g3, g4, g5, g6⟩ := HMem.out i hlt
    obtain ⟨_, _, _, a9, c9, h9, hkids⟩ := hat.parts
    obtain ⟨rfl, rfl⟩ : a2 = a9 ∧ c2 = c9 := by
      simp only [Value.agg.injEq, Array.mk.injEq, List.cons.injEq, Value.slice.injEq, true_and, and_true] at h9
      exact ⟨h9.1, h9.2⟩
    have hgl : g < w5.heap.size := World.block_lt_of_cell? _ _ (hrg 0 _ rfl)
    have y0 : wr.cell? ⟨g, i * 6 + 1, none⟩ = _ := (HBr.out.cell (p := ⟨g, i * 6 + 1, none⟩) hgl).trans (hrg 1 _ rfl)
    have y1 : wr.cell? ⟨g, i * 6 + 1 + 1, none⟩ = _ := (HBr.out.cell (p := ⟨g, i * 6 + 1 + 1, none⟩) hgl).trans (hrg 2 _ rfl)
    have y2 : wr.cell? ⟨g, i * 6 + 1 + 2, none⟩ = _ := (HBr.out.cell (p := ⟨g, i * 6 + 1 + 2, none⟩) hgl).trans (hrg 3 _ rfl)
    have y3 : wr.cell? ⟨g, i * 6 + 1 + 3, none⟩ = _ := (HBr.out.cell (p := ⟨g, i * 6 + 1 + 3, none⟩) hgl).trans (hrg 4 _ rfl)
    have y4 : wr.cell? ⟨g, i * 6 + 1 + 4, none⟩ = _ := (HBr.out.cell (p := ⟨g, i * 6 + 1 + 4, none⟩) hgl).trans (hrg 5 _ rfl)
    have HB1 : Hid (Below w5.heap.size w5 (wr.alloc (.cells #[.int .i64 L[i].2.page, .string L[i].2.name, .string L[i].2.text, .bool L[i].2.opq, .slice a2 L[i].2.kids.length c2] 46))) := HBr.out.trans (((Below.refl _ wr).alloc (Nat.le_refl _) _).mono HBr.out.size)
    have HKL : Hid (∀ Y, Below w5.heap.size w5 Y → AtL Y w4.heap.size a2 0 L[i].2.kids) := fun Y hY => AtL.below (hY.mono HM4.out) a2 _ 0 hkids
    have HKl : Hid (L[i].2.kids.length ≤ 3000) := by unfold Hid; omega
    have hrf : ∀ r, ruleF L[i].2.page L[i].2.name.data.toList = some r → (∀ y ∈ wordsR r, okWord y = true) ∧ r.length ≤ 1000 ∧ (wordsR r).contains textW = textW.isPrefixOf r := fun r hr => rule_facts (nameB_free g3 32 (by decide)) hr
    have HHit : Hid (∀ f, f ≠ 0 → chkR1 L[i].2 = f → R = (i + 1, f)) := fun f hf hx => by rw [HE.out]; exact chkL_hit hlt HJ.out hx hf
    have HNext : Hid (chkR1 L[i].2 = 0 → ∀ j (hj : j < L.length), j < i + 1 → chkR1 L[j].2 = 0) := fun hx j hj h => by
      by_cases e0 : j = i
      · subst e0; exact hx
      · exact HJ.out j hj (by omega)
    have HI1 : Hid (i + 1 ≤ L.length) := hlt
    have HLt := Lib.hid hlt
    rcases hro : ruleF L[i].2.page L[i].2.name.data.toList with _ | r
    · have HX : Hid (chkR1 L[i].2 = 14) := by unfold Hid chkR1; rw [hro]
      have HR := Lib.hid (HHit.out 14 (by decide) HX.out)
      have cWd := Lib.hid (fun Y => words_no L[i].2.page L[i].2.name g3 (by omega) hro Y)
      clear hro hrf hat hrg hkids g1 g2 g3 g4 g5 g6 h9 hgl hL5
      generalize L[i].2 = x at *
      go_wp2_with (go_at_call 89; refine (cWd.out _).mono ?_; rintro q X2 ⟨rfl, hb2⟩)
      go_ret2
      exact ⟨ret_ni HR.out (by first | rfl | exact HW1.out), HB.out.trans ((HB1.out.trans (hb2.mono HB1.out.size)).mono HB.out.size)⟩
    · obtain ⟨q1, q2, q3⟩ := hrf r hro
      have HX : Hid (chkR1 L[i].2 = if L[i].2.text.size ≠ 0 ∧ (wordsR r).contains textW = false then 3 else if fitsW L[i].2.page (wordsR r) L[i].2.kids = false then 15 else 0) := by unfold Hid chkR1; rw [hro]
      have cWd := Lib.hid (fun Y => words_yes L[i].2.page L[i].2.name g3 (by omega) r hro Y)
      have hnw : (wordsR r).length ≤ 1001 := by
        unfold wordsR
        split
        · simp
        · have := cutB_len 32 r; omega
      have cF := Lib.hid (fun Y hY aw cw hwc => refFits_any L[i].2.page (wordsR r) q1 (by omega) (fun y hy => by have := words_len r y hy; omega) aw cw L[i].2.kids a2 c2 w4.heap.size Y (Nat.le_trans HM4.out (Below.size hY)) (HKL.out Y hY) HKl.out hwc)
      clear hro hrf hat hrg hkids g1 g2 g3 g4 g5 g6 h9 hgl hL5 q1 q2 q3
      generalize L[i].2 = x at *
      generalize wordsR r = ws at *
      go_wp2_with (go_at_call 89; refine (cWd.out _).mono ?_; rintro q X2 ⟨⟨aw, cw, rfl, hww⟩, hb2⟩)
      have HB2 := Lib.hid (HB1.out.trans (hb2.mono HB1.out.size))
      have hx2 : X2.heap[wr.heap.size]? = some (.cells #[.int .i64 x.page, .string x.name, .string x.text, .bool x.opq, .slice a2 x.kids.length c2] 46) := (hb2.block wr.heap.size (by simp)).trans (World.alloc_heap_new wr _)
      have HWc : Hid (∀ i x, ws[i]? = some x → ∃ g o, aw = some ⟨g, o, none⟩ ∧ X2.cell? ⟨g, o + i, none⟩ = some (.string (mkB x))) := fun i x h => by
        obtain ⟨g, o, h1, _, _, h2⟩ := hww i x h
        exact ⟨g, o, h1, h2⟩
      have HX2 := Lib.hid hx2
      clear hww hb2 y0 y1 y2 y3 y4 hx2 hi hlt j3 d3
      have HNw := Lib.hid hnw
      clear hnw
      go_loop [10, 11] (fun tv kv => ∃ k : Nat, k ≤ ws.length ∧ tv = .bool ((ws.take k).contains textW) ∧ kv = .int .i64 (k : Int)) (fun _ kv => ws.length - (intOf kv).toNat)
      case atStart => exact ⟨0, Nat.zero_le _, rfl, rfl⟩
      case round =>
        obtain ⟨k, hk, rfl, rfl⟩ := hrel
        by_cases hkl : k < ws.length
        case pos =>
          have e3 : (k : Int) < (ws.length : Int) := by omega
          have e4 : decide (k < ws.length) = true := by simp; omega
          have HW2 : Hid (wrap64 ((k : Int) + 1) = (k : Int) + 1) := by have := HNw.out; unfold Hid wrap64; omega
          obtain ⟨gw, ow, rfl, hcell⟩ := HWc.out k ws[k] (List.getElem?_eq_getElem hkl)
          have HNx := Lib.hid (contains_next hkl)
          have HK1 : Hid (k + 1 ≤ ws.length) := hkl
          have k0 : (0 : Int) ≤ (k : Int) := by omega
          generalize ws[k] = wk at *
          clear hk
          cases hB : (ws.take k).contains textW with
          | true =>
            rw [hB] at HNx
            clear hB hkl
            go_wp2_with fail
            refine ⟨⟨k + 1, HK1.out, ?_, by rw [HW2.out]; rfl⟩, ?_⟩
            · rw [HNx.out]; rfl
            · have h9 := HK1.out
              rw [HW2.out]
              simp [intOf]; omega
          | false =>
            rw [hB, Bool.false_or] at HNx
            by_cases hT : wk = textW
            · have t0 : ((mkB wk).toList == [84, 69, 88, 84]) = true := by rw [ByteArray.toList_eq, mkB_list, hT]; rfl
              have t1 : (mkB wk).toList = [84, 69, 88, 84] := by rw [ByteArray.toList_eq, mkB_list, hT]; rfl
              rw [decide_eq_true hT] at HNx
              clear hB hkl hT
              generalize mkB wk = XB at *
              go_wp2_with fail
              refine ⟨⟨k + 1, HK1.out, ?_, by rw [HW2.out]; rfl⟩, ?_⟩
              · rw [HNx.out]
              · have h9 := HK1.out
                rw [HW2.out]
                simp [intOf]; omega
            · have t0 : ((mkB wk).toList == [84, 69, 88, 84]) = false := by rw [ByteArray.toList_eq, mkB_list, beq_eq_false_iff_ne]; exact hT
              have t1 : ¬ (mkB wk).toList = [84, 69, 88, 84] := by rw [ByteArray.toList_eq, mkB_list]; exact hT
              rw [decide_eq_false hT] at HNx
              clear hB hkl hT
              generalize mkB wk = XB at *
              go_wp2_with fail
              refine ⟨⟨k + 1, HK1.out, ?_, by rw [HW2.out]; rfl⟩, ?_⟩
              · rw [HNx.out]
              · have h9 := HK1.out
                rw [HW2.out]
                simp [intOf]; omega
        case neg =>
          have e3 : ¬ (k : Int) < (ws.length : Int) := by omega
          have e4 : decide (k < ws.length) = false := by simp; omega
          rw [List.take_of_length_le (show ws.length ≤ k by omega)]
          have y0 := cell_block HX2.out 0 _ rfl
          have y2 := cell_block HX2.out 2 _ rfl
          have y4 := cell_block HX2.out 4 _ rfl
          have cF2 := Lib.hid (cF.out X2 HB2.out aw cw HWc.out)
          clear hk hkl cF
          generalize ws.contains textW = tb at *
          generalize fitsW x.page ws x.kids = fb at *
          by_cases hz0 : x.text.size = 0
          · have iT : x.text.toList.isEmpty = true := emptyB x.text hz0
            have iT2 : x.text.toList = [] := List.isEmpty_iff.1 iT
            cases fb with
            | true =>
              have HX3 : Hid (chkR1 x = 0) := by unfold Hid; rw [HX.out, if_neg (by intro h; exact h.1 hz0), if_neg (by decide)]
              clear hz0
              go_wp2_with (go_at_call 95; refine cF2.out.mono ?_; rintro q X3 ⟨rfl, hb3⟩; have HB3 := Lib.hid (HB2.out.trans (hb3.mono HB2.out.size)); clear hb3)
              refine ⟨⟨i + 1, HI1.out, by rw [HW1.out]; rfl, HNext.out HX3.out, HB3.out⟩, ?_⟩
              have h9 := HI1.out
              rw [HW1.out]
              simp [intOf]; omega
            | false =>
              have HX3 : Hid (chkR1 x = 15) := by unfold Hid; rw [HX.out, if_neg (by intro h; exact h.1 hz0), if_pos rfl]
              have HR := Lib.hid (HHit.out 15 (by decide) HX3.out)
              clear hz0
              go_wp2_with (go_at_call 95; refine cF2.out.mono ?_; rintro q X3 ⟨rfl, hb3⟩; have HB3 := Lib.hid (HB2.out.trans (hb3.mono HB2.out.size)); clear hb3)
              go_ret2
              exact ⟨ret_ni HR.out (by first | rfl | exact HW1.out), HB.out.trans (HB3.out.mono HB.out.size)⟩
          · have iT : x.text.toList.isEmpty = false := nempty_of hz0
            have iT2 : ¬ x.text.toList = [] := fun h => by rw [h] at iT; cases iT
            cases tb with
            | false =>
              have HX3 : Hid (chkR1 x = 3) := by unfold Hid; rw [HX.out, if_pos ⟨hz0, rfl⟩]
              have HR := Lib.hid (HHit.out 3 (by decide) HX3.out)
              clear hz0
              go_wp2_with fail
              go_ret2
              exact ⟨ret_ni HR.out (by first | rfl | exact HW1.out), HB.out.trans (HB2.out.mono HB.out.size)⟩
            | true =>
              cases fb with
              | true =>
                have HX3 : Hid (chkR1 x = 0) := by unfold Hid; rw [HX.out, if_neg (by intro h; cases h.2), if_neg (by decide)]
                clear hz0
                go_wp2_with (go_at_call 95; refine cF2.out.mono ?_; rintro q X3 ⟨rfl, hb3⟩; have HB3 := Lib.hid (HB2.out.trans (hb3.mono HB2.out.size)); clear hb3)
                refine ⟨⟨i + 1, HI1.out, by rw [HW1.out]; rfl, HNext.out HX3.out, HB3.out⟩, ?_⟩
                have h9 := HI1.out
                rw [HW1.out]
                simp [intOf]; omega
              | false =>
                have HX3 : Hid (chkR1 x = 15) := by unfold Hid; rw [HX.out, if_neg (by intro h; cases h.2), if_pos rfl]
                have HR := Lib.hid (HHit.out 15 (by decide) HX3.out)
                clear hz0
                go_wp2_with (go_at_call 95; refine cF2.out.mono ?_; rintro q X3 ⟨rfl, hb3⟩; have HB3 := Lib.hid (HB2.out.trans (hb3.mono HB2.out.size)); clear hb3)
                go_ret2
                exact ⟨ret_ni HR.out (by first | rfl | exact HW1.out), HB.out.trans (HB3.out.mono HB.out.size)⟩
end Go.Proofs.YtgechifbbhipaaaDoor
