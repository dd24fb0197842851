/- msg: what is wrong with a Map, the reference. No condition but the sizes. -/
import Derived.Test.YtgechifbbhipaaaDoorCmF
set_option linter.unusedVariables false
set_option linter.unusedSimpArgs false
namespace Go.Proofs.YtgechifbbhipaaaDoor
open Go.RowKit

theorem kx69 {w X : World} {C1 cs : Array Value} (h : Sb w C1 27 X) : Sb w C1 27 (X.alloc (.cells cs 69)) ∧ (X.alloc (.cells cs 69)).heap[X.heap.size]? = some (.cells cs 69 (0, 0)) :=
  ⟨h.below ((Below.refl _ _).alloc (Nat.le_refl _) _), World.alloc_heap_new X _⟩
theorem empty_dec (a : ByteArray) : decide (a = ⟨#[]⟩) = a.toList.isEmpty := by
  have e : a.toList = [] ↔ a = ⟨#[]⟩ := by
    have h0 : (⟨#[]⟩ : ByteArray).toList = [] := by rw [ByteArray.toList_eq]
    constructor
    · intro h
      rw [← h0, ByteArray.toList_eq, ByteArray.toList_eq] at h
      exact ByteArray.ext (Array.toList_inj.1 h)
    · rintro rfl; exact h0
  by_cases h : a = ⟨#[]⟩
  · rw [decide_eq_true h, List.isEmpty_iff.2 (e.2 h)]
  · rw [decide_eq_false h]
    cases hh : a.toList.isEmpty with
    | false => rfl
    | true => exact absurd (e.1 (List.isEmpty_iff.1 hh)) h
theorem take_all {α : Type} {p : α → Bool} {l : List α} {i : Nat} (h : i < l.length) : (l.take (i + 1)).all p = ((l.take i).all p && p l[i]) := by
  rw [List.take_add_one, List.all_append, List.getElem?_eq_getElem h]; simp
theorem all_take_false {α : Type} {p : α → Bool} {l : List α} {i : Nat} (h : (l.take i).all p = false) : l.all p = false := by
  rw [← List.take_append_drop i l, List.all_append, h]; rfl
theorem any_all {α : Type} {p : α → Bool} (l : List α) : (!l.any fun x => !p x) = l.all p := by
  induction l with
  | nil => rfl
  | cons x l ih => simp only [List.any_cons, List.all_cons, Bool.not_or, Bool.not_not, ih]
attribute [local go_sem] undef rowOk_drew rowOf_drew run_rowSem in
attribute [local go_sem ↓] lc_row in
attribute [local irreducible] wpList in
set_option maxRecDepth 100000 in
set_option maxHeartbeats 8000000 in
theorem rchk6_aux (C1 : Array Value) (kd id : Int) (mr cr : Int) (fr : ByteArray) (co : Int) (ta so : ByteArray) (fo ty : ByteArray) (sz ve : Int) (la ne no : ByteArray) (mm mo : Int) (its : List It) (ai : Option Addr) (ci : Nat) (ak : Option Addr) (lk ck : Nat) (w : World) (hm : SmallMe ⟨fo, ty, sz, ve, la, ne, no, mm, mo⟩) (hms : SmallIs its) (hai : AtIs w w.heap.size ai its) (hkd : kd = 6) 
    (hnm : (nameK kd).toList.isEmpty = false) (hC : C1 = #[.int .i64 kd, .int .i64 id, .int .i64 mr, .int .i64 cr, .string fr, .int .i64 co, .string ta, .string so, .string fo, .string ty, .int .i64 sz, .int .i64 ve, .string la, .string ne, .string no, .int .i64 mm, .int .i64 mo, .slice ai its.length ci, .slice ak lk ck]) : Calls Tryd.prog 12 #[.agg C1] w fun r w' => r = .returned (.int .i64 (dec0 ((cntB id 1 && (chkM fo ty sz ve la ne no mm mo == 0)) && (bareB false false false true false true false mr cr fr co ta so fo ty sz ve la ne no mm mo its.length lk && (adrB ta && (adrB so && (itsB its 1 && !its.any fun x => !parB x))))))) ∧ Below w.heap.size w w' := by
  obtain ⟨s1, s2, s3, s4, s5⟩ := hm
  have cC := Lib.hid (fun n l X => refCnt_any n l X)
  have cN := Lib.hid (fun X => refKname_any kd X)
  have cM := Lib.hid (fun s X => refMay_any s X)
  have cA := Lib.hid (fun s X => refAdr_any s X)
  have cI := Lib.hid (fun least X (hX : Below w.heap.size w X) => refItems_any its hms ai ci least X ((hai.below hX).mono hX.size))
  have cQ := Lib.hid (fun X => refMet_any fo ty sz ve la ne no mm mo s1 s2 s3 s4 s5 X)
  have HKD := Lib.hid hkd
  clear hkd
  generalize chkM fo ty sz ve la ne no mm mo = q at *
  generalize nameK kd = nm at *
  have HCE := Lib.hid hC
  have HC1 : Hid (∀ (i : Nat) (v : Value), (#[.int .i64 kd, .int .i64 id, .int .i64 mr, .int .i64 cr, .string fr, .int .i64 co, .string ta, .string so, .string fo, .string ty, .int .i64 sz, .int .i64 ve, .string la, .string ne, .string no, .int .i64 mm, .int .i64 mo, .slice ai its.length ci, .slice ak lk ck] : Array Value)[i]? = some v → C1[i]? = some v) := fun i v h => by rw [hC]; exact h
  have HS19 : Hid (C1.size = 19) := by rw [hC]; rfl
  have HF0 := Lib.hid (Sb.start w C1 27)
  have HAI := Lib.hid hai
  have HMS := Lib.hid hms
  clear hC hms hai s1 s2 s3 s4 s5
  go_enter Tryd.func12, Tryd.ntmps12
  go_upto_region 1 with fail
  generalize w.alloc (.cells C1 27) = W at *
  have y0 := cell_block HF0.out.blk 0 _ (HC1.out 0 (.int .i64 kd) rfl)
  go_upto_region 3 with (go_at_call 16; (with_reducible refine (cN.out _).mono ?_); rintro r X0 ⟨rfl, hb⟩; have KK := Lib.hid (HF0.out.below hb))
  go_cut [3] from 9 to 22 (fun v wx => v = .bool (cntB id 1 && (q == 0)) ∧ Hid (Sb w C1 27 wx))
  case first =>
    have y1 := cell_block KK.out.blk 1 _ (HC1.out 1 (.int .i64 id) rfl); have y8 := cell_block KK.out.blk 8 _ (HC1.out 8 (.string fo) rfl); have y9 := cell_block KK.out.blk 9 _ (HC1.out 9 (.string ty) rfl); have y10 := cell_block KK.out.blk 10 _ (HC1.out 10 (.int .i64 sz) rfl); have y11 := cell_block KK.out.blk 11 _ (HC1.out 11 (.int .i64 ve) rfl); have y12 := cell_block KK.out.blk 12 _ (HC1.out 12 (.string la) rfl); have y13 := cell_block KK.out.blk 13 _ (HC1.out 13 (.string ne) rfl); have y14 := cell_block KK.out.blk 14 _ (HC1.out 14 (.string no) rfl); have y15 := cell_block KK.out.blk 15 _ (HC1.out 15 (.int .i64 mm) rfl); have y16 := cell_block KK.out.blk 16 _ (HC1.out 16 (.int .i64 mo) rfl)
    clear y0
    have hbb : (cntB id 1 && (q == 0)) = (cntB id 1 && (q == 0)) := rfl
    go_wp2_with (first | (go_at_call 54; (with_reducible refine (cC.out _ _ _).mono ?_); rintro r X ⟨rfl, rfl⟩) | (go_at_call 39; (with_reducible refine (cQ.out _).mono ?_); rintro r X ⟨rfl, hb⟩; have KK := Lib.hid (KK.out.below hb)))
    all_goals (go_meet; exact ⟨by simp [*], KK.out⟩)
  case rest =>
    obtain ⟨rfl, KK⟩ := hcut
    have KB := KK.out.bel
    have y2 := cell_block KK.out.blk 2 _ (HC1.out 2 (.int .i64 mr) rfl); have y3 := cell_block KK.out.blk 3 _ (HC1.out 3 (.int .i64 cr) rfl); have y4 := cell_block KK.out.blk 4 _ (HC1.out 4 (.string fr) rfl); have y5 := cell_block KK.out.blk 5 _ (HC1.out 5 (.int .i64 co) rfl); have y6 := cell_block KK.out.blk 6 _ (HC1.out 6 (.string ta) rfl); have y7 := cell_block KK.out.blk 7 _ (HC1.out 7 (.string so) rfl); have y17 := cell_block KK.out.blk 17 _ (HC1.out 17 (.slice ai its.length ci) rfl); have y18 := cell_block KK.out.blk 18 _ (HC1.out 18 (.slice ak lk ck) rfl)
    have ro := rowOk_of KK.out.blk HS19.out; have rf := rowOf_of KK.out.blk
    clear cQ cN HF0 hnm
    generalize hbb : (cntB id 1 && (q == 0)) = bb at *
    have HBB := Lib.hid hbb
    clear hbb
    have hkd := HKD.out
    subst hkd
    have cB := Lib.hid (fun X => bare6_any id mr cr fr co ta so fo ty sz ve la ne no mm mo ai its.length ci ak lk ck X)
    rw [← HCE.out] at cB
    have y0 := cell_block KK.out.blk 0 _ (HC1.out 0 (.int .i64 6) rfl)
    generalize hbq : bareB false false false true false true false mr cr fr co ta so fo ty sz ve la ne no mm mo its.length lk = bq at *
    have HBQ := Lib.hid hbq
    clear hbq
    go_upto_region 16 with fail
    go_cut [3] from 114 to 134 (fun v wx => v = .bool (bb && (bq && (adrB ta && (adrB so && itsB its 1)))) ∧ Hid (Sb w C1 27 wx))
    case first =>
      go_wp2_with (first | (go_at_call 54; (with_reducible refine (cC.out _ _ _).mono ?_); rintro r X ⟨rfl, rfl⟩) | (go_at_call 55; (with_reducible refine (cB.out _).mono ?_); rintro r X ⟨rfl, hb⟩; have KK := Lib.hid (KK.out.below hb); have KB := KK.out.bel; have y2 := cell_block KK.out.blk 2 _ (HC1.out 2 (.int .i64 mr) rfl); have y3 := cell_block KK.out.blk 3 _ (HC1.out 3 (.int .i64 cr) rfl); have y4 := cell_block KK.out.blk 4 _ (HC1.out 4 (.string fr) rfl); have y5 := cell_block KK.out.blk 5 _ (HC1.out 5 (.int .i64 co) rfl); have y6 := cell_block KK.out.blk 6 _ (HC1.out 6 (.string ta) rfl); have y7 := cell_block KK.out.blk 7 _ (HC1.out 7 (.string so) rfl); have y17 := cell_block KK.out.blk 17 _ (HC1.out 17 (.slice ai its.length ci) rfl); have y18 := cell_block KK.out.blk 18 _ (HC1.out 18 (.slice ak lk ck) rfl); have ro := rowOk_of KK.out.blk HS19.out; have rf := rowOf_of KK.out.blk) | (go_at_call 57; (with_reducible refine (cM.out _ _).mono ?_); rintro r X ⟨rfl, hb⟩; have KK := Lib.hid (KK.out.below hb); have KB := KK.out.bel; have y2 := cell_block KK.out.blk 2 _ (HC1.out 2 (.int .i64 mr) rfl); have y3 := cell_block KK.out.blk 3 _ (HC1.out 3 (.int .i64 cr) rfl); have y4 := cell_block KK.out.blk 4 _ (HC1.out 4 (.string fr) rfl); have y5 := cell_block KK.out.blk 5 _ (HC1.out 5 (.int .i64 co) rfl); have y6 := cell_block KK.out.blk 6 _ (HC1.out 6 (.string ta) rfl); have y7 := cell_block KK.out.blk 7 _ (HC1.out 7 (.string so) rfl); have y17 := cell_block KK.out.blk 17 _ (HC1.out 17 (.slice ai its.length ci) rfl); have y18 := cell_block KK.out.blk 18 _ (HC1.out 18 (.slice ak lk ck) rfl); have ro := rowOk_of KK.out.blk HS19.out; have rf := rowOf_of KK.out.blk) | (go_at_call 58; (with_reducible refine (cA.out _ _).mono ?_); rintro r X ⟨rfl, hb⟩; have KK := Lib.hid (KK.out.below hb); have KB := KK.out.bel; have y2 := cell_block KK.out.blk 2 _ (HC1.out 2 (.int .i64 mr) rfl); have y3 := cell_block KK.out.blk 3 _ (HC1.out 3 (.int .i64 cr) rfl); have y4 := cell_block KK.out.blk 4 _ (HC1.out 4 (.string fr) rfl); have y5 := cell_block KK.out.blk 5 _ (HC1.out 5 (.int .i64 co) rfl); have y6 := cell_block KK.out.blk 6 _ (HC1.out 6 (.string ta) rfl); have y7 := cell_block KK.out.blk 7 _ (HC1.out 7 (.string so) rfl); have y17 := cell_block KK.out.blk 17 _ (HC1.out 17 (.slice ai its.length ci) rfl); have y18 := cell_block KK.out.blk 18 _ (HC1.out 18 (.slice ak lk ck) rfl); have ro := rowOk_of KK.out.blk HS19.out; have rf := rowOf_of KK.out.blk) | (go_at_call 56; (with_reducible refine (cI.out _ _ KB).mono ?_); rintro r X ⟨rfl, hb⟩; have KK := Lib.hid (KK.out.below hb); have KB := KK.out.bel; have y2 := cell_block KK.out.blk 2 _ (HC1.out 2 (.int .i64 mr) rfl); have y3 := cell_block KK.out.blk 3 _ (HC1.out 3 (.int .i64 cr) rfl); have y4 := cell_block KK.out.blk 4 _ (HC1.out 4 (.string fr) rfl); have y5 := cell_block KK.out.blk 5 _ (HC1.out 5 (.int .i64 co) rfl); have y6 := cell_block KK.out.blk 6 _ (HC1.out 6 (.string ta) rfl); have y7 := cell_block KK.out.blk 7 _ (HC1.out 7 (.string so) rfl); have y17 := cell_block KK.out.blk 17 _ (HC1.out 17 (.slice ai its.length ci) rfl); have y18 := cell_block KK.out.blk 18 _ (HC1.out 18 (.slice ak lk ck) rfl); have ro := rowOk_of KK.out.blk HS19.out; have rf := rowOf_of KK.out.blk))
      all_goals (go_meet; exact ⟨by simp [*], KK.out⟩)
    case rest =>
      clear y0 y2 y3 y4 y5 y6 y7 y17 y18 ro rf
      obtain ⟨rfl, KK⟩ := hcut
      have HFIN : Hid (dec0 ((cntB id 1 && (q == 0)) && (bareB false false false true false true false mr cr fr co ta so fo ty sz ve la ne no mm mo its.length lk && (adrB ta && (adrB so && (itsB its 1 && !its.any fun x => !parB x))))) = dec0 ((bb && (bq && (adrB ta && (adrB so && itsB its 1)))) && its.all parB)) := by
        unfold Hid
        rw [HBB.out, HBQ.out, any_all]
        simp only [Bool.and_assoc]
      generalize hb0 : (bb && (bq && (adrB ta && (adrB so && itsB its 1)))) = b0 at *
      have HLEN : Hid (b0 = true → its.length ≤ 1000000) := fun h => by
        rw [← hb0] at h
        simp only [Bool.and_eq_true] at h
        exact itsB_len h.2.2.2.2
      clear hb0 cB cI cM HBQ
      have y17 := cell_block KK.out.blk 17 _ (HC1.out 17 (.slice ai its.length ci) rfl)
      go_wp2_with fail
      go_loopw [3, 6, 7] (fun bv iv _ wr => ∃ (i : Nat) (b : Bool), i ≤ its.length ∧ bv = .bool b ∧ iv = .int .i64 (i : Int) ∧ Hid (b = (b0 && (its.take i).all parB)) ∧ Hid (Sb w C1 27 wr)) (fun _ iv _ _ => its.length - (intOf iv).toNat)
      case atStart => exact ⟨0, b0, Nat.zero_le _, rfl, rfl, by simp [Hid], KK.out⟩
      case round =>
        obtain ⟨i, b, hi, rfl, rfl, HI, KK⟩ := hrel
        have y17 := cell_block KK.out.blk 17 _ (HC1.out 17 (.slice ai its.length ci) rfl)
        by_cases hlt : i < its.length
        · have k1 : (i : Int) < (its.length : Int) := by omega
          have k2 : decide (i < its.length) = true := by simp; omega
          cases b with
          | false =>
            have HE : Hid (dec0 (b0 && its.all parB) = 3) := by
              have h := HI.out
              unfold Hid
              cases b0 with
              | false => rfl
              | true =>
                rw [Bool.true_and] at h
                rw [all_take_false h.symm]; rfl
            go_wp2_with fail
            go_ret
            exact ⟨by rw [HFIN.out, HE.out]; rfl, KK.out.bel⟩
          | true =>
            have hb0 : b0 = true := by have h := HI.out; cases b0 with | true => rfl | false => cases h
            have hn8 := HLEN.out hb0
            have HST : Hid (parB its[i] = (b0 && (its.take (i + 1)).all parB)) := by
              unfold Hid
              rw [take_all hlt, hb0]
              have h := HI.out
              rw [hb0] at h
              rw [← Bool.and_assoc, ← h, Bool.true_and]
            have k0 : (0 : Int) ≤ (i : Int) := by omega
            obtain ⟨b2, o2, rfl, hbl, hc0⟩ := HAI.out i hlt
            have hc : wr.rangeAt b2 (o2 + i * 13) its[i].cells.toList := fun j u hu => (KK.out.bel.cell (p := ⟨b2, o2 + i * 13 + j, none⟩) hbl).trans (hc0 j u hu)
            obtain ⟨c00, c01, c02, c03, c04, c05, c06, c07, c08, c09, c10, c11, c12⟩ := cells13 hc
            clear hc0 hc hbl hb0
            have hpar : parB its[i] = (adrB its[i].ta && (adrB its[i].so && (emptyMV its[i].me && (decide (its[i].da = ⟨#[]⟩) && !its[i].mo)))) := rfl
            generalize its[i] = x at *
            obtain ⟨xta, xso, ⟨xfo, xty, xsz, xve, xla, xne, xno, xmm, xmo⟩, xda, xmr⟩ := x
            simp only [] at c00 c01 c02 c03 c04 c05 c06 c07 c08 c09 c10 c11 c12 hpar
            have cY := Lib.hid (fun X => refEmptyV_any xfo xty xsz xve xla xne xno xmm xmo X)
            go_upto_region 21 with fail
            obtain ⟨K1, K2⟩ := kx69 (cs := #[.string xta, .string xso, .string xfo, .string xty, .int .i64 xsz, .int .i64 xve, .string xla, .string xne, .string xno, .int .i64 xmm, .int .i64 xmo, .string xda, .bool xmr]) KK.out
            have KK := Lib.hid K1
            have KA := Lib.hid K2
            clear K1 K2 c00 c01 c02 c03 c04 c05 c06 c07 c08 c09 c10 c11 c12 y17
            have z0 := cell_block KA.out 0 (.string xta) rfl; have z1 := cell_block KA.out 1 (.string xso) rfl; have z2 := cell_block KA.out 2 (.string xfo) rfl; have z3 := cell_block KA.out 3 (.string xty) rfl; have z4 := cell_block KA.out 4 (.int .i64 xsz) rfl; have z5 := cell_block KA.out 5 (.int .i64 xve) rfl; have z6 := cell_block KA.out 6 (.string xla) rfl; have z7 := cell_block KA.out 7 (.string xne) rfl; have z8 := cell_block KA.out 8 (.string xno) rfl; have z9 := cell_block KA.out 9 (.int .i64 xmm) rfl; have z10 := cell_block KA.out 10 (.int .i64 xmo) rfl; have z11 := cell_block KA.out 11 (.string xda) rfl; have z12 := cell_block KA.out 12 (.bool xmr) rfl
            rw [empty_dec] at hpar
            have HPAR := Lib.hid hpar
            clear hpar
            have HW1 : Hid (wrap64 ((i : Int) + 1) = (i : Int) + 1) := by unfold Hid wrap64; omega
            go_wp2_with (first | (go_at_call 58; (with_reducible refine (cA.out _ _).mono ?_); rintro r X ⟨rfl, hb⟩; have KK := Lib.hid (KK.out.below hb); have KA := Lib.hid (as_below KA.out hb); have z0 := cell_block KA.out 0 (.string xta) rfl; have z1 := cell_block KA.out 1 (.string xso) rfl; have z2 := cell_block KA.out 2 (.string xfo) rfl; have z3 := cell_block KA.out 3 (.string xty) rfl; have z4 := cell_block KA.out 4 (.int .i64 xsz) rfl; have z5 := cell_block KA.out 5 (.int .i64 xve) rfl; have z6 := cell_block KA.out 6 (.string xla) rfl; have z7 := cell_block KA.out 7 (.string xne) rfl; have z8 := cell_block KA.out 8 (.string xno) rfl; have z9 := cell_block KA.out 9 (.int .i64 xmm) rfl; have z10 := cell_block KA.out 10 (.int .i64 xmo) rfl; have z11 := cell_block KA.out 11 (.string xda) rfl; have z12 := cell_block KA.out 12 (.bool xmr) rfl) | (go_at_call 59; (with_reducible refine (cY.out _).mono ?_); rintro r X ⟨rfl, hb⟩; have KK := Lib.hid (KK.out.below hb); have KA := Lib.hid (as_below KA.out hb); have z0 := cell_block KA.out 0 (.string xta) rfl; have z1 := cell_block KA.out 1 (.string xso) rfl; have z2 := cell_block KA.out 2 (.string xfo) rfl; have z3 := cell_block KA.out 3 (.string xty) rfl; have z4 := cell_block KA.out 4 (.int .i64 xsz) rfl; have z5 := cell_block KA.out 5 (.int .i64 xve) rfl; have z6 := cell_block KA.out 6 (.string xla) rfl; have z7 := cell_block KA.out 7 (.string xne) rfl; have z8 := cell_block KA.out 8 (.string xno) rfl; have z9 := cell_block KA.out 9 (.int .i64 xmm) rfl; have z10 := cell_block KA.out 10 (.int .i64 xmo) rfl; have z11 := cell_block KA.out 11 (.string xda) rfl; have z12 := cell_block KA.out 12 (.bool xmr) rfl))
            all_goals go_roundw
            all_goals first
              | (refine ⟨i + 1, _, by omega, rfl, by go_num, ?_, KK⟩; unfold Hid; rw [← HST.out, HPAR.out]; (simp [*]))
              | (simp [intOf]; omega)
        · have k1 : ¬ (i : Int) < (its.length : Int) := by omega
          have k2 : decide (i < its.length) = false := by simp; omega
          have HE : Hid (b = (b0 && its.all parB)) := by
            have h := HI.out
            rw [List.take_of_length_le (by omega)] at h
            exact h
          cases b with
          | false =>
            go_wp2_with fail
            go_ret
            exact ⟨by rw [HFIN.out, ← HE.out]; rfl, KK.out.bel⟩
          | true =>
            go_wp2_with fail
            go_ret
            exact ⟨by rw [HFIN.out, ← HE.out]; rfl, KK.out.bel⟩
end Go.Proofs.YtgechifbbhipaaaDoor
