/- msg: what is wrong with a command, the reference, kind by kind. No condition but the sizes. -/
import Derived.Test.YtgechifbbhipaaaDoorCmD
set_option linter.unusedVariables false
set_option linter.unusedSimpArgs false
namespace Go.Proofs.YtgechifbbhipaaaDoor
open Go.RowKit

attribute [local go_sem] undef rowOk_drew rowOf_drew run_rowSem in
attribute [local go_sem ↓] lc_row in
attribute [local irreducible] wpList in
set_option maxRecDepth 100000 in
set_option maxHeartbeats 8000000 in
theorem rchk1_aux (C1 : Array Value) (kd id : Int) (mr cr : Int) (fr : ByteArray) (co : Int) (ta so : ByteArray) (fo ty : ByteArray) (sz ve : Int) (la ne no : ByteArray) (mm mo : Int) (its : List It) (ai : Option Addr) (ci : Nat) (ak : Option Addr) (lk ck : Nat) (w : World) (hm : SmallMe ⟨fo, ty, sz, ve, la, ne, no, mm, mo⟩) (hms : SmallIs its) (hai : AtIs w w.heap.size ai its) (hkd : kd = 1) 
    (hnm : (nameK kd).toList.isEmpty = false) (hC : C1 = #[.int .i64 kd, .int .i64 id, .int .i64 mr, .int .i64 cr, .string fr, .int .i64 co, .string ta, .string so, .string fo, .string ty, .int .i64 sz, .int .i64 ve, .string la, .string ne, .string no, .int .i64 mm, .int .i64 mo, .slice ai its.length ci, .slice ak lk ck]) : Calls Tryd.prog 12 #[.agg C1] w fun r w' => r = .returned (.int .i64 (dec0 ((cntB id 1 && (chkM fo ty sz ve la ne no mm mo == 0)) && (bareB false false true false false true false mr cr fr co ta so fo ty sz ve la ne no mm mo its.length lk && (decide (1 ≤ co) && (decide (co ≤ 999) && itsB its 0)))))) ∧ Below w.heap.size w w' := by
  obtain ⟨s1, s2, s3, s4, s5⟩ := hm
  have cC := Lib.hid (fun n l X => refCnt_any n l X)
  have cN := Lib.hid (fun X => refKname_any kd X)
  have cM := Lib.hid (fun s X => refMay_any s X)
  have cA := Lib.hid (fun s X => refAdr_any s X)
  have cI := Lib.hid (fun least X (hX : Below w.heap.size w X) => refItems_any its hms ai ci least X ((hai.below hX).mono hX.size))
  have cQ := Lib.hid (fun X => refMet_any fo ty sz ve la ne no mm mo s1 s2 s3 s4 s5 X)
  have HKD := Lib.hid hkd
  clear hkd
  generalize chkM fo ty sz ve la ne no mm mo = q at *
  generalize nameK kd = nm at *
  have HCE := Lib.hid hC
  have HC1 : Hid (∀ (i : Nat) (v : Value), (#[.int .i64 kd, .int .i64 id, .int .i64 mr, .int .i64 cr, .string fr, .int .i64 co, .string ta, .string so, .string fo, .string ty, .int .i64 sz, .int .i64 ve, .string la, .string ne, .string no, .int .i64 mm, .int .i64 mo, .slice ai its.length ci, .slice ak lk ck] : Array Value)[i]? = some v → C1[i]? = some v) := fun i v h => by rw [hC]; exact h
  have HS19 : Hid (C1.size = 19) := by rw [hC]; rfl
  have HF0 := Lib.hid (Sb.start w C1 27)
  have HAI := Lib.hid hai
  have HMS := Lib.hid hms
  clear hC hms hai s1 s2 s3 s4 s5
  go_enter Tryd.func12, Tryd.ntmps12
  go_upto_region 1 with fail
  generalize w.alloc (.cells C1 27) = W at *
  have y0 := cell_block HF0.out.blk 0 _ (HC1.out 0 (.int .i64 kd) rfl)
  go_upto_region 3 with (go_at_call 16; (with_reducible refine (cN.out _).mono ?_); rintro r X0 ⟨rfl, hb⟩; have KK := Lib.hid (HF0.out.below hb))
  go_cut [3] from 9 to 22 (fun v wx => v = .bool (cntB id 1 && (q == 0)) ∧ Hid (Sb w C1 27 wx))
  case first =>
    have y1 := cell_block KK.out.blk 1 _ (HC1.out 1 (.int .i64 id) rfl); have y8 := cell_block KK.out.blk 8 _ (HC1.out 8 (.string fo) rfl); have y9 := cell_block KK.out.blk 9 _ (HC1.out 9 (.string ty) rfl); have y10 := cell_block KK.out.blk 10 _ (HC1.out 10 (.int .i64 sz) rfl); have y11 := cell_block KK.out.blk 11 _ (HC1.out 11 (.int .i64 ve) rfl); have y12 := cell_block KK.out.blk 12 _ (HC1.out 12 (.string la) rfl); have y13 := cell_block KK.out.blk 13 _ (HC1.out 13 (.string ne) rfl); have y14 := cell_block KK.out.blk 14 _ (HC1.out 14 (.string no) rfl); have y15 := cell_block KK.out.blk 15 _ (HC1.out 15 (.int .i64 mm) rfl); have y16 := cell_block KK.out.blk 16 _ (HC1.out 16 (.int .i64 mo) rfl)
    clear y0
    have hbb : (cntB id 1 && (q == 0)) = (cntB id 1 && (q == 0)) := rfl
    go_wp2_with (first | (go_at_call 54; (with_reducible refine (cC.out _ _ _).mono ?_); rintro r X ⟨rfl, rfl⟩) | (go_at_call 39; (with_reducible refine (cQ.out _).mono ?_); rintro r X ⟨rfl, hb⟩; have KK := Lib.hid (KK.out.below hb)))
    all_goals (go_meet; exact ⟨by simp [*], KK.out⟩)
  case rest =>
    obtain ⟨rfl, KK⟩ := hcut
    have KB := KK.out.bel
    have y2 := cell_block KK.out.blk 2 _ (HC1.out 2 (.int .i64 mr) rfl); have y3 := cell_block KK.out.blk 3 _ (HC1.out 3 (.int .i64 cr) rfl); have y4 := cell_block KK.out.blk 4 _ (HC1.out 4 (.string fr) rfl); have y5 := cell_block KK.out.blk 5 _ (HC1.out 5 (.int .i64 co) rfl); have y6 := cell_block KK.out.blk 6 _ (HC1.out 6 (.string ta) rfl); have y7 := cell_block KK.out.blk 7 _ (HC1.out 7 (.string so) rfl); have y17 := cell_block KK.out.blk 17 _ (HC1.out 17 (.slice ai its.length ci) rfl); have y18 := cell_block KK.out.blk 18 _ (HC1.out 18 (.slice ak lk ck) rfl)
    have ro := rowOk_of KK.out.blk HS19.out; have rf := rowOf_of KK.out.blk
    clear cQ cN HF0 hnm
    generalize hbb : (cntB id 1 && (q == 0)) = bb at *
    have HBB := Lib.hid hbb
    clear hbb
    have hkd := HKD.out
    subst hkd
    have cB := Lib.hid (fun X => bare1_any id mr cr fr co ta so fo ty sz ve la ne no mm mo ai its.length ci ak lk ck X)
    rw [← HCE.out] at cB
    have y0 := cell_block KK.out.blk 0 _ (HC1.out 0 (.int .i64 1) rfl)
    generalize hbq : bareB false false true false false true false mr cr fr co ta so fo ty sz ve la ne no mm mo its.length lk = bq at *
    have HBQ := Lib.hid hbq
    clear hbq
    go_wp2_with (first | (go_at_call 54; (with_reducible refine (cC.out _ _ _).mono ?_); rintro r X ⟨rfl, rfl⟩) | (go_at_call 55; (with_reducible refine (cB.out _).mono ?_); rintro r X ⟨rfl, hb⟩; have KK := Lib.hid (KK.out.below hb); have KB := KK.out.bel; have y2 := cell_block KK.out.blk 2 _ (HC1.out 2 (.int .i64 mr) rfl); have y3 := cell_block KK.out.blk 3 _ (HC1.out 3 (.int .i64 cr) rfl); have y4 := cell_block KK.out.blk 4 _ (HC1.out 4 (.string fr) rfl); have y5 := cell_block KK.out.blk 5 _ (HC1.out 5 (.int .i64 co) rfl); have y6 := cell_block KK.out.blk 6 _ (HC1.out 6 (.string ta) rfl); have y7 := cell_block KK.out.blk 7 _ (HC1.out 7 (.string so) rfl); have y17 := cell_block KK.out.blk 17 _ (HC1.out 17 (.slice ai its.length ci) rfl); have y18 := cell_block KK.out.blk 18 _ (HC1.out 18 (.slice ak lk ck) rfl); have ro := rowOk_of KK.out.blk HS19.out; have rf := rowOf_of KK.out.blk) | (go_at_call 57; (with_reducible refine (cM.out _ _).mono ?_); rintro r X ⟨rfl, hb⟩; have KK := Lib.hid (KK.out.below hb); have KB := KK.out.bel; have y2 := cell_block KK.out.blk 2 _ (HC1.out 2 (.int .i64 mr) rfl); have y3 := cell_block KK.out.blk 3 _ (HC1.out 3 (.int .i64 cr) rfl); have y4 := cell_block KK.out.blk 4 _ (HC1.out 4 (.string fr) rfl); have y5 := cell_block KK.out.blk 5 _ (HC1.out 5 (.int .i64 co) rfl); have y6 := cell_block KK.out.blk 6 _ (HC1.out 6 (.string ta) rfl); have y7 := cell_block KK.out.blk 7 _ (HC1.out 7 (.string so) rfl); have y17 := cell_block KK.out.blk 17 _ (HC1.out 17 (.slice ai its.length ci) rfl); have y18 := cell_block KK.out.blk 18 _ (HC1.out 18 (.slice ak lk ck) rfl); have ro := rowOk_of KK.out.blk HS19.out; have rf := rowOf_of KK.out.blk) | (go_at_call 58; (with_reducible refine (cA.out _ _).mono ?_); rintro r X ⟨rfl, hb⟩; have KK := Lib.hid (KK.out.below hb); have KB := KK.out.bel; have y2 := cell_block KK.out.blk 2 _ (HC1.out 2 (.int .i64 mr) rfl); have y3 := cell_block KK.out.blk 3 _ (HC1.out 3 (.int .i64 cr) rfl); have y4 := cell_block KK.out.blk 4 _ (HC1.out 4 (.string fr) rfl); have y5 := cell_block KK.out.blk 5 _ (HC1.out 5 (.int .i64 co) rfl); have y6 := cell_block KK.out.blk 6 _ (HC1.out 6 (.string ta) rfl); have y7 := cell_block KK.out.blk 7 _ (HC1.out 7 (.string so) rfl); have y17 := cell_block KK.out.blk 17 _ (HC1.out 17 (.slice ai its.length ci) rfl); have y18 := cell_block KK.out.blk 18 _ (HC1.out 18 (.slice ak lk ck) rfl); have ro := rowOk_of KK.out.blk HS19.out; have rf := rowOf_of KK.out.blk) | (go_at_call 56; (with_reducible refine (cI.out _ _ KB).mono ?_); rintro r X ⟨rfl, hb⟩; have KK := Lib.hid (KK.out.below hb); have KB := KK.out.bel; have y2 := cell_block KK.out.blk 2 _ (HC1.out 2 (.int .i64 mr) rfl); have y3 := cell_block KK.out.blk 3 _ (HC1.out 3 (.int .i64 cr) rfl); have y4 := cell_block KK.out.blk 4 _ (HC1.out 4 (.string fr) rfl); have y5 := cell_block KK.out.blk 5 _ (HC1.out 5 (.int .i64 co) rfl); have y6 := cell_block KK.out.blk 6 _ (HC1.out 6 (.string ta) rfl); have y7 := cell_block KK.out.blk 7 _ (HC1.out 7 (.string so) rfl); have y17 := cell_block KK.out.blk 17 _ (HC1.out 17 (.slice ai its.length ci) rfl); have y18 := cell_block KK.out.blk 18 _ (HC1.out 18 (.slice ak lk ck) rfl); have ro := rowOk_of KK.out.blk HS19.out; have rf := rowOf_of KK.out.blk))
    all_goals clear y2 y3 y4 y5 y6 y7 y17 y18 ro rf cC cM cA cI y0 cB
    all_goals (go_ret; refine ⟨?_, KB⟩; change Ending.returned (Value.int .i64 _) = _; rw [HBB.out, HBQ.out]; (try simp only [Bool.not_eq_true', Bool.not_eq_false'] at *); (simp [dec0, *] <;> (try (intros; omega))))
attribute [local go_sem] undef rowOk_drew rowOf_drew run_rowSem in
attribute [local go_sem ↓] lc_row in
attribute [local irreducible] wpList in
set_option maxRecDepth 100000 in
set_option maxHeartbeats 8000000 in
theorem rchk10_aux (C1 : Array Value) (kd id : Int) (mr cr : Int) (fr : ByteArray) (co : Int) (ta so : ByteArray) (fo ty : ByteArray) (sz ve : Int) (la ne no : ByteArray) (mm mo : Int) (its : List It) (ai : Option Addr) (ci : Nat) (ak : Option Addr) (lk ck : Nat) (w : World) (hm : SmallMe ⟨fo, ty, sz, ve, la, ne, no, mm, mo⟩) (hms : SmallIs its) (hai : AtIs w w.heap.size ai its) (hkd : kd = 10) 
    (hnm : (nameK kd).toList.isEmpty = false) (hC : C1 = #[.int .i64 kd, .int .i64 id, .int .i64 mr, .int .i64 cr, .string fr, .int .i64 co, .string ta, .string so, .string fo, .string ty, .int .i64 sz, .int .i64 ve, .string la, .string ne, .string no, .int .i64 mm, .int .i64 mo, .slice ai its.length ci, .slice ak lk ck]) : Calls Tryd.prog 12 #[.agg C1] w fun r w' => r = .returned (.int .i64 (dec0 ((cntB id 1 && (chkM fo ty sz ve la ne no mm mo == 0)) && (bareB true false false false true true false mr cr fr co ta so fo ty sz ve la ne no mm mo its.length lk && (cntB mr 0 && (cntB cr 1 && itsB its 1)))))) ∧ Below w.heap.size w w' := by
  obtain ⟨s1, s2, s3, s4, s5⟩ := hm
  have cC := Lib.hid (fun n l X => refCnt_any n l X)
  have cN := Lib.hid (fun X => refKname_any kd X)
  have cM := Lib.hid (fun s X => refMay_any s X)
  have cA := Lib.hid (fun s X => refAdr_any s X)
  have cI := Lib.hid (fun least X (hX : Below w.heap.size w X) => refItems_any its hms ai ci least X ((hai.below hX).mono hX.size))
  have cQ := Lib.hid (fun X => refMet_any fo ty sz ve la ne no mm mo s1 s2 s3 s4 s5 X)
  have HKD := Lib.hid hkd
  clear hkd
  generalize chkM fo ty sz ve la ne no mm mo = q at *
  generalize nameK kd = nm at *
  have HCE := Lib.hid hC
  have HC1 : Hid (∀ (i : Nat) (v : Value), (#[.int .i64 kd, .int .i64 id, .int .i64 mr, .int .i64 cr, .string fr, .int .i64 co, .string ta, .string so, .string fo, .string ty, .int .i64 sz, .int .i64 ve, .string la, .string ne, .string no, .int .i64 mm, .int .i64 mo, .slice ai its.length ci, .slice ak lk ck] : Array Value)[i]? = some v → C1[i]? = some v) := fun i v h => by rw [hC]; exact h
  have HS19 : Hid (C1.size = 19) := by rw [hC]; rfl
  have HF0 := Lib.hid (Sb.start w C1 27)
  have HAI := Lib.hid hai
  have HMS := Lib.hid hms
  clear hC hms hai s1 s2 s3 s4 s5
  go_enter Tryd.func12, Tryd.ntmps12
  go_upto_region 1 with fail
  generalize w.alloc (.cells C1 27) = W at *
  have y0 := cell_block HF0.out.blk 0 _ (HC1.out 0 (.int .i64 kd) rfl)
  go_upto_region 3 with (go_at_call 16; (with_reducible refine (cN.out _).mono ?_); rintro r X0 ⟨rfl, hb⟩; have KK := Lib.hid (HF0.out.below hb))
  go_cut [3] from 9 to 22 (fun v wx => v = .bool (cntB id 1 && (q == 0)) ∧ Hid (Sb w C1 27 wx))
  case first =>
    have y1 := cell_block KK.out.blk 1 _ (HC1.out 1 (.int .i64 id) rfl); have y8 := cell_block KK.out.blk 8 _ (HC1.out 8 (.string fo) rfl); have y9 := cell_block KK.out.blk 9 _ (HC1.out 9 (.string ty) rfl); have y10 := cell_block KK.out.blk 10 _ (HC1.out 10 (.int .i64 sz) rfl); have y11 := cell_block KK.out.blk 11 _ (HC1.out 11 (.int .i64 ve) rfl); have y12 := cell_block KK.out.blk 12 _ (HC1.out 12 (.string la) rfl); have y13 := cell_block KK.out.blk 13 _ (HC1.out 13 (.string ne) rfl); have y14 := cell_block KK.out.blk 14 _ (HC1.out 14 (.string no) rfl); have y15 := cell_block KK.out.blk 15 _ (HC1.out 15 (.int .i64 mm) rfl); have y16 := cell_block KK.out.blk 16 _ (HC1.out 16 (.int .i64 mo) rfl)
    clear y0
    have hbb : (cntB id 1 && (q == 0)) = (cntB id 1 && (q == 0)) := rfl
    go_wp2_with (first | (go_at_call 54; (with_reducible refine (cC.out _ _ _).mono ?_); rintro r X ⟨rfl, rfl⟩) | (go_at_call 39; (with_reducible refine (cQ.out _).mono ?_); rintro r X ⟨rfl, hb⟩; have KK := Lib.hid (KK.out.below hb)))
    all_goals (go_meet; exact ⟨by simp [*], KK.out⟩)
  case rest =>
    obtain ⟨rfl, KK⟩ := hcut
    have KB := KK.out.bel
    have y2 := cell_block KK.out.blk 2 _ (HC1.out 2 (.int .i64 mr) rfl); have y3 := cell_block KK.out.blk 3 _ (HC1.out 3 (.int .i64 cr) rfl); have y4 := cell_block KK.out.blk 4 _ (HC1.out 4 (.string fr) rfl); have y5 := cell_block KK.out.blk 5 _ (HC1.out 5 (.int .i64 co) rfl); have y6 := cell_block KK.out.blk 6 _ (HC1.out 6 (.string ta) rfl); have y7 := cell_block KK.out.blk 7 _ (HC1.out 7 (.string so) rfl); have y17 := cell_block KK.out.blk 17 _ (HC1.out 17 (.slice ai its.length ci) rfl); have y18 := cell_block KK.out.blk 18 _ (HC1.out 18 (.slice ak lk ck) rfl)
    have ro := rowOk_of KK.out.blk HS19.out; have rf := rowOf_of KK.out.blk
    clear cQ cN HF0 hnm
    generalize hbb : (cntB id 1 && (q == 0)) = bb at *
    have HBB := Lib.hid hbb
    clear hbb
    have hkd := HKD.out
    subst hkd
    have cB := Lib.hid (fun X => bare10_any id mr cr fr co ta so fo ty sz ve la ne no mm mo ai its.length ci ak lk ck X)
    rw [← HCE.out] at cB
    have y0 := cell_block KK.out.blk 0 _ (HC1.out 0 (.int .i64 10) rfl)
    generalize hbq : bareB true false false false true true false mr cr fr co ta so fo ty sz ve la ne no mm mo its.length lk = bq at *
    have HBQ := Lib.hid hbq
    clear hbq
    go_wp2_with (first | (go_at_call 54; (with_reducible refine (cC.out _ _ _).mono ?_); rintro r X ⟨rfl, rfl⟩) | (go_at_call 55; (with_reducible refine (cB.out _).mono ?_); rintro r X ⟨rfl, hb⟩; have KK := Lib.hid (KK.out.below hb); have KB := KK.out.bel; have y2 := cell_block KK.out.blk 2 _ (HC1.out 2 (.int .i64 mr) rfl); have y3 := cell_block KK.out.blk 3 _ (HC1.out 3 (.int .i64 cr) rfl); have y4 := cell_block KK.out.blk 4 _ (HC1.out 4 (.string fr) rfl); have y5 := cell_block KK.out.blk 5 _ (HC1.out 5 (.int .i64 co) rfl); have y6 := cell_block KK.out.blk 6 _ (HC1.out 6 (.string ta) rfl); have y7 := cell_block KK.out.blk 7 _ (HC1.out 7 (.string so) rfl); have y17 := cell_block KK.out.blk 17 _ (HC1.out 17 (.slice ai its.length ci) rfl); have y18 := cell_block KK.out.blk 18 _ (HC1.out 18 (.slice ak lk ck) rfl); have ro := rowOk_of KK.out.blk HS19.out; have rf := rowOf_of KK.out.blk) | (go_at_call 57; (with_reducible refine (cM.out _ _).mono ?_); rintro r X ⟨rfl, hb⟩; have KK := Lib.hid (KK.out.below hb); have KB := KK.out.bel; have y2 := cell_block KK.out.blk 2 _ (HC1.out 2 (.int .i64 mr) rfl); have y3 := cell_block KK.out.blk 3 _ (HC1.out 3 (.int .i64 cr) rfl); have y4 := cell_block KK.out.blk 4 _ (HC1.out 4 (.string fr) rfl); have y5 := cell_block KK.out.blk 5 _ (HC1.out 5 (.int .i64 co) rfl); have y6 := cell_block KK.out.blk 6 _ (HC1.out 6 (.string ta) rfl); have y7 := cell_block KK.out.blk 7 _ (HC1.out 7 (.string so) rfl); have y17 := cell_block KK.out.blk 17 _ (HC1.out 17 (.slice ai its.length ci) rfl); have y18 := cell_block KK.out.blk 18 _ (HC1.out 18 (.slice ak lk ck) rfl); have ro := rowOk_of KK.out.blk HS19.out; have rf := rowOf_of KK.out.blk) | (go_at_call 58; (with_reducible refine (cA.out _ _).mono ?_); rintro r X ⟨rfl, hb⟩; have KK := Lib.hid (KK.out.below hb); have KB := KK.out.bel; have y2 := cell_block KK.out.blk 2 _ (HC1.out 2 (.int .i64 mr) rfl); have y3 := cell_block KK.out.blk 3 _ (HC1.out 3 (.int .i64 cr) rfl); have y4 := cell_block KK.out.blk 4 _ (HC1.out 4 (.string fr) rfl); have y5 := cell_block KK.out.blk 5 _ (HC1.out 5 (.int .i64 co) rfl); have y6 := cell_block KK.out.blk 6 _ (HC1.out 6 (.string ta) rfl); have y7 := cell_block KK.out.blk 7 _ (HC1.out 7 (.string so) rfl); have y17 := cell_block KK.out.blk 17 _ (HC1.out 17 (.slice ai its.length ci) rfl); have y18 := cell_block KK.out.blk 18 _ (HC1.out 18 (.slice ak lk ck) rfl); have ro := rowOk_of KK.out.blk HS19.out; have rf := rowOf_of KK.out.blk) | (go_at_call 56; (with_reducible refine (cI.out _ _ KB).mono ?_); rintro r X ⟨rfl, hb⟩; have KK := Lib.hid (KK.out.below hb); have KB := KK.out.bel; have y2 := cell_block KK.out.blk 2 _ (HC1.out 2 (.int .i64 mr) rfl); have y3 := cell_block KK.out.blk 3 _ (HC1.out 3 (.int .i64 cr) rfl); have y4 := cell_block KK.out.blk 4 _ (HC1.out 4 (.string fr) rfl); have y5 := cell_block KK.out.blk 5 _ (HC1.out 5 (.int .i64 co) rfl); have y6 := cell_block KK.out.blk 6 _ (HC1.out 6 (.string ta) rfl); have y7 := cell_block KK.out.blk 7 _ (HC1.out 7 (.string so) rfl); have y17 := cell_block KK.out.blk 17 _ (HC1.out 17 (.slice ai its.length ci) rfl); have y18 := cell_block KK.out.blk 18 _ (HC1.out 18 (.slice ak lk ck) rfl); have ro := rowOk_of KK.out.blk HS19.out; have rf := rowOf_of KK.out.blk))
    all_goals clear y2 y3 y4 y5 y6 y7 y17 y18 ro rf cC cM cA cI y0 cB
    all_goals (go_ret; refine ⟨?_, KB⟩; change Ending.returned (Value.int .i64 _) = _; rw [HBB.out, HBQ.out]; (try simp only [Bool.not_eq_true', Bool.not_eq_false'] at *); (simp [dec0, *] <;> (try (intros; omega))))
attribute [local go_sem] undef rowOk_drew rowOf_drew run_rowSem in
attribute [local go_sem ↓] lc_row in
attribute [local irreducible] wpList in
set_option maxRecDepth 100000 in
set_option maxHeartbeats 8000000 in
theorem rchk0_aux (C1 : Array Value) (kd id : Int) (mr cr : Int) (fr : ByteArray) (co : Int) (ta so : ByteArray) (fo ty : ByteArray) (sz ve : Int) (la ne no : ByteArray) (mm mo : Int) (its : List It) (ai : Option Addr) (ci : Nat) (ak : Option Addr) (lk ck : Nat) (w : World) (hm : SmallMe ⟨fo, ty, sz, ve, la, ne, no, mm, mo⟩) (hms : SmallIs its) (hai : AtIs w w.heap.size ai its) (e1 : (kd == 1) = false) (e2 : (kd == 2) = false) (e6 : (kd == 6) = false) (e7 : (kd == 7) = false) (e10 : (kd == 10) = false) 
    (hnm : (nameK kd).toList.isEmpty = false) (hC : C1 = #[.int .i64 kd, .int .i64 id, .int .i64 mr, .int .i64 cr, .string fr, .int .i64 co, .string ta, .string so, .string fo, .string ty, .int .i64 sz, .int .i64 ve, .string la, .string ne, .string no, .int .i64 mm, .int .i64 mo, .slice ai its.length ci, .slice ak lk ck]) : Calls Tryd.prog 12 #[.agg C1] w fun r w' => r = .returned (.int .i64 (dec0 ((cntB id 1 && (chkM fo ty sz ve la ne no mm mo == 0)) && (bareB false false false false true true false mr cr fr co ta so fo ty sz ve la ne no mm mo its.length lk && itsB its 1)))) ∧ Below w.heap.size w w' := by
  obtain ⟨s1, s2, s3, s4, s5⟩ := hm
  have cC := Lib.hid (fun n l X => refCnt_any n l X)
  have cN := Lib.hid (fun X => refKname_any kd X)
  have cM := Lib.hid (fun s X => refMay_any s X)
  have cA := Lib.hid (fun s X => refAdr_any s X)
  have cI := Lib.hid (fun least X (hX : Below w.heap.size w X) => refItems_any its hms ai ci least X ((hai.below hX).mono hX.size))
  have cQ := Lib.hid (fun X => refMet_any fo ty sz ve la ne no mm mo s1 s2 s3 s4 s5 X)
  generalize chkM fo ty sz ve la ne no mm mo = q at *
  generalize nameK kd = nm at *
  have HCE := Lib.hid hC
  have HC1 : Hid (∀ (i : Nat) (v : Value), (#[.int .i64 kd, .int .i64 id, .int .i64 mr, .int .i64 cr, .string fr, .int .i64 co, .string ta, .string so, .string fo, .string ty, .int .i64 sz, .int .i64 ve, .string la, .string ne, .string no, .int .i64 mm, .int .i64 mo, .slice ai its.length ci, .slice ak lk ck] : Array Value)[i]? = some v → C1[i]? = some v) := fun i v h => by rw [hC]; exact h
  have HS19 : Hid (C1.size = 19) := by rw [hC]; rfl
  have HF0 := Lib.hid (Sb.start w C1 27)
  have HAI := Lib.hid hai
  have HMS := Lib.hid hms
  clear hC hms hai s1 s2 s3 s4 s5
  go_enter Tryd.func12, Tryd.ntmps12
  go_upto_region 1 with fail
  generalize w.alloc (.cells C1 27) = W at *
  have y0 := cell_block HF0.out.blk 0 _ (HC1.out 0 (.int .i64 kd) rfl)
  go_upto_region 3 with (go_at_call 16; (with_reducible refine (cN.out _).mono ?_); rintro r X0 ⟨rfl, hb⟩; have KK := Lib.hid (HF0.out.below hb))
  go_cut [3] from 9 to 22 (fun v wx => v = .bool (cntB id 1 && (q == 0)) ∧ Hid (Sb w C1 27 wx))
  case first =>
    have y1 := cell_block KK.out.blk 1 _ (HC1.out 1 (.int .i64 id) rfl); have y8 := cell_block KK.out.blk 8 _ (HC1.out 8 (.string fo) rfl); have y9 := cell_block KK.out.blk 9 _ (HC1.out 9 (.string ty) rfl); have y10 := cell_block KK.out.blk 10 _ (HC1.out 10 (.int .i64 sz) rfl); have y11 := cell_block KK.out.blk 11 _ (HC1.out 11 (.int .i64 ve) rfl); have y12 := cell_block KK.out.blk 12 _ (HC1.out 12 (.string la) rfl); have y13 := cell_block KK.out.blk 13 _ (HC1.out 13 (.string ne) rfl); have y14 := cell_block KK.out.blk 14 _ (HC1.out 14 (.string no) rfl); have y15 := cell_block KK.out.blk 15 _ (HC1.out 15 (.int .i64 mm) rfl); have y16 := cell_block KK.out.blk 16 _ (HC1.out 16 (.int .i64 mo) rfl)
    clear y0
    have hbb : (cntB id 1 && (q == 0)) = (cntB id 1 && (q == 0)) := rfl
    go_wp2_with (first | (go_at_call 54; (with_reducible refine (cC.out _ _ _).mono ?_); rintro r X ⟨rfl, rfl⟩) | (go_at_call 39; (with_reducible refine (cQ.out _).mono ?_); rintro r X ⟨rfl, hb⟩; have KK := Lib.hid (KK.out.below hb)))
    all_goals (go_meet; exact ⟨by simp [*], KK.out⟩)
  case rest =>
    obtain ⟨rfl, KK⟩ := hcut
    have KB := KK.out.bel
    have y2 := cell_block KK.out.blk 2 _ (HC1.out 2 (.int .i64 mr) rfl); have y3 := cell_block KK.out.blk 3 _ (HC1.out 3 (.int .i64 cr) rfl); have y4 := cell_block KK.out.blk 4 _ (HC1.out 4 (.string fr) rfl); have y5 := cell_block KK.out.blk 5 _ (HC1.out 5 (.int .i64 co) rfl); have y6 := cell_block KK.out.blk 6 _ (HC1.out 6 (.string ta) rfl); have y7 := cell_block KK.out.blk 7 _ (HC1.out 7 (.string so) rfl); have y17 := cell_block KK.out.blk 17 _ (HC1.out 17 (.slice ai its.length ci) rfl); have y18 := cell_block KK.out.blk 18 _ (HC1.out 18 (.slice ak lk ck) rfl)
    have ro := rowOk_of KK.out.blk HS19.out; have rf := rowOf_of KK.out.blk
    clear cQ cN HF0 hnm
    generalize hbb : (cntB id 1 && (q == 0)) = bb at *
    have HBB := Lib.hid hbb
    clear hbb
    have cB := Lib.hid (fun X => bare0_any kd e2 id mr cr fr co ta so fo ty sz ve la ne no mm mo ai its.length ci ak lk ck X)
    rw [← HCE.out] at cB
    have y0 := cell_block KK.out.blk 0 _ (HC1.out 0 (.int .i64 kd) rfl)
    generalize hbq : bareB false false false false true true false mr cr fr co ta so fo ty sz ve la ne no mm mo its.length lk = bq at *
    have HBQ := Lib.hid hbq
    clear hbq
    go_wp2_with (first | (go_at_call 54; (with_reducible refine (cC.out _ _ _).mono ?_); rintro r X ⟨rfl, rfl⟩) | (go_at_call 55; (with_reducible refine (cB.out _).mono ?_); rintro r X ⟨rfl, hb⟩; have KK := Lib.hid (KK.out.below hb); have KB := KK.out.bel; have y2 := cell_block KK.out.blk 2 _ (HC1.out 2 (.int .i64 mr) rfl); have y3 := cell_block KK.out.blk 3 _ (HC1.out 3 (.int .i64 cr) rfl); have y4 := cell_block KK.out.blk 4 _ (HC1.out 4 (.string fr) rfl); have y5 := cell_block KK.out.blk 5 _ (HC1.out 5 (.int .i64 co) rfl); have y6 := cell_block KK.out.blk 6 _ (HC1.out 6 (.string ta) rfl); have y7 := cell_block KK.out.blk 7 _ (HC1.out 7 (.string so) rfl); have y17 := cell_block KK.out.blk 17 _ (HC1.out 17 (.slice ai its.length ci) rfl); have y18 := cell_block KK.out.blk 18 _ (HC1.out 18 (.slice ak lk ck) rfl); have ro := rowOk_of KK.out.blk HS19.out; have rf := rowOf_of KK.out.blk) | (go_at_call 57; (with_reducible refine (cM.out _ _).mono ?_); rintro r X ⟨rfl, hb⟩; have KK := Lib.hid (KK.out.below hb); have KB := KK.out.bel; have y2 := cell_block KK.out.blk 2 _ (HC1.out 2 (.int .i64 mr) rfl); have y3 := cell_block KK.out.blk 3 _ (HC1.out 3 (.int .i64 cr) rfl); have y4 := cell_block KK.out.blk 4 _ (HC1.out 4 (.string fr) rfl); have y5 := cell_block KK.out.blk 5 _ (HC1.out 5 (.int .i64 co) rfl); have y6 := cell_block KK.out.blk 6 _ (HC1.out 6 (.string ta) rfl); have y7 := cell_block KK.out.blk 7 _ (HC1.out 7 (.string so) rfl); have y17 := cell_block KK.out.blk 17 _ (HC1.out 17 (.slice ai its.length ci) rfl); have y18 := cell_block KK.out.blk 18 _ (HC1.out 18 (.slice ak lk ck) rfl); have ro := rowOk_of KK.out.blk HS19.out; have rf := rowOf_of KK.out.blk) | (go_at_call 58; (with_reducible refine (cA.out _ _).mono ?_); rintro r X ⟨rfl, hb⟩; have KK := Lib.hid (KK.out.below hb); have KB := KK.out.bel; have y2 := cell_block KK.out.blk 2 _ (HC1.out 2 (.int .i64 mr) rfl); have y3 := cell_block KK.out.blk 3 _ (HC1.out 3 (.int .i64 cr) rfl); have y4 := cell_block KK.out.blk 4 _ (HC1.out 4 (.string fr) rfl); have y5 := cell_block KK.out.blk 5 _ (HC1.out 5 (.int .i64 co) rfl); have y6 := cell_block KK.out.blk 6 _ (HC1.out 6 (.string ta) rfl); have y7 := cell_block KK.out.blk 7 _ (HC1.out 7 (.string so) rfl); have y17 := cell_block KK.out.blk 17 _ (HC1.out 17 (.slice ai its.length ci) rfl); have y18 := cell_block KK.out.blk 18 _ (HC1.out 18 (.slice ak lk ck) rfl); have ro := rowOk_of KK.out.blk HS19.out; have rf := rowOf_of KK.out.blk) | (go_at_call 56; (with_reducible refine (cI.out _ _ KB).mono ?_); rintro r X ⟨rfl, hb⟩; have KK := Lib.hid (KK.out.below hb); have KB := KK.out.bel; have y2 := cell_block KK.out.blk 2 _ (HC1.out 2 (.int .i64 mr) rfl); have y3 := cell_block KK.out.blk 3 _ (HC1.out 3 (.int .i64 cr) rfl); have y4 := cell_block KK.out.blk 4 _ (HC1.out 4 (.string fr) rfl); have y5 := cell_block KK.out.blk 5 _ (HC1.out 5 (.int .i64 co) rfl); have y6 := cell_block KK.out.blk 6 _ (HC1.out 6 (.string ta) rfl); have y7 := cell_block KK.out.blk 7 _ (HC1.out 7 (.string so) rfl); have y17 := cell_block KK.out.blk 17 _ (HC1.out 17 (.slice ai its.length ci) rfl); have y18 := cell_block KK.out.blk 18 _ (HC1.out 18 (.slice ak lk ck) rfl); have ro := rowOk_of KK.out.blk HS19.out; have rf := rowOf_of KK.out.blk))
    all_goals clear y2 y3 y4 y5 y6 y7 y17 y18 ro rf cC cM cA cI y0 cB
    all_goals (go_ret; refine ⟨?_, KB⟩; change Ending.returned (Value.int .i64 _) = _; rw [HBB.out, HBQ.out]; (try simp only [Bool.not_eq_true', Bool.not_eq_false'] at *); (simp [dec0, *] <;> (try (intros; omega))))
end Go.Proofs.YtgechifbbhipaaaDoor
