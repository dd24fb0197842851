/- msg: what is wrong with a Status, the reference. No condition but the sizes. -/
import Derived.Test.YtgechifbbhipaaaDoorCmE
set_option linter.unusedVariables false
set_option linter.unusedSimpArgs false
namespace Go.Proofs.YtgechifbbhipaaaDoor
open Go.RowKit

theorem kx_of {w X : World} {C1 cs : Array Value} (h : Sb w C1 27 X) : Sb w C1 27 (X.alloc (.cells cs 23)) ∧ (X.alloc (.cells cs 23)).heap[X.heap.size]? = some (.cells cs 23 (0, 0)) :=
  ⟨h.below ((Below.refl _ _).alloc (Nat.le_refl _) _), World.alloc_heap_new X _⟩
theorem as_below {X Y : World} {g : Nat} {cs : Array Value} {t : TypeId} (h : X.heap[g]? = some (.cells cs t (0, 0))) (hb : Below X.heap.size X Y) : Y.heap[g]? = some (.cells cs t (0, 0)) := (hb.block g (Array.getElem?_eq_some_iff.1 h).1).trans h
attribute [local go_sem] undef rowOk_drew rowOf_drew run_rowSem in
attribute [local go_sem ↓] lc_row in
attribute [local irreducible] wpList in
set_option maxRecDepth 100000 in
set_option maxHeartbeats 8000000 in
theorem rchk7_aux (C1 : Array Value) (kd id : Int) (mr cr : Int) (fr : ByteArray) (co : Int) (ta so : ByteArray) (fo ty : ByteArray) (sz ve : Int) (la ne no : ByteArray) (mm mo : Int) (its : List It) (ai : Option Addr) (ci : Nat) (ak : Option Addr) (lk ck : Nat) (w : World) (hm : SmallMe ⟨fo, ty, sz, ve, la, ne, no, mm, mo⟩) (hms : SmallIs its) (hai : AtIs w w.heap.size ai its) (hkd : kd = 7) 
    (hnm : (nameK kd).toList.isEmpty = false) (hC : C1 = #[.int .i64 kd, .int .i64 id, .int .i64 mr, .int .i64 cr, .string fr, .int .i64 co, .string ta, .string so, .string fo, .string ty, .int .i64 sz, .int .i64 ve, .string la, .string ne, .string no, .int .i64 mm, .int .i64 mo, .slice ai its.length ci, .slice ak lk ck]) : Calls Tryd.prog 12 #[.agg C1] w fun r w' => r = .returned (.int .i64 (dec0 ((cntB id 1 && (chkM fo ty sz ve la ne no mm mo == 0)) && (bareB true true true true true true false mr cr fr co ta so fo ty sz ve la ne no mm mo its.length lk && (cntB mr 1 && (cntB cr 0 && (adrB fr && (decide (100 ≤ co) && (decide (co ≤ 599) && (mayB ta && (mayB so && (emptyMV (askM ⟨fo, ty, sz, ve, la, ne, no, mm, mo⟩) && itsB its 0)))))))))))) ∧ Below w.heap.size w w' := by
  obtain ⟨s1, s2, s3, s4, s5⟩ := hm
  have cC := Lib.hid (fun n l X => refCnt_any n l X)
  have cN := Lib.hid (fun X => refKname_any kd X)
  have cM := Lib.hid (fun s X => refMay_any s X)
  have cA := Lib.hid (fun s X => refAdr_any s X)
  have cI := Lib.hid (fun least X (hX : Below w.heap.size w X) => refItems_any its hms ai ci least X ((hai.below hX).mono hX.size))
  have cQ := Lib.hid (fun X => refMet_any fo ty sz ve la ne no mm mo s1 s2 s3 s4 s5 X)
  have HKD := Lib.hid hkd
  clear hkd
  have heq := fun w => run_eq23 fo fo ty ty sz 0 ve 0 la ⟨#[]⟩ ne ⟨#[]⟩ no no mm 0 mo 0 w
  have hM : emptyMV (askM ⟨fo, ty, sz, ve, la, ne, no, mm, mo⟩) = decide (fo = fo ∧ ty = ty ∧ sz = 0 ∧ ve = 0 ∧ la = ⟨#[]⟩ ∧ ne = ⟨#[]⟩ ∧ no = no ∧ mm = 0 ∧ mo = 0) := by simp [emptyMV, askM]
  rw [← hM] at heq
  clear hM
  generalize chkM fo ty sz ve la ne no mm mo = q at *
  generalize nameK kd = nm at *
  have HCE := Lib.hid hC
  have HC1 : Hid (∀ (i : Nat) (v : Value), (#[.int .i64 kd, .int .i64 id, .int .i64 mr, .int .i64 cr, .string fr, .int .i64 co, .string ta, .string so, .string fo, .string ty, .int .i64 sz, .int .i64 ve, .string la, .string ne, .string no, .int .i64 mm, .int .i64 mo, .slice ai its.length ci, .slice ak lk ck] : Array Value)[i]? = some v → C1[i]? = some v) := fun i v h => by rw [hC]; exact h
  have HS19 : Hid (C1.size = 19) := by rw [hC]; rfl
  have HF0 := Lib.hid (Sb.start w C1 27)
  have HAI := Lib.hid hai
  have HMS := Lib.hid hms
  clear hC hms hai s1 s2 s3 s4 s5
  go_enter Tryd.func12, Tryd.ntmps12
  go_upto_region 1 with fail
  generalize w.alloc (.cells C1 27) = W at *
  have y0 := cell_block HF0.out.blk 0 _ (HC1.out 0 (.int .i64 kd) rfl)
  go_upto_region 3 with (go_at_call 16; (with_reducible refine (cN.out _).mono ?_); rintro r X0 ⟨rfl, hb⟩; have KK := Lib.hid (HF0.out.below hb))
  go_cut [3] from 9 to 22 (fun v wx => v = .bool (cntB id 1 && (q == 0)) ∧ Hid (Sb w C1 27 wx))
  case first =>
    have y1 := cell_block KK.out.blk 1 _ (HC1.out 1 (.int .i64 id) rfl); have y8 := cell_block KK.out.blk 8 _ (HC1.out 8 (.string fo) rfl); have y9 := cell_block KK.out.blk 9 _ (HC1.out 9 (.string ty) rfl); have y10 := cell_block KK.out.blk 10 _ (HC1.out 10 (.int .i64 sz) rfl); have y11 := cell_block KK.out.blk 11 _ (HC1.out 11 (.int .i64 ve) rfl); have y12 := cell_block KK.out.blk 12 _ (HC1.out 12 (.string la) rfl); have y13 := cell_block KK.out.blk 13 _ (HC1.out 13 (.string ne) rfl); have y14 := cell_block KK.out.blk 14 _ (HC1.out 14 (.string no) rfl); have y15 := cell_block KK.out.blk 15 _ (HC1.out 15 (.int .i64 mm) rfl); have y16 := cell_block KK.out.blk 16 _ (HC1.out 16 (.int .i64 mo) rfl)
    clear y0
    have hbb : (cntB id 1 && (q == 0)) = (cntB id 1 && (q == 0)) := rfl
    go_wp2_with (first | (go_at_call 54; (with_reducible refine (cC.out _ _ _).mono ?_); rintro r X ⟨rfl, rfl⟩) | (go_at_call 39; (with_reducible refine (cQ.out _).mono ?_); rintro r X ⟨rfl, hb⟩; have KK := Lib.hid (KK.out.below hb)))
    all_goals (go_meet; exact ⟨by simp [*], KK.out⟩)
  case rest =>
    obtain ⟨rfl, KK⟩ := hcut
    have KB := KK.out.bel
    have y2 := cell_block KK.out.blk 2 _ (HC1.out 2 (.int .i64 mr) rfl); have y3 := cell_block KK.out.blk 3 _ (HC1.out 3 (.int .i64 cr) rfl); have y4 := cell_block KK.out.blk 4 _ (HC1.out 4 (.string fr) rfl); have y5 := cell_block KK.out.blk 5 _ (HC1.out 5 (.int .i64 co) rfl); have y6 := cell_block KK.out.blk 6 _ (HC1.out 6 (.string ta) rfl); have y7 := cell_block KK.out.blk 7 _ (HC1.out 7 (.string so) rfl); have y17 := cell_block KK.out.blk 17 _ (HC1.out 17 (.slice ai its.length ci) rfl); have y18 := cell_block KK.out.blk 18 _ (HC1.out 18 (.slice ak lk ck) rfl)
    have ro := rowOk_of KK.out.blk HS19.out; have rf := rowOf_of KK.out.blk
    clear cQ cN HF0 hnm
    generalize hbb : (cntB id 1 && (q == 0)) = bb at *
    have HBB := Lib.hid hbb
    clear hbb
    have hkd := HKD.out
    subst hkd
    have cB := Lib.hid (fun X => bare7_any id mr cr fr co ta so fo ty sz ve la ne no mm mo ai its.length ci ak lk ck X)
    rw [← HCE.out] at cB
    have y0 := cell_block KK.out.blk 0 _ (HC1.out 0 (.int .i64 7) rfl)
    have y8 := cell_block KK.out.blk 8 _ (HC1.out 8 (.string fo) rfl); have y9 := cell_block KK.out.blk 9 _ (HC1.out 9 (.string ty) rfl); have y10 := cell_block KK.out.blk 10 _ (HC1.out 10 (.int .i64 sz) rfl); have y11 := cell_block KK.out.blk 11 _ (HC1.out 11 (.int .i64 ve) rfl); have y12 := cell_block KK.out.blk 12 _ (HC1.out 12 (.string la) rfl); have y13 := cell_block KK.out.blk 13 _ (HC1.out 13 (.string ne) rfl); have y14 := cell_block KK.out.blk 14 _ (HC1.out 14 (.string no) rfl); have y15 := cell_block KK.out.blk 15 _ (HC1.out 15 (.int .i64 mm) rfl); have y16 := cell_block KK.out.blk 16 _ (HC1.out 16 (.int .i64 mo) rfl)
    generalize hbq : bareB true true true true true true false mr cr fr co ta so fo ty sz ve la ne no mm mo its.length lk = bq at *
    have HBQ := Lib.hid hbq
    clear hbq
    generalize hem : emptyMV (askM ⟨fo, ty, sz, ve, la, ne, no, mm, mo⟩) = em at *
    have HEM := Lib.hid hem
    clear hem
    go_upto_region 24 with fail
    obtain ⟨K1, K2⟩ := kx_of (cs := #[.string fo, .string ty, .int .i64 0, .int .i64 0, .string ⟨#[]⟩, .string ⟨#[]⟩, .string no, .int .i64 0, .int .i64 0]) KK.out
    have KK := Lib.hid K1
    have KA := Lib.hid K2
    clear K1 K2
    have KB := KK.out.bel
    have ro := rowOk_of KK.out.blk HS19.out; have rf := rowOf_of KK.out.blk
    go_wp2_with (first | (go_at_call 54; (with_reducible refine (cC.out _ _ _).mono ?_); rintro r X ⟨rfl, rfl⟩) | (go_at_call 55; (with_reducible refine (cB.out _).mono ?_); rintro r X ⟨rfl, hb⟩; have KK := Lib.hid (KK.out.below hb); have KB := KK.out.bel; have y2 := cell_block KK.out.blk 2 _ (HC1.out 2 (.int .i64 mr) rfl); have y3 := cell_block KK.out.blk 3 _ (HC1.out 3 (.int .i64 cr) rfl); have y4 := cell_block KK.out.blk 4 _ (HC1.out 4 (.string fr) rfl); have y5 := cell_block KK.out.blk 5 _ (HC1.out 5 (.int .i64 co) rfl); have y6 := cell_block KK.out.blk 6 _ (HC1.out 6 (.string ta) rfl); have y7 := cell_block KK.out.blk 7 _ (HC1.out 7 (.string so) rfl); have y17 := cell_block KK.out.blk 17 _ (HC1.out 17 (.slice ai its.length ci) rfl); have y18 := cell_block KK.out.blk 18 _ (HC1.out 18 (.slice ak lk ck) rfl); have ro := rowOk_of KK.out.blk HS19.out; have rf := rowOf_of KK.out.blk; have KA := Lib.hid (as_below KA.out hb); have y8 := cell_block KK.out.blk 8 _ (HC1.out 8 (.string fo) rfl); have y9 := cell_block KK.out.blk 9 _ (HC1.out 9 (.string ty) rfl); have y10 := cell_block KK.out.blk 10 _ (HC1.out 10 (.int .i64 sz) rfl); have y11 := cell_block KK.out.blk 11 _ (HC1.out 11 (.int .i64 ve) rfl); have y12 := cell_block KK.out.blk 12 _ (HC1.out 12 (.string la) rfl); have y13 := cell_block KK.out.blk 13 _ (HC1.out 13 (.string ne) rfl); have y14 := cell_block KK.out.blk 14 _ (HC1.out 14 (.string no) rfl); have y15 := cell_block KK.out.blk 15 _ (HC1.out 15 (.int .i64 mm) rfl); have y16 := cell_block KK.out.blk 16 _ (HC1.out 16 (.int .i64 mo) rfl); have z0 := cell_block KA.out 0 (.string fo) rfl; have z1 := cell_block KA.out 1 (.string ty) rfl; have z2 := cell_block KA.out 2 (.int .i64 0) rfl; have z3 := cell_block KA.out 3 (.int .i64 0) rfl; have z4 := cell_block KA.out 4 (.string ⟨#[]⟩) rfl; have z5 := cell_block KA.out 5 (.string ⟨#[]⟩) rfl; have z6 := cell_block KA.out 6 (.string no) rfl; have z7 := cell_block KA.out 7 (.int .i64 0) rfl; have z8 := cell_block KA.out 8 (.int .i64 0) rfl) | (go_at_call 57; (with_reducible refine (cM.out _ _).mono ?_); rintro r X ⟨rfl, hb⟩; have KK := Lib.hid (KK.out.below hb); have KB := KK.out.bel; have y2 := cell_block KK.out.blk 2 _ (HC1.out 2 (.int .i64 mr) rfl); have y3 := cell_block KK.out.blk 3 _ (HC1.out 3 (.int .i64 cr) rfl); have y4 := cell_block KK.out.blk 4 _ (HC1.out 4 (.string fr) rfl); have y5 := cell_block KK.out.blk 5 _ (HC1.out 5 (.int .i64 co) rfl); have y6 := cell_block KK.out.blk 6 _ (HC1.out 6 (.string ta) rfl); have y7 := cell_block KK.out.blk 7 _ (HC1.out 7 (.string so) rfl); have y17 := cell_block KK.out.blk 17 _ (HC1.out 17 (.slice ai its.length ci) rfl); have y18 := cell_block KK.out.blk 18 _ (HC1.out 18 (.slice ak lk ck) rfl); have ro := rowOk_of KK.out.blk HS19.out; have rf := rowOf_of KK.out.blk; have KA := Lib.hid (as_below KA.out hb); have y8 := cell_block KK.out.blk 8 _ (HC1.out 8 (.string fo) rfl); have y9 := cell_block KK.out.blk 9 _ (HC1.out 9 (.string ty) rfl); have y10 := cell_block KK.out.blk 10 _ (HC1.out 10 (.int .i64 sz) rfl); have y11 := cell_block KK.out.blk 11 _ (HC1.out 11 (.int .i64 ve) rfl); have y12 := cell_block KK.out.blk 12 _ (HC1.out 12 (.string la) rfl); have y13 := cell_block KK.out.blk 13 _ (HC1.out 13 (.string ne) rfl); have y14 := cell_block KK.out.blk 14 _ (HC1.out 14 (.string no) rfl); have y15 := cell_block KK.out.blk 15 _ (HC1.out 15 (.int .i64 mm) rfl); have y16 := cell_block KK.out.blk 16 _ (HC1.out 16 (.int .i64 mo) rfl); have z0 := cell_block KA.out 0 (.string fo) rfl; have z1 := cell_block KA.out 1 (.string ty) rfl; have z2 := cell_block KA.out 2 (.int .i64 0) rfl; have z3 := cell_block KA.out 3 (.int .i64 0) rfl; have z4 := cell_block KA.out 4 (.string ⟨#[]⟩) rfl; have z5 := cell_block KA.out 5 (.string ⟨#[]⟩) rfl; have z6 := cell_block KA.out 6 (.string no) rfl; have z7 := cell_block KA.out 7 (.int .i64 0) rfl; have z8 := cell_block KA.out 8 (.int .i64 0) rfl) | (go_at_call 58; (with_reducible refine (cA.out _ _).mono ?_); rintro r X ⟨rfl, hb⟩; have KK := Lib.hid (KK.out.below hb); have KB := KK.out.bel; have y2 := cell_block KK.out.blk 2 _ (HC1.out 2 (.int .i64 mr) rfl); have y3 := cell_block KK.out.blk 3 _ (HC1.out 3 (.int .i64 cr) rfl); have y4 := cell_block KK.out.blk 4 _ (HC1.out 4 (.string fr) rfl); have y5 := cell_block KK.out.blk 5 _ (HC1.out 5 (.int .i64 co) rfl); have y6 := cell_block KK.out.blk 6 _ (HC1.out 6 (.string ta) rfl); have y7 := cell_block KK.out.blk 7 _ (HC1.out 7 (.string so) rfl); have y17 := cell_block KK.out.blk 17 _ (HC1.out 17 (.slice ai its.length ci) rfl); have y18 := cell_block KK.out.blk 18 _ (HC1.out 18 (.slice ak lk ck) rfl); have ro := rowOk_of KK.out.blk HS19.out; have rf := rowOf_of KK.out.blk; have KA := Lib.hid (as_below KA.out hb); have y8 := cell_block KK.out.blk 8 _ (HC1.out 8 (.string fo) rfl); have y9 := cell_block KK.out.blk 9 _ (HC1.out 9 (.string ty) rfl); have y10 := cell_block KK.out.blk 10 _ (HC1.out 10 (.int .i64 sz) rfl); have y11 := cell_block KK.out.blk 11 _ (HC1.out 11 (.int .i64 ve) rfl); have y12 := cell_block KK.out.blk 12 _ (HC1.out 12 (.string la) rfl); have y13 := cell_block KK.out.blk 13 _ (HC1.out 13 (.string ne) rfl); have y14 := cell_block KK.out.blk 14 _ (HC1.out 14 (.string no) rfl); have y15 := cell_block KK.out.blk 15 _ (HC1.out 15 (.int .i64 mm) rfl); have y16 := cell_block KK.out.blk 16 _ (HC1.out 16 (.int .i64 mo) rfl); have z0 := cell_block KA.out 0 (.string fo) rfl; have z1 := cell_block KA.out 1 (.string ty) rfl; have z2 := cell_block KA.out 2 (.int .i64 0) rfl; have z3 := cell_block KA.out 3 (.int .i64 0) rfl; have z4 := cell_block KA.out 4 (.string ⟨#[]⟩) rfl; have z5 := cell_block KA.out 5 (.string ⟨#[]⟩) rfl; have z6 := cell_block KA.out 6 (.string no) rfl; have z7 := cell_block KA.out 7 (.int .i64 0) rfl; have z8 := cell_block KA.out 8 (.int .i64 0) rfl) | (go_at_call 56; (with_reducible refine (cI.out _ _ KB).mono ?_); rintro r X ⟨rfl, hb⟩; have KK := Lib.hid (KK.out.below hb); have KB := KK.out.bel; have y2 := cell_block KK.out.blk 2 _ (HC1.out 2 (.int .i64 mr) rfl); have y3 := cell_block KK.out.blk 3 _ (HC1.out 3 (.int .i64 cr) rfl); have y4 := cell_block KK.out.blk 4 _ (HC1.out 4 (.string fr) rfl); have y5 := cell_block KK.out.blk 5 _ (HC1.out 5 (.int .i64 co) rfl); have y6 := cell_block KK.out.blk 6 _ (HC1.out 6 (.string ta) rfl); have y7 := cell_block KK.out.blk 7 _ (HC1.out 7 (.string so) rfl); have y17 := cell_block KK.out.blk 17 _ (HC1.out 17 (.slice ai its.length ci) rfl); have y18 := cell_block KK.out.blk 18 _ (HC1.out 18 (.slice ak lk ck) rfl); have ro := rowOk_of KK.out.blk HS19.out; have rf := rowOf_of KK.out.blk; have KA := Lib.hid (as_below KA.out hb); have y8 := cell_block KK.out.blk 8 _ (HC1.out 8 (.string fo) rfl); have y9 := cell_block KK.out.blk 9 _ (HC1.out 9 (.string ty) rfl); have y10 := cell_block KK.out.blk 10 _ (HC1.out 10 (.int .i64 sz) rfl); have y11 := cell_block KK.out.blk 11 _ (HC1.out 11 (.int .i64 ve) rfl); have y12 := cell_block KK.out.blk 12 _ (HC1.out 12 (.string la) rfl); have y13 := cell_block KK.out.blk 13 _ (HC1.out 13 (.string ne) rfl); have y14 := cell_block KK.out.blk 14 _ (HC1.out 14 (.string no) rfl); have y15 := cell_block KK.out.blk 15 _ (HC1.out 15 (.int .i64 mm) rfl); have y16 := cell_block KK.out.blk 16 _ (HC1.out 16 (.int .i64 mo) rfl); have z0 := cell_block KA.out 0 (.string fo) rfl; have z1 := cell_block KA.out 1 (.string ty) rfl; have z2 := cell_block KA.out 2 (.int .i64 0) rfl; have z3 := cell_block KA.out 3 (.int .i64 0) rfl; have z4 := cell_block KA.out 4 (.string ⟨#[]⟩) rfl; have z5 := cell_block KA.out 5 (.string ⟨#[]⟩) rfl; have z6 := cell_block KA.out 6 (.string no) rfl; have z7 := cell_block KA.out 7 (.int .i64 0) rfl; have z8 := cell_block KA.out 8 (.int .i64 0) rfl))
    all_goals clear cC cM cA cI cB y0
    all_goals (go_ret; refine ⟨?_, KB⟩; change Ending.returned (Value.int .i64 _) = _; rw [HBB.out, HBQ.out, HEM.out]; (try simp only [Bool.not_eq_true', Bool.not_eq_false'] at *); (simp [dec0, *] <;> (try (intros; omega))))
end Go.Proofs.YtgechifbbhipaaaDoor
