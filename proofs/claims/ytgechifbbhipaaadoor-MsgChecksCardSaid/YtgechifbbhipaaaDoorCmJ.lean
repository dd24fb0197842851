/- msg: what is wrong with a Sync, the reference; any command. No condition but the sizes. -/
import Derived.Test.YtgechifbbhipaaaDoorCmH
set_option linter.unusedVariables false
set_option linter.unusedSimpArgs false
namespace Go.Proofs.YtgechifbbhipaaaDoor
open Go.RowKit

theorem kx27 {w X : World} {C1 cs z : Array Value} (h : Sb w C1 27 X) : Sb w C1 27 ((X.alloc (.cells z 27)).setRow X.heap.size cs) ∧ ((X.alloc (.cells z 27)).setRow X.heap.size cs).heap[X.heap.size]? = some (.cells cs 27 (0, 0)) :=
  ⟨h.below (((Below.refl _ _).alloc (Nat.le_refl _) _).trans ⟨rfl, rfl, rfl, by simp, fun k hk => setRow_other _ _ k cs (by omega)⟩), setRow_heap _ _ _ _ _ _ (World.alloc_heap_new X (.cells z 27))⟩
theorem chg_eq (k : Int) : (decide (3 ≤ k) && decide (k ≤ 5)) = chgB k := by
  unfold chgB
  rw [Bool.eq_iff_iff]
  simp only [Bool.and_eq_true, Bool.or_eq_true, decide_eq_true_eq, beq_iff_eq]
  omega
attribute [local go_sem] undef rowOk_drew rowOf_drew run_rowSem in
attribute [local go_sem ↓] lc_row in
attribute [local irreducible] wpList in
set_option maxRecDepth 100000 in
set_option maxHeartbeats 8000000 in
theorem rchk2_aux (C1 : Array Value) (kd id : Int) (mr cr : Int) (fr : ByteArray) (co : Int) (ta so : ByteArray) (fo ty : ByteArray) (sz ve : Int) (la ne no : ByteArray) (mm mo : Int) (its : List It) (ai : Option Addr) (ci : Nat) (ak : Option Addr) (lk ck : Nat) (w : World) (hm : SmallMe ⟨fo, ty, sz, ve, la, ne, no, mm, mo⟩) (hms : SmallIs its) (hai : AtIs w w.heap.size ai its) (hkd : kd = 2) (ks : List Cm) (hlk : lk = ks.length) (hak : AtCs w w.heap.size ak 0 ks) (cF : ∀ i (h : i < ks.length) (X : World), Below w.heap.size w X → chgB ks[i].hd.kd = true → ∀ cs, AtC X X.heap.size ks[i] cs → Calls Tryd.prog 12 #[.agg cs] X fun r w' => r = .returned (.int .i64 (chkH ks[i].hd ks[i].ks.length false)) ∧ Below X.heap.size X w') 
    (hnm : (nameK kd).toList.isEmpty = false) (hC : C1 = #[.int .i64 kd, .int .i64 id, .int .i64 mr, .int .i64 cr, .string fr, .int .i64 co, .string ta, .string so, .string fo, .string ty, .int .i64 sz, .int .i64 ve, .string la, .string ne, .string no, .int .i64 mm, .int .i64 mo, .slice ai its.length ci, .slice ak lk ck]) : Calls Tryd.prog 12 #[.agg C1] w fun r w' => r = .returned (.int .i64 (dec0 ((cntB id 1 && (chkM fo ty sz ve la ne no mm mo == 0)) && (bareB false false true true false false true mr cr fr co ta so fo ty sz ve la ne no mm mo its.length lk && (cntB co 0 && (mayB ta && (mayB so && (decide ((lk : Int) ≤ 100) && kidsB ks)))))))) ∧ Below w.heap.size w w' := by
  obtain ⟨s1, s2, s3, s4, s5⟩ := hm
  have cC := Lib.hid (fun n l X => refCnt_any n l X)
  have cN := Lib.hid (fun X => refKname_any kd X)
  have cM := Lib.hid (fun s X => refMay_any s X)
  have cA := Lib.hid (fun s X => refAdr_any s X)
  have cI := Lib.hid (fun least X (hX : Below w.heap.size w X) => refItems_any its hms ai ci least X ((hai.below hX).mono hX.size))
  have cQ := Lib.hid (fun X => refMet_any fo ty sz ve la ne no mm mo s1 s2 s3 s4 s5 X)
  have HKD := Lib.hid hkd
  have HLK := Lib.hid hlk
  have HAK := Lib.hid hak
  have HCF := Lib.hid cF
  clear hkd hlk hak cF
  generalize chkM fo ty sz ve la ne no mm mo = q at *
  generalize nameK kd = nm at *
  have HCE := Lib.hid hC
  have HC1 : Hid (∀ (i : Nat) (v : Value), (#[.int .i64 kd, .int .i64 id, .int .i64 mr, .int .i64 cr, .string fr, .int .i64 co, .string ta, .string so, .string fo, .string ty, .int .i64 sz, .int .i64 ve, .string la, .string ne, .string no, .int .i64 mm, .int .i64 mo, .slice ai its.length ci, .slice ak lk ck] : Array Value)[i]? = some v → C1[i]? = some v) := fun i v h => by rw [hC]; exact h
  have HS19 : Hid (C1.size = 19) := by rw [hC]; rfl
  have HF0 := Lib.hid (Sb.start w C1 27)
  have HAI := Lib.hid hai
  have HMS := Lib.hid hms
  clear hC hms hai s1 s2 s3 s4 s5
  go_enter Tryd.func12, Tryd.ntmps12
  go_upto_region 1 with fail
  generalize w.alloc (.cells C1 27) = W at *
  have y0 := cell_block HF0.out.blk 0 _ (HC1.out 0 (.int .i64 kd) rfl)
  go_upto_region 3 with (go_at_call 16; (with_reducible refine (cN.out _).mono ?_); rintro r X0 ⟨rfl, hb⟩; have KK := Lib.hid (HF0.out.below hb))
  go_cut [3] from 9 to 22 (fun v wx => v = .bool (cntB id 1 && (q == 0)) ∧ Hid (Sb w C1 27 wx))
  case first =>
    have y1 := cell_block KK.out.blk 1 _ (HC1.out 1 (.int .i64 id) rfl); have y8 := cell_block KK.out.blk 8 _ (HC1.out 8 (.string fo) rfl); have y9 := cell_block KK.out.blk 9 _ (HC1.out 9 (.string ty) rfl); have y10 := cell_block KK.out.blk 10 _ (HC1.out 10 (.int .i64 sz) rfl); have y11 := cell_block KK.out.blk 11 _ (HC1.out 11 (.int .i64 ve) rfl); have y12 := cell_block KK.out.blk 12 _ (HC1.out 12 (.string la) rfl); have y13 := cell_block KK.out.blk 13 _ (HC1.out 13 (.string ne) rfl); have y14 := cell_block KK.out.blk 14 _ (HC1.out 14 (.string no) rfl); have y15 := cell_block KK.out.blk 15 _ (HC1.out 15 (.int .i64 mm) rfl); have y16 := cell_block KK.out.blk 16 _ (HC1.out 16 (.int .i64 mo) rfl)
    clear y0
    have hbb : (cntB id 1 && (q == 0)) = (cntB id 1 && (q == 0)) := rfl
    go_wp2_with (first | (go_at_call 54; (with_reducible refine (cC.out _ _ _).mono ?_); rintro r X ⟨rfl, rfl⟩) | (go_at_call 39; (with_reducible refine (cQ.out _).mono ?_); rintro r X ⟨rfl, hb⟩; have KK := Lib.hid (KK.out.below hb)))
    all_goals (go_meet; exact ⟨by simp [*], KK.out⟩)
  case rest =>
    obtain ⟨rfl, KK⟩ := hcut
    have KB := KK.out.bel
    have y2 := cell_block KK.out.blk 2 _ (HC1.out 2 (.int .i64 mr) rfl); have y3 := cell_block KK.out.blk 3 _ (HC1.out 3 (.int .i64 cr) rfl); have y4 := cell_block KK.out.blk 4 _ (HC1.out 4 (.string fr) rfl); have y5 := cell_block KK.out.blk 5 _ (HC1.out 5 (.int .i64 co) rfl); have y6 := cell_block KK.out.blk 6 _ (HC1.out 6 (.string ta) rfl); have y7 := cell_block KK.out.blk 7 _ (HC1.out 7 (.string so) rfl); have y17 := cell_block KK.out.blk 17 _ (HC1.out 17 (.slice ai its.length ci) rfl); have y18 := cell_block KK.out.blk 18 _ (HC1.out 18 (.slice ak lk ck) rfl)
    have ro := rowOk_of KK.out.blk HS19.out; have rf := rowOf_of KK.out.blk
    clear cQ cN HF0 hnm
    generalize hbb : (cntB id 1 && (q == 0)) = bb at *
    have HBB := Lib.hid hbb
    clear hbb
    have hkd := HKD.out
    subst hkd
    have cB := Lib.hid (fun X => bare2_any id mr cr fr co ta so fo ty sz ve la ne no mm mo ai its.length ci ak lk ck X)
    rw [← HCE.out] at cB
    have y0 := cell_block KK.out.blk 0 _ (HC1.out 0 (.int .i64 2) rfl)
    generalize hbq : bareB false false true true false false true mr cr fr co ta so fo ty sz ve la ne no mm mo its.length lk = bq at *
    have HBQ := Lib.hid hbq
    clear hbq
    go_upto_region 9 with fail
    go_cut [3] from 58 to 84 (fun v wx => v = .bool (bb && (bq && (cntB co 0 && (mayB ta && (mayB so && decide ((lk : Int) ≤ 100)))))) ∧ Hid (Sb w C1 27 wx))
    case first =>
      go_wp2_with (first | (go_at_call 54; (with_reducible refine (cC.out _ _ _).mono ?_); rintro r X ⟨rfl, rfl⟩) | (go_at_call 55; (with_reducible refine (cB.out _).mono ?_); rintro r X ⟨rfl, hb⟩; have KK := Lib.hid (KK.out.below hb); have KB := KK.out.bel; have y2 := cell_block KK.out.blk 2 _ (HC1.out 2 (.int .i64 mr) rfl); have y3 := cell_block KK.out.blk 3 _ (HC1.out 3 (.int .i64 cr) rfl); have y4 := cell_block KK.out.blk 4 _ (HC1.out 4 (.string fr) rfl); have y5 := cell_block KK.out.blk 5 _ (HC1.out 5 (.int .i64 co) rfl); have y6 := cell_block KK.out.blk 6 _ (HC1.out 6 (.string ta) rfl); have y7 := cell_block KK.out.blk 7 _ (HC1.out 7 (.string so) rfl); have y17 := cell_block KK.out.blk 17 _ (HC1.out 17 (.slice ai its.length ci) rfl); have y18 := cell_block KK.out.blk 18 _ (HC1.out 18 (.slice ak lk ck) rfl); have ro := rowOk_of KK.out.blk HS19.out; have rf := rowOf_of KK.out.blk) | (go_at_call 57; (with_reducible refine (cM.out _ _).mono ?_); rintro r X ⟨rfl, hb⟩; have KK := Lib.hid (KK.out.below hb); have KB := KK.out.bel; have y2 := cell_block KK.out.blk 2 _ (HC1.out 2 (.int .i64 mr) rfl); have y3 := cell_block KK.out.blk 3 _ (HC1.out 3 (.int .i64 cr) rfl); have y4 := cell_block KK.out.blk 4 _ (HC1.out 4 (.string fr) rfl); have y5 := cell_block KK.out.blk 5 _ (HC1.out 5 (.int .i64 co) rfl); have y6 := cell_block KK.out.blk 6 _ (HC1.out 6 (.string ta) rfl); have y7 := cell_block KK.out.blk 7 _ (HC1.out 7 (.string so) rfl); have y17 := cell_block KK.out.blk 17 _ (HC1.out 17 (.slice ai its.length ci) rfl); have y18 := cell_block KK.out.blk 18 _ (HC1.out 18 (.slice ak lk ck) rfl); have ro := rowOk_of KK.out.blk HS19.out; have rf := rowOf_of KK.out.blk) | (go_at_call 58; (with_reducible refine (cA.out _ _).mono ?_); rintro r X ⟨rfl, hb⟩; have KK := Lib.hid (KK.out.below hb); have KB := KK.out.bel; have y2 := cell_block KK.out.blk 2 _ (HC1.out 2 (.int .i64 mr) rfl); have y3 := cell_block KK.out.blk 3 _ (HC1.out 3 (.int .i64 cr) rfl); have y4 := cell_block KK.out.blk 4 _ (HC1.out 4 (.string fr) rfl); have y5 := cell_block KK.out.blk 5 _ (HC1.out 5 (.int .i64 co) rfl); have y6 := cell_block KK.out.blk 6 _ (HC1.out 6 (.string ta) rfl); have y7 := cell_block KK.out.blk 7 _ (HC1.out 7 (.string so) rfl); have y17 := cell_block KK.out.blk 17 _ (HC1.out 17 (.slice ai its.length ci) rfl); have y18 := cell_block KK.out.blk 18 _ (HC1.out 18 (.slice ak lk ck) rfl); have ro := rowOk_of KK.out.blk HS19.out; have rf := rowOf_of KK.out.blk) | (go_at_call 56; (with_reducible refine (cI.out _ _ KB).mono ?_); rintro r X ⟨rfl, hb⟩; have KK := Lib.hid (KK.out.below hb); have KB := KK.out.bel; have y2 := cell_block KK.out.blk 2 _ (HC1.out 2 (.int .i64 mr) rfl); have y3 := cell_block KK.out.blk 3 _ (HC1.out 3 (.int .i64 cr) rfl); have y4 := cell_block KK.out.blk 4 _ (HC1.out 4 (.string fr) rfl); have y5 := cell_block KK.out.blk 5 _ (HC1.out 5 (.int .i64 co) rfl); have y6 := cell_block KK.out.blk 6 _ (HC1.out 6 (.string ta) rfl); have y7 := cell_block KK.out.blk 7 _ (HC1.out 7 (.string so) rfl); have y17 := cell_block KK.out.blk 17 _ (HC1.out 17 (.slice ai its.length ci) rfl); have y18 := cell_block KK.out.blk 18 _ (HC1.out 18 (.slice ak lk ck) rfl); have ro := rowOk_of KK.out.blk HS19.out; have rf := rowOf_of KK.out.blk))
      all_goals (go_meet; refine ⟨?_, KK.out⟩; (simp [*] <;> omega))
    case rest =>
      clear y0 y2 y3 y4 y5 y6 y7 y17 y18 ro rf
      obtain ⟨rfl, KK⟩ := hcut
      have HFIN : Hid (dec0 ((cntB id 1 && (q == 0)) && (bareB false false true true false false true mr cr fr co ta so fo ty sz ve la ne no mm mo its.length lk && (cntB co 0 && (mayB ta && (mayB so && (decide ((lk : Int) ≤ 100) && kidsB ks)))))) = dec0 ((bb && (bq && (cntB co 0 && (mayB ta && (mayB so && decide ((lk : Int) ≤ 100)))))) && ks.all kidB)) := by
        unfold Hid
        rw [HBB.out, HBQ.out]
        unfold kidsB
        rw [any_all]
        simp only [Bool.and_assoc]
      generalize hb0 : (bb && (bq && (cntB co 0 && (mayB ta && (mayB so && decide ((lk : Int) ≤ 100)))))) = b0 at *
      have HLEN : Hid (b0 = true → lk ≤ 100) := fun h => by
        rw [← hb0] at h
        simp only [Bool.and_eq_true, decide_eq_true_eq] at h
        omega
      clear hb0 cB cI cM HBQ
      have y18 := cell_block KK.out.blk 18 _ (HC1.out 18 (.slice ak lk ck) rfl)
      go_wp2_with fail
      go_loopw [3, 4, 5] (fun bv iv _ wr => ∃ (i : Nat) (b : Bool), i ≤ lk ∧ bv = .bool b ∧ iv = .int .i64 (i : Int) ∧ Hid (b = (b0 && (ks.take i).all kidB)) ∧ Hid (Sb w C1 27 wr)) (fun _ iv _ _ => lk - (intOf iv).toNat)
      case atStart => exact ⟨0, b0, Nat.zero_le _, rfl, rfl, by simp [Hid], KK.out⟩
      case round =>
        obtain ⟨i, b, hi, rfl, rfl, HI, KK⟩ := hrel
        have y18 := cell_block KK.out.blk 18 _ (HC1.out 18 (.slice ak lk ck) rfl)
        by_cases hlt : i < lk
        · have k1 : (i : Int) < (lk : Int) := by omega
          have k2 : decide (i < lk) = true := by simp; omega
          cases b with
          | false =>
            have HE : Hid (dec0 (b0 && ks.all kidB) = 3) := by
              have h := HI.out
              unfold Hid
              cases b0 with
              | false => rfl
              | true =>
                rw [Bool.true_and] at h
                rw [all_take_false h.symm]; rfl
            go_wp2_with fail
            go_ret
            exact ⟨by rw [HFIN.out, HE.out]; rfl, KK.out.bel⟩
          | true =>
            have hb0 : b0 = true := by have h := HI.out; cases b0 with | true => rfl | false => cases h
            have hn8 := HLEN.out hb0
            have hil : i < ks.length := by rw [← HLK.out]; exact hlt
            have HST : Hid (kidB ks[i] = (b0 && (ks.take (i + 1)).all kidB)) := by
              unfold Hid
              rw [take_all hil, hb0]
              have h := HI.out
              rw [hb0] at h
              rw [← Bool.and_assoc, ← h, Bool.true_and]
            have k0 : (0 : Int) ≤ (i : Int) := by omega
            obtain ⟨b2, o2, ai2, ci2, ak2, ck2, rfl, hbl, hc0, hI2, hK2⟩ := HAK.out.kid i hil
            have HR : Hid (wr.rangeAt b2 (o2 + i * 19) (cellsH ks[i].hd ai2 ci2 ak2 ks[i].ks.length ck2).toList) := fun j u hu => (KK.out.bel.cell (p := ⟨b2, o2 + i * 19 + j, none⟩) hbl).trans (hc0 j u hu)
            have hkid : kidB ks[i] = (decide (3 ≤ ks[i].hd.kd) && (decide (ks[i].hd.kd ≤ 5) && (chkH ks[i].hd ks[i].ks.length false == 0))) := by
              rw [← Bool.and_assoc, chg_eq]; rfl
            have c12 := Lib.hid (fun (h3 : 3 ≤ ks[i].hd.kd) (h5 : ks[i].hd.kd ≤ 5) X (hX : Below w.heap.size w X) => HCF.out i hil X hX (by rw [← chg_eq, decide_eq_true h3, decide_eq_true h5]; rfl) _ (AtC.mono hX.size _ _ (AtC.below hX _ _ (AtC.of (ci := ci2) (ck := ck2) hI2 hK2))))
            have HL : Hid ((cellsH ks[i].hd ai2 ci2 ak2 ks[i].ks.length ck2).size = 19) := rfl
            have HL0 : Hid ((cellsH ks[i].hd ai2 ci2 ak2 ks[i].ks.length ck2)[0]? = some (.int .i64 ks[i].hd.kd)) := rfl
            have HL1 : Hid ((cellsH ks[i].hd ai2 ci2 ak2 ks[i].ks.length ck2).all (·.oneCell') = true) := by simp [Hid, cellsH, Value.oneCell']
            clear hc0 hbl hb0 hI2 hK2
            generalize chkH ks[i].hd ks[i].ks.length false = ck at *
            generalize kidB ks[i] = kv at *
            generalize cellsH ks[i].hd ai2 ci2 ak2 ks[i].ks.length ck2 = L at *
            generalize ks[i].hd.kd = kk at *
            have HP := Lib.hid hkid
            clear hkid
            have HS1 : Hid ((Tryd.prog.info? 27).map (·.size) = some L.toList.length) := by have h := HL.out; unfold Hid; rw [Array.length_toList, h]; exact size27c
            have HS2 : Hid ((Tryd.prog.info? 27).map (·.size) = some L.size) := by have h := HL.out; unfold Hid; rw [h]; exact size27c
            go_upto_region 14 with (first | (refine wpList_load_mid rfl 27 (.tmp 97) rfl b2 (o2 + i * 19) rfl L.toList _ HR.out Tryd.underlying27 rfl HS1.out ?_; rw [Array.toArray_toList]) | (refine wpList_store_row rfl 27 (.tmp 5) (.tmp 98) rfl wr.heap.size L rfl rfl 27 _ (World.alloc_heap_new wr _) HS2.out (by rw [HL.out]; rfl) HL1.out ?_))
            obtain ⟨K1, K2⟩ := kx27 (cs := L) (z := #[.int .i64 0, .int .i64 0, .int .i64 0, .int .i64 0, .string ⟨#[]⟩, .int .i64 0, .string ⟨#[]⟩, .string ⟨#[]⟩, .string ⟨#[]⟩, .string ⟨#[]⟩, .int .i64 0, .int .i64 0, .string ⟨#[]⟩, .string ⟨#[]⟩, .string ⟨#[]⟩, .int .i64 0, .int .i64 0, .slice none 0 0, .slice none 0 0]) KK.out
            generalize (wr.alloc (.cells #[.int .i64 0, .int .i64 0, .int .i64 0, .int .i64 0, .string ⟨#[]⟩, .int .i64 0, .string ⟨#[]⟩, .string ⟨#[]⟩, .string ⟨#[]⟩, .string ⟨#[]⟩, .int .i64 0, .int .i64 0, .string ⟨#[]⟩, .string ⟨#[]⟩, .string ⟨#[]⟩, .int .i64 0, .int .i64 0, .slice none 0 0, .slice none 0 0] 27)).setRow wr.heap.size L = W1 at *
            have KK := Lib.hid K1
            have KB := KK.out.bel
            have KA := Lib.hid K2
            clear K1 K2 y18
            have ro5 := rowOk_of KA.out HL.out; have rf5 := rowOf_of KA.out; have z0 := cell_block KA.out 0 _ HL0.out
            have HW1 : Hid (wrap64 ((i : Int) + 1) = (i : Int) + 1) := by unfold Hid wrap64; omega
            go_wp2_with (go_at_call 12; (with_reducible refine (c12.out (by assumption) (by assumption) _ KB).mono ?_); rintro r X ⟨rfl, hb⟩; have KK := Lib.hid (KK.out.below hb))
            all_goals go_roundw
            all_goals first
              | (refine ⟨i + 1, _, by omega, rfl, by go_num, ?_, KK⟩; unfold Hid; rw [← HST.out, HP.out]; (simp [*] <;> omega))
              | (simp [intOf]; omega)
        · have k1 : ¬ (i : Int) < (lk : Int) := by omega
          have k2 : decide (i < lk) = false := by simp; omega
          have HE : Hid (b = (b0 && ks.all kidB)) := by
            have h := HI.out
            rw [List.take_of_length_le (by rw [← HLK.out]; omega)] at h
            exact h
          cases b with
          | false =>
            go_wp2_with fail
            go_ret
            exact ⟨by rw [HFIN.out, ← HE.out]; rfl, KK.out.bel⟩
          | true =>
            go_wp2_with fail
            go_ret
            exact ⟨by rw [HFIN.out, ← HE.out]; rfl, KK.out.bel⟩
theorem refCheckC_any (c : Cm) (hs : SmallC c) (cs : Array Value) (w : World) (hat : AtC w w.heap.size c cs) : Calls Tryd.prog 12 #[.agg cs] w fun r w' => r = .returned (.int .i64 (chkC c)) ∧ Below w.heap.size w w' := by
  obtain ⟨ai, ci, ak, ck, rfl, hai, hak⟩ := hat.parts
  unfold chkC
  by_cases h2 : c.hd.kd = 2
  · obtain ⟨h, ks⟩ := c
    obtain ⟨hsh, hsk⟩ := hs
    simp only [Cm.hd, Cm.ks] at hsh hsk hai hak h2 ⊢
    obtain ⟨kd, id, mr, cr, fr, co, ta, so, ⟨fo, ty, sz, ve, la, ne, no, mm, mo⟩, its⟩ := h
    obtain ⟨hm, hms⟩ := hsh
    simp only [] at h2 hai hm hms ⊢
    have hnm : (nameK kd).toList.isEmpty = false := by rw [h2]; exact (by rw [ByteArray.toList_eq]; rfl)
    have hr := rchk2_aux _ kd id mr cr fr co ta so fo ty sz ve la ne no mm mo its ai ci ak ks.length ck w hm hms hai h2 ks rfl hak (fun i hi X hX hc cs hcs => by
      obtain ⟨ai2, ci2, ak2, ck2, rfl, h1, _⟩ := hcs.parts
      exact refCheck0_any ks[i].hd (hsk _ (List.getElem_mem hi)) ai2 ci2 ak2 _ ck2 X h1 false (fun e => by rw [e] at hc; exact absurd hc (by decide))) hnm rfl
    have e : chkH ⟨kd, id, mr, cr, fr, co, ta, so, ⟨fo, ty, sz, ve, la, ne, no, mm, mo⟩, its⟩ ks.length (kidsB ks) = dec0 (okH ⟨kd, id, mr, cr, fr, co, ta, so, ⟨fo, ty, sz, ve, la, ne, no, mm, mo⟩, its⟩ ks.length (kidsB ks)) := if_neg (by rw [show (nameK (⟨kd, id, mr, cr, fr, co, ta, so, ⟨fo, ty, sz, ve, la, ne, no, mm, mo⟩, its⟩ : Hd).kd).toList.isEmpty = false from hnm]; decide)
    rw [e]
    unfold okH rzB tailB
    subst h2
    rw [okE, ← z_bare2] at hr
    exact hr
  · exact refCheck0_any c.hd hs.1 ai ci ak _ ck w hai _ h2
end Go.Proofs.YtgechifbbhipaaaDoor
