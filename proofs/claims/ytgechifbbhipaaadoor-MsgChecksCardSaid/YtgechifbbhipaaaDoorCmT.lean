/- msg: what is wrong with a message, the reference. No condition but the sizes. -/
import Derived.Test.YtgechifbbhipaaaDoorCmL
set_option linter.unusedVariables false
set_option linter.unusedSimpArgs false
namespace Go.Proofs.YtgechifbbhipaaaDoor
open Go.RowKit Go.Shelf

attribute [local go_sem] rowOk_drew rowOf_drew run_rowSem in
attribute [local go_sem ↓] lc_row in
attribute [local irreducible] wpList in
set_option maxRecDepth 100000 in
set_option maxHeartbeats 8000000 in
theorem refRight_aux (C1 : Array Value) (se id : Int) (ta so ct cd : ByteArray) (mx : Int) (fi : Bool) (ks : List Cm) (ab : Option Addr) (cb : Nat) (w : World) (hs : SmallB ks) (hab : AtCs w w.heap.size ab 0 ks) (hC : C1 = #[.int .i64 se, .int .i64 id, .string ta, .string so, .string ct, .string cd, .int .i64 mx, .slice ab ks.length cb, .bool fi]) : Calls Tryd.prog 14 #[.agg C1] w fun r w' => r = .returned (.int .i64 (rightV se id ta so ct cd mx ks)) ∧ Below w.heap.size w w' := by
  have cC := Lib.hid (fun n l X => refCnt_any n l X)
  have cA := Lib.hid (fun s X => refAdr_any s X)
  have HCK := Lib.hid (fun i (hi : i < ks.length) X (hX : Below w.heap.size w X) cs (hcs : AtC X X.heap.size ks[i] cs) => refCheckC_any ks[i] (hs _ (List.getElem_mem hi)) cs X hcs)
  have HAB := Lib.hid hab
  have HC1 : Hid (∀ (i : Nat) (v : Value), (#[.int .i64 se, .int .i64 id, .string ta, .string so, .string ct, .string cd, .int .i64 mx, .slice ab ks.length cb, .bool fi] : Array Value)[i]? = some v → C1[i]? = some v) := fun i v h => by rw [hC]; exact h
  have HF0 := Lib.hid (Sb.start w C1 31)
  have heq := fun w => run_eq29 ct ⟨#[]⟩ cd ⟨#[]⟩ w
  clear hC hab hs
  by_cases h150 : 150 < ks.length
  · have HV : Hid (rightV se id ta so ct cd mx ks = 4) := by
      unfold Hid rightV
      rw [if_pos h150]
    have j1 : decide (150 < (ks.length : Int)) = true := by rw [decide_eq_true_eq]; omega
    go_enter Tryd.func14, Tryd.ntmps14
    go_upto_region 1 with fail
    have KK := Lib.hid HF0.out
    generalize w.alloc (.cells C1 31) = W at *
    have KB := KK.out.bel
    have y0 := cell_block KK.out.blk 0 _ (HC1.out 0 (.int .i64 se) rfl); have y1 := cell_block KK.out.blk 1 _ (HC1.out 1 (.int .i64 id) rfl); have y2 := cell_block KK.out.blk 2 _ (HC1.out 2 (.string ta) rfl); have y3 := cell_block KK.out.blk 3 _ (HC1.out 3 (.string so) rfl); have y4 := cell_block KK.out.blk 4 _ (HC1.out 4 (.string ct) rfl); have y5 := cell_block KK.out.blk 5 _ (HC1.out 5 (.string cd) rfl); have y6 := cell_block KK.out.blk 6 _ (HC1.out 6 (.int .i64 mx) rfl); have y7 := cell_block KK.out.blk 7 _ (HC1.out 7 (.slice ab ks.length cb) rfl)
    go_wp2_with (first | (go_at_call 54; (with_reducible refine (cC.out _ _ _).mono ?_); rintro r X ⟨rfl, rfl⟩) | (go_at_call 58; (with_reducible refine (cA.out _ _).mono ?_); rintro r X ⟨rfl, hb⟩; have KK := Lib.hid (KK.out.below hb); have KB := KK.out.bel; have y0 := cell_block KK.out.blk 0 _ (HC1.out 0 (.int .i64 se) rfl); have y1 := cell_block KK.out.blk 1 _ (HC1.out 1 (.int .i64 id) rfl); have y2 := cell_block KK.out.blk 2 _ (HC1.out 2 (.string ta) rfl); have y3 := cell_block KK.out.blk 3 _ (HC1.out 3 (.string so) rfl); have y4 := cell_block KK.out.blk 4 _ (HC1.out 4 (.string ct) rfl); have y5 := cell_block KK.out.blk 5 _ (HC1.out 5 (.string cd) rfl); have y6 := cell_block KK.out.blk 6 _ (HC1.out 6 (.int .i64 mx) rfl); have y7 := cell_block KK.out.blk 7 _ (HC1.out 7 (.slice ab ks.length cb) rfl)))
    all_goals (go_ret; exact ⟨by rw [HV.out]; rfl, KB⟩)

  have j1 : decide (150 < (ks.length : Int)) = false := by rw [decide_eq_false_iff_not]; omega
  cases h0 : cntB se 1 with
  | false =>
    have HV : Hid (rightV se id ta so ct cd mx ks = 3) := by
      unfold Hid rightV headV
      rw [if_neg h150, h0]; rfl
    go_enter Tryd.func14, Tryd.ntmps14
    go_upto_region 1 with fail
    have KK := Lib.hid HF0.out
    generalize w.alloc (.cells C1 31) = W at *
    have KB := KK.out.bel
    have y0 := cell_block KK.out.blk 0 _ (HC1.out 0 (.int .i64 se) rfl); have y1 := cell_block KK.out.blk 1 _ (HC1.out 1 (.int .i64 id) rfl); have y2 := cell_block KK.out.blk 2 _ (HC1.out 2 (.string ta) rfl); have y3 := cell_block KK.out.blk 3 _ (HC1.out 3 (.string so) rfl); have y4 := cell_block KK.out.blk 4 _ (HC1.out 4 (.string ct) rfl); have y5 := cell_block KK.out.blk 5 _ (HC1.out 5 (.string cd) rfl); have y6 := cell_block KK.out.blk 6 _ (HC1.out 6 (.int .i64 mx) rfl); have y7 := cell_block KK.out.blk 7 _ (HC1.out 7 (.slice ab ks.length cb) rfl)
    go_wp2_with (first | (go_at_call 54; (with_reducible refine (cC.out _ _ _).mono ?_); rintro r X ⟨rfl, rfl⟩) | (go_at_call 58; (with_reducible refine (cA.out _ _).mono ?_); rintro r X ⟨rfl, hb⟩; have KK := Lib.hid (KK.out.below hb); have KB := KK.out.bel; have y0 := cell_block KK.out.blk 0 _ (HC1.out 0 (.int .i64 se) rfl); have y1 := cell_block KK.out.blk 1 _ (HC1.out 1 (.int .i64 id) rfl); have y2 := cell_block KK.out.blk 2 _ (HC1.out 2 (.string ta) rfl); have y3 := cell_block KK.out.blk 3 _ (HC1.out 3 (.string so) rfl); have y4 := cell_block KK.out.blk 4 _ (HC1.out 4 (.string ct) rfl); have y5 := cell_block KK.out.blk 5 _ (HC1.out 5 (.string cd) rfl); have y6 := cell_block KK.out.blk 6 _ (HC1.out 6 (.int .i64 mx) rfl); have y7 := cell_block KK.out.blk 7 _ (HC1.out 7 (.slice ab ks.length cb) rfl)))
    all_goals (go_ret; exact ⟨by rw [HV.out]; rfl, KB⟩)
  | true =>
    cases h1 : cntB id 1 with
    | false =>
      have HV : Hid (rightV se id ta so ct cd mx ks = 3) := by
        unfold Hid rightV headV
        rw [if_neg h150, h0, h1]; rfl
      go_enter Tryd.func14, Tryd.ntmps14
      go_upto_region 1 with fail
      have KK := Lib.hid HF0.out
      generalize w.alloc (.cells C1 31) = W at *
      have KB := KK.out.bel
      have y0 := cell_block KK.out.blk 0 _ (HC1.out 0 (.int .i64 se) rfl); have y1 := cell_block KK.out.blk 1 _ (HC1.out 1 (.int .i64 id) rfl); have y2 := cell_block KK.out.blk 2 _ (HC1.out 2 (.string ta) rfl); have y3 := cell_block KK.out.blk 3 _ (HC1.out 3 (.string so) rfl); have y4 := cell_block KK.out.blk 4 _ (HC1.out 4 (.string ct) rfl); have y5 := cell_block KK.out.blk 5 _ (HC1.out 5 (.string cd) rfl); have y6 := cell_block KK.out.blk 6 _ (HC1.out 6 (.int .i64 mx) rfl); have y7 := cell_block KK.out.blk 7 _ (HC1.out 7 (.slice ab ks.length cb) rfl)
      go_wp2_with (first | (go_at_call 54; (with_reducible refine (cC.out _ _ _).mono ?_); rintro r X ⟨rfl, rfl⟩) | (go_at_call 58; (with_reducible refine (cA.out _ _).mono ?_); rintro r X ⟨rfl, hb⟩; have KK := Lib.hid (KK.out.below hb); have KB := KK.out.bel; have y0 := cell_block KK.out.blk 0 _ (HC1.out 0 (.int .i64 se) rfl); have y1 := cell_block KK.out.blk 1 _ (HC1.out 1 (.int .i64 id) rfl); have y2 := cell_block KK.out.blk 2 _ (HC1.out 2 (.string ta) rfl); have y3 := cell_block KK.out.blk 3 _ (HC1.out 3 (.string so) rfl); have y4 := cell_block KK.out.blk 4 _ (HC1.out 4 (.string ct) rfl); have y5 := cell_block KK.out.blk 5 _ (HC1.out 5 (.string cd) rfl); have y6 := cell_block KK.out.blk 6 _ (HC1.out 6 (.int .i64 mx) rfl); have y7 := cell_block KK.out.blk 7 _ (HC1.out 7 (.slice ab ks.length cb) rfl)))
      all_goals (go_ret; exact ⟨by rw [HV.out]; rfl, KB⟩)
    | true =>
      cases h2 : adrB ta with
      | false =>
        have HV : Hid (rightV se id ta so ct cd mx ks = 3) := by
          unfold Hid rightV headV
          rw [if_neg h150, h0, h1, h2]; rfl
        go_enter Tryd.func14, Tryd.ntmps14
        go_upto_region 1 with fail
        have KK := Lib.hid HF0.out
        generalize w.alloc (.cells C1 31) = W at *
        have KB := KK.out.bel
        have y0 := cell_block KK.out.blk 0 _ (HC1.out 0 (.int .i64 se) rfl); have y1 := cell_block KK.out.blk 1 _ (HC1.out 1 (.int .i64 id) rfl); have y2 := cell_block KK.out.blk 2 _ (HC1.out 2 (.string ta) rfl); have y3 := cell_block KK.out.blk 3 _ (HC1.out 3 (.string so) rfl); have y4 := cell_block KK.out.blk 4 _ (HC1.out 4 (.string ct) rfl); have y5 := cell_block KK.out.blk 5 _ (HC1.out 5 (.string cd) rfl); have y6 := cell_block KK.out.blk 6 _ (HC1.out 6 (.int .i64 mx) rfl); have y7 := cell_block KK.out.blk 7 _ (HC1.out 7 (.slice ab ks.length cb) rfl)
        go_wp2_with (first | (go_at_call 54; (with_reducible refine (cC.out _ _ _).mono ?_); rintro r X ⟨rfl, rfl⟩) | (go_at_call 58; (with_reducible refine (cA.out _ _).mono ?_); rintro r X ⟨rfl, hb⟩; have KK := Lib.hid (KK.out.below hb); have KB := KK.out.bel; have y0 := cell_block KK.out.blk 0 _ (HC1.out 0 (.int .i64 se) rfl); have y1 := cell_block KK.out.blk 1 _ (HC1.out 1 (.int .i64 id) rfl); have y2 := cell_block KK.out.blk 2 _ (HC1.out 2 (.string ta) rfl); have y3 := cell_block KK.out.blk 3 _ (HC1.out 3 (.string so) rfl); have y4 := cell_block KK.out.blk 4 _ (HC1.out 4 (.string ct) rfl); have y5 := cell_block KK.out.blk 5 _ (HC1.out 5 (.string cd) rfl); have y6 := cell_block KK.out.blk 6 _ (HC1.out 6 (.int .i64 mx) rfl); have y7 := cell_block KK.out.blk 7 _ (HC1.out 7 (.slice ab ks.length cb) rfl)))
        all_goals (go_ret; exact ⟨by rw [HV.out]; rfl, KB⟩)
      | true =>
        cases h3 : adrB so with
        | false =>
          have HV : Hid (rightV se id ta so ct cd mx ks = 3) := by
            unfold Hid rightV headV
            rw [if_neg h150, h0, h1, h2, h3]; rfl
          go_enter Tryd.func14, Tryd.ntmps14
          go_upto_region 1 with fail
          have KK := Lib.hid HF0.out
          generalize w.alloc (.cells C1 31) = W at *
          have KB := KK.out.bel
          have y0 := cell_block KK.out.blk 0 _ (HC1.out 0 (.int .i64 se) rfl); have y1 := cell_block KK.out.blk 1 _ (HC1.out 1 (.int .i64 id) rfl); have y2 := cell_block KK.out.blk 2 _ (HC1.out 2 (.string ta) rfl); have y3 := cell_block KK.out.blk 3 _ (HC1.out 3 (.string so) rfl); have y4 := cell_block KK.out.blk 4 _ (HC1.out 4 (.string ct) rfl); have y5 := cell_block KK.out.blk 5 _ (HC1.out 5 (.string cd) rfl); have y6 := cell_block KK.out.blk 6 _ (HC1.out 6 (.int .i64 mx) rfl); have y7 := cell_block KK.out.blk 7 _ (HC1.out 7 (.slice ab ks.length cb) rfl)
          go_wp2_with (first | (go_at_call 54; (with_reducible refine (cC.out _ _ _).mono ?_); rintro r X ⟨rfl, rfl⟩) | (go_at_call 58; (with_reducible refine (cA.out _ _).mono ?_); rintro r X ⟨rfl, hb⟩; have KK := Lib.hid (KK.out.below hb); have KB := KK.out.bel; have y0 := cell_block KK.out.blk 0 _ (HC1.out 0 (.int .i64 se) rfl); have y1 := cell_block KK.out.blk 1 _ (HC1.out 1 (.int .i64 id) rfl); have y2 := cell_block KK.out.blk 2 _ (HC1.out 2 (.string ta) rfl); have y3 := cell_block KK.out.blk 3 _ (HC1.out 3 (.string so) rfl); have y4 := cell_block KK.out.blk 4 _ (HC1.out 4 (.string ct) rfl); have y5 := cell_block KK.out.blk 5 _ (HC1.out 5 (.string cd) rfl); have y6 := cell_block KK.out.blk 6 _ (HC1.out 6 (.int .i64 mx) rfl); have y7 := cell_block KK.out.blk 7 _ (HC1.out 7 (.slice ab ks.length cb) rfl)))
          all_goals (go_ret; exact ⟨by rw [HV.out]; rfl, KB⟩)
        | true =>
          cases h4 : cntB mx 0 with
          | false =>
            have HV : Hid (rightV se id ta so ct cd mx ks = 3) := by
              unfold Hid rightV headV
              rw [if_neg h150, h0, h1, h2, h3, h4]; rfl
            go_enter Tryd.func14, Tryd.ntmps14
            go_upto_region 1 with fail
            have KK := Lib.hid HF0.out
            generalize w.alloc (.cells C1 31) = W at *
            have KB := KK.out.bel
            have y0 := cell_block KK.out.blk 0 _ (HC1.out 0 (.int .i64 se) rfl); have y1 := cell_block KK.out.blk 1 _ (HC1.out 1 (.int .i64 id) rfl); have y2 := cell_block KK.out.blk 2 _ (HC1.out 2 (.string ta) rfl); have y3 := cell_block KK.out.blk 3 _ (HC1.out 3 (.string so) rfl); have y4 := cell_block KK.out.blk 4 _ (HC1.out 4 (.string ct) rfl); have y5 := cell_block KK.out.blk 5 _ (HC1.out 5 (.string cd) rfl); have y6 := cell_block KK.out.blk 6 _ (HC1.out 6 (.int .i64 mx) rfl); have y7 := cell_block KK.out.blk 7 _ (HC1.out 7 (.slice ab ks.length cb) rfl)
            go_wp2_with (first | (go_at_call 54; (with_reducible refine (cC.out _ _ _).mono ?_); rintro r X ⟨rfl, rfl⟩) | (go_at_call 58; (with_reducible refine (cA.out _ _).mono ?_); rintro r X ⟨rfl, hb⟩; have KK := Lib.hid (KK.out.below hb); have KB := KK.out.bel; have y0 := cell_block KK.out.blk 0 _ (HC1.out 0 (.int .i64 se) rfl); have y1 := cell_block KK.out.blk 1 _ (HC1.out 1 (.int .i64 id) rfl); have y2 := cell_block KK.out.blk 2 _ (HC1.out 2 (.string ta) rfl); have y3 := cell_block KK.out.blk 3 _ (HC1.out 3 (.string so) rfl); have y4 := cell_block KK.out.blk 4 _ (HC1.out 4 (.string ct) rfl); have y5 := cell_block KK.out.blk 5 _ (HC1.out 5 (.string cd) rfl); have y6 := cell_block KK.out.blk 6 _ (HC1.out 6 (.int .i64 mx) rfl); have y7 := cell_block KK.out.blk 7 _ (HC1.out 7 (.slice ab ks.length cb) rfl)))
            all_goals (go_ret; exact ⟨by rw [HV.out]; rfl, KB⟩)
          | true =>
            cases h5 : decide (ct = ⟨#[]⟩ ∧ cd = ⟨#[]⟩) with
            | true =>
              have HV : Hid (rightV se id ta so ct cd mx ks = bodyV ks) := by
                unfold Hid rightV headV
                rw [if_neg h150, h0, h1, h2, h3, h4, h5]; rfl
              go_enter Tryd.func14, Tryd.ntmps14
              go_upto_region 1 with fail
              have KK := Lib.hid HF0.out
              generalize w.alloc (.cells C1 31) = W at *
              have KB := KK.out.bel
              have y0 := cell_block KK.out.blk 0 _ (HC1.out 0 (.int .i64 se) rfl); have y1 := cell_block KK.out.blk 1 _ (HC1.out 1 (.int .i64 id) rfl); have y2 := cell_block KK.out.blk 2 _ (HC1.out 2 (.string ta) rfl); have y3 := cell_block KK.out.blk 3 _ (HC1.out 3 (.string so) rfl); have y4 := cell_block KK.out.blk 4 _ (HC1.out 4 (.string ct) rfl); have y5 := cell_block KK.out.blk 5 _ (HC1.out 5 (.string cd) rfl); have y6 := cell_block KK.out.blk 6 _ (HC1.out 6 (.int .i64 mx) rfl); have y7 := cell_block KK.out.blk 7 _ (HC1.out 7 (.slice ab ks.length cb) rfl)
              go_wp2_with (first | (go_at_call 54; (with_reducible refine (cC.out _ _ _).mono ?_); rintro r X ⟨rfl, rfl⟩) | (go_at_call 58; (with_reducible refine (cA.out _ _).mono ?_); rintro r X ⟨rfl, hb⟩; have KK := Lib.hid (KK.out.below hb); have KB := KK.out.bel; have y0 := cell_block KK.out.blk 0 _ (HC1.out 0 (.int .i64 se) rfl); have y1 := cell_block KK.out.blk 1 _ (HC1.out 1 (.int .i64 id) rfl); have y2 := cell_block KK.out.blk 2 _ (HC1.out 2 (.string ta) rfl); have y3 := cell_block KK.out.blk 3 _ (HC1.out 3 (.string so) rfl); have y4 := cell_block KK.out.blk 4 _ (HC1.out 4 (.string ct) rfl); have y5 := cell_block KK.out.blk 5 _ (HC1.out 5 (.string cd) rfl); have y6 := cell_block KK.out.blk 6 _ (HC1.out 6 (.int .i64 mx) rfl); have y7 := cell_block KK.out.blk 7 _ (HC1.out 7 (.slice ab ks.length cb) rfl)))
              clear y0 y1 y2 y3 y4 y5 y6 cC cA  h0 h1 h2 h3 h4 h5 heq
              go_loopw [4, 5, 6] (fun iv _ _ wr => ∃ i : Nat, i ≤ ks.length ∧ iv = .int .i64 (i : Int) ∧ Hid (bodyV ks = bodyV (ks.drop i)) ∧ Hid (Sb w C1 31 wr)) (fun iv _ _ _ => ks.length - (intOf iv).toNat)
              case atStart => exact ⟨0, Nat.zero_le _, rfl, rfl, KK⟩
              case round =>
                obtain ⟨i, hi, rfl, HI, KK⟩ := hrel
                have KB := KK.out.bel
                have y7 := cell_block KK.out.blk 7 _ (HC1.out 7 (.slice ab ks.length cb) rfl)
                by_cases hlt : i < ks.length
                · have k1 : (i : Int) < (ks.length : Int) := by omega
                  have k2 : decide (i < ks.length) = true := by simp; omega
                  have k0 : (0 : Int) ≤ (i : Int) := by omega
                  have hil : i < ks.length := hlt
                  have HGO := Lib.hid (bodyV_go hil)
                  obtain ⟨b2, o2, ai2, ci2, ak2, ck2, rfl, hbl, hc0, hI2, hK2⟩ := HAB.out.kid i hil
                  have HR : Hid (wr.rangeAt b2 (o2 + i * 19) (cellsH ks[i].hd ai2 ci2 ak2 ks[i].ks.length ck2).toList) := fun j u hu => (KB.cell (p := ⟨b2, o2 + i * 19 + j, none⟩) hbl).trans (hc0 j u hu)
                  have c12 := Lib.hid (fun X (hX : Below w.heap.size w X) => HCK.out i hil X hX _ (AtC.mono hX.size _ _ (AtC.below hX _ _ (AtC.of (ci := ci2) (ck := ck2) hI2 hK2))))
                  have HL : Hid ((cellsH ks[i].hd ai2 ci2 ak2 ks[i].ks.length ck2).size = 19) := rfl
                  have HL0 : Hid ((cellsH ks[i].hd ai2 ci2 ak2 ks[i].ks.length ck2)[0]? = some (.int .i64 ks[i].hd.kd)) := rfl
                  have HL1 : Hid ((cellsH ks[i].hd ai2 ci2 ak2 ks[i].ks.length ck2).all (·.oneCell') = true) := by simp [Hid, cellsH, Value.oneCell']
                  have x0 : wr.cell? ⟨b2, o2 + i * 19, none⟩ = some (.int .i64 ks[i].hd.kd) := HR.out 0 _ rfl
                  have hcg := chg_eq ks[i].hd.kd
                  clear hc0 hbl hI2 hK2
                  generalize chkC ks[i] = cq at *
                  generalize cellsH ks[i].hd ai2 ci2 ak2 ks[i].ks.length ck2 = L at *
                  generalize ks[i].hd.kd = kk at *
                  have HS1 : Hid ((Tryd.prog.info? 27).map (·.size) = some L.toList.length) := by have h := HL.out; unfold Hid; rw [Array.length_toList, h]; exact size27c
                  have HS2 : Hid ((Tryd.prog.info? 27).map (·.size) = some L.size) := by have h := HL.out; unfold Hid; rw [h]; exact size27c
                  have HW1 : Hid (wrap64 ((i : Int) + 1) = (i : Int) + 1) := by unfold Hid wrap64; omega
                  generalize hch : chgB kk = cg at *
                  clear hch
                  cases cg with
                  | true =>
                    have hk3 : decide (3 ≤ kk) = true := by revert hcg; cases decide (3 ≤ kk) <;> simp
                    have hk5 : decide (kk ≤ 5) = true := by revert hcg; cases decide (kk ≤ 5) <;> simp
                    clear hcg
                    go_wp2_with (first | (go_at_call 12; (with_reducible refine (c12.out _ KB).mono ?_); rintro r X ⟨rfl, hb⟩; have KK := Lib.hid (KK.out.below hb); have KB := KK.out.bel) | (refine wpList_load_mid rfl 27 (.tmp 81) rfl b2 (o2 + i * 19) rfl L.toList _ HR.out Tryd.underlying27 rfl HS1.out ?_; rw [Array.toArray_toList]))
                    all_goals (go_ret; exact ⟨by rw [HV.out, HI.out, HGO.out]; simp, KB⟩)
                  | false =>
                    cases hk3 : decide (3 ≤ kk) with
                    | false =>
                      clear hcg
                      by_cases hz : cq = 0
                      · have hz2 : (cq != 0) = false := by simpa using hz
                        have HZ := Lib.hid hz
                        clear hz
                        go_wp2_with (first | (go_at_call 12; (with_reducible refine (c12.out _ KB).mono ?_); rintro r X ⟨rfl, hb⟩; have KK := Lib.hid (KK.out.below hb); have KB := KK.out.bel) | (refine wpList_load_mid rfl 27 (.tmp 81) rfl b2 (o2 + i * 19) rfl L.toList _ HR.out Tryd.underlying27 rfl HS1.out ?_; rw [Array.toArray_toList]))
                        all_goals go_roundw
                        all_goals first
                          | (refine ⟨i + 1, by omega, by go_num, ?_, KK⟩; unfold Hid; rw [HI.out, HGO.out, HZ.out]; try simp)
                          | (simp [intOf]; omega)
                      · have hz2 : (cq != 0) = true := by simpa using hz
                        have HZ := Lib.hid hz
                        clear hz
                        go_wp2_with (first | (go_at_call 12; (with_reducible refine (c12.out _ KB).mono ?_); rintro r X ⟨rfl, hb⟩; have KK := Lib.hid (KK.out.below hb); have KB := KK.out.bel) | (refine wpList_load_mid rfl 27 (.tmp 81) rfl b2 (o2 + i * 19) rfl L.toList _ HR.out Tryd.underlying27 rfl HS1.out ?_; rw [Array.toArray_toList]))
                        all_goals (go_ret; exact ⟨by rw [HV.out, HI.out, HGO.out, if_neg (by decide), if_pos HZ.out]; rfl, KB⟩)
                    | true =>
                      have hk5 : decide (kk ≤ 5) = false := by rw [hk3] at hcg; simpa using hcg
                      clear hcg
                      by_cases hz : cq = 0
                      · have hz2 : (cq != 0) = false := by simpa using hz
                        have HZ := Lib.hid hz
                        clear hz
                        go_wp2_with (first | (go_at_call 12; (with_reducible refine (c12.out _ KB).mono ?_); rintro r X ⟨rfl, hb⟩; have KK := Lib.hid (KK.out.below hb); have KB := KK.out.bel) | (refine wpList_load_mid rfl 27 (.tmp 81) rfl b2 (o2 + i * 19) rfl L.toList _ HR.out Tryd.underlying27 rfl HS1.out ?_; rw [Array.toArray_toList]))
                        all_goals go_roundw
                        all_goals first
                          | (refine ⟨i + 1, by omega, by go_num, ?_, KK⟩; unfold Hid; rw [HI.out, HGO.out, HZ.out]; try simp)
                          | (simp [intOf]; omega)
                      · have hz2 : (cq != 0) = true := by simpa using hz
                        have HZ := Lib.hid hz
                        clear hz
                        go_wp2_with (first | (go_at_call 12; (with_reducible refine (c12.out _ KB).mono ?_); rintro r X ⟨rfl, hb⟩; have KK := Lib.hid (KK.out.below hb); have KB := KK.out.bel) | (refine wpList_load_mid rfl 27 (.tmp 81) rfl b2 (o2 + i * 19) rfl L.toList _ HR.out Tryd.underlying27 rfl HS1.out ?_; rw [Array.toArray_toList]))
                        all_goals (go_ret; exact ⟨by rw [HV.out, HI.out, HGO.out, if_neg (by decide), if_pos HZ.out]; rfl, KB⟩)
                · have k1 : ¬ (i : Int) < (ks.length : Int) := by omega
                  have k2 : decide (i < ks.length) = false := by simp; omega
                  have HE : Hid (bodyV ks = 0) := by unfold Hid; rw [HI.out, List.drop_eq_nil_of_le (by omega)]; rfl
                  go_wp2_with fail
                  go_ret
                  exact ⟨by rw [HV.out, HE.out]; rfl, KB⟩

            | false =>
              cases h6 : adrB ct with
              | false =>
                have HV : Hid (rightV se id ta so ct cd mx ks = 3) := by
                  unfold Hid rightV headV
                  rw [if_neg h150, h0, h1, h2, h3, h4, h5, h6]; rfl
                go_enter Tryd.func14, Tryd.ntmps14
                go_upto_region 1 with fail
                have KK := Lib.hid HF0.out
                generalize w.alloc (.cells C1 31) = W at *
                have KB := KK.out.bel
                have y0 := cell_block KK.out.blk 0 _ (HC1.out 0 (.int .i64 se) rfl); have y1 := cell_block KK.out.blk 1 _ (HC1.out 1 (.int .i64 id) rfl); have y2 := cell_block KK.out.blk 2 _ (HC1.out 2 (.string ta) rfl); have y3 := cell_block KK.out.blk 3 _ (HC1.out 3 (.string so) rfl); have y4 := cell_block KK.out.blk 4 _ (HC1.out 4 (.string ct) rfl); have y5 := cell_block KK.out.blk 5 _ (HC1.out 5 (.string cd) rfl); have y6 := cell_block KK.out.blk 6 _ (HC1.out 6 (.int .i64 mx) rfl); have y7 := cell_block KK.out.blk 7 _ (HC1.out 7 (.slice ab ks.length cb) rfl)
                go_wp2_with (first | (go_at_call 54; (with_reducible refine (cC.out _ _ _).mono ?_); rintro r X ⟨rfl, rfl⟩) | (go_at_call 58; (with_reducible refine (cA.out _ _).mono ?_); rintro r X ⟨rfl, hb⟩; have KK := Lib.hid (KK.out.below hb); have KB := KK.out.bel; have y0 := cell_block KK.out.blk 0 _ (HC1.out 0 (.int .i64 se) rfl); have y1 := cell_block KK.out.blk 1 _ (HC1.out 1 (.int .i64 id) rfl); have y2 := cell_block KK.out.blk 2 _ (HC1.out 2 (.string ta) rfl); have y3 := cell_block KK.out.blk 3 _ (HC1.out 3 (.string so) rfl); have y4 := cell_block KK.out.blk 4 _ (HC1.out 4 (.string ct) rfl); have y5 := cell_block KK.out.blk 5 _ (HC1.out 5 (.string cd) rfl); have y6 := cell_block KK.out.blk 6 _ (HC1.out 6 (.int .i64 mx) rfl); have y7 := cell_block KK.out.blk 7 _ (HC1.out 7 (.slice ab ks.length cb) rfl)))
                all_goals (go_ret; exact ⟨by rw [HV.out]; rfl, KB⟩)

              | true =>
                cases h7 : adrB cd with
                | false =>
                  have HV : Hid (rightV se id ta so ct cd mx ks = 3) := by
                    unfold Hid rightV headV
                    rw [if_neg h150, h0, h1, h2, h3, h4, h5, h6, h7]; rfl
                  go_enter Tryd.func14, Tryd.ntmps14
                  go_upto_region 1 with fail
                  have KK := Lib.hid HF0.out
                  generalize w.alloc (.cells C1 31) = W at *
                  have KB := KK.out.bel
                  have y0 := cell_block KK.out.blk 0 _ (HC1.out 0 (.int .i64 se) rfl); have y1 := cell_block KK.out.blk 1 _ (HC1.out 1 (.int .i64 id) rfl); have y2 := cell_block KK.out.blk 2 _ (HC1.out 2 (.string ta) rfl); have y3 := cell_block KK.out.blk 3 _ (HC1.out 3 (.string so) rfl); have y4 := cell_block KK.out.blk 4 _ (HC1.out 4 (.string ct) rfl); have y5 := cell_block KK.out.blk 5 _ (HC1.out 5 (.string cd) rfl); have y6 := cell_block KK.out.blk 6 _ (HC1.out 6 (.int .i64 mx) rfl); have y7 := cell_block KK.out.blk 7 _ (HC1.out 7 (.slice ab ks.length cb) rfl)
                  go_wp2_with (first | (go_at_call 54; (with_reducible refine (cC.out _ _ _).mono ?_); rintro r X ⟨rfl, rfl⟩) | (go_at_call 58; (with_reducible refine (cA.out _ _).mono ?_); rintro r X ⟨rfl, hb⟩; have KK := Lib.hid (KK.out.below hb); have KB := KK.out.bel; have y0 := cell_block KK.out.blk 0 _ (HC1.out 0 (.int .i64 se) rfl); have y1 := cell_block KK.out.blk 1 _ (HC1.out 1 (.int .i64 id) rfl); have y2 := cell_block KK.out.blk 2 _ (HC1.out 2 (.string ta) rfl); have y3 := cell_block KK.out.blk 3 _ (HC1.out 3 (.string so) rfl); have y4 := cell_block KK.out.blk 4 _ (HC1.out 4 (.string ct) rfl); have y5 := cell_block KK.out.blk 5 _ (HC1.out 5 (.string cd) rfl); have y6 := cell_block KK.out.blk 6 _ (HC1.out 6 (.int .i64 mx) rfl); have y7 := cell_block KK.out.blk 7 _ (HC1.out 7 (.slice ab ks.length cb) rfl)))
                  all_goals (go_ret; exact ⟨by rw [HV.out]; rfl, KB⟩)

                | true =>
                  have HV : Hid (rightV se id ta so ct cd mx ks = bodyV ks) := by
                    unfold Hid rightV headV
                    rw [if_neg h150, h0, h1, h2, h3, h4, h5, h6, h7]; rfl
                  go_enter Tryd.func14, Tryd.ntmps14
                  go_upto_region 1 with fail
                  have KK := Lib.hid HF0.out
                  generalize w.alloc (.cells C1 31) = W at *
                  have KB := KK.out.bel
                  have y0 := cell_block KK.out.blk 0 _ (HC1.out 0 (.int .i64 se) rfl); have y1 := cell_block KK.out.blk 1 _ (HC1.out 1 (.int .i64 id) rfl); have y2 := cell_block KK.out.blk 2 _ (HC1.out 2 (.string ta) rfl); have y3 := cell_block KK.out.blk 3 _ (HC1.out 3 (.string so) rfl); have y4 := cell_block KK.out.blk 4 _ (HC1.out 4 (.string ct) rfl); have y5 := cell_block KK.out.blk 5 _ (HC1.out 5 (.string cd) rfl); have y6 := cell_block KK.out.blk 6 _ (HC1.out 6 (.int .i64 mx) rfl); have y7 := cell_block KK.out.blk 7 _ (HC1.out 7 (.slice ab ks.length cb) rfl)
                  go_wp2_with (first | (go_at_call 54; (with_reducible refine (cC.out _ _ _).mono ?_); rintro r X ⟨rfl, rfl⟩) | (go_at_call 58; (with_reducible refine (cA.out _ _).mono ?_); rintro r X ⟨rfl, hb⟩; have KK := Lib.hid (KK.out.below hb); have KB := KK.out.bel; have y0 := cell_block KK.out.blk 0 _ (HC1.out 0 (.int .i64 se) rfl); have y1 := cell_block KK.out.blk 1 _ (HC1.out 1 (.int .i64 id) rfl); have y2 := cell_block KK.out.blk 2 _ (HC1.out 2 (.string ta) rfl); have y3 := cell_block KK.out.blk 3 _ (HC1.out 3 (.string so) rfl); have y4 := cell_block KK.out.blk 4 _ (HC1.out 4 (.string ct) rfl); have y5 := cell_block KK.out.blk 5 _ (HC1.out 5 (.string cd) rfl); have y6 := cell_block KK.out.blk 6 _ (HC1.out 6 (.int .i64 mx) rfl); have y7 := cell_block KK.out.blk 7 _ (HC1.out 7 (.slice ab ks.length cb) rfl)))
                  clear y0 y1 y2 y3 y4 y5 y6 cC cA  h0 h1 h2 h3 h4 h5 heq
                  go_loopw [4, 5, 6] (fun iv _ _ wr => ∃ i : Nat, i ≤ ks.length ∧ iv = .int .i64 (i : Int) ∧ Hid (bodyV ks = bodyV (ks.drop i)) ∧ Hid (Sb w C1 31 wr)) (fun iv _ _ _ => ks.length - (intOf iv).toNat)
                  case atStart => exact ⟨0, Nat.zero_le _, rfl, rfl, KK⟩
                  case round =>
                    obtain ⟨i, hi, rfl, HI, KK⟩ := hrel
                    have KB := KK.out.bel
                    have y7 := cell_block KK.out.blk 7 _ (HC1.out 7 (.slice ab ks.length cb) rfl)
                    by_cases hlt : i < ks.length
                    · have k1 : (i : Int) < (ks.length : Int) := by omega
                      have k2 : decide (i < ks.length) = true := by simp; omega
                      have k0 : (0 : Int) ≤ (i : Int) := by omega
                      have hil : i < ks.length := hlt
                      have HGO := Lib.hid (bodyV_go hil)
                      obtain ⟨b2, o2, ai2, ci2, ak2, ck2, rfl, hbl, hc0, hI2, hK2⟩ := HAB.out.kid i hil
                      have HR : Hid (wr.rangeAt b2 (o2 + i * 19) (cellsH ks[i].hd ai2 ci2 ak2 ks[i].ks.length ck2).toList) := fun j u hu => (KB.cell (p := ⟨b2, o2 + i * 19 + j, none⟩) hbl).trans (hc0 j u hu)
                      have c12 := Lib.hid (fun X (hX : Below w.heap.size w X) => HCK.out i hil X hX _ (AtC.mono hX.size _ _ (AtC.below hX _ _ (AtC.of (ci := ci2) (ck := ck2) hI2 hK2))))
                      have HL : Hid ((cellsH ks[i].hd ai2 ci2 ak2 ks[i].ks.length ck2).size = 19) := rfl
                      have HL0 : Hid ((cellsH ks[i].hd ai2 ci2 ak2 ks[i].ks.length ck2)[0]? = some (.int .i64 ks[i].hd.kd)) := rfl
                      have HL1 : Hid ((cellsH ks[i].hd ai2 ci2 ak2 ks[i].ks.length ck2).all (·.oneCell') = true) := by simp [Hid, cellsH, Value.oneCell']
                      have x0 : wr.cell? ⟨b2, o2 + i * 19, none⟩ = some (.int .i64 ks[i].hd.kd) := HR.out 0 _ rfl
                      have hcg := chg_eq ks[i].hd.kd
                      clear hc0 hbl hI2 hK2
                      generalize chkC ks[i] = cq at *
                      generalize cellsH ks[i].hd ai2 ci2 ak2 ks[i].ks.length ck2 = L at *
                      generalize ks[i].hd.kd = kk at *
                      have HS1 : Hid ((Tryd.prog.info? 27).map (·.size) = some L.toList.length) := by have h := HL.out; unfold Hid; rw [Array.length_toList, h]; exact size27c
                      have HS2 : Hid ((Tryd.prog.info? 27).map (·.size) = some L.size) := by have h := HL.out; unfold Hid; rw [h]; exact size27c
                      have HW1 : Hid (wrap64 ((i : Int) + 1) = (i : Int) + 1) := by unfold Hid wrap64; omega
                      generalize hch : chgB kk = cg at *
                      clear hch
                      cases cg with
                      | true =>
                        have hk3 : decide (3 ≤ kk) = true := by revert hcg; cases decide (3 ≤ kk) <;> simp
                        have hk5 : decide (kk ≤ 5) = true := by revert hcg; cases decide (kk ≤ 5) <;> simp
                        clear hcg
                        go_wp2_with (first | (go_at_call 12; (with_reducible refine (c12.out _ KB).mono ?_); rintro r X ⟨rfl, hb⟩; have KK := Lib.hid (KK.out.below hb); have KB := KK.out.bel) | (refine wpList_load_mid rfl 27 (.tmp 81) rfl b2 (o2 + i * 19) rfl L.toList _ HR.out Tryd.underlying27 rfl HS1.out ?_; rw [Array.toArray_toList]))
                        all_goals (go_ret; exact ⟨by rw [HV.out, HI.out, HGO.out]; simp, KB⟩)
                      | false =>
                        cases hk3 : decide (3 ≤ kk) with
                        | false =>
                          clear hcg
                          by_cases hz : cq = 0
                          · have hz2 : (cq != 0) = false := by simpa using hz
                            have HZ := Lib.hid hz
                            clear hz
                            go_wp2_with (first | (go_at_call 12; (with_reducible refine (c12.out _ KB).mono ?_); rintro r X ⟨rfl, hb⟩; have KK := Lib.hid (KK.out.below hb); have KB := KK.out.bel) | (refine wpList_load_mid rfl 27 (.tmp 81) rfl b2 (o2 + i * 19) rfl L.toList _ HR.out Tryd.underlying27 rfl HS1.out ?_; rw [Array.toArray_toList]))
                            all_goals go_roundw
                            all_goals first
                              | (refine ⟨i + 1, by omega, by go_num, ?_, KK⟩; unfold Hid; rw [HI.out, HGO.out, HZ.out]; try simp)
                              | (simp [intOf]; omega)
                          · have hz2 : (cq != 0) = true := by simpa using hz
                            have HZ := Lib.hid hz
                            clear hz
                            go_wp2_with (first | (go_at_call 12; (with_reducible refine (c12.out _ KB).mono ?_); rintro r X ⟨rfl, hb⟩; have KK := Lib.hid (KK.out.below hb); have KB := KK.out.bel) | (refine wpList_load_mid rfl 27 (.tmp 81) rfl b2 (o2 + i * 19) rfl L.toList _ HR.out Tryd.underlying27 rfl HS1.out ?_; rw [Array.toArray_toList]))
                            all_goals (go_ret; exact ⟨by rw [HV.out, HI.out, HGO.out, if_neg (by decide), if_pos HZ.out]; rfl, KB⟩)
                        | true =>
                          have hk5 : decide (kk ≤ 5) = false := by rw [hk3] at hcg; simpa using hcg
                          clear hcg
                          by_cases hz : cq = 0
                          · have hz2 : (cq != 0) = false := by simpa using hz
                            have HZ := Lib.hid hz
                            clear hz
                            go_wp2_with (first | (go_at_call 12; (with_reducible refine (c12.out _ KB).mono ?_); rintro r X ⟨rfl, hb⟩; have KK := Lib.hid (KK.out.below hb); have KB := KK.out.bel) | (refine wpList_load_mid rfl 27 (.tmp 81) rfl b2 (o2 + i * 19) rfl L.toList _ HR.out Tryd.underlying27 rfl HS1.out ?_; rw [Array.toArray_toList]))
                            all_goals go_roundw
                            all_goals first
                              | (refine ⟨i + 1, by omega, by go_num, ?_, KK⟩; unfold Hid; rw [HI.out, HGO.out, HZ.out]; try simp)
                              | (simp [intOf]; omega)
                          · have hz2 : (cq != 0) = true := by simpa using hz
                            have HZ := Lib.hid hz
                            clear hz
                            go_wp2_with (first | (go_at_call 12; (with_reducible refine (c12.out _ KB).mono ?_); rintro r X ⟨rfl, hb⟩; have KK := Lib.hid (KK.out.below hb); have KB := KK.out.bel) | (refine wpList_load_mid rfl 27 (.tmp 81) rfl b2 (o2 + i * 19) rfl L.toList _ HR.out Tryd.underlying27 rfl HS1.out ?_; rw [Array.toArray_toList]))
                            all_goals (go_ret; exact ⟨by rw [HV.out, HI.out, HGO.out, if_neg (by decide), if_pos HZ.out]; rfl, KB⟩)
                    · have k1 : ¬ (i : Int) < (ks.length : Int) := by omega
                      have k2 : decide (i < ks.length) = false := by simp; omega
                      have HE : Hid (bodyV ks = 0) := by unfold Hid; rw [HI.out, List.drop_eq_nil_of_le (by omega)]; rfl
                      go_wp2_with fail
                      go_ret
                      exact ⟨by rw [HV.out, HE.out]; rfl, KB⟩

end Go.Proofs.YtgechifbbhipaaaDoor
