/- grammar: the reference's line of a name, and its words. No condition but the name's size. -/
import Derived.Test.YtgechifbbhipaaaDoorGrC
import Derived.Test.YtgechifbbhipaaaDoorTrQ
set_option linter.unusedVariables false
set_option linter.unusedSimpArgs false
namespace Go.Proofs.YtgechifbbhipaaaDoor
open Go.RowKit

theorem byte_eq {c : UInt8} {k : Int} (d : UInt8) (hd : (d.toNat : Int) = k) (h : (c.toNat : Int) = k) : c = d := UInt8.toNat_inj.1 (by omega)
theorem str_beq {a b : ByteArray} (h : a = b) : (a.toList == b.toList) = true := by rw [h]; simp
theorem str_bne {a b : ByteArray} (h : a ≠ b) : (a.toList == b.toList) = false := by
  cases e : (a.toList == b.toList) with
  | false => rfl
  | true =>
    rw [ByteArray.toList_eq, ByteArray.toList_eq, beq_iff_eq] at e
    exact absurd (Go.WideShapes.bytes_inj e) h
/-- is a line a head's? -/
def HitB (h l : ByteArray) : Prop := l = h ∨ (h.data.toList ++ [32]) <+: l.data.toList
/-- at byte i, the line that stands there beginning at f; what is still to be found -/
def LnR (Q h : ByteArray) (R : List UInt8) (f i : Nat) : Prop :=
  (f ≤ i ∧ i ≤ Q.size ∧ findL h.data.toList (cutB 10 (Q.data.toList.drop f)) = R ∧ 10 ∉ (Q.data.toList.drop f).take (i - f)) ∨ (i = Q.size + 1 ∧ f ≤ Q.size + 1 ∧ R = [])
theorem LnR.step {Q h : ByteArray} {R : List UInt8} {f i : Nat} (k : LnR Q h R f i) (hi : i < Q.size) (hc : Q[i] ≠ 10) : LnR Q h R f (i + 1) := by
  rcases k with ⟨h1, h2, h3, h4⟩ | ⟨h1, _⟩
  · refine .inl ⟨by omega, hi, h3, ?_⟩
    rw [drop_take_step Q h1 hi]
    simp only [List.mem_append, List.mem_singleton, not_or]
    exact ⟨h4, Ne.symm hc⟩
  · omega
/-- the line between f and i is the first that is left -/
theorem LnR.split {Q h : ByteArray} {R : List UInt8} {f i : Nat} (k : LnR Q h R f i) (hi : i < Q.size) (hc : Q[i] = 10) :
    cutB 10 (Q.data.toList.drop f) = (Q.extract f i).data.toList :: cutB 10 (Q.data.toList.drop (i + 1)) ∧ findL h.data.toList (cutB 10 (Q.data.toList.drop f)) = R := by
  rcases k with ⟨h1, h2, h3, h4⟩ | ⟨h1, _⟩
  · refine ⟨?_, h3⟩
    have e : Q.data.toList.drop f = (Q.data.toList.drop f).take (i - f) ++ 10 :: Q.data.toList.drop (i + 1) := by
      have e1 := (List.take_append_drop (i - f) (Q.data.toList.drop f)).symm
      rw [List.drop_drop, show f + (i - f) = i from by omega, drop_cons_at Q i hi, hc] at e1
      exact e1
    rw [ext_piece, mkB_list]
    conv => lhs; rw [e]
    rw [cutB_at h4]
  · omega
theorem LnR.splitE {Q h : ByteArray} {R : List UInt8} {f : Nat} (k : LnR Q h R f Q.size) :
    cutB 10 (Q.data.toList.drop f) = [(Q.extract f Q.size).data.toList] ∧ findL h.data.toList (cutB 10 (Q.data.toList.drop f)) = R := by
  rcases k with ⟨h1, h2, h3, h4⟩ | ⟨h1, _⟩
  · refine ⟨?_, h3⟩
    have e : (Q.data.toList.drop f).take (Q.size - f) = Q.data.toList.drop f := List.take_of_length_le (by rw [List.length_drop, len_toList]; exact Nat.le_refl _)
    rw [ext_piece, mkB_list, e]
    rw [e] at h4
    rw [cutB_free h4]
  · omega
theorem hit_list {h l : ByteArray} : (l.data.toList = h.data.toList ∨ (h.data.toList ++ [32]) <+: l.data.toList) ↔ HitB h l := by
  unfold HitB
  exact ⟨fun k => k.imp (fun e => Go.WideShapes.bytes_inj e) id, fun k => k.imp (fun e => by rw [e]) id⟩
/-- a hit -/
theorem found {h : ByteArray} {R : List UInt8} {l : ByteArray} {ls : List (List UInt8)} (e : findL h.data.toList (l.data.toList :: ls) = R) (k : HitB h l) : R = l.data.toList := by
  rw [findL, if_pos (hit_list.2 k)] at e
  exact e.symm
theorem passed {h : ByteArray} {R : List UInt8} {l : ByteArray} {ls : List (List UInt8)} (e : findL h.data.toList (l.data.toList :: ls) = R) (k : ¬ HitB h l) : findL h.data.toList ls = R := by
  rw [findL, if_neg (fun q => k (hit_list.1 q))] at e
  exact e
/-- the ways in which a line is a head's, or not -/
theorem hit_ways (h l : ByteArray) : (HitB h l ∧ ((l.size = h.size ∧ l = h) ∨ (h.size < l.size ∧ l.extract 0 h.size = h ∧ ∃ k : h.size < l.size, l[h.size] = 32))) ∨
    (¬ HitB h l ∧ ((l.size = h.size ∧ l ≠ h) ∨ l.size < h.size ∨ (h.size < l.size ∧ l.extract 0 h.size ≠ h) ∨ (h.size < l.size ∧ l.extract 0 h.size = h ∧ ∃ k : h.size < l.size, l[h.size] ≠ 32))) := by
  have hlp : (h.data.toList ++ [32]) <+: l.data.toList ↔ ∃ k : h.size < l.size, l.extract 0 h.size = h ∧ l[h.size] = 32 := by
    constructor
    · rintro ⟨r, hr⟩
      have hl := congrArg List.length hr
      simp only [List.length_append, List.length_singleton, len_toList] at hl
      have k : h.size < l.size := by omega
      refine ⟨k, ?_, ?_⟩
      · apply Go.WideShapes.bytes_inj
        rw [ByteArray.data_extract, Array.toList_extract, List.extract, List.drop_zero, Nat.sub_zero, ← hr, List.append_assoc, ← len_toList h, List.take_left]
      · have h2 : l.data.toList[h.size]? = some l[h.size] := bat_get l h.size k
        rw [← hr, List.append_assoc, List.getElem?_append_right (by rw [len_toList]; exact Nat.le_refl _), len_toList, Nat.sub_self] at h2
        simpa using h2.symm
    · rintro ⟨k, h1, h2⟩
      refine ⟨l.data.toList.drop (h.size + 1), ?_⟩
      have e1 : l.data.toList.take h.size = h.data.toList := by
        have := congrArg (fun b : ByteArray => b.data.toList) h1
        simpa [ByteArray.data_extract, List.extract] using this
      have e2 := (List.take_append_drop h.size l.data.toList)
      rw [drop_cons_at l h.size k, e1, h2] at e2
      rw [List.append_assoc]; exact e2
  by_cases h1 : l.size = h.size
  · by_cases h2 : l = h
    · exact .inl ⟨.inl h2, .inl ⟨h1, h2⟩⟩
    · refine .inr ⟨?_, .inl ⟨h1, h2⟩⟩
      rintro (k | k)
      · exact h2 k
      · obtain ⟨k2, _⟩ := hlp.1 k; omega
  · have hne : l ≠ h := fun e => h1 (by rw [e])
    by_cases h3 : l.size < h.size
    · refine .inr ⟨?_, .inr (.inl h3)⟩
      rintro (k | k)
      · exact hne k
      · obtain ⟨k2, _⟩ := hlp.1 k; omega
    · have h4 : h.size < l.size := by omega
      by_cases h5 : l.extract 0 h.size = h
      · by_cases h6 : l[h.size] = 32
        · exact .inl ⟨.inr (hlp.2 ⟨h4, h5, h6⟩), .inr ⟨h4, h5, h4, h6⟩⟩
        · refine .inr ⟨?_, .inr (.inr (.inr ⟨h4, h5, h4, h6⟩))⟩
          rintro (k | k)
          · exact hne k
          · obtain ⟨k2, _, k3⟩ := hlp.1 k; exact h6 k3
      · refine .inr ⟨?_, .inr (.inr (.inl ⟨h4, h5⟩))⟩
        rintro (k | k)
        · exact hne k
        · obtain ⟨k2, k3, _⟩ := hlp.1 k; exact h5 k3

set_option maxRecDepth 100000 in
set_option maxHeartbeats 8000000 in
theorem line_any (pg : Int) (nm : ByteArray) (w : World) (hn : nm.size ≤ 1000) :
    Calls Tryd.prog 139 #[.int .i64 pg, .string nm] w fun e w' => e = .returned (.string (mkB (lineF pg nm.data.toList))) ∧ w = w' := by
  have cD := Lib.hid (fun w => refDigit_any pg w)
  have hds : (digS pg).size = 1 := by unfold digS; rw [mkB_size]; unfold digL; (repeat' split) <;> rfl
  have HHd : Hid (((digS pg ++ ⟨#[32]⟩) ++ nm).data.toList = hdL pg nm.data.toList) := by
    unfold Hid hdL; simp [ByteArray.data_append, digS, mkB]
  have hhs : ((digS pg ++ ⟨#[32]⟩) ++ nm).size ≤ 1002 := by
    rw [ByteArray.size_append, ByteArray.size_append, hds]; show 1 + 1 + nm.size ≤ 1002; omega
  obtain ⟨R, hR⟩ : ∃ R, lineF pg nm.data.toList = R := ⟨_, rfl⟩
  rw [hR]
  have HR0 : Hid (findL ((digS pg ++ ⟨#[32]⟩) ++ nm).data.toList (cutB 10 (rulesQ.data.toList.drop 0)) = R) := by
    unfold Hid; rw [HHd.out, List.drop_zero]; exact hR
  clear hR HHd
  generalize digS pg = D at *
  have hcat1 : ∀ w, (Op.stringOp .add D ⟨#[32]⟩).run Tryd.prog w = .ok (.string (D ++ ⟨#[32]⟩)) w := fun w => Go.run_string_add_sum w _ _ (by rw [hds]; show 1 + 1 ≤ _; omega)
  have hcat2 : ∀ w, (Op.stringOp .add (D ++ ⟨#[32]⟩) nm).run Tryd.prog w = .ok (.string ((D ++ ⟨#[32]⟩) ++ nm)) w := fun w => Go.run_string_add_sum w _ _ (by rw [ByteArray.size_append, hds]; show 1 + 1 + nm.size ≤ _; omega)
  generalize hH : (D ++ ⟨#[32]⟩) ++ nm = H at *
  clear hds hH
  have hq : rulesQ.size = 1606 := rulesQ_size
  have HLn := Lib.hid (fun (f i : Nat) (k : LnR rulesQ H R f i) => k)
  have HStep : Hid (∀ f i, LnR rulesQ H R f i → ∀ (hi : i < rulesQ.size), rulesQ[i] ≠ 10 → LnR rulesQ H R f (i + 1)) := fun f i k hi hc => k.step hi hc
  have HSpl : Hid (∀ f i, LnR rulesQ H R f i → (i = rulesQ.size ∨ ∃ hi : i < rulesQ.size, rulesQ[i] = 10) → (HitB H (rulesQ.extract f i) → R = (rulesQ.extract f i).data.toList) ∧ (¬ HitB H (rulesQ.extract f i) → LnR rulesQ H R (i + 1) (i + 1))) := fun f i k hi => by
    rcases hi with rfl | ⟨hi, hc⟩
    · obtain ⟨e1, e2⟩ := k.splitE
      rw [e1] at e2
      exact ⟨fun q => found e2 q, fun q => .inr ⟨rfl, Nat.le_refl _, (passed e2 q).symm⟩⟩
    · obtain ⟨e1, e2⟩ := k.split hi hc
      rw [e1] at e2
      exact ⟨fun q => found e2 q, fun q => .inl ⟨Nat.le_refl _, hi, passed e2 q, by simp⟩⟩
  have HEnd : Hid (∀ f i, LnR rulesQ H R f i → ¬ i ≤ rulesQ.size → R = []) := fun f i k hi => by
    rcases k with ⟨h1, h2, _⟩ | ⟨h1, h2, h3⟩
    · omega
    · exact h3
  have HOrd : Hid (∀ f i, LnR rulesQ H R f i → i ≤ rulesQ.size + 1 ∧ f ≤ rulesQ.size + 1 ∧ (i ≤ rulesQ.size → f ≤ i)) := fun f i k => by
    rcases k with ⟨h1, h2, _⟩ | ⟨h1, h2, _⟩ <;> exact ⟨by omega, by omega, by omega⟩
  have HAt : Hid (∀ i (h : i < rulesQ.size), ∀ w, (Instr.index 9 (.string rulesQ) (.int .i64 (i : Int))).run Tryd.prog w = .ok (.int .u8 (rulesQ[i].toNat : Int)) w) := fun i h => run_at9 rulesQ i h
  have HSt0 : Hid (LnR rulesQ H R 0 0) := .inl ⟨Nat.le_refl _, Nat.zero_le _, HR0.out, by simp⟩
  clear HR0 HLn
  go_enter Tryd.func139, Tryd.ntmps139
  rw [lit_q]
  rotate_left
  · kernel_rfl
  generalize rulesQ = Q at *
  go_wp2_with (go_at_call 94; refine (cD.out _).mono ?_; rintro e w1 ⟨rfl, rfl⟩)
  clear hcat1 hcat2 cD
  go_loop [6, 7] (fun fv iv => ∃ (f i : Nat), fv = .int .i64 (f : Int) ∧ iv = .int .i64 (i : Int) ∧ Hid (LnR Q H R f i)) (fun _ iv => 1608 - (intOf iv).toNat)
  case atStart => exact ⟨0, 0, rfl, rfl, HSt0.out⟩
  case round =>
    obtain ⟨f, i, rfl, rfl, HR⟩ := hrel
    clear HSt0
    obtain ⟨o1, o2, o3⟩ := HOrd.out f i HR.out
    by_cases hle : i ≤ Q.size
    · have hfi := o3 hle
      have HSp := Lib.hid (HSpl.out f i HR.out)
      have HSt := Lib.hid (HStep.out f i HR.out)
      have hi6 : i ≤ 1606 := by omega
      have j1 : (i : Int) ≤ 1606 := by omega
      have k0 : (0 : Int) ≤ (f : Int) := by omega
      have k1 : (f : Int) ≤ (i : Int) := by omega
      have HW1 : Hid (wrap64 ((i : Int) + 1) = (i : Int) + 1) := by unfold Hid wrap64; omega
      have HMs : Hid (1608 - (intOf (.int .i64 ((i : Int) + 1))).toNat < 1608 - (intOf (.int .i64 (i : Int))).toNat) := by unfold Hid; simp [intOf]; omega
      by_cases hlt : i < Q.size
      · have j2 : (i : Int) < 1606 := by omega
        have hat := HAt.out i hlt
        by_cases hc : Q[i] = 10
        · have j4 : ((Q[i].toNat : Int) != 10) = false := by rw [hc]; rfl
          have j5 : ((Q[i].toNat : Int) == 10) = true := by rw [hc]; rfl
          have HS2 := Lib.hid (HSp.out (.inr ⟨hlt, hc⟩))
          clear HSp HSt HR hc hle o1 o2 o3 HStep HSpl HOrd HEnd HAt
          generalize Q[i] = ch0 at *
          clear hlt
          generalize hPB : Q.extract f i = PB at *
          rcases hit_ways H PB with ⟨hh, ⟨q1, q2⟩ | ⟨q1, q2, q3, q4⟩⟩ | ⟨hh, ⟨q1, q2⟩ | q1 | ⟨q1, q2⟩ | ⟨q1, q2, q3, q4⟩⟩
          · have HF := Lib.hid (HS2.out.1 hh)
            clear HS2 hh
            have t1 : ((PB.size : Int) == (H.size : Int)) = true := by first | (rw [beq_iff_eq]; omega) | (rw [beq_eq_false_iff_ne]; omega)
            have t2 : (PB.size == H.size) = true := by first | (rw [beq_iff_eq]; omega) | (rw [beq_eq_false_iff_ne]; omega)
            have t3 := str_beq q2
            clear q1 q2
            go_wp2_with fail
            go_ret
            exact ⟨ret_bytes' (by rw [HF.out]; exact (mkB_of PB).symm), rfl⟩
          · have HF := Lib.hid (HS2.out.1 hh)
            clear HS2 hh
            have t1 : ((PB.size : Int) == (H.size : Int)) = false := by first | (rw [beq_iff_eq]; omega) | (rw [beq_eq_false_iff_ne]; omega)
            have t2 : (PB.size == H.size) = false := by first | (rw [beq_iff_eq]; omega) | (rw [beq_eq_false_iff_ne]; omega)
            have t4 : (H.size : Int) < (PB.size : Int) := by omega
            have t5 : (0 : Int) ≤ (H.size : Int) := by omega
            have t6 : (H.size : Int) ≤ (PB.size : Int) := by omega
            have t3 := str_beq q2
            have t7 := run_at9 PB H.size q3
            have t8 : ((PB[H.size].toNat : Int) == 32) = true := by rw [q4]; rfl
            generalize PB[H.size] = ch at *
            clear q1 q2 q3 q4
            go_wp2_with fail
            go_ret
            exact ⟨ret_bytes' (by rw [HF.out]; exact (mkB_of PB).symm), rfl⟩
          · have HF := Lib.hid (HS2.out.2 hh)
            clear HS2 hh
            have t1 : ((PB.size : Int) == (H.size : Int)) = true := by first | (rw [beq_iff_eq]; omega) | (rw [beq_eq_false_iff_ne]; omega)
            have t2 : (PB.size == H.size) = true := by first | (rw [beq_iff_eq]; omega) | (rw [beq_eq_false_iff_ne]; omega)
            have t3 := str_bne q2
            have t4 : ¬ (H.size : Int) < (PB.size : Int) := by omega
            clear q1 q2
            have hw1 := HW1.out
            go_wp2_with fail
            go_round
            case rel => exact ⟨i + 1, i + 1, by go_num, by go_num, HF.out⟩
            case measure => first | exact HMs.out | (rw [hw1]; exact HMs.out)
          · have HF := Lib.hid (HS2.out.2 hh)
            clear HS2 hh
            have t1 : ((PB.size : Int) == (H.size : Int)) = false := by first | (rw [beq_iff_eq]; omega) | (rw [beq_eq_false_iff_ne]; omega)
            have t2 : (PB.size == H.size) = false := by first | (rw [beq_iff_eq]; omega) | (rw [beq_eq_false_iff_ne]; omega)
            have t4 : ¬ (H.size : Int) < (PB.size : Int) := by omega
            clear q1
            have hw1 := HW1.out
            go_wp2_with fail
            go_round
            case rel => exact ⟨i + 1, i + 1, by go_num, by go_num, HF.out⟩
            case measure => first | exact HMs.out | (rw [hw1]; exact HMs.out)
          · have HF := Lib.hid (HS2.out.2 hh)
            clear HS2 hh
            have t1 : ((PB.size : Int) == (H.size : Int)) = false := by first | (rw [beq_iff_eq]; omega) | (rw [beq_eq_false_iff_ne]; omega)
            have t2 : (PB.size == H.size) = false := by first | (rw [beq_iff_eq]; omega) | (rw [beq_eq_false_iff_ne]; omega)
            have t4 : (H.size : Int) < (PB.size : Int) := by omega
            have t5 : (0 : Int) ≤ (H.size : Int) := by omega
            have t6 : (H.size : Int) ≤ (PB.size : Int) := by omega
            have t3 := str_bne q2
            clear q1 q2
            have hw1 := HW1.out
            go_wp2_with fail
            go_round
            case rel => exact ⟨i + 1, i + 1, by go_num, by go_num, HF.out⟩
            case measure => first | exact HMs.out | (rw [hw1]; exact HMs.out)
          · have HF := Lib.hid (HS2.out.2 hh)
            clear HS2 hh
            have t1 : ((PB.size : Int) == (H.size : Int)) = false := by first | (rw [beq_iff_eq]; omega) | (rw [beq_eq_false_iff_ne]; omega)
            have t2 : (PB.size == H.size) = false := by first | (rw [beq_iff_eq]; omega) | (rw [beq_eq_false_iff_ne]; omega)
            have t4 : (H.size : Int) < (PB.size : Int) := by omega
            have t5 : (0 : Int) ≤ (H.size : Int) := by omega
            have t6 : (H.size : Int) ≤ (PB.size : Int) := by omega
            have t3 := str_beq q2
            have t7 := run_at9 PB H.size q3
            have t8 : ((PB[H.size].toNat : Int) == 32) = false := by rw [beq_eq_false_iff_ne]; intro e; exact q4 (byte_eq 32 rfl e)
            generalize PB[H.size] = ch at *
            clear q1 q2 q3 q4
            have hw1 := HW1.out
            go_wp2_with fail
            go_round
            case rel => exact ⟨i + 1, i + 1, by go_num, by go_num, HF.out⟩
            case measure => first | exact HMs.out | (rw [hw1]; exact HMs.out)
        · have j4 : ((Q[i].toNat : Int) != 10) = true := by rw [bne_iff_ne]; intro e; exact hc (byte_eq 10 rfl e)
          have j5 : ((Q[i].toNat : Int) == 10) = false := by rw [beq_eq_false_iff_ne]; intro e; exact hc (byte_eq 10 rfl e)
          have HF := Lib.hid (HSt.out hlt hc)
          clear HSp HSt HR hc hle o1 o2 o3 HStep HSpl HOrd HEnd HAt
          generalize Q[i] = ch0 at *
          clear hlt
          have hw1 := HW1.out
          go_wp2_with fail
          go_round
          case rel => exact ⟨f, i + 1, rfl, by go_num, HF.out⟩
          case measure => first | exact HMs.out | (rw [hw1]; exact HMs.out)
      · have j2 : ¬ (i : Int) < 1606 := by omega
        have HS2 := Lib.hid (HSp.out (.inl (by omega)))
        clear HSp HSt HR hle hlt o1 o2 o3 HStep HSpl HOrd HEnd HAt
        generalize hPB : Q.extract f i = PB at *
        rcases hit_ways H PB with ⟨hh, ⟨q1, q2⟩ | ⟨q1, q2, q3, q4⟩⟩ | ⟨hh, ⟨q1, q2⟩ | q1 | ⟨q1, q2⟩ | ⟨q1, q2, q3, q4⟩⟩
        · have HF := Lib.hid (HS2.out.1 hh)
          clear HS2 hh
          have t1 : ((PB.size : Int) == (H.size : Int)) = true := by first | (rw [beq_iff_eq]; omega) | (rw [beq_eq_false_iff_ne]; omega)
          have t2 : (PB.size == H.size) = true := by first | (rw [beq_iff_eq]; omega) | (rw [beq_eq_false_iff_ne]; omega)
          have t3 := str_beq q2
          clear q1 q2
          go_wp2_with fail
          go_ret
          exact ⟨ret_bytes' (by rw [HF.out]; exact (mkB_of PB).symm), rfl⟩
        · have HF := Lib.hid (HS2.out.1 hh)
          clear HS2 hh
          have t1 : ((PB.size : Int) == (H.size : Int)) = false := by first | (rw [beq_iff_eq]; omega) | (rw [beq_eq_false_iff_ne]; omega)
          have t2 : (PB.size == H.size) = false := by first | (rw [beq_iff_eq]; omega) | (rw [beq_eq_false_iff_ne]; omega)
          have t4 : (H.size : Int) < (PB.size : Int) := by omega
          have t5 : (0 : Int) ≤ (H.size : Int) := by omega
          have t6 : (H.size : Int) ≤ (PB.size : Int) := by omega
          have t3 := str_beq q2
          have t7 := run_at9 PB H.size q3
          have t8 : ((PB[H.size].toNat : Int) == 32) = true := by rw [q4]; rfl
          generalize PB[H.size] = ch at *
          clear q1 q2 q3 q4
          go_wp2_with fail
          go_ret
          exact ⟨ret_bytes' (by rw [HF.out]; exact (mkB_of PB).symm), rfl⟩
        · have HF := Lib.hid (HS2.out.2 hh)
          clear HS2 hh
          have t1 : ((PB.size : Int) == (H.size : Int)) = true := by first | (rw [beq_iff_eq]; omega) | (rw [beq_eq_false_iff_ne]; omega)
          have t2 : (PB.size == H.size) = true := by first | (rw [beq_iff_eq]; omega) | (rw [beq_eq_false_iff_ne]; omega)
          have t3 := str_bne q2
          have t4 : ¬ (H.size : Int) < (PB.size : Int) := by omega
          clear q1 q2
          have hw1 := HW1.out
          go_wp2_with fail
          go_round
          case rel => exact ⟨i + 1, i + 1, by go_num, by go_num, HF.out⟩
          case measure => first | exact HMs.out | (rw [hw1]; exact HMs.out)
        · have HF := Lib.hid (HS2.out.2 hh)
          clear HS2 hh
          have t1 : ((PB.size : Int) == (H.size : Int)) = false := by first | (rw [beq_iff_eq]; omega) | (rw [beq_eq_false_iff_ne]; omega)
          have t2 : (PB.size == H.size) = false := by first | (rw [beq_iff_eq]; omega) | (rw [beq_eq_false_iff_ne]; omega)
          have t4 : ¬ (H.size : Int) < (PB.size : Int) := by omega
          clear q1
          have hw1 := HW1.out
          go_wp2_with fail
          go_round
          case rel => exact ⟨i + 1, i + 1, by go_num, by go_num, HF.out⟩
          case measure => first | exact HMs.out | (rw [hw1]; exact HMs.out)
        · have HF := Lib.hid (HS2.out.2 hh)
          clear HS2 hh
          have t1 : ((PB.size : Int) == (H.size : Int)) = false := by first | (rw [beq_iff_eq]; omega) | (rw [beq_eq_false_iff_ne]; omega)
          have t2 : (PB.size == H.size) = false := by first | (rw [beq_iff_eq]; omega) | (rw [beq_eq_false_iff_ne]; omega)
          have t4 : (H.size : Int) < (PB.size : Int) := by omega
          have t5 : (0 : Int) ≤ (H.size : Int) := by omega
          have t6 : (H.size : Int) ≤ (PB.size : Int) := by omega
          have t3 := str_bne q2
          clear q1 q2
          have hw1 := HW1.out
          go_wp2_with fail
          go_round
          case rel => exact ⟨i + 1, i + 1, by go_num, by go_num, HF.out⟩
          case measure => first | exact HMs.out | (rw [hw1]; exact HMs.out)
        · have HF := Lib.hid (HS2.out.2 hh)
          clear HS2 hh
          have t1 : ((PB.size : Int) == (H.size : Int)) = false := by first | (rw [beq_iff_eq]; omega) | (rw [beq_eq_false_iff_ne]; omega)
          have t2 : (PB.size == H.size) = false := by first | (rw [beq_iff_eq]; omega) | (rw [beq_eq_false_iff_ne]; omega)
          have t4 : (H.size : Int) < (PB.size : Int) := by omega
          have t5 : (0 : Int) ≤ (H.size : Int) := by omega
          have t6 : (H.size : Int) ≤ (PB.size : Int) := by omega
          have t3 := str_beq q2
          have t7 := run_at9 PB H.size q3
          have t8 : ((PB[H.size].toNat : Int) == 32) = false := by rw [beq_eq_false_iff_ne]; intro e; exact q4 (byte_eq 32 rfl e)
          generalize PB[H.size] = ch at *
          clear q1 q2 q3 q4
          have hw1 := HW1.out
          go_wp2_with fail
          go_round
          case rel => exact ⟨i + 1, i + 1, by go_num, by go_num, HF.out⟩
          case measure => first | exact HMs.out | (rw [hw1]; exact HMs.out)
    · have j1 : ¬ (i : Int) ≤ 1606 := by omega
      have hR := HEnd.out f i HR.out hle
      subst hR
      go_wp2_with fail
      go_ret
      exact ⟨rfl, rfl⟩

theorem extract_tail {X : World} {B n : Nat} {a : Option Addr} {c : Nat} {L : List (List UInt8)} (h : X.ownsRow B 9 1 (.slice a n c) n (strVs L)) (hl : L.length = n) : ∀ i (hi : i < L.length), ∃ g, a = some ⟨g, 0, none⟩ ∧ B ≤ g ∧ g < X.heap.size ∧ X.cell? ⟨g, i, none⟩ = some (.string (mkB L[i])) := fun i hi => by
  rcases h.2 with ⟨_, h0⟩ | ⟨g, cap, cur, hv, hg, hh, _⟩
  · omega
  · simp only [Value.slice.injEq] at hv
    obtain ⟨rfl, _, rfl⟩ := hv
    refine ⟨g, rfl, hg, (Array.getElem?_eq_some_iff.1 hh).1, ?_⟩
    have := h.cells (g := g) rfl i (.string (mkB L[i])) (by unfold strVs; rw [List.getElem?_map, List.getElem?_eq_getElem hi]; rfl)
    rw [show (⟨g, 0, none⟩ : Addr).add i = ⟨g, i, none⟩ from by unfold Addr.add; split <;> simp_all] at this
    exact this
/-- a slice that reads as texts, in a block of which P holds -/
def WRow (X : World) (P : Nat → Prop) (v : Value) (ws : List (List UInt8)) : Prop := ∃ a n c, v = .slice a n c ∧ n = ws.length ∧ ∀ i (hi : i < ws.length), ∃ g o, a = some ⟨g, o, none⟩ ∧ P g ∧ X.cell? ⟨g, o + i, none⟩ = some (.string (mkB ws[i]))
end Go.Proofs.YtgechifbbhipaaaDoor
