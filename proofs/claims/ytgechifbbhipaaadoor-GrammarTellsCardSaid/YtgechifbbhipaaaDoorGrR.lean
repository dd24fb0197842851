/- grammar: the program's Rule of a name that is one. No condition but the library's variable. -/
import Derived.Test.YtgechifbbhipaaaDoorGrW
set_option linter.unusedVariables false
set_option linter.unusedSimpArgs false
namespace Go.Proofs.YtgechifbbhipaaaDoor
open Go.RowKit

theorem indexAny_no (chars : List UInt8) : ∀ l : List UInt8, (∀ b ∈ l, b ∉ chars) → Lib.indexAny l chars = -1
  | [], _ => rfl
  | b :: l, h => by
    have h1 : chars.contains b = false := by
      cases e : chars.contains b with
      | false => rfl
      | true => exact absurd (List.contains_iff_mem.1 e) (h b (by simp))
    rw [Lib.indexAny, h1, indexAny_no chars l (fun x hx => h x (by simp [hx]))]
    rfl
/-- what is found, as a value -/
def ruleVal (o : Option (List UInt8)) : ByteArray × Bool := match o with
  | none => (⟨#[]⟩, false)
  | some r => (mkB r, true)
theorem ret_sb {R : ByteArray × Bool} {s : ByteArray} {a : Bool} (h : (s, a) = R) : Ending.returned (.tuple #[.string s, .bool a]) = .returned (.tuple #[.string R.1, .bool R.2]) := by rw [← h]

set_option maxRecDepth 100000 in
set_option maxHeartbeats 4000000 in
theorem rule_any (pg : Int) (nm : ByteArray) (hn : nameB nm = true) (hs : nm.size ≤ 1000) (m : Int) (w : World) (hm : w.cell? ⟨0, 0, none⟩ = some (.int .i64 m)) :
    Calls Tryd.prog 28 #[.int .i64 pg, .string nm] w fun e w' => e = .returned (.tuple #[.string (ruleVal (ruleF pg nm.data.toList)).1, .bool (ruleVal (ruleF pg nm.data.toList)).2]) ∧ ∃ n w1, Below w.heap.size w w1 ∧ w' = w1.drewN n := by
  have hname : ∀ c ∈ nm.data.toList, namB c.toNat = true := fun c hc => by
    cases e : namB c.toNat with
    | true => rfl
    | false => exact absurd hc (nameB_free hn c e)
  have hascii : ∀ (j : Nat) b, nm.data.toList[j]? = some b → b.toNat < 128 := fun j b hb => by
    have h1 := hname b (List.mem_of_getElem? hb)
    unfold namB letB at h1
    simp only [Bool.or_eq_true, Bool.and_eq_true, decide_eq_true_eq] at h1
    omega
  have hca : Lib.containsAny nm.data.toList [32, 10] = false := by
    unfold Lib.containsAny
    rw [indexAny_no [32, 10] nm.data.toList (fun b hb h => by
      have h1 := hname b hb
      simp only [List.mem_cons, List.not_mem_nil, or_false] at h
      rcases h with rfl | rfl <;> exact absurd h1 (by decide))]
    rfl
  have cA := fun w => Tryd.strings_ContainsAny_laid nm ⟨#[32, 10]⟩ w (by omega) (by decide) hascii (fun j b hb => by
    have h1 : b ∈ ([32, 10] : List UInt8) := List.mem_of_getElem? hb
    simp only [List.mem_cons, List.not_mem_nil, or_false] at h1
    rcases h1 with rfl | rfl <;> decide)
  rw [show (⟨#[32, 10]⟩ : ByteArray).data.toList = [32, 10] from rfl, hca] at cA
  have CA := Lib.hid cA
  have hnz : nm.size ≠ 0 := by
    unfold nameB at hn
    simp only [Bool.and_eq_true, decide_eq_true_eq] at hn
    exact hn.1
  have i1 := not_empty nm hnz
  have cD := Lib.hid (fun w => digit_any pg w)
  have hds : (digS pg).size = 1 := by unfold digS; rw [mkB_size]; unfold digL; (repeat' split) <;> rfl
  have hn32 := nameB_free hn 32 (by decide)
  have hn10 : 10 ∉ hdL pg nm.data.toList := by
    unfold hdL
    simp only [List.mem_append, List.mem_cons, not_or]
    exact ⟨digL_free pg 10 (.inl rfl), by decide, nameB_free hn 10 (by decide)⟩
  have HHd : Hid (((({ data := #[10] } ++ digS pg) ++ { data := #[32] }) ++ nm : ByteArray).data.toList = 10 :: hdL pg nm.data.toList) := by
    unfold Hid hdL; simp [ByteArray.data_append, digS, mkB]
  have hhs : ((({ data := #[10] } ++ digS pg) ++ { data := #[32] }) ++ nm : ByteArray).size ≤ 1003 ∧ 1 ≤ ((({ data := #[10] } ++ digS pg) ++ { data := #[32] }) ++ nm : ByteArray).size := by
    rw [ByteArray.size_append, ByteArray.size_append, ByteArray.size_append, hds]
    constructor
    · show 1 + 1 + 1 + nm.size ≤ 1003; omega
    · show 1 ≤ 1 + 1 + 1 + nm.size; omega
  obtain ⟨R, hR⟩ : ∃ R, ruleF pg nm.data.toList = R := ⟨_, rfl⟩
  rw [hR]
  have HR0 : Hid (searchR 2000 rulesP.data.toList ((({ data := #[10] } ++ digS pg) ++ { data := #[32] }) ++ nm : ByteArray).data.toList = R) := by
    unfold Hid
    rw [HHd.out, ← hR, rulesP_text]
    have := search_eq hn10 ruleLs [] 2000 (by have := ruleLs_len; omega) (by simp) ruleLs_free
    rw [List.nil_append] at this
    exact this
  clear hR HHd hn10 hn32 hn hname hascii hca cA hnz
  generalize digS pg = D at *
  have hcat1 : ∀ w, (Op.stringOp .add { data := #[10] } D).run Tryd.prog w = .ok (.string ({ data := #[10] } ++ D)) w := fun w => Go.run_string_add_sum w _ _ (by rw [hds]; show 1 + 1 ≤ _; omega)
  have hcat2 : ∀ w, (Op.stringOp .add ({ data := #[10] } ++ D) { data := #[32] }).run Tryd.prog w = .ok (.string (({ data := #[10] } ++ D) ++ { data := #[32] })) w := fun w => Go.run_string_add_sum w _ _ (by rw [ByteArray.size_append, hds]; show 1 + 1 + 1 ≤ _; omega)
  have hcat3 : ∀ w, (Op.stringOp .add (({ data := #[10] } ++ D) ++ { data := #[32] }) nm).run Tryd.prog w = .ok (.string ((({ data := #[10] } ++ D) ++ { data := #[32] }) ++ nm)) w := fun w => Go.run_string_add_sum w _ _ (by rw [ByteArray.size_append, ByteArray.size_append, hds]; show 1 + 1 + 1 + nm.size ≤ _; omega)
  generalize hH : (({ data := #[10] } ++ D) ++ { data := #[32] } ++ nm : ByteArray) = H at *
  clear hds hH
  have hps := rulesP_size
  have HPS := Lib.hid hps
  clear hps
  have HM := Lib.hid hm
  have hm0 := World.block_lt_of_cell? _ _ hm
  clear hm
  go_enter Tryd.func28, Tryd.ntmps28
  rw [lit_p]
  rotate_left
  · kernel_rfl
  generalize rulesP = Q at *
  go_wp2_with (first | (go_at_call 85; refine (CA.out _).mono ?_; rintro e w1 ⟨rfl, hb1⟩) | (go_at_call 86; refine (cD.out _).mono ?_; rintro e w2 ⟨rfl, hb2⟩) | fail)
  have HB2 : Hid (Below w.heap.size w w2) := hb1.trans (hb2.mono hb1.size)
  have HM2 : Hid (w2.cell? ⟨0, 0, none⟩ = some (.int .i64 m)) := (HB2.out.cell (p := ⟨0, 0, none⟩) hm0).trans HM.out
  clear hcat1 hcat2 hcat3 CA cD hb1 hb2 HM
  go_loop [7] (fun tv => ∃ (n : Nat) (T : ByteArray), tv = .string T ∧ T.size ≤ 1607 ∧ Hid (T.size < n) ∧ Hid (searchR n T.data.toList H.data.toList = R)) (fun tv => szOf tv)
  case atStart => exact ⟨2000, Q, rfl, by rw [HPS.out]; omega, by unfold Hid; rw [HPS.out]; omega, HR0.out⟩
  case round =>
    obtain ⟨n, T, rfl, hT, HN, HS⟩ := hrel
    clear HR0
    obtain ⟨n, rfl⟩ : ∃ k, n = k + 1 := ⟨n - 1, by have := HN.out; omega⟩
    have cI := fun w hw => Tryd.strings_Index T H m w (by omega) hw
    have hic := Lib.indexB_cases T H
    rw [show Lib.indexB T H = Lib.index T.data.toList H.data.toList from rfl] at hic
    have hsr := HS.out
    rw [searchR] at hsr
    rcases hic with hi | ⟨k, hi, hk⟩
    · rw [hi] at cI hsr
      have HR : Hid ((⟨#[]⟩, false) = ruleVal R) := by
        unfold Hid; rw [if_pos (by omega)] at hsr; rw [← hsr]; rfl
      have CI := Lib.hid (cI w2 HM2.out)
      clear cI hsr hi
      go_wp2_with (go_at_call 87; refine CI.out.mono ?_; rintro e w3 ⟨rfl, rfl⟩)
      go_ret2
      exact ⟨ret_sb HR.out, 0, _, HB2.out, rfl⟩
    · rw [hi] at cI hsr
      rw [if_neg (by omega)] at hsr
      have CI := Lib.hid (cI w2 HM2.out)
      have k0 : (0 : Int) ≤ (k : Int) := by omega
      have k1 : ¬ (k : Int) < 0 := by omega
      have k2 : (k : Int) + (H.size : Int) ≤ (T.size : Int) := by omega
      have k3 : (0 : Int) ≤ (k : Int) + (H.size : Int) := by omega
      have k4 : wrap64 ((k : Int) + (H.size : Int)) = (k : Int) + (H.size : Int) := by unfold wrap64; omega
      have k5 : ((k : Int) + (H.size : Int)).toNat = k + H.size := by omega
      obtain ⟨T2, hT2⟩ : ∃ T2, T.extract (k + H.size) T.size = T2 := ⟨_, rfl⟩
      have hT2l : T2.data.toList = T.data.toList.drop (k + H.size) := by
        rw [← hT2, ByteArray.data_extract, Array.toList_extract, List.extract]
        exact List.take_of_length_le (by rw [List.length_drop, len_toList]; exact Nat.le_refl _)
      have hT2s : T2.size < T.size := by
        rw [← hT2, ByteArray.size_extract]; omega
      rw [show ((k : Int)).toNat + H.data.toList.length = k + H.size from by rw [len_toList]; omega, ← hT2l] at hsr
      have HSr := Lib.hid hsr
      clear cI hsr hi hT2l
      by_cases hz : T2.size = 0
      · have hT2e : T2.data.toList = [] := List.eq_nil_of_length_eq_zero (by rw [len_toList]; exact hz)
        have HR : Hid ((⟨#[]⟩, true) = ruleVal R) := by
          have := HSr.out
          rw [hT2e] at this
          unfold Hid; rw [← this]; rfl
        have i2 := emptyB T2 hz
        clear HSr hT2e hz
        go_wp2_with (go_at_call 87; refine CI.out.mono ?_; rintro e w3 ⟨rfl, rfl⟩)
        go_ret2
        exact ⟨ret_sb HR.out, 0, _, HB2.out, rfl⟩
      · have i2 := not_empty T2 hz
        have h0 : 0 < T2.size := by omega
        have k6 : (1 : Int) ≤ (T2.size : Int) := by omega
        have hat : ∀ w, (Instr.index 9 (.string T2) (.int .i64 0)).run Tryd.prog w = .ok (.int .u8 (T2[0].toNat : Int)) w := run_at9 T2 0 h0
        have hdr : T2.data.toList = T2[0] :: T2.data.toList.drop 1 := by
          have := drop_cons_at T2 0 h0
          simpa using this
        have hsr := HSr.out
        rw [hdr] at hsr
        simp only [] at hsr
        have HNx := Lib.hid (fun (h10 : ¬ T2[0] = 10) (h32 : ¬ T2[0] = 32) => (show searchR n T2.data.toList H.data.toList = R by rw [hdr]; rw [if_neg h10, if_neg h32] at hsr; exact hsr))
        by_cases h10 : T2[0] = 10
        · have HR : Hid ((⟨#[]⟩, true) = ruleVal R) := by
            rw [if_pos h10] at hsr
            unfold Hid; rw [← hsr]; rfl
          have j4 : ((T2[0].toNat : Int) == 10) = true := by rw [h10]; rfl
          clear HSr hsr hdr HNx h10
          generalize T2[0] = ch at *
          go_wp2_with (go_at_call 87; refine CI.out.mono ?_; rintro e w3 ⟨rfl, rfl⟩)
          go_ret2
          exact ⟨ret_sb HR.out, 0, _, HB2.out, rfl⟩
        · have j4 : ((T2[0].toNat : Int) == 10) = false := by rw [beq_eq_false_iff_ne]; intro e; exact h10 (byte_eq 10 rfl e)
          by_cases h32 : T2[0] = 32
          · have j5 : ((T2[0].toNat : Int) == 32) = true := by rw [h32]; rfl
            obtain ⟨T3, hT3⟩ : ∃ T3, T2.extract 1 T2.size = T3 := ⟨_, rfl⟩
            have hT3l : T3.data.toList = T2.data.toList.drop 1 := by
              rw [← hT3, ByteArray.data_extract, Array.toList_extract, List.extract]
              exact List.take_of_length_le (by rw [List.length_drop, len_toList]; exact Nat.le_refl _)
            have hT3s : T3.size ≤ 1607 := by rw [← hT3, ByteArray.size_extract]; omega
            have HR : Hid ((mkB (Lib.cut T3.data.toList [10]).1, true) = ruleVal R) := by
              rw [if_neg h10, if_pos h32, ← hT3l] at hsr
              unfold Hid; rw [← hsr]; rfl
            have cC := Lib.hid (Tryd.strings_Cut T3 ⟨#[10]⟩ m w2 (by omega) HM2.out)
            rw [show (⟨#[10]⟩ : ByteArray).data.toList = [10] from rfl] at cC
            clear HSr hsr hdr HNx h10 h32 hT3l
            generalize T2[0] = ch at *
            generalize Lib.cut T3.data.toList [10] = ct at *
            obtain ⟨ca, cb, cc⟩ := ct
            go_wp2_with (first | (go_at_call 87; refine CI.out.mono ?_; rintro e w3 ⟨rfl, rfl⟩) | (go_at_call 88; refine cC.out.mono ?_; rintro e w4 ⟨rfl, nq, rfl⟩))
            go_ret2
            exact ⟨ret_sb HR.out, nq, _, HB2.out, rfl⟩
          · have j5 : ((T2[0].toNat : Int) == 32) = false := by rw [beq_eq_false_iff_ne]; intro e; exact h32 (byte_eq 32 rfl e)
            have HS2 := Lib.hid (HNx.out h10 h32)
            have HN2 : Hid (T2.size < n) := by have := HN.out; unfold Hid; omega
            clear HSr hsr hdr HNx h10 h32
            generalize T2[0] = ch at *
            go_wp2_with (go_at_call 87; refine CI.out.mono ?_; rintro e w3 ⟨rfl, rfl⟩)
            go_round
            case rel => exact ⟨n, T2, rfl, by omega, HN2.out, HS2.out⟩
            case measure => simp [szOf]; omega
end Go.Proofs.YtgechifbbhipaaaDoor
