/- grammar: a page's digit, both; the reference's cut. No condition but sizes. -/
import Derived.Test.YtgechifbbhipaaaDoorGrQ
import Derived.Test.YtgechifbbhipaaaDoorMkU
import Derived.Test.YtgechifbbhipaaaDoorLn
set_option linter.unusedVariables false
set_option linter.unusedSimpArgs false
namespace Go.Proofs.YtgechifbbhipaaaDoor
open Go.RowKit

def digS (pg : Int) : ByteArray := mkB (digL pg)
theorem lit_row1 (w : World) (c : Int) : (w.alloc (.cells #[.int .u8 c] 5)).ownsRow w.heap.size 5 1 (.slice (some ⟨w.heap.size, 0, none⟩) 1 1) 1 (([c] : List Int).map (Value.int .u8)) := by
  have := World.ownsRow_lit (base := w.heap.size) (e := 5) (size := 1) w #[.int .u8 c] 1 (Nat.le_refl _) (by decide) (by simp)
  simpa using this
set_option maxRecDepth 100000 in
theorem digit_any (pg : Int) (w : World) : Calls Tryd.prog 86 #[.int .i64 pg] w fun e w' => e = .returned (.string (digS pg)) ∧ Below w.heap.size w w' := by
  by_cases h : pg < 0 ∨ 2 < pg
  · have hD : digS pg = ⟨#[63]⟩ := by unfold digS digL; rw [if_neg (by omega), if_neg (by omega), if_neg (by omega)]; rfl
    rw [hD]
    by_cases h1 : pg < 0
    · go_enter Tryd.func86, Tryd.ntmps86
      go_wp2
      go_ret
      exact ⟨rfl, Below.refl _ _⟩
    · have h2 : 2 < pg := by omega
      go_enter Tryd.func86, Tryd.ntmps86
      go_wp2
      go_ret
      exact ⟨rfl, Below.refl _ _⟩
  · have hp : pg = 0 ∨ pg = 1 ∨ pg = 2 := by omega
    clear h
    rcases hp with rfl | rfl | rfl
    · go_enter Tryd.func86, Tryd.ntmps86
      go_wp2_with (with_reducible refine wpList_str _ rfl _ 136 9 5 rfl Tryd.underlying136 Tryd.underlying9 Tryd.underlying5 w.heap.size _ _ _ [48] rfl (lit_row1 w 48) ?_)
      go_ret
      exact ⟨rfl, (Below.refl _ _).alloc (Nat.le_refl _) _⟩
    · go_enter Tryd.func86, Tryd.ntmps86
      go_wp2_with (with_reducible refine wpList_str _ rfl _ 136 9 5 rfl Tryd.underlying136 Tryd.underlying9 Tryd.underlying5 w.heap.size _ _ _ [49] rfl (lit_row1 w 49) ?_)
      go_ret
      exact ⟨rfl, (Below.refl _ _).alloc (Nat.le_refl _) _⟩
    · go_enter Tryd.func86, Tryd.ntmps86
      go_wp2_with (with_reducible refine wpList_str _ rfl _ 136 9 5 rfl Tryd.underlying136 Tryd.underlying9 Tryd.underlying5 w.heap.size _ _ _ [50] rfl (lit_row1 w 50) ?_)
      go_ret
      exact ⟨rfl, (Below.refl _ _).alloc (Nat.le_refl _) _⟩
set_option maxRecDepth 100000 in
theorem refDigit_any (pg : Int) (w : World) : Calls Tryd.prog 94 #[.int .i64 pg] w fun e w' => e = .returned (.string (digS pg)) ∧ w = w' := by
  by_cases h0 : pg = 0
  · subst h0
    go_enter Tryd.func94, Tryd.ntmps94
    go_wp2
    go_ret
    exact ⟨rfl, rfl⟩
  · by_cases h1 : pg = 1
    · subst h1
      go_enter Tryd.func94, Tryd.ntmps94
      go_wp2
      go_ret
      exact ⟨rfl, rfl⟩
    · by_cases h2 : pg = 2
      · subst h2
        go_enter Tryd.func94, Tryd.ntmps94
        go_wp2
        go_ret
        exact ⟨rfl, rfl⟩
      · have hD : digS pg = ⟨#[63]⟩ := by unfold digS digL; rw [if_neg h0, if_neg h1, if_neg h2]; rfl
        rw [hD]
        have e0 : (pg == 0) = false := by simpa using h0
        have e1 : (pg == 1) = false := by simpa using h1
        have e2 : (pg == 2) = false := by simpa using h2
        go_enter Tryd.func94, Tryd.ntmps94
        go_wp2
        go_ret
        exact ⟨rfl, rfl⟩

/-- texts as cells -/
def strVs (L : List (List UInt8)) : List Value := L.map fun p => .string (mkB p)
theorem cutB_len (c : UInt8) (l : List UInt8) : (cutB c l).length ≤ l.length + 1 := by
  induction l with
  | nil => simp [cutB]
  | cons a l ih =>
    rw [cutB]
    split
    · simp; omega
    · split
      · simp
      · rename_i h; rw [h] at ih; simp at ih ⊢; omega
/-- at byte i, the piece that stands there beginning at f, the pieces 'pre' ahead of it -/
def CutR (c : UInt8) (s : ByteArray) (L : List (List UInt8)) (f i : Nat) (pre : List (List UInt8)) : Prop :=
  (f ≤ i ∧ i ≤ s.size ∧ pre ++ cutB c (s.data.toList.drop f) = L ∧ c ∉ (s.data.toList.drop f).take (i - f)) ∨ (i = s.size + 1 ∧ f ≤ s.size + 1 ∧ pre = L)
theorem CutR.start (c : UInt8) (s : ByteArray) : CutR c s (cutB c s.data.toList) 0 0 [] := .inl ⟨Nat.le_refl _, Nat.zero_le _, rfl, by simp⟩
theorem drop_take_step (s : ByteArray) {f i : Nat} (hf : f ≤ i) (hi : i < s.size) : (s.data.toList.drop f).take (i + 1 - f) = (s.data.toList.drop f).take (i - f) ++ [s[i]] := by
  rw [show i + 1 - f = (i - f) + 1 from by omega, List.take_succ_eq_append_getElem (by rw [List.length_drop, len_toList]; omega)]
  congr 2
  rw [List.getElem_drop]
  simp only [show f + (i - f) = i from by omega]
  rfl
theorem CutR.step {c : UInt8} {s : ByteArray} {L : List (List UInt8)} {f i : Nat} {pre : List (List UInt8)} (h : CutR c s L f i pre) (hi : i < s.size) (hc : s[i] ≠ c) : CutR c s L f (i + 1) pre := by
  rcases h with ⟨h1, h2, h3, h4⟩ | ⟨h1, _⟩
  · refine .inl ⟨by omega, hi, h3, ?_⟩
    rw [drop_take_step s h1 hi]
    simp only [List.mem_append, List.mem_singleton, not_or]
    exact ⟨h4, Ne.symm hc⟩
  · omega
theorem CutR.hit {c : UInt8} {s : ByteArray} {L : List (List UInt8)} {f i : Nat} {pre : List (List UInt8)} (h : CutR c s L f i pre) (hi : i < s.size) (hc : s[i] = c) : CutR c s L (i + 1) (i + 1) (pre ++ [(s.data.toList.drop f).take (i - f)]) := by
  rcases h with ⟨h1, h2, h3, h4⟩ | ⟨h1, _⟩
  · refine .inl ⟨Nat.le_refl _, hi, ?_, by simp⟩
    have e : s.data.toList.drop f = (s.data.toList.drop f).take (i - f) ++ c :: s.data.toList.drop (i + 1) := by
      have e1 := (List.take_append_drop (i - f) (s.data.toList.drop f)).symm
      rw [List.drop_drop, show f + (i - f) = i from by omega, drop_cons_at s i hi, hc] at e1
      exact e1
    rw [e, cutB_at h4] at h3
    rw [← h3]; simp
  · omega
theorem CutR.last {c : UInt8} {s : ByteArray} {L : List (List UInt8)} {f : Nat} {pre : List (List UInt8)} (h : CutR c s L f s.size pre) : CutR c s L (s.size + 1) (s.size + 1) (pre ++ [(s.data.toList.drop f).take (s.size - f)]) := by
  rcases h with ⟨h1, h2, h3, h4⟩ | ⟨h1, _⟩
  · have e : (s.data.toList.drop f).take (s.size - f) = s.data.toList.drop f := List.take_of_length_le (by rw [List.length_drop, len_toList]; exact Nat.le_refl _)
    rw [e] at h4 ⊢
    rw [cutB_free h4] at h3
    exact .inr ⟨rfl, Nat.le_refl _, h3⟩
  · omega
theorem ext_piece (s : ByteArray) (f i : Nat) : s.extract f i = mkB ((s.data.toList.drop f).take (i - f)) := by
  apply Go.WideShapes.bytes_inj
  simp [mkB, ByteArray.data_extract, List.take_drop, List.extract]

set_option maxRecDepth 100000 in
set_option maxHeartbeats 4000000 in
theorem cut_any (s : ByteArray) (c : UInt8) (w : World) (hs : s.size ≤ 1000000) :
    Calls Tryd.prog 93 #[.string s, .int .u8 (c.toNat : Int)] w fun e w' => ∃ a cp, e = .returned (.slice a (cutB c s.data.toList).length cp) ∧ w'.ownsRow w.heap.size 9 1 (.slice a (cutB c s.data.toList).length cp) (cutB c s.data.toList).length (strVs (cutB c s.data.toList)) ∧ Below w.heap.size w w' := by
  have HLen := Lib.hid (cutB_len c s.data.toList)
  have HSt := Lib.hid (CutR.start c s)
  obtain ⟨L, hL⟩ : ∃ L, cutB c s.data.toList = L := ⟨_, rfl⟩
  rw [hL] at HLen HSt ⊢
  clear hL
  have hLl : L.length ≤ s.size + 1 := by have := HLen.out; rwa [len_toList] at this
  clear HLen
  go_enter Tryd.func93, Tryd.ntmps93
  go_wp2_with fail
  go_loopw [5, 6, 7] (fun lv fv iv wr => ∃ (f i : Nat) (pre : List (List UInt8)) (a : Option Addr) (cp : Nat), fv = .int .i64 (f : Int) ∧ iv = .int .i64 (i : Int) ∧ lv = .slice a pre.length cp ∧ Hid (CutR c s L f i pre) ∧ Hid (pre.length ≤ i) ∧ Hid (wr.ownsRow w.heap.size 9 1 (.slice a pre.length cp) pre.length (strVs pre)) ∧ Hid (Below w.heap.size w wr)) (fun _ _ iv _ => s.size + 2 - (intOf iv).toNat)
  case atStart => exact ⟨0, 0, [], none, 0, rfl, rfl, rfl, HSt.out, Nat.le_refl _, World.ownsRow_nil _ _ _ _, Below.refl _ _⟩
  case round =>
    obtain ⟨f, i, pre, a, cp, rfl, rfl, rfl, HR, HP, HO, HB⟩ := hrel
    clear HSt
    have hil : i ≤ s.size + 1 ∧ f ≤ s.size + 1 := by
      rcases HR.out with ⟨h1, h2, _⟩ | ⟨h1, h2, _⟩ <;> omega
    by_cases hle : i ≤ s.size
    · have j1 : (i : Int) ≤ (s.size : Int) := by omega
      have hfi : f ≤ i := by
        rcases HR.out with ⟨h1, h2, _⟩ | ⟨h1, h2, _⟩ <;> omega
      have k0 : (0 : Int) ≤ (f : Int) := by omega
      have k1 : (f : Int) ≤ (i : Int) := by omega
      have HW1 : Hid (wrap64 ((i : Int) + 1) = (i : Int) + 1) := by unfold Hid wrap64; omega
      have HMs : Hid (s.size + 2 - (intOf (.int .i64 ((i : Int) + 1))).toNat < s.size + 2 - (intOf (.int .i64 (i : Int))).toNat) := by unfold Hid; simp [intOf]; omega
      have g1 : pre.length + 1 ≤ maxLen := by have := HP.out; simp [maxLen]; omega
      have g2 : (pre.length + 1) * 16 ≤ 140737488355328 := by have := HP.out; omega
      have hsz := HB.out.size
      have HX := Lib.hid (ext_piece s f i)
      have HL1 : Hid (∀ p : List UInt8, (pre ++ [p]).length = pre.length + 1 ∧ strVs (pre ++ [p]) = strVs pre ++ [.string (mkB p)]) := fun p => ⟨by simp, by simp [strVs]⟩
      by_cases hlt : i < s.size
      · have j2 : ((i : Int) == (s.size : Int)) = false := by rw [beq_eq_false_iff_ne]; omega
        have j3 : (i == s.size) = false := by rw [beq_eq_false_iff_ne]; omega
        have hat := run_at9 s i hlt
        have HSt := Lib.hid (fun h => HR.out.step hlt h)
        have HHt := Lib.hid (fun h => HR.out.hit hlt h)
        by_cases hc : s[i] = c
        · have j4 : ((s[i].toNat : Int) == (c.toNat : Int)) = true := by rw [hc]; simp
          have HR2 := Lib.hid (HHt.out hc)
          clear HSt HHt HR hc hil hle hLl
          generalize s[i] = ch at *
          generalize hpp : List.take (i - f) (List.drop f s.data.toList) = pp at *
          clear hpp
          obtain ⟨PB, hPB⟩ : ∃ PB, s.extract f i = PB := ⟨_, rfl⟩
          have HPB : Hid (PB = mkB pp) := by unfold Hid; rw [← hPB]; exact HX.out
          have hsl := hPB
          go_wp2_with (at_builtin; go_must (refine wpList_app1 _ _ rfl _ _ 81 9 _ _ S27 rfl w.heap.size _ _ _ rfl rfl rfl HO.out g1 g2 hsz ?_); intro a' c' w4 hown4 hgr4 _ hb4; have HO4 := Lib.hid hown4; have HB4 := Lib.hid hb4; clear hown4 hb4 hgr4)
          have hw1 := HW1.out
          go_roundw
          case rel => exact ⟨i + 1, i + 1, pre ++ [pp], a', c', by go_num, by go_num, by rw [(HL1.out pp).1], HR2.out, by unfold Hid; rw [(HL1.out pp).1]; have := HP.out; omega, by unfold Hid; rw [(HL1.out pp).1, (HL1.out pp).2, ← HPB.out]; exact HO4.out, HB.out.trans HB4.out⟩
          case measure => first | exact HMs.out | (rw [hw1]; exact HMs.out)
        · have j4 : ((s[i].toNat : Int) == (c.toNat : Int)) = false := by
            rw [beq_eq_false_iff_ne]
            intro h
            exact hc (UInt8.toNat_inj.1 (by omega))
          have HR2 := Lib.hid (HSt.out hc)
          clear HSt HHt HR hc hil hle hLl
          generalize s[i] = ch at *
          go_wp2_with fail
          have hw1 := HW1.out
          go_roundw
          case rel => exact ⟨f, i + 1, pre, a, cp, rfl, by go_num, rfl, HR2.out, by unfold Hid; have := HP.out; omega, HO.out, HB.out⟩
          case measure => first | exact HMs.out | (rw [hw1]; exact HMs.out)
      · obtain rfl : i = s.size := by omega
        have j2 : ((s.size : Int) == (s.size : Int)) = true := by simp
        have j3 : (s.size == s.size) = true := by simp
        have HR2 := Lib.hid HR.out.last
        clear HR hil hle hLl hlt
        generalize hpp : List.take (s.size - f) (List.drop f s.data.toList) = pp at *
        clear hpp
        obtain ⟨PB, hPB⟩ : ∃ PB, s.extract f s.size = PB := ⟨_, rfl⟩
        have HPB : Hid (PB = mkB pp) := by unfold Hid; rw [← hPB]; exact HX.out
        go_wp2_with (at_builtin; go_must (refine wpList_app1 _ _ rfl _ _ 81 9 _ _ S27 rfl w.heap.size _ _ _ rfl rfl rfl HO.out g1 g2 hsz ?_); intro a' c' w4 hown4 hgr4 _ hb4; have HO4 := Lib.hid hown4; have HB4 := Lib.hid hb4; clear hown4 hb4 hgr4)
        have hw1 := HW1.out
        go_roundw
        case rel => exact ⟨s.size + 1, s.size + 1, pre ++ [pp], a', c', by go_num, by go_num, by rw [(HL1.out pp).1], HR2.out, by unfold Hid; rw [(HL1.out pp).1]; have := HP.out; omega, by unfold Hid; rw [(HL1.out pp).1, (HL1.out pp).2, ← HPB.out]; exact HO4.out, HB.out.trans HB4.out⟩
        case measure => first | exact HMs.out | (rw [hw1]; exact HMs.out)
    · have j1 : ¬ (i : Int) ≤ (s.size : Int) := by omega
      have hpl : pre = L := by
        rcases HR.out with ⟨h1, h2, _⟩ | ⟨h1, h2, h3⟩
        · omega
        · exact h3
      subst hpl
      go_wp2_with fail
      go_ret
      exact ⟨a, cp, rfl, HO.out, HB.out⟩
end Go.Proofs.YtgechifbbhipaaaDoor
