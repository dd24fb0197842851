/- tree: the reference's same. No condition. -/
import Derived.Test.YtgechifbbhipaaaDoorTrX
import Derived.Test.YtgechifbbhipaaaDoorKit
import Derived.StillTailTactics
set_option linter.unusedVariables false
set_option linter.unusedSimpArgs false
namespace Go.Proofs.YtgechifbbhipaaaDoor
open Go.RowKit

theorem str_is (x s : ByteArray) : (x.toList == s.toList) = true ↔ x = s := by
  rw [ByteArray.toList_eq, ByteArray.toList_eq, beq_iff_eq]
  exact ⟨fun h => Go.WideShapes.bytes_inj h, fun h => by rw [h]⟩
theorem str_not {x s : ByteArray} (h : x ≠ s) : (x.toList == s.toList) = false := by
  cases e : (x.toList == s.toList) with
  | false => rfl
  | true => exact absurd ((str_is x s).1 e) h
theorem str_self (x : ByteArray) : (x.toList == x.toList) = true := (str_is x x).2 rfl

/-- are two elements the same but for their kids -/
def eqF (a b : Tr) : Bool := (a.page == b.page) && ((a.name.toList == b.name.toList) && ((a.text.toList == b.text.toList) && ((a.opq == b.opq) && (a.kids.length == b.kids.length))))
/-- are two elements the same, down to d within one another -/
def sameT : Nat → Tr → Tr → Bool
  | 0, a, b => eqF a b
  | d + 1, a, b => eqF a b && (a.kids.zip b.kids).all fun p => sameT d p.1 p.2
theorem eqF_refl (a : Tr) : eqF a a = true := by simp [eqF]
theorem sameT_refl : ∀ (d : Nat) (a : Tr), sameT d a a = true
  | 0, a => eqF_refl a
  | d + 1, a => by
    rw [sameT, eqF_refl, Bool.true_and, List.all_eq_true]
    rintro ⟨x, y⟩ h
    have : x = y := by
      obtain ⟨i, hi, he⟩ := List.getElem_of_mem h
      rw [List.getElem_zip] at he
      simp only [Prod.mk.injEq] at he
      rw [← he.1, ← he.2]
    rw [this]; exact sameT_refl d y
theorem sameT_no {d : Nat} {a b : Tr} (h : eqF a b = false) : sameT d a b = false := by cases d <;> simp [sameT, h]
theorem sameT_at {d : Nat} {a b : Tr} {i : Nat} (ha : i < a.kids.length) (hb : i < b.kids.length) (h : sameT d a.kids[i] b.kids[i] = false) : sameT (d + 1) a b = false := by
  rw [sameT, Bool.and_eq_false_iff]
  refine .inr ?_
  rw [List.all_eq_false]
  refine ⟨(a.kids[i], b.kids[i]), ?_, by simp [h]⟩
  have hl : i < (a.kids.zip b.kids).length := by rw [List.length_zip]; omega
  have := List.getElem_mem hl
  rwa [List.getElem_zip] at this
theorem sameT_all {d : Nat} {a b : Tr} (h0 : eqF a b = true) (h : ∀ i (ha : i < a.kids.length) (hb : i < b.kids.length), sameT d a.kids[i] b.kids[i] = true) : sameT (d + 1) a b = true := by
  rw [sameT, h0, Bool.true_and, List.all_eq_true]
  rintro ⟨x, y⟩ hm
  obtain ⟨i, hi, he⟩ := List.getElem_of_mem hm
  rw [List.length_zip] at hi
  rw [List.getElem_zip] at he
  simp only [Prod.mk.injEq] at he
  have := h i (by omega) (by omega)
  rw [he.1, he.2] at this; exact this

set_option maxRecDepth 100000 in
set_option maxHeartbeats 8000000 in
theorem refSame_any : ∀ (d : Nat) (_ : d ≤ 1000) (a b : Tr) (va vb : Value) (M : Nat) (w : World), M ≤ w.heap.size → AtT w M a va → AtT w M b vb →
    Calls Tryd.prog 72 #[va, vb, .int .i64 ((d + 1 : Nat) : Int)] w fun r w' => r = .returned (.bool (sameT d a b)) ∧ Below w.heap.size w w' := by
  intro d
  induction d with
  | zero =>
    intro hd a b va vb M w hM ha hb
    obtain ⟨_, _, s3, aa, ca, rfl, hka⟩ := ha.parts
    obtain ⟨_, _, t3, ab, cb, rfl, hkb⟩ := hb.parts
    have h01 : (((0 : Nat) + 1 : Nat) : Int) = 1 := rfl
    rw [h01]
    by_cases h1 : a.page = b.page
    · by_cases h2 : a.name = b.name
      · by_cases h3 : a.text = b.text
        · by_cases h4 : a.opq = b.opq
          · by_cases h5 : a.kids.length = b.kids.length
            · have hv : sameT 0 a b = true := by simp [sameT, eqF, h1, h2, h3, h4, h5]
              rw [hv]
              have i1 : (a.page != b.page) = false := by simp [h1]
              have i2 := (str_is a.name b.name).2 h2
              have i3 := (str_is a.text b.text).2 h3
              have i4 := Lib.hid h4
              have i5 : ((a.kids.length : Int) != (b.kids.length : Int)) = false := by rw [bne_eq_false_iff_eq]; omega
              have HL := Lib.hid h5
              clear h1 h2 h3 h5 hka hkb ha hb hv
              generalize a.kids.length = na at *
              generalize b.kids.length = nb at *
              obtain rfl := HL.out
              clear HL
              have HO := Lib.hid h4
              clear h4 i4
              generalize a.opq = op at *
              generalize b.opq = oq at *
              obtain rfl := HO.out
              clear HO
              go_enter Tryd.func72, Tryd.ntmps72
              by_cases hn : 0 < na
              · have n1 : (0 : Int) < (na : Int) := by omega
                have n2 : decide (0 < na) = true := by simp; omega
                clear hn
                go_wp2_with fail
                go_loopw [7] (fun iv wr => iv = .int .i64 0 ∧ Hid (Below w.heap.size w wr) ∧ Hid (wr = (w.alloc (.cells #[.int .i64 a.page, .string a.name, .string a.text, .bool op, .slice aa na ca] 46)).alloc (.cells #[.int .i64 b.page, .string b.name, .string b.text, .bool op, .slice ab na cb] 46))) (fun _ _ => 0)
                case atStart => exact ⟨rfl, ((Below.refl _ w).alloc (Nat.le_refl _) _).alloc (by simp) _, rfl⟩
                case round =>
                  obtain ⟨rfl, HB, HW⟩ := hrel
                  obtain rfl := HW.out
                  clear HW
                  go_wp2_with fail
                  go_ret
                  exact ⟨rfl, HB.out⟩
              · have n1 : ¬ (0 : Int) < (na : Int) := by omega
                have n2 : decide (0 < na) = false := by simp; omega
                clear hn
                go_wp2_with fail
                go_loopw [7] (fun iv wr => iv = .int .i64 0 ∧ Hid (Below w.heap.size w wr) ∧ Hid (wr = (w.alloc (.cells #[.int .i64 a.page, .string a.name, .string a.text, .bool op, .slice aa na ca] 46)).alloc (.cells #[.int .i64 b.page, .string b.name, .string b.text, .bool op, .slice ab na cb] 46))) (fun _ _ => 0)
                case atStart => exact ⟨rfl, ((Below.refl _ w).alloc (Nat.le_refl _) _).alloc (by simp) _, rfl⟩
                case round =>
                  obtain ⟨rfl, HB, HW⟩ := hrel
                  obtain rfl := HW.out
                  clear HW
                  go_wp2_with fail
                  go_ret
                  exact ⟨rfl, HB.out⟩
            · have hv : sameT 0 a b = false := sameT_no (by simp [eqF, h5])
              rw [hv]
              have i1 : (a.page != b.page) = false := by simp [h1]
              have i2 := (str_is a.name b.name).2 h2
              have i3 := (str_is a.text b.text).2 h3
              have i4 := Lib.hid h4
              have i5 : ((a.kids.length : Int) != (b.kids.length : Int)) = true := by rw [bne_iff_ne]; omega
              clear h1 h2 h3 h5 hka hkb ha hb hv
              go_enter Tryd.func72, Tryd.ntmps72
              go_wp2
              go_ret
              exact ⟨rfl, ((Below.refl _ w).alloc (Nat.le_refl _) _).alloc (by simp) _⟩
          · have hv : sameT 0 a b = false := sameT_no (by simp [eqF, h4])
            rw [hv]
            have i1 : (a.page != b.page) = false := by simp [h1]
            have i2 := (str_is a.name b.name).2 h2
            have i3 := (str_is a.text b.text).2 h3
            have i4 := Lib.hid h4
            clear h1 h2 h3 hka hkb ha hb hv
            go_enter Tryd.func72, Tryd.ntmps72
            go_wp2
            go_ret
            exact ⟨rfl, ((Below.refl _ w).alloc (Nat.le_refl _) _).alloc (by simp) _⟩
        · have hv : sameT 0 a b = false := sameT_no (by unfold eqF; rw [str_not h3]; simp)
          rw [hv]
          have i1 : (a.page != b.page) = false := by simp [h1]
          have i2 := (str_is a.name b.name).2 h2
          have i3 := str_not h3
          clear h1 h2 h3 hka hkb ha hb hv
          go_enter Tryd.func72, Tryd.ntmps72
          go_wp2
          go_ret
          exact ⟨rfl, ((Below.refl _ w).alloc (Nat.le_refl _) _).alloc (by simp) _⟩
      · have hv : sameT 0 a b = false := sameT_no (by unfold eqF; rw [str_not h2]; simp)
        rw [hv]
        have i1 : (a.page != b.page) = false := by simp [h1]
        have i2 := str_not h2
        clear h1 h2 hka hkb ha hb hv
        go_enter Tryd.func72, Tryd.ntmps72
        go_wp2
        go_ret
        exact ⟨rfl, ((Below.refl _ w).alloc (Nat.le_refl _) _).alloc (by simp) _⟩
    · have hv : sameT 0 a b = false := sameT_no (by simp [eqF, h1])
      rw [hv]
      have i1 : (a.page != b.page) = true := by simp [h1]
      clear h1 hka hkb ha hb hv
      go_enter Tryd.func72, Tryd.ntmps72
      go_wp2
      go_ret
      exact ⟨rfl, ((Below.refl _ w).alloc (Nat.le_refl _) _).alloc (by simp) _⟩
  | succ d ih =>
    intro hd a b va vb M w hM ha hb
    obtain ⟨_, _, s3, aa, ca, rfl, hka⟩ := ha.parts
    obtain ⟨_, _, t3, ab, cb, rfl, hkb⟩ := hb.parts
    by_cases h1 : a.page = b.page
    · by_cases h2 : a.name = b.name
      · by_cases h3 : a.text = b.text
        · by_cases h4 : a.opq = b.opq
          · by_cases h5 : a.kids.length = b.kids.length
            · have he : eqF a b = true := by simp [eqF, h1, h2, h3, h4, h5]
              have HY : Hid (∀ i (ha : i < a.kids.length) (hb : i < b.kids.length), sameT d a.kids[i] b.kids[i] = false → sameT (d + 1) a b = false) := fun i ha hb h => sameT_at ha hb h
              have HN : Hid ((∀ i (ha : i < a.kids.length) (hb : i < b.kids.length), sameT d a.kids[i] b.kids[i] = true) → sameT (d + 1) a b = true) := fun h => sameT_all he h
              generalize sameT (d + 1) a b = R at *
              have i1 : (a.page != b.page) = false := by simp [h1]
              have i2 := (str_is a.name b.name).2 h2
              have i3 := (str_is a.text b.text).2 h3
              have i4 := Lib.hid h4
              have i5 : ((a.kids.length : Int) != (b.kids.length : Int)) = false := by rw [bne_eq_false_iff_eq]; omega
              have HLa : Hid (a.kids.length = b.kids.length) := h5
              have HKa := Lib.hid hka
              have HKb := Lib.hid hkb
              have HIh := Lib.hid ih
              clear h1 h2 h3 h5 hka hkb ha hb he ih
              generalize hna : a.kids.length = na at i5 HLa s3 ⊢
              generalize hnb : b.kids.length = nb at i5 HLa ⊢
              obtain rfl := HLa.out
              have HO := Lib.hid h4
              clear h4 i4
              generalize a.opq = op at *
              generalize b.opq = oq at *
              obtain rfl := HO.out
              clear HO
              have HNa := Lib.hid hna
              have HNb := Lib.hid hnb
              have hnl : na ≤ 140737488355328 := s3
              clear HLa hna hnb s3 t3
              have hd2 : ((d + 1 + 1 : Nat) : Int) = (d : Int) + 2 := by omega
              rw [hd2]
              clear hd2
              have hdd : (d : Int) ≤ 1000 := by omega
              have HDw : Hid (wrap64 ((d : Int) + 2 - 1) = (d : Int) + 1) := by unfold Hid wrap64; omega
              have hgt : (1 : Int) < (d : Int) + 2 := by omega
              go_enter Tryd.func72, Tryd.ntmps72
              go_wp2_with fail
              have hbx0 : ((w.alloc (.cells #[.int .i64 a.page, .string a.name, .string a.text, .bool op, .slice aa na ca] 46)).alloc (.cells #[.int .i64 b.page, .string b.name, .string b.text, .bool op, .slice ab na cb] 46)).cell? ⟨w.heap.size, 4, none⟩ = some (.slice aa na ca) := by
                rw [World.cell?_of_block (w := w.alloc (.cells #[.int .i64 a.page, .string a.name, .string a.text, .bool op, .slice aa na ca] 46)) (Below.heap_alloc _ _ _ (by simp)), World.cell?_alloc_at _ _ _ _ rfl]; rfl
              have hbx1 : ((w.alloc (.cells #[.int .i64 a.page, .string a.name, .string a.text, .bool op, .slice aa na ca] 46)).alloc (.cells #[.int .i64 b.page, .string b.name, .string b.text, .bool op, .slice ab na cb] 46)).cell? ⟨w.heap.size + 1, 4, none⟩ = some (.slice ab na cb) := by
                rw [World.cell?_alloc_at _ _ _ _ (by simp)]; rfl
              have hB0 : Below w.heap.size w ((w.alloc (.cells #[.int .i64 a.page, .string a.name, .string a.text, .bool op, .slice aa na ca] 46)).alloc (.cells #[.int .i64 b.page, .string b.name, .string b.text, .bool op, .slice ab na cb] 46)) := ((Below.refl _ w).alloc (Nat.le_refl _) _).alloc (by simp) _
              have hz0 : w.heap.size + 2 ≤ ((w.alloc (.cells #[.int .i64 a.page, .string a.name, .string a.text, .bool op, .slice aa na ca] 46)).alloc (.cells #[.int .i64 b.page, .string b.name, .string b.text, .bool op, .slice ab na cb] 46)).heap.size := by simp
              go_loopw [7] (fun iv wr => ∃ i : Nat, i ≤ na ∧ iv = .int .i64 (i : Int) ∧ Hid (∀ j (ha : j < a.kids.length) (hb : j < b.kids.length), j < i → sameT d a.kids[j] b.kids[j] = true) ∧ wr.cell? ⟨w.heap.size, 4, none⟩ = some (.slice aa na ca) ∧ wr.cell? ⟨w.heap.size + 1, 4, none⟩ = some (.slice ab na cb) ∧ Hid (Below w.heap.size w wr) ∧ Hid (w.heap.size + 2 ≤ wr.heap.size)) (fun iv _ => na - (intOf iv).toNat)
              case atStart => exact ⟨0, Nat.zero_le _, rfl, fun _ _ _ h => absurd h (Nat.not_lt_zero _), hbx0, hbx1, hB0, hz0⟩
              case round =>
                obtain ⟨i, hi, rfl, HJ, hb0, hb1, HB, HZ⟩ := hrel
                clear hbx0 hbx1 hB0 hz0
                by_cases hlt : i < na
                · have j3 : (i : Int) < (na : Int) := by omega
                  have d3 : decide (i < na) = true := by simp; omega
                  have HW1 : Hid (wrap64 ((i : Int) + 1) = (i : Int) + 1) := by unfold Hid wrap64; omega
                  have HLt1 : Hid (i + 1 ≤ na) := hlt
                  have hia : i < a.kids.length := by rw [HNa.out]; exact hlt
                  have hib : i < b.kids.length := by rw [HNb.out]; exact hlt
                  obtain ⟨ba, oa, kaa, kac, rfl, hbM, hra, hata⟩ := HKa.out.kid i hia
                  obtain ⟨bb, ob, kba, kbc, rfl, hbM2, hrb, hatb⟩ := HKb.out.kid i hib
                  have hMr : M ≤ wr.heap.size := Nat.le_trans hM HB.out.size
                  have hBM : Below M w wr := HB.out.mono hM
                  obtain ⟨x0, x1, x2, x3, x4⟩ := elem_cells (range_below hra hBM hbM)
                  obtain ⟨y0, y1, y2, y3, y4⟩ := elem_cells (range_below hrb hBM hbM2)
                  have HJ2 : Hid (sameT d a.kids[i] b.kids[i] = true → ∀ j (ha : j < a.kids.length) (hb : j < b.kids.length), j < i + 1 → sameT d a.kids[j] b.kids[j] = true) := fun h j ha hb hj => by
                    by_cases e : j = i
                    · subst e; exact h
                    · exact HJ.out j ha hb (by omega)
                  have HY2 := Lib.hid (HY.out i hia hib)
                  have HAa := Lib.hid (AtT.below hBM _ _ hata)
                  have HAb := Lib.hid (AtT.below hBM _ _ hatb)
                  have cI : Hid (∀ X, Below wr.heap.size wr X → Calls Tryd.prog 72 #[.agg #[.int .i64 a.kids[i].page, .string a.kids[i].name, .string a.kids[i].text, .bool a.kids[i].opq, .slice kaa a.kids[i].kids.length kac], .agg #[.int .i64 b.kids[i].page, .string b.kids[i].name, .string b.kids[i].text, .bool b.kids[i].opq, .slice kba b.kids[i].kids.length kbc], .int .i64 (wrap64 ((d : Int) + 2 - 1))] X fun r w' => r = .returned (.bool (sameT d a.kids[i] b.kids[i])) ∧ Below X.heap.size X w') := fun X hX =>
                    by rw [HDw.out]; exact HIh.out (Nat.le_of_succ_le hd) _ _ _ _ M X (Nat.le_trans hMr hX.size) (AtT.below (hX.mono hMr) _ _ HAa.out) (AtT.below (hX.mono hMr) _ _ HAb.out)
                  have hlb : ba < wr.heap.size := Nat.lt_of_lt_of_le hbM hMr
                  have hlb2 : bb < wr.heap.size := Nat.lt_of_lt_of_le hbM2 hMr
                  have hlz : w.heap.size < wr.heap.size := by have := HZ.out; omega
                  have hlz1 : w.heap.size + 1 < wr.heap.size := by have := HZ.out; omega
                  generalize a.kids[i] = ka at *
                  generalize b.kids[i] = kb at *
                  generalize sameT d ka kb = q at *
                  have HLz := Lib.hid hlz
                  have HLz1 := Lib.hid hlz1
                  have HMs : Hid (na - (intOf (.int .i64 ((i : Int) + 1))).toNat < na - (intOf (.int .i64 (i : Int))).toNat) := by unfold Hid; simp [intOf]; omega
                  clear hra hrb hata hatb hbM hbM2 hBM hMr hlb hlb2 hlz hlz1 HY HN HIh HKa HKb HNa HNb HAa HAb
                  cases q with
                  | true =>
                    have HJ3 := Lib.hid (HJ2.out rfl)
                    clear HJ2 HY2 hi hlt hd
                    have hw1 := HW1.out
                    go_wp2_with fail
                    go_still_tail 12, (by kernel_rfl)
                    change wpList _ _ _ _ _ wr.drew
                    have HBq : Hid (Below wr.heap.size wr wr.drew) := (Below.refl _ wr).drew
                    have HB0 := Lib.hid hb0
                    have HB1 := Lib.hid hb1
                    generalize wr.drew = wq at *
                    clear hw1 hdd hgt hnl x0 x1 x2 x3 x4 y0 y1 y2 y3 y4 j3 d3 i1 i2 i3 i5 hb0 hb1 hM
                    go_wp2_with (go_at_call 72; refine (cI.out _ HBq.out).mono ?_; rintro r w9 ⟨rfl, hb9⟩; have hw1 := HW1.out)
                    have hb10 : Below wr.heap.size wr w9 := HBq.out.trans (hb9.mono HBq.out.size)
                    have hc0 := (hb10.cell (p := ⟨w.heap.size, 4, none⟩) HLz.out).trans HB0.out
                    have hc1 := (hb10.cell (p := ⟨w.heap.size + 1, 4, none⟩) HLz1.out).trans HB1.out
                    have HQ := Lib.hid hb10
                    clear hb9 hb10
                    go_roundw
                    case rel => exact ⟨i + 1, HLt1.out, by go_num, HJ3, hc0, hc1, HB.out.trans (HQ.out.mono HB.out.size), Nat.le_trans HZ.out HQ.out.size⟩
                    case measure => (rw [hw1]; exact HMs.out)
                  | false =>
                    have hv := Lib.hid (HY2.out rfl)
                    clear HJ2 HY2 hi hlt hd
                    have hw1 := HW1.out
                    go_wp2_with fail
                    go_still_tail 12, (by kernel_rfl)
                    change wpList _ _ _ _ _ wr.drew
                    have HBq : Hid (Below wr.heap.size wr wr.drew) := (Below.refl _ wr).drew
                    have HB0 := Lib.hid hb0
                    have HB1 := Lib.hid hb1
                    generalize wr.drew = wq at *
                    clear hw1 hdd hgt hnl x0 x1 x2 x3 x4 y0 y1 y2 y3 y4 j3 d3 i1 i2 i3 i5 hb0 hb1 hM
                    go_wp2_with (go_at_call 72; refine (cI.out _ HBq.out).mono ?_; rintro r w9 ⟨rfl, hb9⟩; have hw1 := HW1.out)
                    have hb10 : Below wr.heap.size wr w9 := HBq.out.trans (hb9.mono HBq.out.size)
                    go_ret
                    exact ⟨by rw [hv.out]; rfl, HB.out.trans (hb10.mono HB.out.size)⟩
                · have j3 : ¬ (i : Int) < (na : Int) := by omega
                  have d3 : decide (i < na) = false := by simp; omega
                  have hv := Lib.hid (HN.out (fun j ha hb => HJ.out j ha hb (by rw [HNa.out] at ha; omega)))
                  clear HY HN HIh
                  go_wp2_with fail
                  go_ret
                  exact ⟨by rw [hv.out]; rfl, HB.out⟩
            · have hv : sameT (d + 1) a b = false := sameT_no (by simp [eqF, h5])
              rw [hv]
              have i1 : (a.page != b.page) = false := by simp [h1]
              have i2 := (str_is a.name b.name).2 h2
              have i3 := (str_is a.text b.text).2 h3
              have i4 := Lib.hid h4
              have i5 : ((a.kids.length : Int) != (b.kids.length : Int)) = true := by rw [bne_iff_ne]; omega
              clear h1 h2 h3 h5 hka hkb ha hb hv ih
              go_enter Tryd.func72, Tryd.ntmps72
              go_wp2
              go_ret
              exact ⟨rfl, ((Below.refl _ w).alloc (Nat.le_refl _) _).alloc (by simp) _⟩
          · have hv : sameT (d + 1) a b = false := sameT_no (by simp [eqF, h4])
            rw [hv]
            have i1 : (a.page != b.page) = false := by simp [h1]
            have i2 := (str_is a.name b.name).2 h2
            have i3 := (str_is a.text b.text).2 h3
            have i4 := Lib.hid h4
            clear h1 h2 h3 hka hkb ha hb hv ih
            go_enter Tryd.func72, Tryd.ntmps72
            go_wp2
            go_ret
            exact ⟨rfl, ((Below.refl _ w).alloc (Nat.le_refl _) _).alloc (by simp) _⟩
        · have hv : sameT (d + 1) a b = false := sameT_no (by unfold eqF; rw [str_not h3]; simp)
          rw [hv]
          have i1 : (a.page != b.page) = false := by simp [h1]
          have i2 := (str_is a.name b.name).2 h2
          have i3 := str_not h3
          clear h1 h2 h3 hka hkb ha hb hv ih
          go_enter Tryd.func72, Tryd.ntmps72
          go_wp2
          go_ret
          exact ⟨rfl, ((Below.refl _ w).alloc (Nat.le_refl _) _).alloc (by simp) _⟩
      · have hv : sameT (d + 1) a b = false := sameT_no (by unfold eqF; rw [str_not h2]; simp)
        rw [hv]
        have i1 : (a.page != b.page) = false := by simp [h1]
        have i2 := str_not h2
        clear h1 h2 hka hkb ha hb hv ih
        go_enter Tryd.func72, Tryd.ntmps72
        go_wp2
        go_ret
        exact ⟨rfl, ((Below.refl _ w).alloc (Nat.le_refl _) _).alloc (by simp) _⟩
    · have hv : sameT (d + 1) a b = false := sameT_no (by simp [eqF, h1])
      rw [hv]
      have i1 : (a.page != b.page) = true := by simp [h1]
      clear h1 hka hkb ha hb hv ih
      go_enter Tryd.func72, Tryd.ntmps72
      go_wp2
      go_ret
      exact ⟨rfl, ((Below.refl _ w).alloc (Nat.le_refl _) _).alloc (by simp) _⟩
end Go.Proofs.YtgechifbbhipaaaDoor
