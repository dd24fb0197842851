/- devinf: whether forms and kinds are the same, both. No condition. -/
import Derived.Test.YtgechifbbhipaaaDoorDvS
import Derived.Test.YtgechifbbhipaaaDoorTrS
set_option linter.unusedVariables false
set_option linter.unusedSimpArgs false
namespace Go.Proofs.YtgechifbbhipaaaDoor
open Go.RowKit

set_option maxHeartbeats 2000000 in
theorem run_neq100 (a0 a1 b0 b1 : ByteArray) (w : World) : (binOp .neq 100 (.agg #[.string a0, .string a1]) (.agg #[.string b0, .string b1])).run Tryd.prog w = .ok (.bool (!decide (a0 = b0 ∧ a1 = b1))) w := by
  rw [run_neq_struct, run_equalIn_struct w _ 100 _ _ (by kernel_rfl) (by kernel_rfl)]
  have e : ∀ a b : ByteArray, a.toList = b.toList ↔ a = b := fun a b => by
    rw [ByteArray.toList_eq, ByteArray.toList_eq]
    exact ⟨fun h => ByteArray.ext (Array.toList_inj.1 h), fun h => by rw [h]⟩
  simp [go_sem, e]
  by_cases h0 : a0 = b0
  case neg => simp [h0]
  by_cases h1 : a1 = b1
  case neg => simp [h0, h1]
  simp [h0, h1]
set_option maxRecDepth 100000 in
set_option maxHeartbeats 4000000 in
theorem eqF_any (l m : List Fm) (a b : Option Addr) (ca cb : Nat) (hs : l.length ≤ 1000000) (w : World) (h1 : AtF w w.heap.size a l) (h2 : AtF w w.heap.size b m) : Calls Tryd.prog 81 #[.slice a l.length ca, .slice b m.length cb] w fun r w' => r = .returned (.bool (decide (l = m))) ∧ Below w.heap.size w w' := by
  by_cases hl : l.length = m.length
  case neg =>
    have hR : decide (l = m) = false := by rw [decide_eq_false_iff_not]; intro h; exact hl (by rw [h])
    rw [hR]
    clear hR h1 h2
    generalize l.length = n at *
    generalize m.length = k at *
    have k0 : ¬ (n : Int) = (k : Int) := by omega
    have k1 : ((n : Int) != (k : Int)) = true := by simp; omega
    go_enter Tryd.func81, Tryd.ntmps81
    go_wp2
    go_ret
    exact ⟨rfl, Below.refl _ _⟩
  case pos =>
  have hY : Hid (∀ i (h : i < l.length) (h' : i < m.length), l[i] ≠ m[i] → decide (l = m) = false) := fun i h h' hn => by
    rw [decide_eq_false_iff_not]; intro e; subst e; exact hn rfl
  have hN : Hid ((∀ i (h : i < l.length) (h' : i < m.length), l[i] = m[i]) → decide (l = m) = true) := fun h => by
    rw [decide_eq_true_eq]; exact List.ext_getElem hl (fun i h1 h2 => h i h1 h2)
  generalize decide (l = m) = v at *
  have HS := Lib.hid h1
  have HT := Lib.hid h2
  have HL := Lib.hid hl
  rw [← hl]
  clear h1 h2 hl
  generalize hnn : l.length = n at hs ⊢
  have HNN := Lib.hid hnn
  clear hnn
  go_enter Tryd.func81, Tryd.ntmps81
  go_wp2_with fail
  go_loopw [5, 13] (fun _ iv wr => ∃ i : Nat, i ≤ n ∧ iv = .int .i64 (i : Int) ∧ Hid (∀ j (h : j < l.length) (h' : j < m.length), j < i → l[j] = m[j]) ∧ Hid (Below w.heap.size w wr)) (fun _ iv _ => n - (intOf iv).toNat)
  case atStart => exact ⟨0, Nat.zero_le _, rfl, fun _ _ _ h => absurd h (Nat.not_lt_zero _), Below.refl _ _⟩
  case round =>
    obtain ⟨i, hi, rfl, HI, HB⟩ := hrel
    by_cases hlt : i < n
    · have hil : i < l.length := by rw [HNN.out]; exact hlt
      have him : i < m.length := by rw [← HL.out]; exact hil
      obtain ⟨b1, o1, rfl, hbl, hc0⟩ := HS.out i hil
      obtain ⟨b2, o2, rfl, hbl2, hd0⟩ := HT.out i him
      have k0 : (0 : Int) ≤ (i : Int) := by omega
      have k1 : (i : Int) < (n : Int) := by omega
      have k2 : decide (i < n) = true := by simp; omega
      have hst : Hid (l[i] = m[i] → ∀ j (h : j < l.length) (h' : j < m.length), j < i + 1 → l[j] = m[j]) := fun hp j h h' hj => by
        by_cases e : j = i
        · subst e; exact hp
        · exact HI.out j h h' (by omega)
      have hyi := Lib.hid (hY.out i hil him)
      have hc : wr.rangeAt b1 (o1 + i * 2) [.string l[i].ty, .string l[i].ve] := fun j u hu => (HB.out.cell (p := ⟨b1, o1 + i * 2 + j, none⟩) hbl).trans (hc0 j u hu)
      have hd : wr.rangeAt b2 (o2 + i * 2) [.string m[i].ty, .string m[i].ve] := fun j u hu => (HB.out.cell (p := ⟨b2, o2 + i * 2 + j, none⟩) hbl2).trans (hd0 j u hu)
      have y0 := hc 0 _ rfl
      have y1 := hc 1 _ rfl
      have z0 := hd 0 _ rfl
      have z1 := hd 1 _ rfl
      simp only [Nat.add_zero] at y0 z0
      clear hc0 hc hbl HI hd0 hd hbl2
      generalize l[i] = x at *
      generalize m[i] = y at *
      obtain ⟨x1, x2⟩ := x
      obtain ⟨y1', y2'⟩ := y
      simp only [] at y0 y1 z0 z1
      have hq := fun w => run_neq100 x1 x2 y1' y2' w
      have hxe : Hid (decide (x1 = y1' ∧ x2 = y2') = decide ((⟨x1, x2⟩ : Fm) = ⟨y1', y2'⟩)) := by unfold Hid; simp [fm_eq]
      generalize decide (x1 = y1' ∧ x2 = y2') = t at *
      have HW1 : Hid (wrap64 ((i : Int) + 1) = (i : Int) + 1) := by unfold Hid wrap64; omega
      go_wp2_with fail
      go_quiet (fail)
      cases t with
      | true =>
        have HXY : Hid ((⟨x1, x2⟩ : Fm) = ⟨y1', y2'⟩) := by have h := hxe.out; unfold Hid; simpa using h.symm
        go_wp2_with fail
        go_roundw
        case rel => exact ⟨i + 1, by omega, by go_num, hst.out HXY.out, HB.out.trans (below_dr0 _ _ _)⟩
        case measure => simp [intOf]; omega
      | false =>
        have HXY : Hid (¬ (⟨x1, x2⟩ : Fm) = ⟨y1', y2'⟩) := by have h := hxe.out; unfold Hid; rw [← decide_eq_false_iff_not]; exact h.symm
        have HV := Lib.hid (hyi.out HXY.out)
        go_wp2_with fail
        go_ret
        exact ⟨by rw [HV.out]; rfl, HB.out.trans (below_dr0 _ _ _)⟩
    · have k1 : ¬ (i : Int) < (n : Int) := by omega
      have k2 : decide (i < n) = false := by simp; omega
      have HV := Lib.hid (hN.out (fun j h h' => HI.out j h h' (by rw [HNN.out] at h; omega)))
      go_wp2_with fail
      go_ret
      exact ⟨by rw [HV.out]; rfl, HB.out⟩
set_option maxRecDepth 100000 in
set_option maxHeartbeats 4000000 in
theorem eqI_any (l m : List Int) (a b : Option Addr) (ca cb : Nat) (hs : l.length ≤ 1000000) (w : World) (h1 : AtI w w.heap.size a l) (h2 : AtI w w.heap.size b m) : Calls Tryd.prog 82 #[.slice a l.length ca, .slice b m.length cb] w fun r w' => r = .returned (.bool (decide (l = m))) ∧ Below w.heap.size w w' := by
  by_cases hl : l.length = m.length
  case neg =>
    have hR : decide (l = m) = false := by rw [decide_eq_false_iff_not]; intro h; exact hl (by rw [h])
    rw [hR]
    clear hR h1 h2
    generalize l.length = n at *
    generalize m.length = k at *
    have k0 : ¬ (n : Int) = (k : Int) := by omega
    have k1 : ((n : Int) != (k : Int)) = true := by simp; omega
    go_enter Tryd.func82, Tryd.ntmps82
    go_wp2
    go_ret
    exact ⟨rfl, Below.refl _ _⟩
  case pos =>
  have hY : Hid (∀ i (h : i < l.length) (h' : i < m.length), l[i] ≠ m[i] → decide (l = m) = false) := fun i h h' hn => by
    rw [decide_eq_false_iff_not]; intro e; subst e; exact hn rfl
  have hN : Hid ((∀ i (h : i < l.length) (h' : i < m.length), l[i] = m[i]) → decide (l = m) = true) := fun h => by
    rw [decide_eq_true_eq]; exact List.ext_getElem hl (fun i h1 h2 => h i h1 h2)
  generalize decide (l = m) = v at *
  have HS := Lib.hid h1
  have HT := Lib.hid h2
  have HL := Lib.hid hl
  rw [← hl]
  clear h1 h2 hl
  generalize hnn : l.length = n at hs ⊢
  have HNN := Lib.hid hnn
  clear hnn
  go_enter Tryd.func82, Tryd.ntmps82
  go_wp2_with fail
  go_loopw [5, 13] (fun _ iv wr => ∃ i : Nat, i ≤ n ∧ iv = .int .i64 (i : Int) ∧ Hid (∀ j (h : j < l.length) (h' : j < m.length), j < i → l[j] = m[j]) ∧ Hid (Below w.heap.size w wr)) (fun _ iv _ => n - (intOf iv).toNat)
  case atStart => exact ⟨0, Nat.zero_le _, rfl, fun _ _ _ h => absurd h (Nat.not_lt_zero _), Below.refl _ _⟩
  case round =>
    obtain ⟨i, hi, rfl, HI, HB⟩ := hrel
    by_cases hlt : i < n
    · have hil : i < l.length := by rw [HNN.out]; exact hlt
      have him : i < m.length := by rw [← HL.out]; exact hil
      obtain ⟨b1, o1, rfl, hbl, hc0⟩ := HS.out i hil
      obtain ⟨b2, o2, rfl, hbl2, hd0⟩ := HT.out i him
      have k0 : (0 : Int) ≤ (i : Int) := by omega
      have k1 : (i : Int) < (n : Int) := by omega
      have k2 : decide (i < n) = true := by simp; omega
      have hst : Hid (l[i] = m[i] → ∀ j (h : j < l.length) (h' : j < m.length), j < i + 1 → l[j] = m[j]) := fun hp j h h' hj => by
        by_cases e : j = i
        · subst e; exact hp
        · exact HI.out j h h' (by omega)
      have hyi := Lib.hid (hY.out i hil him)
      have hc : wr.rangeAt b1 (o1 + i * 1) [.int .i64 l[i]] := fun j u hu => (HB.out.cell (p := ⟨b1, o1 + i * 1 + j, none⟩) hbl).trans (hc0 j u hu)
      have hd : wr.rangeAt b2 (o2 + i * 1) [.int .i64 m[i]] := fun j u hu => (HB.out.cell (p := ⟨b2, o2 + i * 1 + j, none⟩) hbl2).trans (hd0 j u hu)
      have y0 := hc 0 _ rfl
      have z0 := hd 0 _ rfl
      simp only [Nat.add_zero, Nat.mul_one] at y0 z0
      clear hc0 hc hbl HI hd0 hd hbl2
      generalize l[i] = x at *
      generalize m[i] = y at *
      have HW1 : Hid (wrap64 ((i : Int) + 1) = (i : Int) + 1) := by unfold Hid wrap64; omega
      go_wp2_with fail
      go_quiet (fail)
      by_cases hxy : x = y
      · have HXY := Lib.hid hxy
        have hd1 : (x != y) = false := by simpa using hxy
        clear hxy
        go_wp2_with fail
        go_roundw
        case rel => exact ⟨i + 1, by omega, by go_num, hst.out HXY.out, HB.out.trans (below_dr0 _ _ _)⟩
        case measure => simp [intOf]; omega
      · have HXY := Lib.hid hxy
        have hd1 : (x != y) = true := by simpa using hxy
        clear hxy
        have HV := Lib.hid (hyi.out HXY.out)
        go_wp2_with fail
        go_ret
        exact ⟨by rw [HV.out]; rfl, HB.out.trans (below_dr0 _ _ _)⟩
    · have k1 : ¬ (i : Int) < (n : Int) := by omega
      have k2 : decide (i < n) = false := by simp; omega
      have HV := Lib.hid (hN.out (fun j h h' => HI.out j h h' (by rw [HNN.out] at h; omega)))
      go_wp2_with fail
      go_ret
      exact ⟨by rw [HV.out]; rfl, HB.out⟩
set_option maxRecDepth 100000 in
set_option maxHeartbeats 4000000 in
theorem sameF_any (l m : List Fm) (a b : Option Addr) (ca cb : Nat) (hs : l.length ≤ 1000000) (w : World) (h1 : AtF w w.heap.size a l) (h2 : AtF w w.heap.size b m) : Calls Tryd.prog 83 #[.slice a l.length ca, .slice b m.length cb] w fun r w' => r = .returned (.bool (decide (l = m))) ∧ Below w.heap.size w w' := by
  by_cases hl : l.length = m.length
  case neg =>
    have hR : decide (l = m) = false := by rw [decide_eq_false_iff_not]; intro h; exact hl (by rw [h])
    rw [hR]
    clear hR h1 h2
    generalize l.length = n at *
    generalize m.length = k at *
    have k0 : ¬ (n : Int) = (k : Int) := by omega
    have k1 : ((n : Int) != (k : Int)) = true := by simp; omega
    go_enter Tryd.func83, Tryd.ntmps83
    go_wp2
    go_ret
    exact ⟨rfl, Below.refl _ _⟩
  case pos =>
  have hY : Hid (∀ i (h : i < l.length) (h' : i < m.length), l[i] ≠ m[i] → decide (l = m) = false) := fun i h h' hn => by
    rw [decide_eq_false_iff_not]; intro e; subst e; exact hn rfl
  have hN : Hid ((∀ i (h : i < l.length) (h' : i < m.length), l[i] = m[i]) → decide (l = m) = true) := fun h => by
    rw [decide_eq_true_eq]; exact List.ext_getElem hl (fun i h1 h2 => h i h1 h2)
  generalize decide (l = m) = v at *
  have HS := Lib.hid h1
  have HT := Lib.hid h2
  have HL := Lib.hid hl
  rw [← hl]
  clear h1 h2 hl
  generalize hnn : l.length = n at hs ⊢
  have HNN := Lib.hid hnn
  clear hnn
  go_enter Tryd.func83, Tryd.ntmps83
  go_wp2_with fail
  go_loopw [5] (fun iv wr => ∃ i : Nat, i ≤ n ∧ iv = .int .i64 (i : Int) ∧ Hid (∀ j (h : j < l.length) (h' : j < m.length), j < i → l[j] = m[j]) ∧ Hid (Below w.heap.size w wr)) (fun iv _ => n - (intOf iv).toNat)
  case atStart => exact ⟨0, Nat.zero_le _, rfl, fun _ _ _ h => absurd h (Nat.not_lt_zero _), Below.refl _ _⟩
  case round =>
    obtain ⟨i, hi, rfl, HI, HB⟩ := hrel
    by_cases hlt : i < n
    · have hil : i < l.length := by rw [HNN.out]; exact hlt
      have him : i < m.length := by rw [← HL.out]; exact hil
      obtain ⟨b1, o1, rfl, hbl, hc0⟩ := HS.out i hil
      obtain ⟨b2, o2, rfl, hbl2, hd0⟩ := HT.out i him
      have k0 : (0 : Int) ≤ (i : Int) := by omega
      have k1 : (i : Int) < (n : Int) := by omega
      have k2 : decide (i < n) = true := by simp; omega
      have hst : Hid (l[i] = m[i] → ∀ j (h : j < l.length) (h' : j < m.length), j < i + 1 → l[j] = m[j]) := fun hp j h h' hj => by
        by_cases e : j = i
        · subst e; exact hp
        · exact HI.out j h h' (by omega)
      have hyi := Lib.hid (hY.out i hil him)
      have hc : wr.rangeAt b1 (o1 + i * 2) [.string l[i].ty, .string l[i].ve] := fun j u hu => (HB.out.cell (p := ⟨b1, o1 + i * 2 + j, none⟩) hbl).trans (hc0 j u hu)
      have hd : wr.rangeAt b2 (o2 + i * 2) [.string m[i].ty, .string m[i].ve] := fun j u hu => (HB.out.cell (p := ⟨b2, o2 + i * 2 + j, none⟩) hbl2).trans (hd0 j u hu)
      have y0 := hc 0 _ rfl
      have y1 := hc 1 _ rfl
      have z0 := hd 0 _ rfl
      have z1 := hd 1 _ rfl
      simp only [Nat.add_zero] at y0 z0
      clear hc0 hc hbl HI hd0 hd hbl2
      generalize l[i] = x at *
      generalize m[i] = y at *
      obtain ⟨x1, x2⟩ := x
      obtain ⟨y1', y2'⟩ := y
      simp only [] at y0 y1 z0 z1
      have hq := fun w => run_neq100 x1 x2 y1' y2' w
      have hxe : Hid (decide (x1 = y1' ∧ x2 = y2') = decide ((⟨x1, x2⟩ : Fm) = ⟨y1', y2'⟩)) := by unfold Hid; simp [fm_eq]
      generalize decide (x1 = y1' ∧ x2 = y2') = t at *
      have HW1 : Hid (wrap64 ((i : Int) + 1) = (i : Int) + 1) := by unfold Hid wrap64; omega
      go_wp2_with fail
      go_quiet (fail)
      cases t with
      | true =>
        have HXY : Hid ((⟨x1, x2⟩ : Fm) = ⟨y1', y2'⟩) := by have h := hxe.out; unfold Hid; simpa using h.symm
        go_wp2_with fail
        go_roundw
        case rel => exact ⟨i + 1, by omega, by go_num, hst.out HXY.out, HB.out.trans (below_dr0 _ _ _)⟩
        case measure => simp [intOf]; omega
      | false =>
        have HXY : Hid (¬ (⟨x1, x2⟩ : Fm) = ⟨y1', y2'⟩) := by have h := hxe.out; unfold Hid; rw [← decide_eq_false_iff_not]; exact h.symm
        have HV := Lib.hid (hyi.out HXY.out)
        go_wp2_with fail
        go_ret
        exact ⟨by rw [HV.out]; rfl, HB.out.trans (below_dr0 _ _ _)⟩
    · have k1 : ¬ (i : Int) < (n : Int) := by omega
      have k2 : decide (i < n) = false := by simp; omega
      have HV := Lib.hid (hN.out (fun j h h' => HI.out j h h' (by rw [HNN.out] at h; omega)))
      go_wp2_with fail
      go_ret
      exact ⟨by rw [HV.out]; rfl, HB.out⟩
end Go.Proofs.YtgechifbbhipaaaDoor
