/- devinf: forms (the reference's), places, both. No condition but the tables. -/
import Derived.Test.YtgechifbbhipaaaDoorDvQ
set_option linter.unusedVariables false
set_option linter.unusedSimpArgs false
namespace Go.Proofs.YtgechifbbhipaaaDoor
open Go.RowKit

set_option maxRecDepth 100000 in
set_option maxHeartbeats 4000000 in
theorem refForms_any (l : List Fm) (a : Option Addr) (cap : Nat) (w : World) (hS : AtF w w.heap.size a l) : Calls Tryd.prog 134 #[.slice a l.length cap] w fun r w' => r = .returned (.bool (formsB l)) ∧ Below w.heap.size w w' := by
  by_cases h0 : l.length < 1
  · have hR : formsB l = false := by
      have h : decide (1 ≤ (l.length : Int)) = false := by simp; omega
      unfold formsB; rw [h]; rfl
    rw [hR]
    clear hR hS
    generalize l.length = n at *
    have k0 : (n : Int) < 1 := by omega
    go_enter Tryd.func134, Tryd.ntmps134
    go_wp2
    go_ret
    exact ⟨rfl, Below.refl _ _⟩
  by_cases h1 : 6 < l.length
  · have hR : formsB l = false := by
      have h : decide ((l.length : Int) ≤ 6) = false := by simp; omega
      unfold formsB; rw [h]; simp
    rw [hR]
    clear hR hS
    generalize l.length = n at *
    have k0 : ¬ (n : Int) < 1 := by omega
    have k1 : (6 : Int) < n := by omega
    go_enter Tryd.func134, Tryd.ntmps134
    go_wp2
    go_ret
    exact ⟨rfl, Below.refl _ _⟩
  have hR : formsB l = !(l.any fun f => !formB f) := by
    have h2 : decide (1 ≤ (l.length : Int)) = true := by simp; omega
    have h3 : decide ((l.length : Int) ≤ 6) = true := by simp; omega
    unfold formsB; rw [h2, h3]; rfl
  rw [hR]
  have hY : Hid (∀ i (h : i < l.length), formB l[i] = false → (l.any fun f => !formB f) = true) := fun i h hp => List.any_eq_true.2 ⟨l[i], List.getElem_mem h, by rw [hp]; rfl⟩
  have hN : Hid ((∀ i (h : i < l.length), formB l[i] = true) → (l.any fun f => !formB f) = false) := fun h => anyB_false (fun j hj => by rw [h j hj]; rfl)
  have cW := Lib.hid (fun s X => refWord_any s X)
  generalize (l.any fun f => !formB f) = v at *
  have HS := Lib.hid hS
  clear hS hR
  generalize hnn : l.length = n at h0 h1 ⊢
  have HNN := Lib.hid hnn
  clear hnn
  have k8 : ¬ (n : Int) < 1 := by omega
  have k9 : ¬ (6 : Int) < n := by omega
  go_enter Tryd.func134, Tryd.ntmps134
  go_wp2_with fail
  go_loopw [3] (fun iv wr => ∃ i : Nat, i ≤ n ∧ iv = .int .i64 (i : Int) ∧ Hid (∀ j (h : j < l.length), j < i → formB l[j] = true) ∧ Hid (Below w.heap.size w wr)) (fun iv _ => n - (intOf iv).toNat)
  case atStart => exact ⟨0, Nat.zero_le _, rfl, fun _ _ h => absurd h (Nat.not_lt_zero _), Below.refl _ _⟩
  case round =>
    obtain ⟨i, hi, rfl, HI, HB⟩ := hrel
    by_cases hlt : i < n
    · have hil : i < l.length := by rw [HNN.out]; exact hlt
      obtain ⟨b, o, rfl, hbl, hc0⟩ := HS.out i hil
      have k0 : (0 : Int) ≤ (i : Int) := by omega
      have k1 : (i : Int) < (n : Int) := by omega
      have k2 : decide (i < n) = true := by simp; omega
      have hst : Hid (formB l[i] = true → ∀ j (h : j < l.length), j < i + 1 → formB l[j] = true) := fun hp j h hj => by
        by_cases e : j = i
        · subst e; exact hp
        · exact HI.out j h (by omega)
      have hyi := Lib.hid (hY.out i hil)
      have HCC := Lib.hid (fun X (hX : Below w.heap.size w X) => show X.rangeAt b (o + i * 2) [.string l[i].ty, .string l[i].ve] from fun j u hu => (hX.cell (p := ⟨b, o + i * 2 + j, none⟩) hbl).trans (hc0 j u hu))
      have y0 := HCC.out _ HB.out 0 _ rfl
      simp only [Nat.add_zero] at y0
      clear hc0 hbl HI
      have hfb : Hid (formB l[i] = (wordB l[i].ty && wordB l[i].ve)) := rfl
      generalize formB l[i] = t at *
      generalize l[i] = x at *
      obtain ⟨ty, ve⟩ := x
      simp only [] at y0 hfb
      have HW1 : Hid (wrap64 ((i : Int) + 1) = (i : Int) + 1) := by unfold Hid wrap64; omega
      go_wp2_with (go_at_call 78; (with_reducible refine (cW.out _ _).mono ?_); rintro r X ⟨rfl, hb⟩; have HB := Lib.hid (HB.out.trans (hb.mono HB.out.size)); have y1 := HCC.out _ HB.out 1 _ rfl)
      all_goals first
        | (go_ret; refine ⟨?_, HB.out⟩; change Ending.returned (Value.bool _) = _; rw [hyi.out (by rw [hfb.out]; simp_all)]; rfl)
        | (go_roundw
           case rel => exact ⟨i + 1, by omega, by go_num, hst.out (by rw [hfb.out]; simp_all), HB.out⟩
           case measure => simp [intOf]; omega)
    · have k1 : ¬ (i : Int) < (n : Int) := by omega
      have k2 : decide (i < n) = false := by simp; omega
      have HV := Lib.hid (hN.out (fun j h => HI.out j h (by rw [HNN.out] at h; omega)))
      go_wp2_with fail
      go_ret
      exact ⟨by rw [HV.out]; rfl, HB.out⟩
/-- is a place as it should be -/
def kindB (k : Int) : Bool := decide (k < 1) || decide (k > 99)
def placeB (p : Pl) : Bool := wordB p.rf && (mayW p.nm && (decide (0 ≤ p.mx) && (decide (p.mx ≤ 268435456) && (formsB p.tk && (formsB p.gv && (decide (1 ≤ (p.kd.length : Int)) && (decide ((p.kd.length : Int) ≤ 8) && !p.kd.any kindB)))))))
set_option maxRecDepth 100000 in
set_option maxHeartbeats 4000000 in
theorem place_any (p : Pl) (cs : Array Value) (w : World) (hT : Lib.Utf8Tabs 2 3 w) (hp : AtP w w.heap.size p cs) : Calls Tryd.prog 73 #[.agg cs] w fun r w' => r = .returned (.bool (placeB p)) ∧ Below w.heap.size w w' := by
  obtain ⟨a1, c1, a2, c2, a3, c3, rfl, h1, h2, h3, _⟩ := hp
  obtain ⟨rf, nm, mx, tk, gv, kd⟩ := p
  simp only [cellsP] at h1 h2 h3 ⊢
  have cW := Lib.hid (fun s X (hX : Below w.heap.size w X) => word_any s X (Utf8Tabs_below hT hX))
  have cM := Lib.hid (fun s X (hX : Below w.heap.size w X) => mayW_any s X (Utf8Tabs_below hT hX))
  have cF1 := Lib.hid (fun X (hX : Below w.heap.size w X) => forms_any tk a1 c1 X (Utf8Tabs_below hT hX) ((h1.below hX).mono hX.size))
  have cF2 := Lib.hid (fun X (hX : Below w.heap.size w X) => forms_any gv a2 c2 X (Utf8Tabs_below hT hX) ((h2.below hX).mono hX.size))
  have cK := Lib.hid (fun (hs : (kd.length : Int) ≤ 8) X (hX : Below w.heap.size w X) => conK_any kindB kd a3 c3 (by omega) X ((h3.below hX).mono hX.size) (fun i h Y hY => kind_any kd[i] Y))
  have hE : Hid (placeB ⟨rf, nm, mx, tk, gv, kd⟩ = (wordB rf && (mayW nm && (decide (0 ≤ mx) && (decide (mx ≤ 268435456) && (formsB tk && (formsB gv && (decide (1 ≤ (kd.length : Int)) && (decide ((kd.length : Int) ≤ 8) && !kd.any kindB))))))))) := rfl
  generalize formsB tk = q1 at *
  generalize formsB gv = q2 at *
  generalize kd.any kindB = q3 at *
  have KK := Lib.hid (Sd.start w #[.string rf, .string nm, .int .i64 mx, .slice a1 tk.length c1, .slice a2 gv.length c2, .slice a3 kd.length c3] 87)
  have KB := KK.out.bel
  clear h1 h2 h3 hT
  go_enter Tryd.func73, Tryd.ntmps73
  go_wp2_with (first | (go_at_call 75; (with_reducible refine (cW.out _ _ KB).mono ?_); rintro r X ⟨rfl, hb⟩; have KK := Lib.hid (KK.out.below hb); have KB := KK.out.bel; have y0 := blk_cell KK.out.blk 0 _ rfl; have y1 := blk_cell KK.out.blk 1 _ rfl; have y2 := blk_cell KK.out.blk 2 _ rfl; have y3 := blk_cell KK.out.blk 3 _ rfl; have y4 := blk_cell KK.out.blk 4 _ rfl; have y5 := blk_cell KK.out.blk 5 _ rfl) | (go_at_call 74; (with_reducible refine (cM.out _ _ KB).mono ?_); rintro r X ⟨rfl, hb⟩; have KK := Lib.hid (KK.out.below hb); have KB := KK.out.bel; have y0 := blk_cell KK.out.blk 0 _ rfl; have y1 := blk_cell KK.out.blk 1 _ rfl; have y2 := blk_cell KK.out.blk 2 _ rfl; have y3 := blk_cell KK.out.blk 3 _ rfl; have y4 := blk_cell KK.out.blk 4 _ rfl; have y5 := blk_cell KK.out.blk 5 _ rfl) | (go_at_call 132; (with_reducible refine (cF1.out _ KB).mono ?_); rintro r X ⟨rfl, hb⟩; have KK := Lib.hid (KK.out.below hb); have KB := KK.out.bel; have y0 := blk_cell KK.out.blk 0 _ rfl; have y1 := blk_cell KK.out.blk 1 _ rfl; have y2 := blk_cell KK.out.blk 2 _ rfl; have y3 := blk_cell KK.out.blk 3 _ rfl; have y4 := blk_cell KK.out.blk 4 _ rfl; have y5 := blk_cell KK.out.blk 5 _ rfl) | (go_at_call 132; (with_reducible refine (cF2.out _ KB).mono ?_); rintro r X ⟨rfl, hb⟩; have KK := Lib.hid (KK.out.below hb); have KB := KK.out.bel; have y0 := blk_cell KK.out.blk 0 _ rfl; have y1 := blk_cell KK.out.blk 1 _ rfl; have y2 := blk_cell KK.out.blk 2 _ rfl; have y3 := blk_cell KK.out.blk 3 _ rfl; have y4 := blk_cell KK.out.blk 4 _ rfl; have y5 := blk_cell KK.out.blk 5 _ rfl) | (go_at_call 114; (with_reducible refine (cK.out (by first | assumption | omega) _ KB).mono ?_); rintro r X ⟨rfl, hb⟩; have KK := Lib.hid (KK.out.below hb); have KB := KK.out.bel; have y0 := blk_cell KK.out.blk 0 _ rfl; have y1 := blk_cell KK.out.blk 1 _ rfl; have y2 := blk_cell KK.out.blk 2 _ rfl; have y3 := blk_cell KK.out.blk 3 _ rfl; have y4 := blk_cell KK.out.blk 4 _ rfl; have y5 := blk_cell KK.out.blk 5 _ rfl))
  all_goals (go_ret; refine ⟨?_, KB⟩; change Ending.returned (Value.bool _) = _; rw [hE.out]; (simp [*] <;> (intros; omega)))
set_option maxRecDepth 100000 in
set_option maxHeartbeats 4000000 in
theorem refPlace_any (p : Pl) (cs : Array Value) (w : World) (hp : AtP w w.heap.size p cs) : Calls Tryd.prog 76 #[.agg cs] w fun r w' => r = .returned (.bool (placeB p)) ∧ Below w.heap.size w w' := by
  obtain ⟨a1, c1, a2, c2, a3, c3, rfl, h1, h2, h3, _⟩ := hp
  obtain ⟨rf, nm, mx, tk, gv, kd⟩ := p
  simp only [cellsP] at h1 h2 h3 ⊢
  have cW := Lib.hid (fun s X => refWord_any s X)
  have cM := Lib.hid (fun s X => refMayW_any s X)
  have cF1 := Lib.hid (fun X (hX : Below w.heap.size w X) => refForms_any tk a1 c1 X ((h1.below hX).mono hX.size))
  have cF2 := Lib.hid (fun X (hX : Below w.heap.size w X) => refForms_any gv a2 c2 X ((h2.below hX).mono hX.size))
  have hE : Hid (placeB ⟨rf, nm, mx, tk, gv, kd⟩ = (wordB rf && (mayW nm && (decide (0 ≤ mx) && (decide (mx ≤ 268435456) && (formsB tk && (formsB gv && (decide (1 ≤ (kd.length : Int)) && (decide ((kd.length : Int) ≤ 8) && !kd.any kindB))))))))) := rfl
  have hY : Hid (∀ i (h : i < kd.length), kindB kd[i] = true → kd.any kindB = true) := fun i h hp => List.any_eq_true.2 ⟨kd[i], List.getElem_mem h, hp⟩
  have hN : Hid ((∀ i (h : i < kd.length), kindB kd[i] = false) → kd.any kindB = false) := fun h => anyB_false h
  have HS := Lib.hid h3
  generalize formsB tk = q1 at *
  generalize formsB gv = q2 at *
  generalize kd.any kindB = q3 at *
  have KK := Lib.hid (Sd.start w #[.string rf, .string nm, .int .i64 mx, .slice a1 tk.length c1, .slice a2 gv.length c2, .slice a3 kd.length c3] 87)
  have KB := KK.out.bel
  clear h1 h2 h3
  by_cases h0 : kd.length < 1
  · have k0 : (kd.length : Int) < 1 := by omega
    have k1 : decide (1 ≤ (kd.length : Int)) = false := by simp; omega
    have hR := hE.out
    rw [k1] at hR
    simp only [Bool.false_and, Bool.and_false] at hR
    rw [hR]
    clear hE hR k1
    go_enter Tryd.func76, Tryd.ntmps76
    go_wp2
    go_ret
    exact ⟨rfl, KB⟩
  by_cases h1 : 8 < kd.length
  · have k0 : ¬ (kd.length : Int) < 1 := by omega
    have k2 : (8 : Int) < (kd.length : Int) := by omega
    have k1 : decide ((kd.length : Int) ≤ 8) = false := by simp; omega
    have hR := hE.out
    rw [k1] at hR
    simp only [Bool.false_and, Bool.and_false] at hR
    rw [hR]
    clear hE hR k1
    go_enter Tryd.func76, Tryd.ntmps76
    go_wp2
    go_ret
    exact ⟨rfl, KB⟩
  have hE2 : Hid (placeB ⟨rf, nm, mx, tk, gv, kd⟩ = (wordB rf && (mayW nm && (decide (0 ≤ mx) && (decide (mx ≤ 268435456) && (q1 && (q2 && !q3))))))) := by
    have k1 : decide (1 ≤ (kd.length : Int)) = true := by simp; omega
    have k2 : decide ((kd.length : Int) ≤ 8) = true := by simp; omega
    have hR := hE.out
    rw [k1, k2] at hR
    unfold Hid; rw [hR]; simp
  clear hE
  have k8 : ¬ (kd.length : Int) < 1 := by omega
  have k9 : ¬ (8 : Int) < (kd.length : Int) := by omega
  go_enter Tryd.func76, Tryd.ntmps76
  go_wp2_with fail
  go_loopw [3] (fun iv wr => ∃ i : Nat, i ≤ kd.length ∧ iv = .int .i64 (i : Int) ∧ Hid (∀ j (h : j < kd.length), j < i → kindB kd[j] = false) ∧ Hid (Sd w #[.string rf, .string nm, .int .i64 mx, .slice a1 tk.length c1, .slice a2 gv.length c2, .slice a3 kd.length c3] 87 wr)) (fun iv _ => kd.length - (intOf iv).toNat)
  case atStart => exact ⟨0, Nat.zero_le _, rfl, fun _ _ h => absurd h (Nat.not_lt_zero _), KK.out⟩
  case round =>
    clear KK KB
    obtain ⟨i, hi, rfl, HI, KK⟩ := hrel
    have KB := KK.out.bel
    have y5 := blk_cell KK.out.blk 5 _ rfl
    by_cases hlt : i < kd.length
    · obtain ⟨b, o, rfl, hbl, hc0⟩ := HS.out i hlt
      have k0 : (0 : Int) ≤ (i : Int) := by omega
      have k1 : (i : Int) < (kd.length : Int) := by omega
      have k2 : decide (i < kd.length) = true := by simp; omega
      have hst : Hid (kindB kd[i] = false → ∀ j (h : j < kd.length), j < i + 1 → kindB kd[j] = false) := fun hp j h hj => by
        by_cases e : j = i
        · subst e; exact hp
        · exact HI.out j h (by omega)
      have hyi := Lib.hid (hY.out i hlt)
      have hc : wr.rangeAt b (o + i * 1) [.int .i64 kd[i]] := fun j u hu => (KB.cell (p := ⟨b, o + i * 1 + j, none⟩) hbl).trans (hc0 j u hu)
      have y0 := hc 0 _ rfl
      simp only [Nat.add_zero, Nat.mul_one] at y0
      clear hc0 hc hbl HI
      have hfb : Hid (kindB kd[i] = (decide (kd[i] < 1) || decide (kd[i] > 99))) := rfl
      generalize kindB kd[i] = t at *
      generalize kd[i] = x at *
      have HW1 : Hid (wrap64 ((i : Int) + 1) = (i : Int) + 1) := by unfold Hid wrap64; omega
      go_wp2_with fail
      all_goals first
        | (go_ret; refine ⟨?_, KB⟩; change Ending.returned (Value.bool _) = _; rw [hE2.out, hyi.out (by rw [hfb.out]; simp [*])]; simp)
        | (go_roundw
           case rel => exact ⟨i + 1, by omega, by go_num, hst.out (by rw [hfb.out]; simp; omega), KK.out⟩
           case measure => simp [intOf]; omega)
    · have k1 : ¬ (i : Int) < (kd.length : Int) := by omega
      have k2 : decide (i < kd.length) = false := by simp; omega
      have HV := Lib.hid (hN.out (fun j h => HI.out j h (by omega)))
      have hE3 : Hid (placeB ⟨rf, nm, mx, tk, gv, kd⟩ = (wordB rf && (mayW nm && (decide (0 ≤ mx) && (decide (mx ≤ 268435456) && (q1 && q2)))))) := by unfold Hid; rw [hE2.out, HV.out]; simp
      have y0 := blk_cell KK.out.blk 0 _ rfl; have y1 := blk_cell KK.out.blk 1 _ rfl; have y2 := blk_cell KK.out.blk 2 _ rfl; have y3 := blk_cell KK.out.blk 3 _ rfl; have y4 := blk_cell KK.out.blk 4 _ rfl
      go_wp2_with (first | (go_at_call 78; (with_reducible refine (cW.out _ _).mono ?_); rintro r X ⟨rfl, hb⟩; have KK := Lib.hid (KK.out.below hb); have KB := KK.out.bel; have y0 := blk_cell KK.out.blk 0 _ rfl; have y1 := blk_cell KK.out.blk 1 _ rfl; have y2 := blk_cell KK.out.blk 2 _ rfl; have y3 := blk_cell KK.out.blk 3 _ rfl; have y4 := blk_cell KK.out.blk 4 _ rfl; have y5 := blk_cell KK.out.blk 5 _ rfl) | (go_at_call 77; (with_reducible refine (cM.out _ _).mono ?_); rintro r X ⟨rfl, hb⟩; have KK := Lib.hid (KK.out.below hb); have KB := KK.out.bel; have y0 := blk_cell KK.out.blk 0 _ rfl; have y1 := blk_cell KK.out.blk 1 _ rfl; have y2 := blk_cell KK.out.blk 2 _ rfl; have y3 := blk_cell KK.out.blk 3 _ rfl; have y4 := blk_cell KK.out.blk 4 _ rfl; have y5 := blk_cell KK.out.blk 5 _ rfl) | (go_at_call 134; (with_reducible refine (cF1.out _ KB).mono ?_); rintro r X ⟨rfl, hb⟩; have KK := Lib.hid (KK.out.below hb); have KB := KK.out.bel; have y0 := blk_cell KK.out.blk 0 _ rfl; have y1 := blk_cell KK.out.blk 1 _ rfl; have y2 := blk_cell KK.out.blk 2 _ rfl; have y3 := blk_cell KK.out.blk 3 _ rfl; have y4 := blk_cell KK.out.blk 4 _ rfl; have y5 := blk_cell KK.out.blk 5 _ rfl) | (go_at_call 134; (with_reducible refine (cF2.out _ KB).mono ?_); rintro r X ⟨rfl, hb⟩; have KK := Lib.hid (KK.out.below hb); have KB := KK.out.bel; have y0 := blk_cell KK.out.blk 0 _ rfl; have y1 := blk_cell KK.out.blk 1 _ rfl; have y2 := blk_cell KK.out.blk 2 _ rfl; have y3 := blk_cell KK.out.blk 3 _ rfl; have y4 := blk_cell KK.out.blk 4 _ rfl; have y5 := blk_cell KK.out.blk 5 _ rfl))
      all_goals (go_ret; refine ⟨?_, KB⟩; change Ending.returned (Value.bool _) = _; rw [hE3.out]; (simp [*] <;> (intros; omega)))
end Go.Proofs.YtgechifbbhipaaaDoor
