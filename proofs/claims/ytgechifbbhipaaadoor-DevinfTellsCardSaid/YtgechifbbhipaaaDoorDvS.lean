/- devinf: Check of a device, both. No condition but the tables. -/
import Derived.Test.YtgechifbbhipaaaDoorDvR
set_option linter.unusedVariables false
set_option linter.unusedSimpArgs false
namespace Go.Proofs.YtgechifbbhipaaaDoor
open Go.RowKit

def headD (h : Dh) : Bool := mayW h.man && (mayW h.mod && (mayW h.soft && (wordB h.id && wordB h.ty)))
/-- what is wrong with a device -/
def devV (h : Dh) (ps : List Pl) : Int := if ps.length < 1 ∨ 6 < ps.length then 4 else if (ps.any fun p => !placeB p) then 3 else if headD h then 0 else 3
theorem AtPs.at {w : World} {M : Nat} {a : Option Addr} {l : List Pl} (h : AtPs w M a l) (i : Nat) (hi : i < l.length) : ∃ b o a1 c1 a2 c2 a3 c3, a = some ⟨b, o, none⟩ ∧ b < M ∧ w.rangeAt b (o + i * 6) (cellsP l[i] a1 c1 a2 c2 a3 c3).toList ∧ AtP w M l[i] (cellsP l[i] a1 c1 a2 c2 a3 c3) := by
  obtain ⟨b, o, cs, h1, h2, h3, h4⟩ := h i hi
  have h5 := h4
  obtain ⟨a1, c1, a2, c2, a3, c3, rfl, _⟩ := h5
  exact ⟨b, o, a1, c1, a2, c2, a3, c3, h1, h2, h3, h4⟩
theorem cells6 {w : World} {b o : Nat} {p : Pl} {a1 : Option Addr} {c1 : Nat} {a2 : Option Addr} {c2 : Nat} {a3 : Option Addr} {c3 : Nat} (h : w.rangeAt b o (cellsP p a1 c1 a2 c2 a3 c3).toList) :
    w.cell? ⟨b, o, none⟩ = some (.string p.rf) ∧ w.cell? ⟨b, o + 1, none⟩ = some (.string p.nm) ∧ w.cell? ⟨b, o + 2, none⟩ = some (.int .i64 p.mx) ∧ w.cell? ⟨b, o + 3, none⟩ = some (.slice a1 p.tk.length c1) ∧ w.cell? ⟨b, o + 4, none⟩ = some (.slice a2 p.gv.length c2) ∧ w.cell? ⟨b, o + 5, none⟩ = some (.slice a3 p.kd.length c3) :=
  ⟨h 0 _ rfl, h 1 _ rfl, h 2 _ rfl, h 3 _ rfl, h 4 _ rfl, h 5 _ rfl⟩
set_option maxRecDepth 100000 in
set_option maxHeartbeats 8000000 in
theorem refDevCheck_any (h : Dh) (ps : List Pl) (ab : Option Addr) (cb : Nat) (w : World) (hab : AtPs w w.heap.size ab ps) : Calls Tryd.prog 24 #[.agg (cellsD h ab ps.length cb)] w fun r w' => r = .returned (.int .i64 (devV h ps)) ∧ Below w.heap.size w w' := by
  obtain ⟨man, mod, soft, id, ty, lg⟩ := h
  simp only [cellsD]
  have cW := Lib.hid (fun s X (hX : Below w.heap.size w X) => refWord_any s X )
  have cM := Lib.hid (fun s X (hX : Below w.heap.size w X) => refMayW_any s X )
  have cP := Lib.hid (fun p cs X (hX : Below w.heap.size w X) (hp : AtP X X.heap.size p cs) => refPlace_any p cs X hp)
  have hE : Hid (devV ⟨man, mod, soft, id, ty, lg⟩ ps = if ps.length < 1 ∨ 6 < ps.length then 4 else if (ps.any fun p => !placeB p) then 3 else if (mayW man && (mayW mod && (mayW soft && (wordB id && wordB ty)))) then 0 else 3) := rfl
  have hY : Hid (∀ i (h : i < ps.length), placeB ps[i] = false → (ps.any fun p => !placeB p) = true) := fun i h hp => List.any_eq_true.2 ⟨ps[i], List.getElem_mem h, by rw [hp]; rfl⟩
  have hN : Hid ((∀ i (h : i < ps.length), placeB ps[i] = true) → (ps.any fun p => !placeB p) = false) := fun h => anyB_false (fun j hj => by rw [h j hj]; rfl)
  have HS := Lib.hid hab
  generalize (ps.any fun p => !placeB p) = q3 at *
  have KK := Lib.hid (Sd.start w #[.string man, .string mod, .string soft, .string id, .string ty, .bool lg, .slice ab ps.length cb] 42)
  have KB := KK.out.bel
  clear hab
  by_cases h0 : ps.length < 1
  · have k0 : (ps.length : Int) < 1 := by omega
    rw [hE.out, if_pos (.inl h0)]
    clear hE
    go_enter Tryd.func24, Tryd.ntmps24
    go_wp2
    go_ret
    exact ⟨rfl, KB⟩
  by_cases h1 : 6 < ps.length
  · have k0 : ¬ (ps.length : Int) < 1 := by omega
    have k2 : (6 : Int) < (ps.length : Int) := by omega
    rw [hE.out, if_pos (.inr h1)]
    clear hE
    go_enter Tryd.func24, Tryd.ntmps24
    go_wp2
    go_ret
    exact ⟨rfl, KB⟩
  have hE2 : Hid (devV ⟨man, mod, soft, id, ty, lg⟩ ps = if q3 then 3 else if (mayW man && (mayW mod && (mayW soft && (wordB id && wordB ty)))) then 0 else 3) := by
    unfold Hid; rw [hE.out, if_neg (by omega)]
  clear hE
  have k8 : ¬ (ps.length : Int) < 1 := by omega
  have k9 : ¬ (6 : Int) < (ps.length : Int) := by omega
  go_enter Tryd.func24, Tryd.ntmps24
  go_wp2_with fail
  go_loopw [3] (fun iv wr => ∃ i : Nat, i ≤ ps.length ∧ iv = .int .i64 (i : Int) ∧ Hid (∀ j (h : j < ps.length), j < i → placeB ps[j] = true) ∧ Hid (Sd w #[.string man, .string mod, .string soft, .string id, .string ty, .bool lg, .slice ab ps.length cb] 42 wr)) (fun iv _ => ps.length - (intOf iv).toNat)
  case atStart => exact ⟨0, Nat.zero_le _, rfl, fun _ _ h => absurd h (Nat.not_lt_zero _), KK.out⟩
  case round =>
    clear KK KB
    obtain ⟨i, hi, rfl, HI, KK⟩ := hrel
    have KB := KK.out.bel
    have y6 := blk_cell KK.out.blk 6 _ rfl
    by_cases hlt : i < ps.length
    · obtain ⟨b, o, a1, c1, a2, c2, a3, c3, rfl, hbl, hc0, hat⟩ := HS.out.at i hlt
      have k0 : (0 : Int) ≤ (i : Int) := by omega
      have k1 : (i : Int) < (ps.length : Int) := by omega
      have k2 : decide (i < ps.length) = true := by simp; omega
      have hst : Hid (placeB ps[i] = true → ∀ j (h : j < ps.length), j < i + 1 → placeB ps[j] = true) := fun hp j h hj => by
        by_cases e : j = i
        · subst e; exact hp
        · exact HI.out j h (by omega)
      have hyi := Lib.hid (hY.out i hlt)
      have hc : wr.rangeAt b (o + i * 6) (cellsP ps[i] a1 c1 a2 c2 a3 c3).toList := fun j u hu => (KB.cell (p := ⟨b, o + i * 6 + j, none⟩) hbl).trans (hc0 j u hu)
      obtain ⟨c00, c01, c02, c03, c04, c05⟩ := cells6 hc
      have cQ := Lib.hid (fun X (hX : Below w.heap.size w X) => cP.out ps[i] _ X hX ((hat.below hX).mono hX.size))
      clear hc0 hc hbl HI hat
      generalize placeB ps[i] = t at *
      generalize ps[i] = x at *
      obtain ⟨rf, nm, mx, tk, gv, kd⟩ := x
      simp only [cellsP] at c00 c01 c02 c03 c04 c05 cQ
      have HW1 : Hid (wrap64 ((i : Int) + 1) = (i : Int) + 1) := by unfold Hid wrap64; omega
      go_wp2_with (go_at_call 76; (with_reducible refine (cQ.out _ KB).mono ?_); rintro r X ⟨rfl, hb⟩; have KK := Lib.hid (KK.out.below hb); have KB := KK.out.bel)
      all_goals first
        | (go_ret; refine ⟨?_, KB⟩; change Ending.returned (Value.int .i64 _) = _; rw [hE2.out, hyi.out (by simp_all)]; rfl)
        | (go_roundw
           case rel => exact ⟨i + 1, by omega, by go_num, hst.out (by simp_all), KK.out⟩
           case measure => simp [intOf]; omega)
    · have k1 : ¬ (i : Int) < (ps.length : Int) := by omega
      have k2 : decide (i < ps.length) = false := by simp; omega
      have HV := Lib.hid (hN.out (fun j h => HI.out j h (by omega)))
      have hE3 : Hid (devV ⟨man, mod, soft, id, ty, lg⟩ ps = if (mayW man && (mayW mod && (mayW soft && (wordB id && wordB ty)))) then 0 else 3) := by unfold Hid; rw [hE2.out, HV.out]; rfl
      have y0 := blk_cell KK.out.blk 0 _ rfl; have y1 := blk_cell KK.out.blk 1 _ rfl; have y2 := blk_cell KK.out.blk 2 _ rfl; have y3 := blk_cell KK.out.blk 3 _ rfl; have y4 := blk_cell KK.out.blk 4 _ rfl; have y5 := blk_cell KK.out.blk 5 _ rfl
      go_wp2_with (first | (go_at_call 78; (with_reducible refine (cW.out _ _ KB).mono ?_); rintro r X ⟨rfl, hb⟩; have KK := Lib.hid (KK.out.below hb); have KB := KK.out.bel; have y0 := blk_cell KK.out.blk 0 _ rfl; have y1 := blk_cell KK.out.blk 1 _ rfl; have y2 := blk_cell KK.out.blk 2 _ rfl; have y3 := blk_cell KK.out.blk 3 _ rfl; have y4 := blk_cell KK.out.blk 4 _ rfl; have y5 := blk_cell KK.out.blk 5 _ rfl; have y6 := blk_cell KK.out.blk 6 _ rfl) | (go_at_call 77; (with_reducible refine (cM.out _ _ KB).mono ?_); rintro r X ⟨rfl, hb⟩; have KK := Lib.hid (KK.out.below hb); have KB := KK.out.bel; have y0 := blk_cell KK.out.blk 0 _ rfl; have y1 := blk_cell KK.out.blk 1 _ rfl; have y2 := blk_cell KK.out.blk 2 _ rfl; have y3 := blk_cell KK.out.blk 3 _ rfl; have y4 := blk_cell KK.out.blk 4 _ rfl; have y5 := blk_cell KK.out.blk 5 _ rfl; have y6 := blk_cell KK.out.blk 6 _ rfl))
      all_goals (go_ret; refine ⟨?_, KB⟩; change Ending.returned (Value.int .i64 _) = _; rw [hE3.out]; clear y0 y1 y2 y3 y4 KK KB; simp_all)
set_option maxRecDepth 100000 in
set_option maxHeartbeats 8000000 in
theorem devCheck_any (h : Dh) (ps : List Pl) (ab : Option Addr) (cb : Nat) (w : World) (hT : Lib.Utf8Tabs 2 3 w) (hab : AtPs w w.heap.size ab ps) : Calls Tryd.prog 23 #[.agg (cellsD h ab ps.length cb)] w fun r w' => r = .returned (.int .i64 (devV h ps)) ∧ Below w.heap.size w w' := by
  obtain ⟨man, mod, soft, id, ty, lg⟩ := h
  simp only [cellsD]
  have cW := Lib.hid (fun s X (hX : Below w.heap.size w X) => word_any s X (Utf8Tabs_below hT hX) )
  have cM := Lib.hid (fun s X (hX : Below w.heap.size w X) => mayW_any s X (Utf8Tabs_below hT hX) )
  have cP := Lib.hid (fun p cs X (hX : Below w.heap.size w X) (hp : AtP X X.heap.size p cs) => place_any p cs X (Utf8Tabs_below hT hX) hp)
  have hE : Hid (devV ⟨man, mod, soft, id, ty, lg⟩ ps = if ps.length < 1 ∨ 6 < ps.length then 4 else if (ps.any fun p => !placeB p) then 3 else if (mayW man && (mayW mod && (mayW soft && (wordB id && wordB ty)))) then 0 else 3) := rfl
  have hY : Hid (∀ i (h : i < ps.length), placeB ps[i] = false → (ps.any fun p => !placeB p) = true) := fun i h hp => List.any_eq_true.2 ⟨ps[i], List.getElem_mem h, by rw [hp]; rfl⟩
  have hN : Hid ((∀ i (h : i < ps.length), placeB ps[i] = true) → (ps.any fun p => !placeB p) = false) := fun h => anyB_false (fun j hj => by rw [h j hj]; rfl)
  have HS := Lib.hid hab
  generalize (ps.any fun p => !placeB p) = q3 at *
  have KK := Lib.hid (Sd.start w #[.string man, .string mod, .string soft, .string id, .string ty, .bool lg, .slice ab ps.length cb] 42)
  have KB := KK.out.bel
  clear hab hT
  by_cases h0 : ps.length < 1
  · have k0 : (ps.length : Int) < 1 := by omega
    rw [hE.out, if_pos (.inl h0)]
    clear hE
    go_enter Tryd.func23, Tryd.ntmps23
    go_wp2
    go_ret
    exact ⟨rfl, KB⟩
  by_cases h1 : 6 < ps.length
  · have k0 : ¬ (ps.length : Int) < 1 := by omega
    have k2 : (6 : Int) < (ps.length : Int) := by omega
    rw [hE.out, if_pos (.inr h1)]
    clear hE
    go_enter Tryd.func23, Tryd.ntmps23
    go_wp2
    go_ret
    exact ⟨rfl, KB⟩
  have hE2 : Hid (devV ⟨man, mod, soft, id, ty, lg⟩ ps = if q3 then 3 else if (mayW man && (mayW mod && (mayW soft && (wordB id && wordB ty)))) then 0 else 3) := by
    unfold Hid; rw [hE.out, if_neg (by omega)]
  clear hE
  have k8 : ¬ (ps.length : Int) < 1 := by omega
  have k9 : ¬ (6 : Int) < (ps.length : Int) := by omega
  go_enter Tryd.func23, Tryd.ntmps23
  go_wp2_with fail
  go_loopw [4, 18] (fun _ iv wr => ∃ i : Nat, i ≤ ps.length ∧ iv = .int .i64 (i : Int) ∧ Hid (∀ j (h : j < ps.length), j < i → placeB ps[j] = true) ∧ Hid (Sd w #[.string man, .string mod, .string soft, .string id, .string ty, .bool lg, .slice ab ps.length cb] 42 wr)) (fun _ iv _ => ps.length - (intOf iv).toNat)
  case atStart => exact ⟨0, Nat.zero_le _, rfl, fun _ _ h => absurd h (Nat.not_lt_zero _), KK.out⟩
  case round =>
    clear KK KB
    obtain ⟨i, hi, rfl, HI, KK⟩ := hrel
    have KB := KK.out.bel
    have y6 := blk_cell KK.out.blk 6 _ rfl
    by_cases hlt : i < ps.length
    · obtain ⟨b, o, a1, c1, a2, c2, a3, c3, rfl, hbl, hc0, hat⟩ := HS.out.at i hlt
      have k0 : (0 : Int) ≤ (i : Int) := by omega
      have k1 : (i : Int) < (ps.length : Int) := by omega
      have k2 : decide (i < ps.length) = true := by simp; omega
      have hst : Hid (placeB ps[i] = true → ∀ j (h : j < ps.length), j < i + 1 → placeB ps[j] = true) := fun hp j h hj => by
        by_cases e : j = i
        · subst e; exact hp
        · exact HI.out j h (by omega)
      have hyi := Lib.hid (hY.out i hlt)
      have hc : wr.rangeAt b (o + i * 6) (cellsP ps[i] a1 c1 a2 c2 a3 c3).toList := fun j u hu => (KB.cell (p := ⟨b, o + i * 6 + j, none⟩) hbl).trans (hc0 j u hu)
      obtain ⟨c00, c01, c02, c03, c04, c05⟩ := cells6 hc
      have cQ := Lib.hid (fun X (hX : Below w.heap.size w X) => cP.out ps[i] _ X hX ((hat.below hX).mono hX.size))
      clear hc0 hc hbl HI hat
      generalize placeB ps[i] = t at *
      generalize ps[i] = x at *
      obtain ⟨rf, nm, mx, tk, gv, kd⟩ := x
      simp only [cellsP] at c00 c01 c02 c03 c04 c05 cQ
      have HW1 : Hid (wrap64 ((i : Int) + 1) = (i : Int) + 1) := by unfold Hid wrap64; omega
      go_upto_region 6 with fail
      obtain ⟨W2, hW2⟩ : ∃ W2, wr.alloc (.cells #[.string rf, .string nm, .int .i64 mx, .slice a1 tk.length c1, .slice a2 gv.length c2, .slice a3 kd.length c3] 87) = W2 := ⟨_, rfl⟩
      rw [hW2]
      have K2 := Lib.hid (KK.out.below (show Below wr.heap.size wr W2 from by rw [← hW2]; exact (Below.refl _ _).alloc (Nat.le_refl _) _))
      have z : W2.heap[wr.heap.size]? = some (.cells #[.string rf, .string nm, .int .i64 mx, .slice a1 tk.length c1, .slice a2 gv.length c2, .slice a3 kd.length c3] 87 (0, 0)) := by rw [← hW2]; exact World.alloc_heap_new _ _
      have z0 := blk_cell z 0 _ rfl; have z1 := blk_cell z 1 _ rfl; have z2 := blk_cell z 2 _ rfl; have z3 := blk_cell z 3 _ rfl; have z4 := blk_cell z 4 _ rfl; have z5 := blk_cell z 5 _ rfl
      clear hW2 c00 c01 c02 c03 c04 c05 y6 z KK KB
      have KK := Lib.hid K2.out
      have KB := KK.out.bel
      go_wp2_with (go_at_call 73; (with_reducible refine (cQ.out _ KB).mono ?_); rintro r X ⟨rfl, hb⟩; have KK := Lib.hid (KK.out.below hb); have KB := KK.out.bel)
      all_goals first
        | (go_ret; refine ⟨?_, KB⟩; change Ending.returned (Value.int .i64 _) = _; rw [hE2.out, hyi.out (by simp_all)]; rfl)
        | (go_roundw
           case rel => exact ⟨i + 1, by omega, by go_num, hst.out (by simp_all), KK.out⟩
           case measure => simp [intOf]; omega)
    · have k1 : ¬ (i : Int) < (ps.length : Int) := by omega
      have k2 : decide (i < ps.length) = false := by simp; omega
      have HV := Lib.hid (hN.out (fun j h => HI.out j h (by omega)))
      have hE3 : Hid (devV ⟨man, mod, soft, id, ty, lg⟩ ps = if (mayW man && (mayW mod && (mayW soft && (wordB id && wordB ty)))) then 0 else 3) := by unfold Hid; rw [hE2.out, HV.out]; rfl
      have y0 := blk_cell KK.out.blk 0 _ rfl; have y1 := blk_cell KK.out.blk 1 _ rfl; have y2 := blk_cell KK.out.blk 2 _ rfl; have y3 := blk_cell KK.out.blk 3 _ rfl; have y4 := blk_cell KK.out.blk 4 _ rfl; have y5 := blk_cell KK.out.blk 5 _ rfl
      go_wp2_with (first | (go_at_call 75; (with_reducible refine (cW.out _ _ KB).mono ?_); rintro r X ⟨rfl, hb⟩; have KK := Lib.hid (KK.out.below hb); have KB := KK.out.bel; have y0 := blk_cell KK.out.blk 0 _ rfl; have y1 := blk_cell KK.out.blk 1 _ rfl; have y2 := blk_cell KK.out.blk 2 _ rfl; have y3 := blk_cell KK.out.blk 3 _ rfl; have y4 := blk_cell KK.out.blk 4 _ rfl; have y5 := blk_cell KK.out.blk 5 _ rfl; have y6 := blk_cell KK.out.blk 6 _ rfl) | (go_at_call 74; (with_reducible refine (cM.out _ _ KB).mono ?_); rintro r X ⟨rfl, hb⟩; have KK := Lib.hid (KK.out.below hb); have KB := KK.out.bel; have y0 := blk_cell KK.out.blk 0 _ rfl; have y1 := blk_cell KK.out.blk 1 _ rfl; have y2 := blk_cell KK.out.blk 2 _ rfl; have y3 := blk_cell KK.out.blk 3 _ rfl; have y4 := blk_cell KK.out.blk 4 _ rfl; have y5 := blk_cell KK.out.blk 5 _ rfl; have y6 := blk_cell KK.out.blk 6 _ rfl))
      all_goals (go_ret; refine ⟨?_, KB⟩; change Ending.returned (Value.int .i64 _) = _; rw [hE3.out]; clear y0 y1 y2 y3 y4 KK KB; simp_all)
end Go.Proofs.YtgechifbbhipaaaDoor
