/- devinf: put of the reference. No condition but sizes. -/
import Derived.Test.YtgechifbbhipaaaDoorDwB
set_option linter.unusedVariables false
set_option linter.unusedSimpArgs false
namespace Go.Proofs.YtgechifbbhipaaaDoor
open Go.RowKit

/-- an element that shares its kids' row -/
theorem node_share {w : World} {Bq n c : Nat} {a : Option Addr} {ks : List Tr} {nm : ByteArray} (hr : RowQ w Bq (.slice a n c) ks) (hn : ks.length = n) (h0 : nm.size ≤ reachT) (hk : n ≤ reachT) : AtQ w (fun b => Bq ≤ b ∧ b < w.heap.size) (.mk 2 nm ByteArray.empty false ks) (.agg #[.int .i64 2, .string nm, .string ByteArray.empty, .bool false, .slice a n c]) := by
  subst hn
  have hc : ks.length ≤ c := by obtain ⟨xs, ho, _⟩ := hr; exact own_cap5 ho
  obtain ⟨a9, c9, he, hl, _⟩ := hr.atLQ
  simp only [Value.slice.injEq, true_and] at he
  obtain ⟨rfl, rfl⟩ := he
  unfold AtQ
  exact ⟨h0, by decide, hk, a, c, rfl, hl, hc⟩
theorem refSay_one (B : Nat) (nm tx : ByteArray) (h1 : nm.size ≤ reachT) (h2 : tx.size ≤ reachT) (ht : tx.size ≠ 0) (w : World) (hB : B ≤ w.heap.size) :
    Calls Tryd.prog 66 #[.slice none 0 0, .string nm, .string tx] w fun r w' => (∃ a' c', r = .returned (.slice a' 1 c') ∧ RowQ w' B (.slice a' 1 c') [.mk 2 nm tx false []]) ∧ Below B w w' :=
  refSay_put B nm tx h1 h2 none 0 0 [] rfl (by decide) w hB (RowQ.nil w B) ht
theorem refSay_two (B : Nat) (nm tx : ByteArray) (h1 : nm.size ≤ reachT) (h2 : tx.size ≤ reachT) (ht : tx.size ≠ 0) (k : Tr) (a : Option Addr) (c : Nat) (w : World) (hB : B ≤ w.heap.size) (hr : RowQ w B (.slice a 1 c) [k]) :
    Calls Tryd.prog 66 #[.slice a 1 c, .string nm, .string tx] w fun r w' => (∃ a' c', r = .returned (.slice a' 2 c') ∧ RowQ w' B (.slice a' 2 c') [k, .mk 2 nm tx false []]) ∧ Below B w w' :=
  refSay_put B nm tx h1 h2 a 1 c [k] rfl (by decide) w hB hr ht
/-- two cells that stay, below Bq -/
abbrev SK (b j k : Nat) (u v : Value) (Bq : Nat) (X : World) : Prop := X.cell? ⟨b, j, none⟩ = some u ∧ X.cell? ⟨b, k, none⟩ = some v ∧ Bq ≤ X.heap.size
theorem SK.bel {b j k Bq : Nat} {u v : Value} {X Y : World} (h : SK b j k u v Bq X) (hb : b < Bq) (hX : Below Bq X Y) : SK b j k u v Bq Y :=
  ⟨(hX.cell (p := ⟨b, j, none⟩) hb).trans h.1, (hX.cell (p := ⟨b, k, none⟩) hb).trans h.2.1, Nat.le_trans h.2.2 hX.size⟩
theorem SK.call {b j k Bq : Nat} {u v : Value} {X Y : World} (h : SK b j k u v Bq X) (hb : b < Bq) (hX : Below X.heap.size X Y) : SK b j k u v Bq Y := h.bel hb (hX.mono h.2.2)
theorem SK.alloc {b j k Bq : Nat} {u v : Value} {X : World} (h : SK b j k u v Bq X) (hb : b < Bq) (o : Obj) : SK b j k u v Bq (X.alloc o) := h.bel hb ((Below.refl Bq X).alloc h.2.2 o)
theorem SK.drew {b j k Bq : Nat} {u v : Value} {X : World} (h : SK b j k u v Bq X) (hb : b < Bq) : SK b j k u v Bq X.drew := h.bel hb ((Below.refl Bq X).drew)
theorem SK.grown {b j k Bq : Nat} {u v : Value} {X Y : World} {r : Option Nat} (h : SK b j k u v Bq X) (hb : b < Bq) (hg : X.grownBy Y r) (hr : ∀ k, r = some k → Bq ≤ k) : SK b j k u v Bq Y := h.bel hb ((Below.refl Bq X).grown hg h.2.2 hr)
set_option maxRecDepth 100000 in
set_option maxHeartbeats 16000000 in
theorem refPutD_any (Bq : Nat) (nm : ByteArray) (hnm : nm.size ≤ 1000) (l : List Fm) (hsz : ∀ f ∈ l, (f.ty.size ≤ 60 ∧ f.ty.size ≠ 0) ∧ (f.ve.size ≤ 60 ∧ f.ve.size ≠ 0)) (a : Option Addr) (cap : Nat) (hs : l.length ≤ 200) (v : Value) (ks0 : List Tr) (hk0 : ks0.length ≤ 500) (w : World) (hBw : Bq ≤ w.heap.size) (hS : AtF w Bq a l) (hr0 : RowQ w Bq v ks0) :
    Calls Tryd.prog 69 #[v, .string nm, .slice a l.length cap] w fun r w' => (∃ v', r = .returned v' ∧ RowQ w' Bq v' (ks0 ++ toldG nm 0 l)) ∧ Below Bq w w' := by
  have HS := Lib.hid hS
  have HSZ0 := Lib.hid hsz
  have HR0 := Lib.hid hr0
  clear hS hsz hr0
  have hadd : ∀ w, (Op.stringOp .add nm { data := #[80, 114, 101, 102] }).run Tryd.prog w = .ok (.string (nm ++ { data := #[80, 114, 101, 102] })) w := fun w => run_string_add_sum w nm { data := #[80, 114, 101, 102] } (by show nm.size + 4 ≤ _; omega)
  have hnP : Hid (nm.size + 4 ≤ reachT) := by unfold Hid reachT; omega
  have HB0 := Lib.hid hBw
  clear hBw
  generalize hnn : l.length = n at hs ⊢
  have HNN := Lib.hid hnn
  clear hnn
  go_enter Tryd.func69, Tryd.ntmps69
  go_wp2_with fail
  go_loopw [0, 7, 8] (fun lv iv _ wr => ∃ i : Nat, i ≤ n ∧ iv = .int .i64 (i : Int) ∧ Hid (RowQ wr Bq lv (ks0 ++ toldG nm 0 (l.take i))) ∧ Hid (Below Bq w wr)) (fun _ iv _ _ => n - (intOf iv).toNat)
  case atStart => exact ⟨0, Nat.zero_le _, rfl, by rw [List.take_zero]; show RowQ w Bq v (ks0 ++ []); rw [List.append_nil]; exact HR0.out, Below.refl _ _⟩
  case round =>
    obtain ⟨i, hi, rfl, HR, HB⟩ := hrel
    by_cases hlt : i < n
    · have hil : i < l.length := by rw [HNN.out]; exact hlt
      obtain ⟨b, o, rfl, hbl, hc0⟩ := HS.out i hil
      have k0 : (0 : Int) ≤ (i : Int) := by omega
      have k1 : (i : Int) < (n : Int) := by omega
      have k2 : decide (i < n) = true := by simp; omega
      have hc : wr.rangeAt b (o + i * 2) [.string l[i].ty, .string l[i].ve] := fun j u hu => (HB.out.cell (p := ⟨b, o + i * 2 + j, none⟩) hbl).trans (hc0 j u hu)
      have y0 := hc 0 _ rfl
      have y1 := hc 1 _ rfl
      simp only [Nat.add_zero] at y0
      have HTK := Lib.hid (toldG_take nm l i hil)
      obtain ⟨⟨hs1, hn1⟩, ⟨hs2, hn2⟩⟩ := HSZ0.out _ (List.getElem_mem hil)
      have HLN : Hid ((ks0 ++ toldG nm 0 (l.take i)).length ≤ 800) := by unfold Hid; rw [List.length_append, toldG_len, List.length_take]; omega
      have HBL := Lib.hid hbl
      have HBQ : Hid (Bq ≤ wr.heap.size) := Nat.le_trans HB0.out HB.out.size
      have HS1 : Hid (l[i].ty.size ≤ reachT) := by unfold Hid reachT; omega
      have HS2 : Hid (l[i].ve.size ≤ reachT) := by unfold Hid reachT; omega
      have HN1 := Lib.hid hn1
      have HN2 := Lib.hid hn2
      clear hc0 hc hbl hs1 hs2 hn1 hn2
      generalize hks : ks0 ++ toldG nm 0 (l.take i) = ks at *
      have HKS := Lib.hid hks
      clear hks
      obtain ⟨xs, ho, hq⟩ := HR.out
      obtain ⟨a0, c0, rfl⟩ := own_form ho
      have HLN2 := HLN.out
      generalize hm : ks.length = m at *
      have HML := Lib.hid hm
      clear hm HLN
      have HOW := Lib.hid ho
      have HQ := Lib.hid hq
      have HOQ : Hid (∀ k, (.slice a0 m c0 : Value).ownBlock = some k → Bq ≤ k) := fun k hk => (ho.lt k hk).1
      have HO : Hid (∀ X, Below wr.heap.size wr X → X.ownsRow Bq 46 5 (.slice a0 m c0) m xs) := fun X hX => owns_keep HOW.out (fun k hk => hX.block k (HOW.out.lt k hk).2)
      clear ho hq HR
      generalize l[i] = x at *
      obtain ⟨ty, ve⟩ := x
      simp only [] at y0 y1 HS1 HS2 HN1 HN2
      obtain ⟨i0, hi0, hz0, hz1, hz2⟩ := info24
      have HI := Lib.hid hi0
      have HZ0 := Lib.hid hz0
      have HZ1 := Lib.hid hz1
      have HZ2 := Lib.hid hz2
      clear hi0 hz0 hz1 hz2
      have HBY : Hid ((m + 1) * 72 ≤ 140737488355328) := by unfold Hid; omega
      have H63 : Hid (m + 1 ≤ maxLen) := by unfold Hid maxLen; omega
      clear HLN2
      have HW1 : Hid (wrap64 ((i : Int) + 1) = (i : Int) + 1) := by unfold Hid wrap64; omega
      have HD : Hid (Below wr.heap.size wr wr.drew) := (Below.refl _ wr).drew
      have cS1 := Lib.hid (fun X (hX : wr.heap.size ≤ X.heap.size) => refSay_one wr.heap.size nCT ty (by decide) HS1.out HN1.out X hX)
      unfold nCT at cS1
      by_cases hi0 : i = 0
      · subst hi0
        simp only [Nat.zero_mul, Nat.add_zero] at y0 y1
        obtain ⟨NM, hNM⟩ : ∃ NM, nm ++ { data := #[80, 114, 101, 102] } = NM := ⟨_, rfl⟩
        have HNS : Hid (NM.size ≤ reachT) := by unfold Hid; rw [← hNM]; show (nm ++ nPref).size ≤ _; rw [ByteArray.size_append]; exact hnP.out
        rw [show nmI nm 0 = NM from by rw [← hNM]; unfold nmI; rw [if_pos rfl]; rfl] at HTK
        have cN := Lib.hid (fun X a c => refNodeD_any NM a 2 c X)
        go_upto_region 7 with fail
        have HSK : Hid (SK b (o) (o + 1) (.string ty) (.string ve) Bq wr) := ⟨y0, y1, HBQ.out⟩
        have HSKw := HSK.out
        clear y0 y1
        go_region_held3 (fun X => X.cell? ⟨b, o, none⟩ = some (.string ty) ∧ X.cell? ⟨b, o + 1, none⟩ = some (.string ve) ∧ Bq ≤ X.heap.size) (first | with_reducible assumption | exact SK.call (by assumption) HBL.out hb9 | exact SK.drew (by assumption) HBL.out | exact SK.alloc (by assumption) HBL.out _ | exact SK.grown (by assumption) HBL.out k2 HOQ.out) (first | (go_at_call 66; (with_reducible refine (cS1.out _ ?_).mono ?_); (first | exact Nat.le_refl _ | exact HD.out.size); rintro r w1 ⟨⟨a5, c5, rfl, hr5⟩, hb5⟩; have HT1 : Hid (Below wr.heap.size wr w1) := (by first | exact (HD.out.trans (hb5.mono (Nat.le_refl _))) | exact hb5); have hb9 : Below w1.heap.size w1 w1 := Below.refl _ _; have hS1 := SK.bel (Y := w1) HSK.out HBL.out (HT1.out.mono HBQ.out); have cS2 := Lib.hid (refSay_two wr.heap.size nVer ve (by decide) HS2.out HN2.out _ a5 c5 w1 HT1.out.size hr5); unfold nVer at cS2; clear hr5 hb5) | (go_at_call 66; (with_reducible refine (cS2.out).mono ?_); rintro r w2 ⟨⟨a6, c6, rfl, hr6⟩, hb6⟩; have HT2 := Lib.hid (HT1.out.trans hb6); have hS2 := SK.bel (Y := w2) HSK.out HBL.out (HT2.out.mono HBQ.out); have HR6 := Lib.hid hr6; clear hr6 hb6) | (go_at_call 67; (with_reducible refine (cN.out _ _ _).mono ?_); rintro r w4 ⟨rfl, hb9⟩; have HT4 := Lib.hid (HT2.out.trans (hb9.mono HT2.out.size)); have HAT : Hid (AtQ w4 (fun b => wr.heap.size ≤ b ∧ b < w4.heap.size) (toldT NM ⟨ty, ve⟩) (.agg #[.int .i64 2, .string NM, .string ByteArray.empty, .bool false, .slice a6 2 c6])) := AtQ.keep (fun b hb => ⟨⟨hb.1, Nat.lt_of_lt_of_le hb.2 hb9.size⟩, hb9.block b hb.2⟩) _ _ (node_share HR6.out rfl HNS.out (by decide))) | (refine step_appR rfl (.tmp 20) (.tmp 35) 44 rfl Bq 46 i0 _ 5 72 Tryd.underlying44 HI.out HZ0.out HZ1.out HZ2.out rfl (by decide) _ m xs rfl (HO.out _ (HT4.out.alloc HT4.out.size _)) _ 1 1 [.int .i64 2, .string NM, .string ByteArray.empty, .bool false, .slice a6 2 c6] rfl rfl (fun h => by cases h) (new_cells (Below.refl _ _)) (by simp [Value.oneCell']) H63.out HBY.out (Nat.le_trans HBQ.out (Below.size (HT4.out.alloc HT4.out.size _))) (fun a' c' w' k1 k2 k3 => ?_); have HFIN := Lib.hid (push_end (k := toldT NM ⟨ty, ve⟩) HML.out HOW.out HQ.out (HT4.out.alloc HT4.out.size _) HBQ.out (Nat.le_refl _) (by simp) (AtQ.keep (w' := w4.alloc (.cells #[.int .i64 2, .string NM, .string ByteArray.empty, .bool false, .slice a6 2 c6] 46)) (fun b hb => ⟨hb, Below.heap_alloc _ _ _ hb.2⟩) _ _ HAT.out) rfl k1 k2 k3); have HFB := Lib.hid ((HB.out.trans (Below.mono (HT4.out.alloc HT4.out.size _) HBQ.out)).grown k2 (Nat.le_trans HBQ.out (Below.size (HT4.out.alloc HT4.out.size _))) (fun k hk => (HOW.out.lt k hk).1))))
        all_goals
          go_wp2_with fail
          go_roundw
          case rel => exact ⟨0 + 1, by omega, by go_num, by rw [HTK.out, ← List.append_assoc, HKS.out]; exact HFIN.out, HFB.out⟩
          case measure => simp [intOf]; omega
      · have e0 : ((i : Int) == 0) = false := by simp; omega
        have e1 : ¬ (i : Int) = 0 := by omega
        have HNS : Hid (nm.size ≤ reachT) := by unfold Hid; have := hnP.out; omega
        rw [show nmI nm i = nm from by unfold nmI; rw [if_neg hi0]] at HTK
        have cN := Lib.hid (fun X a c => refNodeD_any nm a 2 c X)
        clear hi0
        go_upto_region 7 with fail
        have HSK : Hid (SK b (o + i * 2) (o + i * 2 + 1) (.string ty) (.string ve) Bq wr) := ⟨y0, y1, HBQ.out⟩
        have HSKw := HSK.out
        clear y0 y1
        go_region_held3 (fun X => X.cell? ⟨b, o + i * 2, none⟩ = some (.string ty) ∧ X.cell? ⟨b, o + i * 2 + 1, none⟩ = some (.string ve) ∧ Bq ≤ X.heap.size) (first | with_reducible assumption | exact SK.call (by assumption) HBL.out hb9 | exact SK.drew (by assumption) HBL.out | exact SK.alloc (by assumption) HBL.out _ | exact SK.grown (by assumption) HBL.out k2 HOQ.out) (first | (go_at_call 66; (with_reducible refine (cS1.out _ ?_).mono ?_); (first | exact Nat.le_refl _ | exact HD.out.size); rintro r w1 ⟨⟨a5, c5, rfl, hr5⟩, hb5⟩; have HT1 : Hid (Below wr.heap.size wr w1) := (by first | exact (HD.out.trans (hb5.mono (Nat.le_refl _))) | exact hb5); have hb9 : Below w1.heap.size w1 w1 := Below.refl _ _; have hS1 := SK.bel (Y := w1) HSK.out HBL.out (HT1.out.mono HBQ.out); have cS2 := Lib.hid (refSay_two wr.heap.size nVer ve (by decide) HS2.out HN2.out _ a5 c5 w1 HT1.out.size hr5); unfold nVer at cS2; clear hr5 hb5) | (go_at_call 66; (with_reducible refine (cS2.out).mono ?_); rintro r w2 ⟨⟨a6, c6, rfl, hr6⟩, hb6⟩; have HT2 := Lib.hid (HT1.out.trans hb6); have hS2 := SK.bel (Y := w2) HSK.out HBL.out (HT2.out.mono HBQ.out); have HR6 := Lib.hid hr6; clear hr6 hb6) | (go_at_call 67; (with_reducible refine (cN.out _ _ _).mono ?_); rintro r w4 ⟨rfl, hb9⟩; have HT4 := Lib.hid (HT2.out.trans (hb9.mono HT2.out.size)); have HAT : Hid (AtQ w4 (fun b => wr.heap.size ≤ b ∧ b < w4.heap.size) (toldT nm ⟨ty, ve⟩) (.agg #[.int .i64 2, .string nm, .string ByteArray.empty, .bool false, .slice a6 2 c6])) := AtQ.keep (fun b hb => ⟨⟨hb.1, Nat.lt_of_lt_of_le hb.2 hb9.size⟩, hb9.block b hb.2⟩) _ _ (node_share HR6.out rfl HNS.out (by decide))) | (refine step_appR rfl (.tmp 20) (.tmp 35) 44 rfl Bq 46 i0 _ 5 72 Tryd.underlying44 HI.out HZ0.out HZ1.out HZ2.out rfl (by decide) _ m xs rfl (HO.out _ (HT4.out.alloc HT4.out.size _)) _ 1 1 [.int .i64 2, .string nm, .string ByteArray.empty, .bool false, .slice a6 2 c6] rfl rfl (fun h => by cases h) (new_cells (Below.refl _ _)) (by simp [Value.oneCell']) H63.out HBY.out (Nat.le_trans HBQ.out (Below.size (HT4.out.alloc HT4.out.size _))) (fun a' c' w' k1 k2 k3 => ?_); have HFIN := Lib.hid (push_end (k := toldT nm ⟨ty, ve⟩) HML.out HOW.out HQ.out (HT4.out.alloc HT4.out.size _) HBQ.out (Nat.le_refl _) (by simp) (AtQ.keep (w' := w4.alloc (.cells #[.int .i64 2, .string nm, .string ByteArray.empty, .bool false, .slice a6 2 c6] 46)) (fun b hb => ⟨hb, Below.heap_alloc _ _ _ hb.2⟩) _ _ HAT.out) rfl k1 k2 k3); have HFB := Lib.hid ((HB.out.trans (Below.mono (HT4.out.alloc HT4.out.size _) HBQ.out)).grown k2 (Nat.le_trans HBQ.out (Below.size (HT4.out.alloc HT4.out.size _))) (fun k hk => (HOW.out.lt k hk).1))))
        all_goals
          go_wp2_with fail
          go_roundw
          case rel => exact ⟨i + 1, by omega, by go_num, by rw [HTK.out, ← List.append_assoc, HKS.out]; exact HFIN.out, HFB.out⟩
          case measure => simp [intOf]; omega
    · have k1 : ¬ (i : Int) < (n : Int) := by omega
      have k2 : decide (i < n) = false := by simp; omega
      have hti : l.take i = l := List.take_of_length_le (by rw [HNN.out]; omega)
      rw [hti] at HR
      go_wp2_with fail
      go_ret
      exact ⟨⟨_, rfl, HR.out⟩, HB.out⟩
end Go.Proofs.YtgechifbbhipaaaDoor
