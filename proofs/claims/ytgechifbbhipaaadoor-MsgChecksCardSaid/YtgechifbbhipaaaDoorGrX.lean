/- grammar: GrammarWithin's walk and law. No condition but the tables. -/
import Derived.Test.YtgechifbbhipaaaDoorGrS
import Derived.Test.YtgechifbbhipaaaDoorGrA
import Derived.Deep.QuietTactic
import Derived.BigQuiet
set_option linter.unusedVariables false
set_option linter.unusedSimpArgs false
namespace Go.Proofs.YtgechifbbhipaaaDoor
open Go.RowKit Go.Shelf

theorem greatV_name {e : Tr} (h : greatV e = false) : e.name.size ≤ 10000 := by
  refine Classical.byContradiction fun hn => ?_
  unfold greatV at h
  rw [Bool.or_eq_false_iff] at h
  obtain ⟨l, hl⟩ : ∃ l, (preT 60 1 e).take 3000 = (1, e) :: l := by
    rw [preT_in (by omega)]; exact ⟨_, rfl⟩
  have h1 := h.1
  rw [hl] at h1
  have := grL_yes (n := 0) (L := (1, e) :: l) (i := 0) (by simp) (.inr (.inr (.inl (by show (10000 : Int) < (e.name.size : Int); omega))))
  rw [List.drop_zero] at this
  rw [this] at h1; cases h1
theorem conAny_name {nm : ByteArray} (hn : nameB nm = true) : Lib.containsAny nm.data.toList [32, 10] = false := by
  unfold Lib.containsAny
  rw [indexAny_no [32, 10] nm.data.toList (fun b hb h => by
    simp only [List.mem_cons, List.not_mem_nil, or_false] at h
    rcases h with rfl | rfl
    · exact nameB_free hn 32 (by decide) hb
    · exact nameB_free hn 10 (by decide) hb)]
  rfl
theorem ruleN_name {pg : Int} {nm : ByteArray} (hn : nameB nm = true) : ruleN pg nm.data.toList = ruleF pg nm.data.toList := by
  unfold ruleN
  rw [if_neg]
  rintro (h | h)
  · rw [conAny_name hn] at h; cases h
  · unfold nameB at hn
    simp only [Bool.and_eq_true, decide_eq_true_eq] at hn
    exact hn.1 (by rw [← len_toList, h]; rfl)

set_option maxRecDepth 100000 in
set_option maxHeartbeats 1000000 in
theorem grammarWithin_walk (e : Tr) (v : Value) (w : World) (m : Int) (hv : AtT w w.heap.size e v) (hT : TabG m w) :
    Calls Tryd.prog 6 #[v] w fun r w' => r = .returned (.bool true) ∧ Below w.heap.size w w' := by
  obtain ⟨hz1, hz2, hz3, a, c, rfl, hk⟩ := hv.parts
  have hcap0 := hv.cap
  have cKw := Lib.hid (fun X (hX : Below w.heap.size w X) => gWorks_any X m (hT.below hX))
  have cG := Lib.hid (fun X (hX : Below w.heap.size w X) => great_any e _ X (AtT.mono hX.size _ _ (AtT.below hX _ _ hv)))
  have cP := Lib.hid (fun X (hX : Below w.heap.size w X) => gCheckT_any e _ X m (AtT.mono hX.size _ _ (AtT.below hX _ _ hv)) (hT.below hX))
  have cR := Lib.hid (fun X (hX : Below w.heap.size w X) => refCheck_any e _ X (AtT.mono hX.size _ _ (AtT.below hX _ _ hv)))
  have cKd := Lib.hid (fun (k : Tr) (_ : k ∈ e.kids) (u : Value) X (hX : Below w.heap.size w X) (hu : AtT X w.heap.size k u) => gCheckT_any k u X m (AtT.mono hX.size _ _ hu) (hT.below hX))
  have cN0 := Lib.hid (fun (hs : e.name.size ≤ 10000) X (hX : Below w.heap.size w X) => ruleN_any e.page e.name (by omega) m X (hT.below hX).2.1)
  have cF0 := Lib.hid (fun (s : ByteArray) (h1 : e.kids.length ≤ 3000) X (hX : Below w.heap.size w X) => fitsP_any e.page s e.kids a c w.heap.size m X hX.size (AtL.below hX a e.kids 0 hk) h1 hcap0 (hT.below hX))
  have HBox : Hid (Below w.heap.size w (w.alloc (.cells #[.int .i64 e.page, .string e.name, .string e.text, .bool e.opq, .slice a e.kids.length c] 46))) := (Below.refl _ w).alloc (Nat.le_refl _) _
  have HKs := Lib.hid hk
  have HNm : Hid (e.kids.length ≤ reachT) := hz3
  clear hv hT hcap0 hk hz1 hz2 hz3
  cases hg : greatV e with
  | true =>
    rw [hg] at cG
    clear hg
    generalize e.page = p at *
    generalize e.name = nm at *
    generalize e.text = tx at *
    generalize e.opq = o at *
    generalize e.kids.length = nk at *
    go_enter Tryd.func6, Tryd.ntmps6
    go_wp2_with fail
    have cW := cKw.out _ HBox.out
    refine cW.mono ?_
    clear cW
    rintro r X ⟨rfl, hb1⟩
    have HX1 := Lib.hid (HBox.out.trans (hb1.mono HBox.out.size))
    obtain ⟨y0, y1, y2, y3, y4⟩ := y5_ofG (v0 := .int .i64 p) (v1 := .string nm) (v2 := .string tx) (v3 := .bool o) (v4 := .slice a nk c) (t := 46) (w := w) (X := X) (by simpa using hb1)
    clear hb1
    go_wp2_with fail
    have cW := cG.out _ HX1.out
    refine cW.mono ?_
    rintro r X2 ⟨rfl, hb1⟩
    go_wp2_with fail
    go_ret
    exact ⟨rfl, HX1.out.trans (hb1.mono HX1.out.size)⟩
  | false =>
    have hnm := greatV_name hg
    rw [hg] at cG
    clear hg
    have cN1 := Lib.hid (cN0.out hnm)
    clear cN0
    by_cases hf : (chkG e).2 = 0
    · obtain ⟨r, r1, r2, r3⟩ := fitsP_self hf
      obtain ⟨_, _, _, _, _, _, r4, r5⟩ := chkG_self hf
      have cN := Lib.hid (fun X hX => cN1.out X hX)
      rw [ruleN_name r4, r1] at cN
      have cF := Lib.hid (cF0.out (mkB r) (by omega))
      rw [mkB_list, r2] at cF
      rw [r3] at cR
      rw [hf] at cP
      have HKz : Hid (∀ k ∈ e.kids, (chkG k).2 = 0) := fun k hk => chkG_kid hk hf
      have hrv : ruleVal (some r) = (mkB r, true) := rfl
      rw [hrv] at cN
      clear cN1 cF0 r1 r2 r3 r4 r5 hf hnm hrv
      generalize mkB r = rb at *
      generalize (chkG e).1 = n at *
      obtain ⟨ks, hks⟩ : ∃ ks, e.kids = ks := ⟨_, rfl⟩
      rw [hks] at cKd HKs HKz HNm cP cG cR cF HBox ⊢
      generalize e.page = p at *
      generalize e.name = nm at *
      generalize e.text = tx at *
      generalize e.opq = o at *
      clear hks
      generalize hnk : ks.length = nk at *
      have HNK := Lib.hid hnk
      clear hnk
      go_enter Tryd.func6, Tryd.ntmps6
      go_wp2_with fail
      have cW := cKw.out _ HBox.out
      refine cW.mono ?_
      clear cW
      rintro r X ⟨rfl, hb1⟩
      have HX1 := Lib.hid (HBox.out.trans (hb1.mono HBox.out.size))
      obtain ⟨y0, y1, y2, y3, y4⟩ := y5_ofG (v0 := .int .i64 p) (v1 := .string nm) (v2 := .string tx) (v3 := .bool o) (v4 := .slice a nk c) (t := 46) (w := w) (X := X) (by simpa using hb1)
      have HZ1 : Hid (w.heap.size + 1 ≤ X.heap.size) := by unfold Hid; have := hb1.size; simpa using this
      have HBa : Hid (Below (w.heap.size + 1) (w.alloc (.cells #[.int .i64 p, .string nm, .string tx, .bool o, .slice a nk c] 46)) X) := by unfold Hid; simpa using hb1
      clear hb1
      go_wp2_with fail
      have cW := cG.out _ HX1.out
      refine cW.mono ?_
      clear cW
      rintro r X2 ⟨rfl, hb1⟩
      have HX2 := Lib.hid (HX1.out.trans (hb1.mono HX1.out.size))
      have HBb : Hid (Below (w.heap.size + 1) (w.alloc (.cells #[.int .i64 p, .string nm, .string tx, .bool o, .slice a nk c] 46)) X2) := HBa.out.trans (hb1.mono HZ1.out)
      have HZ2 := Lib.hid (Nat.le_trans HZ1.out hb1.size)
      clear hb1 y0 y1 y2 y3 y4 HBa
      obtain ⟨y0, y1, y2, y3, y4⟩ := y5_ofG HBb.out
      go_wp2_with fail
      have cW := cP.out _ HX2.out
      refine cW.mono ?_
      clear cW
      rintro r X3 ⟨rfl, hb1⟩
      have HX3 := Lib.hid (HX2.out.trans (hb1.mono HX2.out.size))
      have HBc : Hid (Below (w.heap.size + 1) (w.alloc (.cells #[.int .i64 p, .string nm, .string tx, .bool o, .slice a nk c] 46)) X3) := HBb.out.trans (hb1.mono HZ2.out)
      have HZ3 := Lib.hid (Nat.le_trans HZ2.out hb1.size)
      clear hb1 y0 y1 y2 y3 y4 HBb
      go_wp2_with fail
      go_loopw [5, 6, 7] (fun iv _ _ wr => ∃ i : Nat, i ≤ nk ∧ iv = .int .i64 (i : Int) ∧ Hid (Below w.heap.size w wr) ∧ Hid (Below (w.heap.size + 1) (w.alloc (.cells #[.int .i64 p, .string nm, .string tx, .bool o, .slice a nk c] 46)) wr) ∧ Hid (w.heap.size + 1 ≤ wr.heap.size)) (fun iv _ _ _ => nk - (intOf iv).toNat)
      case atStart => exact ⟨0, Nat.zero_le _, rfl, HX3.out, HBc.out, HZ3.out⟩
      case round =>
        obtain ⟨i, hi, rfl, HX, HB, HZ⟩ := hrel
        clear HX1 HX2 HX3 HBc HZ1 HZ2 HZ3
        obtain ⟨y0, y1, y2, y3, y4⟩ := y5_ofG HB.out
        by_cases hlt : i < nk
        · have j3 : (i : Int) < (nk : Int) := by omega
          have d3 : decide (i < nk) = true := by simp; omega
          have HMs : Hid (nk - (intOf (.int .i64 ((i : Int) + 1))).toNat < nk - (intOf (.int .i64 (i : Int))).toNat) := by unfold Hid; simp [intOf]; omega
          have HI1 : Hid (i + 1 ≤ nk) := hlt
          have hik : i < ks.length := by rw [HNK.out]; exact hlt
          obtain ⟨bb, oo, a', c', rfl, hrg, hat⟩ := kid_at2 HKs.out HX.out i hik
          obtain ⟨x0, x1, x2, x3, x4⟩ := elem_cells hrg
          have cI := cKd.out ks[i] (List.getElem_mem hik) _ wr HX.out hat
          have hw1 : wrap64 ((i : Int) + 1) = (i : Int) + 1 := by
            have h1 := HNm.out
            unfold Hid reachT at h1
            unfold wrap64; omega
          obtain ⟨qn, hqn⟩ : ∃ qn, (chkG ks[i]).1 = qn := ⟨_, rfl⟩
          rw [HKz.out ks[i] (List.getElem_mem hik), hqn] at cI
          clear hqn
          have CI := Lib.hid cI
          have HW1 := Lib.hid hw1
          clear cI hrg hat hw1
          generalize ks[i].page = kp at *
          generalize ks[i].name = kn at *
          generalize ks[i].text = kt at *
          generalize ks[i].opq = ko at *
          generalize ks[i].kids.length = kl at *
          clear hi hlt hik
          go_wp2_with fail
          have cW := CI.out
          refine cW.mono ?_
          clear cW
          rintro r X5 ⟨rfl, hb1⟩
          have HX5 := Lib.hid (HX.out.trans (hb1.mono HX.out.size))
          have HB5 : Hid (Below (w.heap.size + 1) (w.alloc (.cells #[.int .i64 p, .string nm, .string tx, .bool o, .slice (some ⟨bb, oo, none⟩) nk c] 46)) X5) := HB.out.trans (hb1.mono HZ.out)
          have HZ5 := Lib.hid (Nat.le_trans HZ.out hb1.size)
          clear hb1 y0 y1 y2 y3 y4 x0 x1 x2 x3 x4 HX HB HZ
          have hw1 := HW1.out
          go_wp2_with fail
          go_roundw
          case rel => exact ⟨i + 1, HI1.out, by go_num, HX5.out, HB5.out, HZ5.out⟩
          case measure => rw [HW1.out]; exact HMs.out
        · have j3 : ¬ (i : Int) < (nk : Int) := by omega
          clear hi hlt
          go_wp2_with fail
          have cW := cN.out _ HX.out
          refine cW.mono ?_
          clear cW
          rintro r X5 ⟨rfl, hb1⟩
          have HX5 := Lib.hid (HX.out.trans (hb1.mono HX.out.size))
          have HB5 : Hid (Below (w.heap.size + 1) (w.alloc (.cells #[.int .i64 p, .string nm, .string tx, .bool o, .slice a nk c] 46)) X5) := HB.out.trans (hb1.mono HZ.out)
          have HZ5 := Lib.hid (Nat.le_trans HZ.out hb1.size)
          clear hb1 y0 y1 y2 y3 y4 HX HB HZ
          obtain ⟨y0, y1, y2, y3, y4⟩ := y5_ofG HB5.out
          go_wp2_with fail
          have cW := cF.out _ HX5.out
          refine cW.mono ?_
          clear cW
          rintro r X6 ⟨rfl, hb1⟩
          have HX6 := Lib.hid (HX5.out.trans (hb1.mono HX5.out.size))
          have HB6 : Hid (Below (w.heap.size + 1) (w.alloc (.cells #[.int .i64 p, .string nm, .string tx, .bool o, .slice a nk c] 46)) X6) := HB5.out.trans (hb1.mono HZ5.out)
          clear hb1 y0 y1 y2 y3 y4 HX5 HB5 HZ5
          obtain ⟨y0, y1, y2, y3, y4⟩ := y5_ofG HB6.out
          go_wp2_with fail
          have cW := cR.out _ HX6.out
          refine cW.mono ?_
          clear cW
          rintro r X7 ⟨rfl, hb1⟩
          have HX7 := Lib.hid (HX6.out.trans (hb1.mono HX6.out.size))
          clear hb1 y0 y1 y2 y3 y4
          go_wp2_with fail
          go_ret
          exact ⟨rfl, HX7.out⟩
    · clear cF0
      obtain ⟨f, hff⟩ : ∃ f, (chkG e).2 = f := ⟨_, rfl⟩
      rw [hff] at cP hf
      have f1 : (f == 0) = false := beq_eq_false_iff_ne.2 hf
      have f2 : (f != 0) = true := by rw [bne, f1]; rfl
      have cN := Lib.hid (fun X hX => cN1.out X hX)
      generalize ruleVal (ruleN e.page e.name.data.toList) = RV at *
      obtain ⟨rb, bb0⟩ := RV
      simp only [] at cN
      clear cN1 hff hnm hf
      generalize (chkG e).1 = n at *
      obtain ⟨ks, hks⟩ : ∃ ks, e.kids = ks := ⟨_, rfl⟩
      rw [hks] at cKd HKs HNm cP cG cR HBox ⊢
      generalize e.page = p at *
      generalize e.name = nm at *
      generalize e.text = tx at *
      generalize e.opq = o at *
      clear hks
      generalize hnk : ks.length = nk at *
      have HNK := Lib.hid hnk
      clear hnk
      go_enter Tryd.func6, Tryd.ntmps6
      go_wp2_with fail
      have cW := cKw.out _ HBox.out
      refine cW.mono ?_
      clear cW
      rintro r X ⟨rfl, hb1⟩
      have HX1 := Lib.hid (HBox.out.trans (hb1.mono HBox.out.size))
      obtain ⟨y0, y1, y2, y3, y4⟩ := y5_ofG (v0 := .int .i64 p) (v1 := .string nm) (v2 := .string tx) (v3 := .bool o) (v4 := .slice a nk c) (t := 46) (w := w) (X := X) (by simpa using hb1)
      have HZ1 : Hid (w.heap.size + 1 ≤ X.heap.size) := by unfold Hid; have := hb1.size; simpa using this
      have HBa : Hid (Below (w.heap.size + 1) (w.alloc (.cells #[.int .i64 p, .string nm, .string tx, .bool o, .slice a nk c] 46)) X) := by unfold Hid; simpa using hb1
      clear hb1
      go_wp2_with fail
      have cW := cG.out _ HX1.out
      refine cW.mono ?_
      clear cW
      rintro r X2 ⟨rfl, hb1⟩
      have HX2 := Lib.hid (HX1.out.trans (hb1.mono HX1.out.size))
      have HBb : Hid (Below (w.heap.size + 1) (w.alloc (.cells #[.int .i64 p, .string nm, .string tx, .bool o, .slice a nk c] 46)) X2) := HBa.out.trans (hb1.mono HZ1.out)
      have HZ2 := Lib.hid (Nat.le_trans HZ1.out hb1.size)
      clear hb1 y0 y1 y2 y3 y4 HBa
      obtain ⟨y0, y1, y2, y3, y4⟩ := y5_ofG HBb.out
      go_wp2_with fail
      have cW := cP.out _ HX2.out
      refine cW.mono ?_
      clear cW
      rintro r X3 ⟨rfl, hb1⟩
      have HX3 := Lib.hid (HX2.out.trans (hb1.mono HX2.out.size))
      have HBc : Hid (Below (w.heap.size + 1) (w.alloc (.cells #[.int .i64 p, .string nm, .string tx, .bool o, .slice a nk c] 46)) X3) := HBb.out.trans (hb1.mono HZ2.out)
      have HZ3 := Lib.hid (Nat.le_trans HZ2.out hb1.size)
      clear hb1 y0 y1 y2 y3 y4 HBb
      go_wp2_with fail
      go_loopw [5, 6, 7] (fun iv _ _ wr => ∃ i : Nat, i ≤ nk ∧ iv = .int .i64 (i : Int) ∧ Hid (Below w.heap.size w wr) ∧ Hid (Below (w.heap.size + 1) (w.alloc (.cells #[.int .i64 p, .string nm, .string tx, .bool o, .slice a nk c] 46)) wr) ∧ Hid (w.heap.size + 1 ≤ wr.heap.size)) (fun iv _ _ _ => nk - (intOf iv).toNat)
      case atStart => exact ⟨0, Nat.zero_le _, rfl, HX3.out, HBc.out, HZ3.out⟩
      case round =>
        obtain ⟨i, hi, rfl, HX, HB, HZ⟩ := hrel
        clear HX1 HX2 HX3 HBc HZ1 HZ2 HZ3
        obtain ⟨y0, y1, y2, y3, y4⟩ := y5_ofG HB.out
        by_cases hlt : i < nk
        · have j3 : (i : Int) < (nk : Int) := by omega
          have d3 : decide (i < nk) = true := by simp; omega
          have HMs : Hid (nk - (intOf (.int .i64 ((i : Int) + 1))).toNat < nk - (intOf (.int .i64 (i : Int))).toNat) := by unfold Hid; simp [intOf]; omega
          have HI1 : Hid (i + 1 ≤ nk) := hlt
          have hik : i < ks.length := by rw [HNK.out]; exact hlt
          obtain ⟨bb, oo, a', c', rfl, hrg, hat⟩ := kid_at2 HKs.out HX.out i hik
          obtain ⟨x0, x1, x2, x3, x4⟩ := elem_cells hrg
          have cI := cKd.out ks[i] (List.getElem_mem hik) _ wr HX.out hat
          have hw1 : wrap64 ((i : Int) + 1) = (i : Int) + 1 := by
            have h1 := HNm.out
            unfold Hid reachT at h1
            unfold wrap64; omega
          generalize chkG ks[i] = qq at *
          obtain ⟨qn, qf⟩ := qq
          simp only [] at cI
          have CI := Lib.hid cI
          have HW1 := Lib.hid hw1
          clear cI hrg hat hw1
          generalize ks[i].page = kp at *
          generalize ks[i].name = kn at *
          generalize ks[i].text = kt at *
          generalize ks[i].opq = ko at *
          generalize ks[i].kids.length = kl at *
          clear hi hlt hik
          go_wp2_with fail
          have cW := CI.out
          refine cW.mono ?_
          clear cW
          rintro r X5 ⟨rfl, hb1⟩
          have HX5 := Lib.hid (HX.out.trans (hb1.mono HX.out.size))
          have HB5 : Hid (Below (w.heap.size + 1) (w.alloc (.cells #[.int .i64 p, .string nm, .string tx, .bool o, .slice (some ⟨bb, oo, none⟩) nk c] 46)) X5) := HB.out.trans (hb1.mono HZ.out)
          have HZ5 := Lib.hid (Nat.le_trans HZ.out hb1.size)
          clear hb1 y0 y1 y2 y3 y4 x0 x1 x2 x3 x4 HX HB HZ
          have hw1 := HW1.out
          go_wp2_with fail
          go_roundw
          case rel => exact ⟨i + 1, HI1.out, by go_num, HX5.out, HB5.out, HZ5.out⟩
          case measure => rw [HW1.out]; exact HMs.out
        · have j3 : ¬ (i : Int) < (nk : Int) := by omega
          clear hi hlt
          go_wp2_with fail
          have cW := cN.out _ HX.out
          refine cW.mono ?_
          clear cW
          rintro r X5 ⟨rfl, hb1⟩
          have HX5 := Lib.hid (HX.out.trans (hb1.mono HX.out.size))
          have HB5 : Hid (Below (w.heap.size + 1) (w.alloc (.cells #[.int .i64 p, .string nm, .string tx, .bool o, .slice a nk c] 46)) X5) := HB.out.trans (hb1.mono HZ.out)
          have HZ5 := Lib.hid (Nat.le_trans HZ.out hb1.size)
          clear hb1 y0 y1 y2 y3 y4 HX HB HZ
          go_wp2_with fail
          go_ret
          exact ⟨rfl, HX5.out⟩
set_option maxRecDepth 100000 in
theorem grammarWithin_law {H : Type} {enc : TypeId × Value → H} {W : World} (v : Value) (d : DataW H) (p : List MemPlace) (k : DataW.Trod enc Tryd.prog W 0 (fun _ => true) true 46 v d p) {base : Nat} (ok : Value.okWide Tryd.prog W .any base 46 v)
    (hz : ∀ q ∈ d.weights Tryd.prog 46, q ≤ reachBytes) (m : Int) (hT : TabG m W) : Calls Tryd.prog 6 #[v] W fun e w' => e = .returned (.bool true) ∧ Below W.heap.size W w' := by
  obtain ⟨e, he⟩ := elem_ofG k ok hz
  exact grammarWithin_walk e v W m he hT
end Go.Proofs.YtgechifbbhipaaaDoor

/- grammar: the reference's Rule and Fits, of any text as a name and as a rule. No condition but the tables. -/
set_option linter.unusedVariables false
set_option linter.unusedSimpArgs false
namespace Go.Proofs.YtgechifbbhipaaaDoor
open Go.RowKit Go.Shelf

theorem join_snoc (c : UInt8) : ∀ (l : List (List UInt8)) (x : List UInt8), l ≠ [] → joinB c (l ++ [x]) = joinB c l ++ c :: x
  | [], _, h => absurd rfl h
  | [p], x, _ => by simp [joinB]
  | p :: q :: ps, x, _ => by
    have ih := join_snoc c (q :: ps) x (by simp)
    rw [List.cons_append, List.cons_append, joinB, ← List.cons_append, ih, joinB]
    simp
theorem join_pre (c : UInt8) : ∀ (l m : List (List UInt8)), joinB c l <+: joinB c (l ++ m)
  | [], m => by simp [joinB]
  | [p], [] => by simp
  | [p], q :: m => ⟨c :: joinB c (q :: m), by simp [joinB]⟩
  | p :: q :: ps, m => by
    obtain ⟨t, ht⟩ := join_pre c (q :: ps) m
    refine ⟨t, ?_⟩
    rw [List.cons_append, List.cons_append, joinB, joinB, ← List.cons_append, ← ht]
    simp
theorem join_take (l : List (List UInt8)) (i : Nat) (h : i < l.length) : joinB 32 (l.take (i + 1)) = if i = 0 then l[i] else joinB 32 (l.take i) ++ 32 :: l[i] := by
  rw [List.take_succ_eq_append_getElem h]
  by_cases h0 : i = 0
  · subst h0; rw [if_pos rfl]; simp [joinB]
  · rw [if_neg h0, join_snoc]
    intro e
    have := congrArg List.length e
    rw [List.length_take, List.length_nil] at this
    omega
theorem join_words (r : List UInt8) : joinB 32 (wordsR r) = r := by
  unfold wordsR
  by_cases h : r = []
  · rw [if_pos h, h]; rfl
  · rw [if_neg h, join_cut]

/-- a name's rule, as the reference has it -/
noncomputable def ruleM (pg : Int) (nm : ByteArray) : Option (List UInt8) := if nameB nm = true then ruleF pg nm.data.toList else none
theorem ruleM_eq (pg : Int) (nm : ByteArray) : ruleN pg nm.data.toList = ruleM pg nm := by
  unfold ruleM
  by_cases hn : nameB nm = true
  · rw [if_pos hn, ruleN_name hn]
  · rw [if_neg hn]
    unfold ruleN
    by_cases hc : Lib.containsAny nm.data.toList [32, 10] = true ∨ nm.data.toList = []
    · rw [if_pos hc]
    · rw [if_neg hc]
      have h32 : 32 ∉ nm.data.toList := conAny_free (by simpa using fun h => hc (.inl h)) 32 (by simp)
      rcases find_both (hdL pg nm.data.toList) ruleLs with ⟨a, b⟩ | ⟨a, b, c⟩ | ⟨q, a, b, c⟩
      · exact a
      · exfalso
        have h1 := List.all_eq_true.1 ruleLs_ok _ c
        unfold okLine at h1
        rw [cut_hd0 pg _ h32] at h1
        split at h1
        · rename_i d nm2 ws he
          injection he with he1 he2
          injection he2 with he2 he3
          simp only [Bool.and_eq_true] at h1
          rw [← he2] at h1
          exact hn h1.1.2
        · cases h1
      · exfalso
        have h1 := List.all_eq_true.1 ruleLs_ok _ c
        unfold okLine at h1
        rw [cut_hd pg _ q h32] at h1
        split at h1
        · rename_i d nm2 ws he
          injection he with he1 he2
          injection he2 with he2 he3
          simp only [Bool.and_eq_true] at h1
          rw [← he2] at h1
          exact hn h1.1.2
        · cases h1

theorem words_bad (pg : Int) (nm : ByteArray) (hn : nameB nm = false) (w : World) :
    Calls Tryd.prog 89 #[.int .i64 pg, .string nm] w fun e w' => e = .returned (.tuple #[.slice none 0 0, .bool false]) ∧ Below w.heap.size w w' := by
  have cN := refName_any nm
  rw [hn] at cN
  have CN := Lib.hid cN
  clear cN hn
  go_enter Tryd.func89, Tryd.ntmps89
  go_wp2_with (first | (go_at_call 100; refine (CN.out _).mono ?_; rintro e w1 ⟨rfl, rfl⟩) | fail)
  go_ret2
  exact ⟨rfl, Below.refl _ _⟩
/-- a rule's words and whether there are any -/
noncomputable def wordsM (o : Option (List UInt8)) : List (List UInt8) := match o with
  | none => []
  | some r => wordsR r
theorem words_any (pg : Int) (nm : ByteArray) (w : World) :
    Calls Tryd.prog 89 #[.int .i64 pg, .string nm] w fun e w' => (∃ a c, e = .returned (.tuple #[.slice a (wordsM (ruleM pg nm)).length c, .bool (ruleVal (ruleM pg nm)).2]) ∧ ∀ i x, (wordsM (ruleM pg nm))[i]? = some x → ∃ g o, a = some ⟨g, o, none⟩ ∧ w.heap.size ≤ g ∧ g < w'.heap.size ∧ w'.cell? ⟨g, o + i, none⟩ = some (.string (mkB x))) ∧ Below w.heap.size w w' := by
  unfold ruleM
  by_cases hn : nameB nm = true
  · rw [if_pos hn]
    have hs : nm.size ≤ 1000 := by
      have h := hn
      unfold nameB at h
      simp only [Bool.and_eq_true, decide_eq_true_eq] at h
      have := h.2.1
      omega
    cases hr : ruleF pg nm.data.toList with
    | none => exact (words_no pg nm hn hs hr w).mono fun e w' ⟨h1, h2⟩ => ⟨⟨none, 0, h1, fun i x hx => by simp [wordsM] at hx⟩, h2⟩
    | some r => exact words_yes pg nm hn hs r hr w
  · rw [if_neg hn]
    exact (words_bad pg nm (by simpa using hn) w).mono fun e w' ⟨h1, h2⟩ => ⟨⟨none, 0, h1, fun i x hx => by simp [wordsM] at hx⟩, h2⟩
theorem ruleM_val (pg : Int) (nm : ByteArray) : (ruleVal (ruleM pg nm)).1 = mkB (joinB 32 (wordsM (ruleM pg nm))) := by
  cases h : ruleM pg nm with
  | none => rfl
  | some r => show mkB r = mkB (joinB 32 (wordsR r)); rw [join_words]
theorem ruleM_len (pg : Int) (nm : ByteArray) : (joinB 32 (wordsM (ruleM pg nm))).length ≤ 1000 := by
  cases h : ruleM pg nm with
  | none => simp [wordsM, joinB]
  | some r =>
    show (joinB 32 (wordsR r)).length ≤ 1000
    rw [join_words]
    unfold ruleM at h
    by_cases hn : nameB nm = true
    · rw [if_pos hn] at h
      exact (rule_facts (nameB_free hn 32 (by decide)) h).2.1
    · rw [if_neg hn] at h; cases h
theorem ruleM_wl (pg : Int) (nm : ByteArray) : (wordsM (ruleM pg nm)).length ≤ 2000 := by
  cases h : ruleM pg nm with
  | none => simp [wordsM]
  | some r =>
    show (wordsR r).length ≤ 2000
    have h1 : r.length ≤ 1000 := by
      unfold ruleM at h
      by_cases hn : nameB nm = true
      · rw [if_pos hn] at h
        exact (rule_facts (nameB_free hn 32 (by decide)) h).2.1
      · rw [if_neg hn] at h; cases h
    unfold wordsR
    split
    · simp
    · have := cutB_len 32 r
      omega

set_option maxRecDepth 100000 in
set_option maxHeartbeats 1000000 in
theorem refRule_any (pg : Int) (nm : ByteArray) (w : World) :
    Calls Tryd.prog 29 #[.int .i64 pg, .string nm] w fun e w' => e = .returned (.tuple #[.string (ruleVal (ruleM pg nm)).1, .bool (ruleVal (ruleM pg nm)).2]) ∧ Below w.heap.size w w' := by
  have cW := Lib.hid (words_any pg nm w)
  have HLen := Lib.hid (ruleM_len pg nm)
  have HWl := Lib.hid (ruleM_wl pg nm)
  rw [ruleM_val pg nm]
  generalize wordsM (ruleM pg nm) = ws at *
  generalize (ruleVal (ruleM pg nm)).2 = bo at *
  have HJ : Hid (∀ i x, ws[i]? = some x → mkB (joinB 32 (ws.take (i + 1))) = if i = 0 then mkB x else (mkB (joinB 32 (ws.take i)) ++ { data := #[32] }) ++ mkB x) := fun i x hx => by
    obtain ⟨h, rfl⟩ := List.getElem?_eq_some_iff.1 hx
    rw [join_take ws i h]
    by_cases h0 : i = 0
    · rw [if_pos h0, if_pos h0]
    · rw [if_neg h0, if_neg h0]
      refine Go.WideShapes.bytes_inj ?_
      simp [mkB, ByteArray.data_append]
  have HJl : Hid (∀ i, (mkB (joinB 32 (ws.take i))).size ≤ 1000) := fun i => by
    rw [mkB_size]
    have h := (join_pre 32 (ws.take i) (ws.drop i)).length_le
    rw [List.take_append_drop] at h
    exact Nat.le_trans h HLen.out
  have HJw : Hid (∀ (i : Nat) x, ws[i]? = some x → (mkB x).size ≤ 1000) := fun i x hx => by
    have h1 := HJl.out (i + 1)
    rw [HJ.out i x hx] at h1
    split at h1
    · exact h1
    · rw [ByteArray.size_append] at h1; omega
  have HJe : Hid (joinB 32 (ws.take ws.length) = joinB 32 ws) := by unfold Hid; rw [List.take_length]
  have HJ0 : Hid (joinB 32 (ws.take 0) = []) := rfl
  clear HLen
  go_enter Tryd.func29, Tryd.ntmps29
  go_wp2_with fail
  have cX := cW.out
  refine cX.mono ?_
  clear cX cW
  rintro e w2 ⟨⟨a, c, rfl, hcl⟩, hb⟩
  have HCl := Lib.hid hcl
  have HB := Lib.hid hb
  clear hcl hb
  generalize hn : ws.length = n at *
  have HN := Lib.hid hn
  clear hn
  go_wp2_with fail
  go_loopw [8, 9] (fun sv iv wr => ∃ i : Nat, i ≤ n ∧ sv = .string (mkB (joinB 32 (ws.take i))) ∧ iv = .int .i64 (i : Int) ∧ wr = w2) (fun _ iv _ => n - (intOf iv).toNat)
  case atStart => exact ⟨0, Nat.zero_le _, rfl, rfl, rfl⟩
  case round =>
    obtain ⟨i, hi, rfl, rfl, rfl⟩ := hrel
    by_cases hlt : i < n
    · have j3 : (i : Int) < (n : Int) := by omega
      have d3 : decide (i < n) = true := by simp; omega
      have HMs : Hid (n - (intOf (.int .i64 ((i : Int) + 1))).toNat < n - (intOf (.int .i64 (i : Int))).toNat) := by unfold Hid; simp [intOf]; omega
      have HI1 : Hid (i + 1 ≤ n) := hlt
      have hil : i < ws.length := by rw [HN.out]; exact hlt
      have hw1 : wrap64 ((i : Int) + 1) = (i : Int) + 1 := by
        have h1 := HWl.out
        unfold Hid at h1
        unfold wrap64; omega
      obtain ⟨x, hx⟩ : ∃ x, ws[i]? = some x := ⟨_, List.getElem?_eq_getElem hil⟩
      obtain ⟨g, o, rfl, _, _, hcell⟩ := HCl.out i x hx
      have hJ := HJ.out i x hx
      have hs1 := HJl.out i
      have hs2 := HJw.out i x hx
      have HW1 := Lib.hid hw1
      clear hi hw1
      by_cases h0 : i = 0
      · rw [if_pos h0] at hJ
        have HJi := Lib.hid hJ
        have q0 : ¬ (0 : Int) < (i : Int) := by omega
        have hcat : ∀ w, (Op.stringOp .add (mkB (joinB 32 (ws.take i))) (mkB x)).run Tryd.prog w = .ok (.string (mkB x)) w := fun w => by
          rw [Go.run_string_add_sum w _ _ (by have := hs1; have := hs2; unfold Hid at *; omega), h0]
          rfl
        clear hJ hs1 hs2 h0 hil hlt hx
        generalize mkB x = WB at *
        generalize mkB (joinB 32 (ws.take i)) = JB at *
        have hw1 := HW1.out
        go_wp2
        go_roundw
        case rel => exact ⟨i + 1, HI1.out, by rw [HJi.out], by go_num, trivial⟩
        case measure => first | exact HMs.out | (rw [HW1.out]; exact HMs.out)
      · rw [if_neg h0] at hJ
        have HJi := Lib.hid hJ
        have q0 : (0 : Int) < (i : Int) := by omega
        have hcat1 : ∀ w, (Op.stringOp .add (mkB (joinB 32 (ws.take i))) { data := #[32] }).run Tryd.prog w = .ok (.string (mkB (joinB 32 (ws.take i)) ++ { data := #[32] })) w := fun w => Go.run_string_add_sum w _ _ (by have := hs1; unfold Hid at *; show _ + 1 ≤ _; omega)
        have hcat2 : ∀ w, (Op.stringOp .add (mkB (joinB 32 (ws.take i)) ++ { data := #[32] }) (mkB x)).run Tryd.prog w = .ok (.string ((mkB (joinB 32 (ws.take i)) ++ { data := #[32] }) ++ mkB x)) w := fun w => Go.run_string_add_sum w _ _ (by have := hs1; have := hs2; unfold Hid at *; rw [ByteArray.size_append]; show _ + 1 + _ ≤ _; omega)
        clear hJ hs1 hs2 h0 hil hlt hx
        generalize mkB x = WB at *
        generalize mkB (joinB 32 (ws.take i)) = JB at *
        have hw1 := HW1.out
        go_wp2
        go_roundw
        case rel => exact ⟨i + 1, HI1.out, by rw [HJi.out], by go_num, trivial⟩
        case measure => first | exact HMs.out | (rw [HW1.out]; exact HMs.out)
    · have j3 : ¬ (i : Int) < (n : Int) := by omega
      obtain rfl : i = n := by omega
      have hE := HJe.out
      rw [hE]
      clear hi hlt
      go_wp2
      go_ret2
      exact ⟨rfl, HB.out⟩
end Go.Proofs.YtgechifbbhipaaaDoor

/- grammar: the reference's Fits, of any text as a rule. No condition but sizes. -/
set_option linter.unusedVariables false
set_option linter.unusedSimpArgs false
namespace Go.Proofs.YtgechifbbhipaaaDoor
open Go.RowKit Go.Shelf

/-- a line is its own page's and name's -/
noncomputable def lineOk (l : List UInt8) : Bool := match cutB 32 l with
  | d :: nm :: ws => decide (hd1 l = d) && nameB (mkB nm) && decide (findR (d ++ 32 :: nm) ruleLs = some (rs1 l)) && decide (ws = wordsR (rs1 l))
  | _ => false
theorem ruleLs_line : ruleLs.all lineOk = true := by kernel_rfl
theorem line_facts {l : List UInt8} (hl : l ∈ ruleLs) : ∃ nm, cutB 32 l = hd1 l :: nm :: wordsR (rs1 l) ∧ nameB (mkB nm) = true ∧ findR (hd1 l ++ 32 :: nm) ruleLs = some (rs1 l) := by
  have h := List.all_eq_true.1 ruleLs_line l hl
  unfold lineOk at h
  split at h
  · rename_i d nm ws he
    simp only [Bool.and_eq_true, decide_eq_true_eq] at h
    obtain ⟨⟨⟨h1, h2⟩, h3⟩, h4⟩ := h
    exact ⟨nm, by rw [h1, ← h4]; exact he, h2, by rw [h1]; exact h3⟩
  · cases h
theorem line_rule {l nm : List UInt8} {pg : Int} (h2 : nameB (mkB nm) = true) (h3 : findR (hd1 l ++ 32 :: nm) ruleLs = some (rs1 l)) (hd : hd1 l = digL pg) : ruleM pg (mkB nm) = some (rs1 l) := by
  unfold ruleM
  rw [if_pos h2, mkB_list, ← h3, hd]; rfl
theorem line_size {l : List UInt8} (hl : l ∈ ruleLs) : l.length ≤ 1000 := by
  have h3 := List.all_eq_true.1 ruleLs_text l hl
  unfold textLine at h3
  simp only [Bool.and_eq_true, decide_eq_true_eq] at h3
  exact h3.1
theorem fitsP_no {pg : Int} {r : List UInt8} {ks : List Tr} (h : ∀ (j : Nat) l, ruleLs[j]? = some l → hitB pg r l = false) : fitsP pg r ks = false := by
  unfold fitsP
  have : ruleLs.any (hitB pg r) = false := by
    rw [List.any_eq_false]
    intro l hl
    obtain ⟨j, hj, rfl⟩ := List.getElem_of_mem hl
    simp [h j _ (List.getElem?_eq_getElem hj)]
  rw [this]; rfl
theorem fitsP_hit {pg : Int} {r l : List UInt8} {ks : List Tr} (hl : l ∈ ruleLs) (h1 : hd1 l = digL pg) (h2 : rs1 l = r) : fitsP pg r ks = fitsW pg (wordsR (rs1 l)) ks := by
  unfold fitsP
  rw [List.any_eq_true.2 ⟨l, hl, by unfold hitB; rw [decide_eq_true h1, decide_eq_true h2]; rfl⟩, h2]; rfl

set_option maxRecDepth 100000 in
set_option maxHeartbeats 1000000 in
theorem refFitsP_any (pg : Int) (s : ByteArray) (ks : List Tr) (a : Option Addr) (c M : Nat) (w : World) (hM : M ≤ w.heap.size) (hk : AtL w M a 0 ks) (hkl : ks.length ≤ 3000) :
    Calls Tryd.prog 31 #[.int .i64 pg, .string s, .slice a ks.length c] w fun e w' => e = .returned (.bool (fitsP pg s.data.toList ks)) ∧ Below w.heap.size w w' := by
  have HFit := Lib.hid (fun (l : List UInt8) (hl : l ∈ ruleLs) (X : World) (hX : Below w.heap.size w X) (aw : Option Addr) (cw : Nat) (hwc : ∀ i x, (wordsR (rs1 l))[i]? = some x → ∃ g o, aw = some ⟨g, o, none⟩ ∧ X.cell? ⟨g, o + i, none⟩ = some (.string (mkB x))) =>
    refFits_any pg (wordsR (rs1 l)) (by
      have h1 := List.all_eq_true.1 ruleLs_rl l hl
      unfold okRl at h1
      simp only [Bool.and_eq_true, decide_eq_true_eq] at h1
      exact List.all_eq_true.1 h1.1) (by
      have h1 := List.all_eq_true.1 ruleLs_rl l hl
      unfold okRl at h1
      simp only [Bool.and_eq_true, decide_eq_true_eq] at h1
      unfold wordsR
      split
      · simp
      · have := cutB_len 32 (rs1 l); omega) (fun x hx => by
      have h1 := List.all_eq_true.1 ruleLs_rl l hl
      unfold okRl at h1
      simp only [Bool.and_eq_true, decide_eq_true_eq] at h1
      have := words_len _ _ hx; omega) aw cw ks a c M X (Nat.le_trans hM hX.size) (AtL.below (hX.mono hM) a ks 0 hk) hkl hwc)
  have HNo : Hid ((∀ (j : Nat) l, ruleLs[j]? = some l → hitB pg s.data.toList l = false) → fitsP pg s.data.toList ks = false) := fitsP_no
  have HHit : Hid (∀ l ∈ ruleLs, hd1 l = digL pg → rs1 l = s.data.toList → fitsW pg (wordsR (rs1 l)) ks = fitsP pg s.data.toList ks) := fun l hl h1 h2 => (fitsP_hit hl h1 h2).symm
  have HLf : Hid (∀ l ∈ ruleLs, ∃ nm, cutB 32 l = hd1 l :: nm :: wordsR (rs1 l) ∧ nameB (mkB nm) = true ∧ findR (hd1 l ++ 32 :: nm) ruleLs = some (rs1 l)) := fun l hl => line_facts hl
  have HLs : Hid (∀ l ∈ ruleLs, l.length ≤ 1000) := fun l hl => line_size hl
  have HLl := Lib.hid ruleLs_len
  have HRl : Hid (∀ (l nm : List UInt8), nameB (mkB nm) = true → findR (hd1 l ++ 32 :: nm) ruleLs = some (rs1 l) → hd1 l = digL pg → ruleM pg (mkB nm) = some (rs1 l)) := fun l nm h2 h3 hd => line_rule h2 h3 hd
  have HHb : Hid (∀ l, hitB pg s.data.toList l = (decide (hd1 l = digL pg) && decide (rs1 l = s.data.toList))) := fun l => rfl
  clear hM hk hkl
  generalize fitsP pg s.data.toList ks = R at *
  generalize ks.length = nk at *
  have cQ := cut_any rulesQ 10 w (by rw [rulesQ_size]; decide)
  rw [show cutB 10 rulesQ.data.toList = ruleLs from rfl] at cQ
  have CQ := Lib.hid cQ
  have cD := Lib.hid (fun w => refDigit_any pg w)
  clear cQ
  go_enter Tryd.func31, Tryd.ntmps31
  rw [lit_q]
  rotate_left
  · kernel_rfl
  generalize rulesQ = QQ at *
  generalize ruleLs = LS at *
  go_wp2_with fail
  have cX := CQ.out
  refine cX.mono ?_
  clear cX CQ
  rintro e w2 ⟨aL, cL, rfl, hown, hb⟩
  have HCl : Hid (∀ i x, LS[i]? = some x → ∃ g, aL = some ⟨g, 0, none⟩ ∧ g < w2.heap.size ∧ w2.cell? ⟨g, i, none⟩ = some (.string (mkB x))) := fun i x hx => by
    obtain ⟨hi, rfl⟩ := List.getElem?_eq_some_iff.1 hx
    obtain ⟨g, h0, h1, h2, h3⟩ := extract_tail hown (by rfl) i (by simpa using hi)
    exact ⟨g, h0, h2, by simpa using h3⟩
  have HB := Lib.hid hb
  clear hown hb
  generalize hn : LS.length = n at *
  have HN := Lib.hid hn
  clear hn
  go_wp2_with fail
  go_loopw [8, 9, 10, 11] (fun iv _ _ _ wr => ∃ i : Nat, i ≤ n ∧ iv = .int .i64 (i : Int) ∧ Hid (Below w2.heap.size w2 wr) ∧ Hid (∀ (j : Nat) l, LS[j]? = some l → j < i → hitB pg s.data.toList l = false)) (fun iv _ _ _ _ => n - (intOf iv).toNat)
  case atStart => exact ⟨0, Nat.zero_le _, rfl, Below.refl _ _, fun _ _ _ h => absurd h (Nat.not_lt_zero _)⟩
  case round =>
    obtain ⟨i, hi, rfl, HX, HH⟩ := hrel
    by_cases hlt : i < n
    · have j3 : (i : Int) < (n : Int) := by omega
      have d3 : decide (i < n) = true := by simp; omega
      have HMs : Hid (n - (intOf (.int .i64 ((i : Int) + 1))).toNat < n - (intOf (.int .i64 (i : Int))).toNat) := by unfold Hid; simp [intOf]; omega
      have HI1 : Hid (i + 1 ≤ n) := hlt
      have hil : i < LS.length := by rw [HN.out]; exact hlt
      have hw1 : wrap64 ((i : Int) + 1) = (i : Int) + 1 := by
        have h1 := HLl.out
        unfold Hid at h1
        unfold wrap64; omega
      have HW1 := Lib.hid hw1
      obtain ⟨l, hl⟩ : ∃ l, LS[i]? = some l := ⟨_, List.getElem?_eq_getElem hil⟩
      have hmem : l ∈ LS := List.mem_of_getElem? hl
      obtain ⟨g, rfl, hg2, hcell⟩ := HCl.out i l hl
      have hcellr := (HX.out.cell (p := ⟨g, i, none⟩) hg2).trans hcell
      obtain ⟨nm, hcut, hnm, hfr⟩ := HLf.out l hmem
      have hls := HLs.out l hmem
      have cC := cut_any (mkB l) 32 wr (by rw [mkB_size]; omega)
      rw [mkB_list, hcut] at cC
      have CC := Lib.hid cC
      have HHn : Hid (hitB pg s.data.toList l = false → ∀ (j : Nat) l', LS[j]? = some l' → j < i + 1 → hitB pg s.data.toList l' = false) := fun h j l' hj hji => by
        by_cases e : j = i
        · subst e; rw [hl] at hj; cases hj; exact h
        · exact HH.out j l' hj (by omega)
      have HBi := Lib.hid (HHb.out l)
      have HRi : Hid (hd1 l = digL pg → ruleM pg (mkB nm) = some (rs1 l)) := fun h => HRl.out _ nm hnm hfr h
      have HHi := Lib.hid (HHit.out l hmem)
      have HFi := Lib.hid (HFit.out l hmem)
      clear HHit HFit HLf hcell cC hcut hnm hfr hls hmem hw1 hi hlt HCl HH hl hil
      have hlen : (hd1 l :: nm :: wordsR (rs1 l)).length = (wordsR (rs1 l)).length + 2 := rfl
      rw [hlen] at CC
      generalize hws : wordsR (rs1 l) = ws at *
      clear hlen hws
      go_wp2_with fail
      have cX := CC.out
      refine cX.mono ?_
      clear cX CC
      rintro e X2 ⟨aw, cw, rfl, hown, hb2⟩
      have HX2 : Hid (Below w2.heap.size w2 X2) := HX.out.trans (hb2.mono HX.out.size)
      obtain ⟨g2, rfl, h1, h2, h3⟩ := extract_tail hown (by rfl) 0 (by simp)
      obtain ⟨g3, h4, _, _, h5⟩ := extract_tail hown (by rfl) 1 (by simp)
      obtain rfl : g2 = g3 := by simpa using h4
      have y0 : X2.cell? ⟨g2, 0, none⟩ = some (.string (mkB (hd1 l))) := by simpa using h3
      have y1 : X2.cell? ⟨g2, 1, none⟩ = some (.string (mkB nm)) := by simpa using h5
      obtain ⟨a', hsl, ha'⟩ := run_from (P := Tryd.prog) 81 1 (by kernel_rfl) (fun w => by kernel_rfl) (some ⟨g2, 0, none⟩) (ws.length + 2) cw 2 (by omega)
      have hsl2 : ∀ w, (Instr.slice 81 (.slice (some ⟨g2, 0, none⟩) (ws.length + 2) cw) (some (.int .i64 2)) none none).run Tryd.prog w = .ok (.slice a' ws.length (cw - 2)) w := hsl
      have HC : Hid (∀ i x, ws[i]? = some x → ∃ g o, a' = some ⟨g, o, none⟩ ∧ g < X2.heap.size ∧ X2.cell? ⟨g, o + i, none⟩ = some (.string (mkB x))) := fun i x hx => by
        obtain ⟨hi, rfl⟩ := List.getElem?_eq_some_iff.1 hx
        obtain ⟨g, hgg, h1, h2, h3⟩ := extract_tail hown (by rfl) (i + 2) (by simp; omega)
        obtain rfl : g2 = g := by simpa using hgg
        have hcp : ws.length + 2 ≤ cw := by
          rcases hown.2 with ⟨h4, _⟩ | ⟨g', cap, cur, h4, _, _, h5, _⟩
          · cases h4
          · simp only [Value.slice.injEq] at h4; omega
        rw [ha' (by omega)]
        refine ⟨g2, 2, by simp [addr_addN], h2, ?_⟩
        rw [show 2 + i = i + 2 from by omega]
        simpa using h3
      have cR := Lib.hid (refRule_any pg (mkB nm) X2)
      have HY0 := Lib.hid y0
      have p2 : (0 : Int) < ((ws.length + 2 : Nat) : Int) := by omega
      have p3 : (1 : Int) < ((ws.length + 2 : Nat) : Int) := by omega
      clear hsl ha' hown hb2 h1 h2 h3 h4 h5 HX
      go_wp2_with fail
      have cX := cR.out
      refine cX.mono ?_
      clear cX cR
      rintro e X3 ⟨rfl, hb3⟩
      have HX3 : Hid (Below w2.heap.size w2 X3) := HX2.out.trans (hb3.mono HX2.out.size)
      have HB3 := Lib.hid hb3
      have z0 : X3.cell? ⟨g2, 0, none⟩ = some (.string (mkB (hd1 l))) := (hb3.cell (p := ⟨g2, 0, none⟩) (World.block_lt_of_cell? _ _ HY0.out)).trans HY0.out
      have hw1 := HW1.out
      clear hb3 y0 y1 HY0 hcellr
      by_cases hh : hd1 l = digL pg
      · have hq := (strU_is (mkB (hd1 l)) (digS pg)).2 (by rw [hh]; rfl)
        have hRv : ruleVal (ruleM pg (mkB nm)) = (mkB (rs1 l), true) := by rw [HRi.out hh]; rfl
        rw [hRv]
        by_cases hr : rs1 l = s.data.toList
        · have hq2 := (strU_is (mkB (rs1 l)) s).2 (by rw [hr]; rfl)
          have HR : Hid (fitsW pg ws ks = R) := HHi.out hh hr
          clear hRv HRi hh hr
          generalize mkB (rs1 l) = SB at *
          generalize mkB (hd1 l) = DB at *
          generalize digS pg = DG at *
          go_wp2_with fail
          go_quiet ((go_at_call 94; refine Calls.quiet_of_same ((cD.out _).mono fun _ _ hh => ⟨hh.1, hh.2.symm⟩)))
          go_wp2_with fail
          refine (HFi.out _ ((HB.out.trans (HX3.out.mono HB.out.size)).trans (below_dr0 _ X3 nq)) a' _ (fun i x hx => by
            obtain ⟨g, o, h1, h2, h3⟩ := HC.out i x hx
            exact ⟨g, o, h1, (HB3.out.cell (p := ⟨g, o + i, none⟩) h2).trans h3⟩)).mono ?_
          rintro e X4 ⟨rfl, hb4⟩
          have HX4 := Lib.hid hb4
          clear hb4
          go_wp2_with fail
          go_ret
          exact ⟨by rw [HR.out]; rfl, ((HB.out.trans (HX3.out.mono HB.out.size)).trans (below_dr0 _ X3 nq)).trans (HX4.out.mono (Nat.le_trans HB.out.size HX3.out.size))⟩
        · have hq2 := strU_not (x := mkB (rs1 l)) (s := s) (fun e => hr (by rw [← e]; rfl))
          have hst := Lib.hid (HHn.out (by rw [HBi.out, decide_eq_false hr, Bool.and_false]))
          clear hRv HRi hh hr
          generalize mkB (rs1 l) = SB at *
          generalize mkB (hd1 l) = DB at *
          generalize digS pg = DG at *
          go_wp2_with fail
          go_quiet ((go_at_call 94; refine Calls.quiet_of_same ((cD.out _).mono fun _ _ hh => ⟨hh.1, hh.2.symm⟩)))
          go_wp2_with fail
          go_roundw
          case rel => exact ⟨i + 1, HI1.out, by go_num, HX3.out.trans (below_dr0 _ X3 nq), hst.out⟩
          case measure => first | exact HMs.out | (rw [HW1.out]; exact HMs.out)
      · have hq := strU_not (x := mkB (hd1 l)) (s := digS pg) (fun e => hh (by have := congrArg (fun b => b.data.toList) e; exact this))
        · have hst := Lib.hid (HHn.out (by rw [HBi.out, decide_eq_false hh, Bool.false_and]))
          clear HRi hh
          generalize ruleVal (ruleM pg (mkB nm)) = RV at *
          obtain ⟨SB, bo⟩ := RV
          generalize mkB (hd1 l) = DB at *
          generalize digS pg = DG at *
          go_wp2_with fail
          go_quiet ((go_at_call 94; refine Calls.quiet_of_same ((cD.out _).mono fun _ _ hh => ⟨hh.1, hh.2.symm⟩)))
          go_wp2_with fail
          go_roundw
          case rel => exact ⟨i + 1, HI1.out, by go_num, HX3.out.trans (below_dr0 _ X3 nq), hst.out⟩
          case measure => first | exact HMs.out | (rw [HW1.out]; exact HMs.out)
    · have j3 : ¬ (i : Int) < (n : Int) := by omega
      obtain rfl : i = n := by omega
      have hR : R = false := HNo.out (fun j l hj => HH.out j l hj (by rw [← HN.out]; exact (List.getElem?_eq_some_iff.1 hj).1))
      subst hR
      clear hi hlt
      go_wp2_with fail
      go_ret
      exact ⟨rfl, HB.out.trans (HX.out.mono HB.out.size)⟩
end Go.Proofs.YtgechifbbhipaaaDoor
