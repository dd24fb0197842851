/- grammar: GrammarWithin's walk and law. No condition but the tables. -/
import Derived.Test.YtgechifbbhipaaaDoorGrU
import Derived.Test.YtgechifbbhipaaaDoorGrV
set_option linter.unusedVariables false
set_option linter.unusedSimpArgs false
namespace Go.Proofs.YtgechifbbhipaaaDoor
open Go.RowKit Go.Shelf

theorem greatV_name {e : Tr} (h : greatV e = false) : e.name.size ≤ 10000 := by
  refine Classical.byContradiction fun hn => ?_
  unfold greatV at h
  rw [Bool.or_eq_false_iff] at h
  obtain ⟨l, hl⟩ : ∃ l, (preT 60 1 e).take 3000 = (1, e) :: l := by
    rw [preT_in (by omega)]; exact ⟨_, rfl⟩
  have h1 := h.1
  rw [hl] at h1
  have := grL_yes (n := 0) (L := (1, e) :: l) (i := 0) (by simp) (.inr (.inr (.inl (by show (10000 : Int) < (e.name.size : Int); omega))))
  rw [List.drop_zero] at this
  rw [this] at h1; cases h1
theorem conAny_name {nm : ByteArray} (hn : nameB nm = true) : Lib.containsAny nm.data.toList [32, 10] = false := by
  unfold Lib.containsAny
  rw [indexAny_no [32, 10] nm.data.toList (fun b hb h => by
    simp only [List.mem_cons, List.not_mem_nil, or_false] at h
    rcases h with rfl | rfl
    · exact nameB_free hn 32 (by decide) hb
    · exact nameB_free hn 10 (by decide) hb)]
  rfl
theorem ruleN_name {pg : Int} {nm : ByteArray} (hn : nameB nm = true) : ruleN pg nm.data.toList = ruleF pg nm.data.toList := by
  unfold ruleN
  rw [if_neg]
  rintro (h | h)
  · rw [conAny_name hn] at h; cases h
  · unfold nameB at hn
    simp only [Bool.and_eq_true, decide_eq_true_eq] at hn
    exact hn.1 (by rw [← len_toList, h]; rfl)

set_option maxRecDepth 100000 in
set_option maxHeartbeats 1000000 in
theorem grammarWithin_walk (e : Tr) (v : Value) (w : World) (m : Int) (hv : AtT w w.heap.size e v) (hT : TabG m w) :
    Calls Tryd.prog 6 #[v] w fun r w' => r = .returned (.bool true) ∧ Below w.heap.size w w' := by
  obtain ⟨hz1, hz2, hz3, a, c, rfl, hk⟩ := hv.parts
  have hcap0 := hv.cap
  have cKw := Lib.hid (fun X (hX : Below w.heap.size w X) => gWorks_any X m (hT.below hX))
  have cG := Lib.hid (fun X (hX : Below w.heap.size w X) => great_any e _ X (AtT.mono hX.size _ _ (AtT.below hX _ _ hv)))
  have cP := Lib.hid (fun X (hX : Below w.heap.size w X) => gCheckT_any e _ X m (AtT.mono hX.size _ _ (AtT.below hX _ _ hv)) (hT.below hX))
  have cR := Lib.hid (fun X (hX : Below w.heap.size w X) => refCheck_any e _ X (AtT.mono hX.size _ _ (AtT.below hX _ _ hv)))
  have cKd := Lib.hid (fun (k : Tr) (_ : k ∈ e.kids) (u : Value) X (hX : Below w.heap.size w X) (hu : AtT X w.heap.size k u) => gCheckT_any k u X m (AtT.mono hX.size _ _ hu) (hT.below hX))
  have cN0 := Lib.hid (fun (hs : e.name.size ≤ 10000) X (hX : Below w.heap.size w X) => ruleN_any e.page e.name (by omega) m X (hT.below hX).2.1)
  have cF0 := Lib.hid (fun (s : ByteArray) (h1 : e.kids.length ≤ 2000) X (hX : Below w.heap.size w X) => fitsP_any e.page s e.kids a c w.heap.size m X hX.size (AtL.below hX a e.kids 0 hk) h1 hcap0 (hT.below hX))
  have HBox : Hid (Below w.heap.size w (w.alloc (.cells #[.int .i64 e.page, .string e.name, .string e.text, .bool e.opq, .slice a e.kids.length c] 46))) := (Below.refl _ w).alloc (Nat.le_refl _) _
  have HKs := Lib.hid hk
  have HNm : Hid (e.kids.length ≤ reachT) := hz3
  clear hv hT hcap0 hk hz1 hz2 hz3
  cases hg : greatV e with
  | true =>
    rw [hg] at cG
    clear hg
    generalize e.page = p at *
    generalize e.name = nm at *
    generalize e.text = tx at *
    generalize e.opq = o at *
    generalize e.kids.length = nk at *
    go_enter Tryd.func6, Tryd.ntmps6
    go_wp2_with fail
    have cW := cKw.out _ HBox.out
    refine cW.mono ?_
    clear cW
    rintro r X ⟨rfl, hb1⟩
    have HX1 := Lib.hid (HBox.out.trans (hb1.mono HBox.out.size))
    obtain ⟨y0, y1, y2, y3, y4⟩ := y5_ofG (v0 := .int .i64 p) (v1 := .string nm) (v2 := .string tx) (v3 := .bool o) (v4 := .slice a nk c) (t := 46) (w := w) (X := X) (by simpa using hb1)
    clear hb1
    go_wp2_with fail
    have cW := cG.out _ HX1.out
    refine cW.mono ?_
    rintro r X2 ⟨rfl, hb1⟩
    go_wp2_with fail
    go_ret
    exact ⟨rfl, HX1.out.trans (hb1.mono HX1.out.size)⟩
  | false =>
    have hnm := greatV_name hg
    rw [hg] at cG
    clear hg
    have cN1 := Lib.hid (cN0.out hnm)
    clear cN0
    by_cases hf : (chkG e).2 = 0
    · obtain ⟨r, r1, r2, r3⟩ := fitsP_self hf
      obtain ⟨_, _, _, _, _, _, r4, r5⟩ := chkG_self hf
      have cN := Lib.hid (fun X hX => cN1.out X hX)
      rw [ruleN_name r4, r1] at cN
      have cF := Lib.hid (cF0.out (mkB r) (by omega))
      rw [mkB_list, r2] at cF
      rw [r3] at cR
      rw [hf] at cP
      have HKz : Hid (∀ k ∈ e.kids, (chkG k).2 = 0) := fun k hk => chkG_kid hk hf
      have hrv : ruleVal (some r) = (mkB r, true) := rfl
      rw [hrv] at cN
      clear cN1 cF0 r1 r2 r3 r4 r5 hf hnm hrv
      generalize mkB r = rb at *
      generalize (chkG e).1 = n at *
      obtain ⟨ks, hks⟩ : ∃ ks, e.kids = ks := ⟨_, rfl⟩
      rw [hks] at cKd HKs HKz HNm cP cG cR cF HBox ⊢
      generalize e.page = p at *
      generalize e.name = nm at *
      generalize e.text = tx at *
      generalize e.opq = o at *
      clear hks
      generalize hnk : ks.length = nk at *
      have HNK := Lib.hid hnk
      clear hnk
      go_enter Tryd.func6, Tryd.ntmps6
      go_wp2_with fail
      have cW := cKw.out _ HBox.out
      refine cW.mono ?_
      clear cW
      rintro r X ⟨rfl, hb1⟩
      have HX1 := Lib.hid (HBox.out.trans (hb1.mono HBox.out.size))
      obtain ⟨y0, y1, y2, y3, y4⟩ := y5_ofG (v0 := .int .i64 p) (v1 := .string nm) (v2 := .string tx) (v3 := .bool o) (v4 := .slice a nk c) (t := 46) (w := w) (X := X) (by simpa using hb1)
      have HZ1 : Hid (w.heap.size + 1 ≤ X.heap.size) := by unfold Hid; have := hb1.size; simpa using this
      have HBa : Hid (Below (w.heap.size + 1) (w.alloc (.cells #[.int .i64 p, .string nm, .string tx, .bool o, .slice a nk c] 46)) X) := by unfold Hid; simpa using hb1
      clear hb1
      go_wp2_with fail
      have cW := cG.out _ HX1.out
      refine cW.mono ?_
      clear cW
      rintro r X2 ⟨rfl, hb1⟩
      have HX2 := Lib.hid (HX1.out.trans (hb1.mono HX1.out.size))
      have HBb : Hid (Below (w.heap.size + 1) (w.alloc (.cells #[.int .i64 p, .string nm, .string tx, .bool o, .slice a nk c] 46)) X2) := HBa.out.trans (hb1.mono HZ1.out)
      have HZ2 := Lib.hid (Nat.le_trans HZ1.out hb1.size)
      clear hb1 y0 y1 y2 y3 y4 HBa
      obtain ⟨y0, y1, y2, y3, y4⟩ := y5_ofG HBb.out
      go_wp2_with fail
      have cW := cP.out _ HX2.out
      refine cW.mono ?_
      clear cW
      rintro r X3 ⟨rfl, hb1⟩
      have HX3 := Lib.hid (HX2.out.trans (hb1.mono HX2.out.size))
      have HBc : Hid (Below (w.heap.size + 1) (w.alloc (.cells #[.int .i64 p, .string nm, .string tx, .bool o, .slice a nk c] 46)) X3) := HBb.out.trans (hb1.mono HZ2.out)
      have HZ3 := Lib.hid (Nat.le_trans HZ2.out hb1.size)
      clear hb1 y0 y1 y2 y3 y4 HBb
      go_wp2_with fail
      go_loopw [5, 6, 7] (fun iv _ _ wr => ∃ i : Nat, i ≤ nk ∧ iv = .int .i64 (i : Int) ∧ Hid (Below w.heap.size w wr) ∧ Hid (Below (w.heap.size + 1) (w.alloc (.cells #[.int .i64 p, .string nm, .string tx, .bool o, .slice a nk c] 46)) wr) ∧ Hid (w.heap.size + 1 ≤ wr.heap.size)) (fun iv _ _ _ => nk - (intOf iv).toNat)
      case atStart => exact ⟨0, Nat.zero_le _, rfl, HX3.out, HBc.out, HZ3.out⟩
      case round =>
        obtain ⟨i, hi, rfl, HX, HB, HZ⟩ := hrel
        clear HX1 HX2 HX3 HBc HZ1 HZ2 HZ3
        obtain ⟨y0, y1, y2, y3, y4⟩ := y5_ofG HB.out
        by_cases hlt : i < nk
        · have j3 : (i : Int) < (nk : Int) := by omega
          have d3 : decide (i < nk) = true := by simp; omega
          have HMs : Hid (nk - (intOf (.int .i64 ((i : Int) + 1))).toNat < nk - (intOf (.int .i64 (i : Int))).toNat) := by unfold Hid; simp [intOf]; omega
          have HI1 : Hid (i + 1 ≤ nk) := hlt
          have hik : i < ks.length := by rw [HNK.out]; exact hlt
          obtain ⟨bb, oo, a', c', rfl, hrg, hat⟩ := kid_at2 HKs.out HX.out i hik
          obtain ⟨x0, x1, x2, x3, x4⟩ := elem_cells hrg
          have cI := cKd.out ks[i] (List.getElem_mem hik) _ wr HX.out hat
          have hw1 : wrap64 ((i : Int) + 1) = (i : Int) + 1 := by
            have h1 := HNm.out
            unfold Hid reachT at h1
            unfold wrap64; omega
          obtain ⟨qn, hqn⟩ : ∃ qn, (chkG ks[i]).1 = qn := ⟨_, rfl⟩
          rw [HKz.out ks[i] (List.getElem_mem hik), hqn] at cI
          clear hqn
          have CI := Lib.hid cI
          have HW1 := Lib.hid hw1
          clear cI hrg hat hw1
          generalize ks[i].page = kp at *
          generalize ks[i].name = kn at *
          generalize ks[i].text = kt at *
          generalize ks[i].opq = ko at *
          generalize ks[i].kids.length = kl at *
          clear hi hlt hik
          go_wp2_with fail
          have cW := CI.out
          refine cW.mono ?_
          clear cW
          rintro r X5 ⟨rfl, hb1⟩
          have HX5 := Lib.hid (HX.out.trans (hb1.mono HX.out.size))
          have HB5 : Hid (Below (w.heap.size + 1) (w.alloc (.cells #[.int .i64 p, .string nm, .string tx, .bool o, .slice (some ⟨bb, oo, none⟩) nk c] 46)) X5) := HB.out.trans (hb1.mono HZ.out)
          have HZ5 := Lib.hid (Nat.le_trans HZ.out hb1.size)
          clear hb1 y0 y1 y2 y3 y4 x0 x1 x2 x3 x4 HX HB HZ
          have hw1 := HW1.out
          go_wp2_with fail
          go_roundw
          case rel => exact ⟨i + 1, HI1.out, by go_num, HX5.out, HB5.out, HZ5.out⟩
          case measure => rw [HW1.out]; exact HMs.out
        · have j3 : ¬ (i : Int) < (nk : Int) := by omega
          clear hi hlt
          go_wp2_with fail
          have cW := cN.out _ HX.out
          refine cW.mono ?_
          clear cW
          rintro r X5 ⟨rfl, hb1⟩
          have HX5 := Lib.hid (HX.out.trans (hb1.mono HX.out.size))
          have HB5 : Hid (Below (w.heap.size + 1) (w.alloc (.cells #[.int .i64 p, .string nm, .string tx, .bool o, .slice a nk c] 46)) X5) := HB.out.trans (hb1.mono HZ.out)
          have HZ5 := Lib.hid (Nat.le_trans HZ.out hb1.size)
          clear hb1 y0 y1 y2 y3 y4 HX HB HZ
          obtain ⟨y0, y1, y2, y3, y4⟩ := y5_ofG HB5.out
          go_wp2_with fail
          have cW := cF.out _ HX5.out
          refine cW.mono ?_
          clear cW
          rintro r X6 ⟨rfl, hb1⟩
          have HX6 := Lib.hid (HX5.out.trans (hb1.mono HX5.out.size))
          have HB6 : Hid (Below (w.heap.size + 1) (w.alloc (.cells #[.int .i64 p, .string nm, .string tx, .bool o, .slice a nk c] 46)) X6) := HB5.out.trans (hb1.mono HZ5.out)
          clear hb1 y0 y1 y2 y3 y4 HX5 HB5 HZ5
          obtain ⟨y0, y1, y2, y3, y4⟩ := y5_ofG HB6.out
          go_wp2_with fail
          have cW := cR.out _ HX6.out
          refine cW.mono ?_
          clear cW
          rintro r X7 ⟨rfl, hb1⟩
          have HX7 := Lib.hid (HX6.out.trans (hb1.mono HX6.out.size))
          clear hb1 y0 y1 y2 y3 y4
          go_wp2_with fail
          go_ret
          exact ⟨rfl, HX7.out⟩
    · clear cF0
      obtain ⟨f, hff⟩ : ∃ f, (chkG e).2 = f := ⟨_, rfl⟩
      rw [hff] at cP hf
      have f1 : (f == 0) = false := beq_eq_false_iff_ne.2 hf
      have f2 : (f != 0) = true := by rw [bne, f1]; rfl
      have cN := Lib.hid (fun X hX => cN1.out X hX)
      generalize ruleVal (ruleN e.page e.name.data.toList) = RV at *
      obtain ⟨rb, bb0⟩ := RV
      simp only [] at cN
      clear cN1 hff hnm hf
      generalize (chkG e).1 = n at *
      obtain ⟨ks, hks⟩ : ∃ ks, e.kids = ks := ⟨_, rfl⟩
      rw [hks] at cKd HKs HNm cP cG cR HBox ⊢
      generalize e.page = p at *
      generalize e.name = nm at *
      generalize e.text = tx at *
      generalize e.opq = o at *
      clear hks
      generalize hnk : ks.length = nk at *
      have HNK := Lib.hid hnk
      clear hnk
      go_enter Tryd.func6, Tryd.ntmps6
      go_wp2_with fail
      have cW := cKw.out _ HBox.out
      refine cW.mono ?_
      clear cW
      rintro r X ⟨rfl, hb1⟩
      have HX1 := Lib.hid (HBox.out.trans (hb1.mono HBox.out.size))
      obtain ⟨y0, y1, y2, y3, y4⟩ := y5_ofG (v0 := .int .i64 p) (v1 := .string nm) (v2 := .string tx) (v3 := .bool o) (v4 := .slice a nk c) (t := 46) (w := w) (X := X) (by simpa using hb1)
      have HZ1 : Hid (w.heap.size + 1 ≤ X.heap.size) := by unfold Hid; have := hb1.size; simpa using this
      have HBa : Hid (Below (w.heap.size + 1) (w.alloc (.cells #[.int .i64 p, .string nm, .string tx, .bool o, .slice a nk c] 46)) X) := by unfold Hid; simpa using hb1
      clear hb1
      go_wp2_with fail
      have cW := cG.out _ HX1.out
      refine cW.mono ?_
      clear cW
      rintro r X2 ⟨rfl, hb1⟩
      have HX2 := Lib.hid (HX1.out.trans (hb1.mono HX1.out.size))
      have HBb : Hid (Below (w.heap.size + 1) (w.alloc (.cells #[.int .i64 p, .string nm, .string tx, .bool o, .slice a nk c] 46)) X2) := HBa.out.trans (hb1.mono HZ1.out)
      have HZ2 := Lib.hid (Nat.le_trans HZ1.out hb1.size)
      clear hb1 y0 y1 y2 y3 y4 HBa
      obtain ⟨y0, y1, y2, y3, y4⟩ := y5_ofG HBb.out
      go_wp2_with fail
      have cW := cP.out _ HX2.out
      refine cW.mono ?_
      clear cW
      rintro r X3 ⟨rfl, hb1⟩
      have HX3 := Lib.hid (HX2.out.trans (hb1.mono HX2.out.size))
      have HBc : Hid (Below (w.heap.size + 1) (w.alloc (.cells #[.int .i64 p, .string nm, .string tx, .bool o, .slice a nk c] 46)) X3) := HBb.out.trans (hb1.mono HZ2.out)
      have HZ3 := Lib.hid (Nat.le_trans HZ2.out hb1.size)
      clear hb1 y0 y1 y2 y3 y4 HBb
      go_wp2_with fail
      go_loopw [5, 6, 7] (fun iv _ _ wr => ∃ i : Nat, i ≤ nk ∧ iv = .int .i64 (i : Int) ∧ Hid (Below w.heap.size w wr) ∧ Hid (Below (w.heap.size + 1) (w.alloc (.cells #[.int .i64 p, .string nm, .string tx, .bool o, .slice a nk c] 46)) wr) ∧ Hid (w.heap.size + 1 ≤ wr.heap.size)) (fun iv _ _ _ => nk - (intOf iv).toNat)
      case atStart => exact ⟨0, Nat.zero_le _, rfl, HX3.out, HBc.out, HZ3.out⟩
      case round =>
        obtain ⟨i, hi, rfl, HX, HB, HZ⟩ := hrel
        clear HX1 HX2 HX3 HBc HZ1 HZ2 HZ3
        obtain ⟨y0, y1, y2, y3, y4⟩ := y5_ofG HB.out
        by_cases hlt : i < nk
        · have j3 : (i : Int) < (nk : Int) := by omega
          have d3 : decide (i < nk) = true := by simp; omega
          have HMs : Hid (nk - (intOf (.int .i64 ((i : Int) + 1))).toNat < nk - (intOf (.int .i64 (i : Int))).toNat) := by unfold Hid; simp [intOf]; omega
          have HI1 : Hid (i + 1 ≤ nk) := hlt
          have hik : i < ks.length := by rw [HNK.out]; exact hlt
          obtain ⟨bb, oo, a', c', rfl, hrg, hat⟩ := kid_at2 HKs.out HX.out i hik
          obtain ⟨x0, x1, x2, x3, x4⟩ := elem_cells hrg
          have cI := cKd.out ks[i] (List.getElem_mem hik) _ wr HX.out hat
          have hw1 : wrap64 ((i : Int) + 1) = (i : Int) + 1 := by
            have h1 := HNm.out
            unfold Hid reachT at h1
            unfold wrap64; omega
          generalize chkG ks[i] = qq at *
          obtain ⟨qn, qf⟩ := qq
          simp only [] at cI
          have CI := Lib.hid cI
          have HW1 := Lib.hid hw1
          clear cI hrg hat hw1
          generalize ks[i].page = kp at *
          generalize ks[i].name = kn at *
          generalize ks[i].text = kt at *
          generalize ks[i].opq = ko at *
          generalize ks[i].kids.length = kl at *
          clear hi hlt hik
          go_wp2_with fail
          have cW := CI.out
          refine cW.mono ?_
          clear cW
          rintro r X5 ⟨rfl, hb1⟩
          have HX5 := Lib.hid (HX.out.trans (hb1.mono HX.out.size))
          have HB5 : Hid (Below (w.heap.size + 1) (w.alloc (.cells #[.int .i64 p, .string nm, .string tx, .bool o, .slice (some ⟨bb, oo, none⟩) nk c] 46)) X5) := HB.out.trans (hb1.mono HZ.out)
          have HZ5 := Lib.hid (Nat.le_trans HZ.out hb1.size)
          clear hb1 y0 y1 y2 y3 y4 x0 x1 x2 x3 x4 HX HB HZ
          have hw1 := HW1.out
          go_wp2_with fail
          go_roundw
          case rel => exact ⟨i + 1, HI1.out, by go_num, HX5.out, HB5.out, HZ5.out⟩
          case measure => rw [HW1.out]; exact HMs.out
        · have j3 : ¬ (i : Int) < (nk : Int) := by omega
          clear hi hlt
          go_wp2_with fail
          have cW := cN.out _ HX.out
          refine cW.mono ?_
          clear cW
          rintro r X5 ⟨rfl, hb1⟩
          have HX5 := Lib.hid (HX.out.trans (hb1.mono HX.out.size))
          have HB5 : Hid (Below (w.heap.size + 1) (w.alloc (.cells #[.int .i64 p, .string nm, .string tx, .bool o, .slice a nk c] 46)) X5) := HB.out.trans (hb1.mono HZ.out)
          have HZ5 := Lib.hid (Nat.le_trans HZ.out hb1.size)
          clear hb1 y0 y1 y2 y3 y4 HX HB HZ
          go_wp2_with fail
          go_ret
          exact ⟨rfl, HX5.out⟩
set_option maxRecDepth 100000 in
theorem grammarWithin_law {H : Type} {enc : TypeId × Value → H} {W : World} (v : Value) (d : DataW H) (p : List MemPlace) (k : DataW.Trod enc Tryd.prog W 0 (fun _ => true) true 46 v d p) {base : Nat} (ok : Value.okWide Tryd.prog W .any base 46 v)
    (hz : ∀ q ∈ d.weights Tryd.prog 46, q ≤ reachBytes) (m : Int) (hT : TabG m W) : Calls Tryd.prog 6 #[v] W fun e w' => e = .returned (.bool true) ∧ Below W.heap.size W w' := by
  obtain ⟨e, he⟩ := elem_ofG k ok hz
  exact grammarWithin_walk e v W m he hT
end Go.Proofs.YtgechifbbhipaaaDoor
