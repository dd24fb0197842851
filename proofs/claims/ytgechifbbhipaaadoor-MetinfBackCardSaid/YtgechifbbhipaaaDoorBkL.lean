/- MetinfBack: the law's walk, and the law. No condition but the tables. -/
import Derived.Test.YtgechifbbhipaaaDoorBkW
import Derived.Test.YtgechifbbhipaaaDoorMeG
set_option linter.unusedVariables false
set_option linter.unusedSimpArgs false
namespace Go.Proofs.YtgechifbbhipaaaDoor
open Go.RowKit Go.Shelf

set_option maxHeartbeats 2000000 in
theorem run_neq23 (a0 a1 : ByteArray) (a2 a3 : Int) (a4 a5 a6 : ByteArray) (a7 a8 : Int) (w : World) : (binOp .neq 23 (.agg #[.string a0, .string a1, .int .i64 a2, .int .i64 a3, .string a4, .string a5, .string a6, .int .i64 a7, .int .i64 a8]) (.agg #[.string a0, .string a1, .int .i64 a2, .int .i64 a3, .string a4, .string a5, .string a6, .int .i64 a7, .int .i64 a8])).run Tryd.prog w = .ok (.bool false) w := by
  rw [run_neq_struct, run_equalIn_struct w _ 23 _ _ (by kernel_rfl) (by kernel_rfl)]
  simp [go_sem]
/-- the boxes of the two arguments -/
def StB (w : World) (mc ec : Array Value) (X : World) : Prop := Below w.heap.size w X ∧ X.heap[w.heap.size]? = some (.cells mc 23 (0, 0)) ∧ X.heap[w.heap.size + 1]? = some (.cells ec 46 (0, 0)) ∧ w.heap.size + 2 ≤ X.heap.size
theorem StB.below {w X Y : World} {mc ec : Array Value} (h : StB w mc ec X) (hb : Below X.heap.size X Y) : StB w mc ec Y := by
  obtain ⟨h1, h2, h3, h4⟩ := h
  exact ⟨h1.trans (hb.mono h1.size), (hb.block _ (by omega)).trans h2, (hb.block _ (by omega)).trans h3, Nat.le_trans h4 hb.size⟩
theorem StB.start (w : World) (mc ec : Array Value) : StB w mc ec ((w.alloc (.cells mc 23)).alloc (.cells ec 46)) := by
  refine ⟨((Below.refl _ w).alloc (Nat.le_refl _) _).alloc (by simp) _, (Below.heap_alloc _ _ _ (by simp)).trans (World.alloc_heap_new w _), ?_, by simp⟩
  have h := World.alloc_heap_new (w.alloc (.cells mc 23)) (.cells ec 46)
  rw [World.size_alloc] at h; exact h
theorem sameT_eq {a b : Tr} (h : a = b) : sameT 19 a b = true := by rw [h]; exact sameT_refl 19 b
theorem elem_small {m : MetV} (h : MayV m) : m.fo.size ≤ 1000000 ∧ m.ty.size ≤ 1000000 ∧ m.no.size ≤ 1000000 ∧ m.la.size ≤ 1000000 ∧ m.ne.size ≤ 1000000 := by
  obtain ⟨a, b, c, d, e, _⟩ := h
  omega
theorem i64_of {n : Int} (h : 0 ≤ n ∧ n ≤ 268435456) : -9223372036854775808 ≤ n ∧ n ≤ 9223372036854775807 := by omega
theorem of_may {e : Tr} {n : MetV} (h : ofV e = (n, 0)) : chkMV n = 0 := by
  unfold ofV at h
  split at h
  · have h5 : (5 : Int) = 0 := congrArg Prod.snd h
    exact absurd h5 (by decide)
  · split at h
    · rename_i hg
      exact absurd (congrArg Prod.snd h) hg
    · split at h
      · have h5 : (3 : Int) = 0 := congrArg Prod.snd h
        exact absurd h5 (by decide)
      · unfold sayV at h
        split at h
        · unfold endV at h
          split at h
          · rename_i hc
            have h6 : (foldV met0 e.kids).1 = n := congrArg Prod.fst h
            rw [← h6]; exact hc
          · rename_i hc
            exact absurd (congrArg Prod.snd h) hc
        · rename_i hz
          exact absurd (congrArg Prod.snd h) hz
/-- the program's Elem of a Meta that may be said -/
theorem elemV_any (n : MetV) (hm : MayV n) (w : World) (hT : Lib.Utf8Tabs 2 3 w) : Calls Tryd.prog 40 #[.agg n.cells] w fun r w' => (∃ v, r = .returned v ∧ AtT w' w'.heap.size (elemV n) v) ∧ Below w.heap.size w w' := by
  obtain ⟨s1, s2, s3, s4, s5⟩ := elem_small hm
  exact metElem_any n.fo n.ty n.sz n.ve n.la n.ne n.no n.mm n.mo s1 s2 s3 s4 s5 (i64_of hm.sz) (i64_of hm.ve) (i64_of hm.mm) (i64_of hm.mo) w hT

attribute [local go_sem] undef in
set_option maxRecDepth 100000 in
set_option maxHeartbeats 4000000 in
theorem metinfBack_walk (mv : MetV) (g1 : -9223372036854775808 ≤ mv.sz ∧ mv.sz ≤ 9223372036854775807) (g2 : -9223372036854775808 ≤ mv.ve ∧ mv.ve ≤ 9223372036854775807) (g3 : -9223372036854775808 ≤ mv.mm ∧ mv.mm ≤ 9223372036854775807) (g4 : -9223372036854775808 ≤ mv.mo ∧ mv.mo ≤ 9223372036854775807)
    (e : Tr) (v : Value) (w : World) (m : Int) (hv : AtT w w.heap.size e v) (hT : TabG m w) :
    Calls Tryd.prog 8 #[.agg mv.cells, v] w fun r w' => r = .returned (.bool true) ∧ Below w.heap.size w w' := by
  obtain ⟨hz1, hz2, hz3, a, c, rfl, hk⟩ := hv.parts
  have HT := Lib.hid (fun X (hX : Below w.heap.size w X) => hT.below hX)
  have cK := Lib.hid (fun X (hX : Below w.heap.size w X) => metWorks_any X m (hT.below hX))
  have cGm := Lib.hid (fun X => greatM_any mv.fo mv.ty mv.sz mv.ve mv.la mv.ne mv.no mv.mm mv.mo X)
  have cGe := Lib.hid (fun X (hX : Below w.heap.size w X) => great_any e _ X (AtT.mono hX.size _ _ (AtT.below hX _ _ hv)))
  have cC0 := Lib.hid (fun (hg : greatM mv.fo mv.ty mv.la mv.ne mv.no = false) X => refMet_any mv.fo mv.ty mv.sz mv.ve mv.la mv.ne mv.no mv.mm mv.mo (by simp [greatM] at hg; omega) (by simp [greatM] at hg; omega) (by simp [greatM] at hg; omega) (by simp [greatM] at hg; omega) (by simp [greatM] at hg; omega) X)
  have cE0 := Lib.hid (fun (h : chkMV mv = 0) X (hX : Below w.heap.size w X) => elemV_any mv (may_of h) X (hT.below hX).1)
  have cO1 := Lib.hid (fun (h : chkMV mv = 0) (u : Value) X (hX : Below w.heap.size w X) (hu : AtT X X.heap.size (elemV mv) u) => metOf_any (elemV mv) u X m hu (hT.below hX))
  have cO := Lib.hid (fun X (hX : Below w.heap.size w X) => metOf_any e _ X m (AtT.mono hX.size _ _ (AtT.below hX _ _ hv)) (hT.below hX))
  have cM : Hid ((ofV e).2 = 0 → (∀ X, Below w.heap.size w X → Calls Tryd.prog 40 #[.agg (ofV e).1.cells] X fun r w' => (∃ v, r = .returned v ∧ AtT w' w'.heap.size (elemV (ofV e).1) v) ∧ Below X.heap.size X w') ∧
      (∀ X (u : Value), Below w.heap.size w X → AtT X X.heap.size (elemV (ofV e).1) u → Calls Tryd.prog 22 #[u, .agg #[.int .i64 e.page, .string e.name, .string e.text, .bool e.opq, .slice a e.kids.length c]] X fun r w' => r = .returned (.bool true) ∧ Below X.heap.size X w')) := fun h => by
    have hR : ofV e = ((ofV e).1, 0) := Prod.ext rfl h
    refine ⟨fun X hX => elemV_any _ (may_of (of_may hR)) X (hT.below hX).1, fun X u hX hu => ?_⟩
    have h2 := same_any (elemV (ofV e).1) e u _ X hu (AtT.mono hX.size _ _ (AtT.below hX _ _ hv))
    rw [sameT_eq (back_elem hR)] at h2
    exact h2
  have hsay := fun h => elem_says (m := mv) h
  clear hv hT hk hz1 hz2 hz3
  generalize ofV e = R at *
  obtain ⟨⟨nfo, nty, nsz, nve, nla, nne, nno, nmm, nmo⟩, nf⟩ := R
  simp only [MetV.cells] at cO cM
  generalize elemV ⟨nfo, nty, nsz, nve, nla, nne, nno, nmm, nmo⟩ = NE at *
  obtain ⟨fo, ty, sz, ve, la, ne, no, mm, mo⟩ := mv
  simp only [MetV.cells] at cE0 cGm cC0 g1 g2 g3 g4 ⊢
  have hck : chkMV ⟨fo, ty, sz, ve, la, ne, no, mm, mo⟩ = chkM fo ty sz ve la ne no mm mo := rfl
  rw [hck] at cE0 cO1 hsay
  clear hck
  generalize hme : elemV ⟨fo, ty, sz, ve, la, ne, no, mm, mo⟩ = ME at *
  clear hme
  generalize greatV e = ge at *
  generalize e.page = ep at *
  generalize e.name = en at *
  generalize e.text = et at *
  generalize e.opq = eo at *
  generalize e.kids.length = nk at *
  generalize greatM fo ty la ne no = gm at *
  generalize chkM fo ty sz ve la ne no mm mo = ck at *
  have H0 := Lib.hid (StB.start w #[.string fo, .string ty, .int .i64 sz, .int .i64 ve, .string la, .string ne, .string no, .int .i64 mm, .int .i64 mo] #[.int .i64 ep, .string en, .string et, .bool eo, .slice a nk c])
  have hq := fun w => run_neq23 fo ty sz ve la ne no mm mo w
  go_enter Tryd.func8, Tryd.ntmps8
  go_wp2_with fail
  refine (cK.out _ H0.out.1).mono ?_
  rintro r X1 ⟨rfl, hb⟩
  have H1 := Lib.hid (H0.out.below hb)
  clear hb
  have u0 := cell_block H1.out.2.1 0 _ rfl
  have u1 := cell_block H1.out.2.1 1 _ rfl
  have u2 := cell_block H1.out.2.1 2 _ rfl
  have u3 := cell_block H1.out.2.1 3 _ rfl
  have u4 := cell_block H1.out.2.1 4 _ rfl
  have u5 := cell_block H1.out.2.1 5 _ rfl
  have u6 := cell_block H1.out.2.1 6 _ rfl
  have u7 := cell_block H1.out.2.1 7 _ rfl
  have u8 := cell_block H1.out.2.1 8 _ rfl
  have y0 := cell_block H1.out.2.2.1 0 _ rfl
  have y1 := cell_block H1.out.2.2.1 1 _ rfl
  have y2 := cell_block H1.out.2.2.1 2 _ rfl
  have y3 := cell_block H1.out.2.2.1 3 _ rfl
  have y4 := cell_block H1.out.2.2.1 4 _ rfl
  cases gm with
  | true =>
    go_wp2_with fail
    refine (cGm.out _).mono ?_
    rintro r X2 ⟨rfl, hb⟩
    have H2 := Lib.hid (H1.out.below hb)
    clear hb
    go_wp2_with fail
    go_ret
    exact ⟨rfl, H2.out.1⟩
  | false =>
    have cC := Lib.hid (cC0.out rfl)
    clear cC0
    go_wp2_with fail
    refine (cGm.out _).mono ?_
    rintro r X2 ⟨rfl, hb⟩
    have H2 := Lib.hid (H1.out.below hb)
    clear hb
    clear u0 u1 u2 u3 u4 u5 u6 u7 u8
    clear y0 y1 y2 y3 y4
    have u0 := cell_block H2.out.2.1 0 _ rfl
    have u1 := cell_block H2.out.2.1 1 _ rfl
    have u2 := cell_block H2.out.2.1 2 _ rfl
    have u3 := cell_block H2.out.2.1 3 _ rfl
    have u4 := cell_block H2.out.2.1 4 _ rfl
    have u5 := cell_block H2.out.2.1 5 _ rfl
    have u6 := cell_block H2.out.2.1 6 _ rfl
    have u7 := cell_block H2.out.2.1 7 _ rfl
    have u8 := cell_block H2.out.2.1 8 _ rfl
    have y0 := cell_block H2.out.2.2.1 0 _ rfl
    have y1 := cell_block H2.out.2.2.1 1 _ rfl
    have y2 := cell_block H2.out.2.2.1 2 _ rfl
    have y3 := cell_block H2.out.2.2.1 3 _ rfl
    have y4 := cell_block H2.out.2.2.1 4 _ rfl
    go_wp2_with fail
    refine (cGe.out _ H2.out.1).mono ?_
    rintro r X3 ⟨rfl, hb⟩
    have H3 := Lib.hid (H2.out.below hb)
    clear hb
    clear u0 u1 u2 u3 u4 u5 u6 u7 u8
    clear y0 y1 y2 y3 y4
    have u0 := cell_block H3.out.2.1 0 _ rfl
    have u1 := cell_block H3.out.2.1 1 _ rfl
    have u2 := cell_block H3.out.2.1 2 _ rfl
    have u3 := cell_block H3.out.2.1 3 _ rfl
    have u4 := cell_block H3.out.2.1 4 _ rfl
    have u5 := cell_block H3.out.2.1 5 _ rfl
    have u6 := cell_block H3.out.2.1 6 _ rfl
    have u7 := cell_block H3.out.2.1 7 _ rfl
    have u8 := cell_block H3.out.2.1 8 _ rfl
    cases ge with
    | true =>
      go_wp2_with fail
      go_ret
      exact ⟨rfl, H3.out.1⟩
    | false =>
      go_wp2_with fail
      refine (cC.out _).mono ?_
      rintro r X4 ⟨rfl, hb⟩
      have H4 := Lib.hid (H3.out.below hb)
      clear hb
      clear u0 u1 u2 u3 u4 u5 u6 u7 u8
      have u0 := cell_block H4.out.2.1 0 _ rfl
      have u1 := cell_block H4.out.2.1 1 _ rfl
      have u2 := cell_block H4.out.2.1 2 _ rfl
      have u3 := cell_block H4.out.2.1 3 _ rfl
      have u4 := cell_block H4.out.2.1 4 _ rfl
      have u5 := cell_block H4.out.2.1 5 _ rfl
      have u6 := cell_block H4.out.2.1 6 _ rfl
      have u7 := cell_block H4.out.2.1 7 _ rfl
      have u8 := cell_block H4.out.2.1 8 _ rfl
      cases hc : decide (ck = 0) with
      | false =>
        have hc0 : ck ≠ 0 := of_decide_eq_false hc
        have q8 : (ck == 0) = false := by rw [beq_eq_false_iff_ne]; exact hc0
        clear hc hc0 u0 u1 u2 u3 u4 u5 u6 u7 u8
        have y0 := cell_block H4.out.2.2.1 0 _ rfl
        have y1 := cell_block H4.out.2.2.1 1 _ rfl
        have y2 := cell_block H4.out.2.2.1 2 _ rfl
        have y3 := cell_block H4.out.2.2.1 3 _ rfl
        have y4 := cell_block H4.out.2.2.1 4 _ rfl
        go_wp2_with fail
        refine (cO.out _ H4.out.1).mono ?_
        rintro r Y1 ⟨rfl, hb⟩
        have T1 := Lib.hid (H4.out.below hb)
        clear hb
        clear y0 y1 y2 y3 y4
        have T2 : Hid (StB w #[.string fo, .string ty, .int .i64 sz, .int .i64 ve, .string la, .string ne, .string no, .int .i64 mm, .int .i64 mo] #[.int .i64 ep, .string en, .string et, .bool eo, .slice a nk c] (Y1.alloc (.cells #[.string nfo, .string nty, .int .i64 nsz, .int .i64 nve, .string nla, .string nne, .string nno, .int .i64 nmm, .int .i64 nmo] 23))) := T1.out.below ((Below.refl _ Y1).alloc (Nat.le_refl _) _)
        cases hf : decide (nf = 0) with
        | false =>
          have hf0 : nf ≠ 0 := of_decide_eq_false hf
          have q9 : (nf != 0) = true := bne_iff_ne.2 hf0
          clear hf hf0
          go_wp2_with fail
          first | (go_region_with fail) | fail "x"
          all_goals (go_wp2_with fail; go_ret; exact ⟨rfl, T2.out.1.drew⟩)
        | true =>
          have hf0 : nf = 0 := of_decide_eq_true hf
          obtain ⟨hm, hs⟩ := cM.out hf0
          have CE := Lib.hid hm
          have CS := Lib.hid hs
          have q9 : (nf != 0) = false := by rw [hf0]; rfl
          clear hf hf0 hm hs
          have y0 := cell_block T2.out.2.2.1 0 _ rfl
          have y1 := cell_block T2.out.2.2.1 1 _ rfl
          have y2 := cell_block T2.out.2.2.1 2 _ rfl
          have y3 := cell_block T2.out.2.2.1 3 _ rfl
          have y4 := cell_block T2.out.2.2.1 4 _ rfl
          have T2d : Hid (StB w #[.string fo, .string ty, .int .i64 sz, .int .i64 ve, .string la, .string ne, .string no, .int .i64 mm, .int .i64 mo] #[.int .i64 ep, .string en, .string et, .bool eo, .slice a nk c] (Y1.alloc (.cells #[.string nfo, .string nty, .int .i64 nsz, .int .i64 nve, .string nla, .string nne, .string nno, .int .i64 nmm, .int .i64 nmo] 23)).drew) := T2.out.below ((Below.refl _ _).drew)
          have TB2 := Lib.hid T2d.out.1
          go_wp2_with fail
          first | (go_region_with (first | (go_at_call 22; (with_reducible refine (CS.out _ v3 TB3.out HAT3.out).mono ?_); rintro r Y4 ⟨rfl, hb4⟩) | (go_at_call 40; (with_reducible refine (CE.out _ TB2.out).mono ?_); rintro r Y3 ⟨⟨v3, rfl, hat3⟩, hb3⟩; have T3 := Lib.hid (T2d.out.below hb3); have TB3 := Lib.hid T3.out.1; have HAT3 := Lib.hid hat3; clear hb3 hat3; have y0 := cell_block T3.out.2.2.1 0 _ rfl; have y1 := cell_block T3.out.2.2.1 1 _ rfl; have y2 := cell_block T3.out.2.2.1 2 _ rfl; have y3 := cell_block T3.out.2.2.1 3 _ rfl; have y4 := cell_block T3.out.2.2.1 4 _ rfl))) | fail "x"
          all_goals (go_wp2_with fail; go_ret; exact ⟨rfl, T3.out.1.trans (hb4.mono T3.out.1.size)⟩)
      | true =>
        have hc0 : ck = 0 := of_decide_eq_true hc
        have cE := Lib.hid (cE0.out hc0)
        have cP := Lib.hid (cO1.out hc0)
        rw [hsay hc0] at cP
        simp only [MetV.cells] at cP
        subst hc0
        clear cE0 cO1 hsay hc
        go_wp2_with fail
        refine (cE.out _ H4.out.1).mono ?_
        rintro r X5 ⟨⟨v5, rfl, hat⟩, hb⟩
        have H5 := Lib.hid (H4.out.below hb)
        have HAT := Lib.hid hat
        clear hb hat
        clear u0 u1 u2 u3 u4 u5 u6 u7 u8
        go_wp2_with fail
        refine (cP.out v5 _ H5.out.1 HAT.out).mono ?_
        rintro r X6 ⟨rfl, hb⟩
        have H6 := Lib.hid (H5.out.below hb)
        clear hb
        have H7 : Hid (StB w #[.string fo, .string ty, .int .i64 sz, .int .i64 ve, .string la, .string ne, .string no, .int .i64 mm, .int .i64 mo] #[.int .i64 ep, .string en, .string et, .bool eo, .slice a nk c] (X6.alloc (.cells #[.string fo, .string ty, .int .i64 sz, .int .i64 ve, .string la, .string ne, .string no, .int .i64 mm, .int .i64 mo] 23))) := H6.out.below ((Below.refl _ X6).alloc (Nat.le_refl _) _)
        have u0 := cell_block H7.out.2.1 0 _ rfl
        have u1 := cell_block H7.out.2.1 1 _ rfl
        have u2 := cell_block H7.out.2.1 2 _ rfl
        have u3 := cell_block H7.out.2.1 3 _ rfl
        have u4 := cell_block H7.out.2.1 4 _ rfl
        have u5 := cell_block H7.out.2.1 5 _ rfl
        have u6 := cell_block H7.out.2.1 6 _ rfl
        have u7 := cell_block H7.out.2.1 7 _ rfl
        have u8 := cell_block H7.out.2.1 8 _ rfl
        have y0 := cell_block H7.out.2.2.1 0 _ rfl
        have y1 := cell_block H7.out.2.2.1 1 _ rfl
        have y2 := cell_block H7.out.2.2.1 2 _ rfl
        have y3 := cell_block H7.out.2.2.1 3 _ rfl
        have y4 := cell_block H7.out.2.2.1 4 _ rfl
        go_wp2_with fail
        clear u0 u1 u2 u3 u4 u5 u6 u7 u8

        refine (cO.out _ H7.out.1).mono ?_
        rintro r Y1 ⟨rfl, hb⟩
        have T1 := Lib.hid (H7.out.below hb)
        clear hb
        clear y0 y1 y2 y3 y4
        have T2 : Hid (StB w #[.string fo, .string ty, .int .i64 sz, .int .i64 ve, .string la, .string ne, .string no, .int .i64 mm, .int .i64 mo] #[.int .i64 ep, .string en, .string et, .bool eo, .slice a nk c] (Y1.alloc (.cells #[.string nfo, .string nty, .int .i64 nsz, .int .i64 nve, .string nla, .string nne, .string nno, .int .i64 nmm, .int .i64 nmo] 23))) := T1.out.below ((Below.refl _ Y1).alloc (Nat.le_refl _) _)
        cases hf : decide (nf = 0) with
        | false =>
          have hf0 : nf ≠ 0 := of_decide_eq_false hf
          have q9 : (nf != 0) = true := bne_iff_ne.2 hf0
          clear hf hf0
          go_wp2_with fail
          first | (go_region_with fail) | fail "x"
          all_goals (go_wp2_with fail; go_ret; exact ⟨rfl, T2.out.1.drew⟩)
        | true =>
          have hf0 : nf = 0 := of_decide_eq_true hf
          obtain ⟨hm, hs⟩ := cM.out hf0
          have CE := Lib.hid hm
          have CS := Lib.hid hs
          have q9 : (nf != 0) = false := by rw [hf0]; rfl
          clear hf hf0 hm hs
          have y0 := cell_block T2.out.2.2.1 0 _ rfl
          have y1 := cell_block T2.out.2.2.1 1 _ rfl
          have y2 := cell_block T2.out.2.2.1 2 _ rfl
          have y3 := cell_block T2.out.2.2.1 3 _ rfl
          have y4 := cell_block T2.out.2.2.1 4 _ rfl
          have T2d : Hid (StB w #[.string fo, .string ty, .int .i64 sz, .int .i64 ve, .string la, .string ne, .string no, .int .i64 mm, .int .i64 mo] #[.int .i64 ep, .string en, .string et, .bool eo, .slice a nk c] (Y1.alloc (.cells #[.string nfo, .string nty, .int .i64 nsz, .int .i64 nve, .string nla, .string nne, .string nno, .int .i64 nmm, .int .i64 nmo] 23)).drew) := T2.out.below ((Below.refl _ _).drew)
          have TB2 := Lib.hid T2d.out.1
          go_wp2_with fail
          first | (go_region_with (first | (go_at_call 22; (with_reducible refine (CS.out _ v3 TB3.out HAT3.out).mono ?_); rintro r Y4 ⟨rfl, hb4⟩) | (go_at_call 40; (with_reducible refine (CE.out _ TB2.out).mono ?_); rintro r Y3 ⟨⟨v3, rfl, hat3⟩, hb3⟩; have T3 := Lib.hid (T2d.out.below hb3); have TB3 := Lib.hid T3.out.1; have HAT3 := Lib.hid hat3; clear hb3 hat3; have y0 := cell_block T3.out.2.2.1 0 _ rfl; have y1 := cell_block T3.out.2.2.1 1 _ rfl; have y2 := cell_block T3.out.2.2.1 2 _ rfl; have y3 := cell_block T3.out.2.2.1 3 _ rfl; have y4 := cell_block T3.out.2.2.1 4 _ rfl))) | fail "x"
          all_goals (go_wp2_with fail; go_ret; exact ⟨rfl, T3.out.1.trans (hb4.mono T3.out.1.size)⟩)

theorem list9 {α : Type} {l : List α} (h : l.length = 9) : ∃ a b c d e f g i j, l = [a, b, c, d, e, f, g, i, j] := by
  match l, h with
  | [a, b, c, d, e, f, g, i, j], _ => exact ⟨a, b, c, d, e, f, g, i, j, rfl⟩
theorem cellsOf23 : Tryd.prog.cellsOf 23 = 9 := by kernel_rfl
set_option maxRecDepth 100000 in
/-- an argument that is a Meta -/
theorem open_meta {H : Type} {enc : TypeId × Value → H} {W : World} (v : Value) (d : DataW H) (p : List MemPlace) (k : DataW.Trod enc Tryd.prog W 0 (fun _ => true) true 23 v d p) {base : Nat} (ok : Value.okWide Tryd.prog W .any base 23 v) :
    ∃ m : MetV, v = .agg m.cells ∧ (-9223372036854775808 ≤ m.sz ∧ m.sz ≤ 9223372036854775807) ∧ (-9223372036854775808 ≤ m.ve ∧ m.ve ≤ 9223372036854775807) ∧ (-9223372036854775808 ≤ m.mm ∧ m.mm ≤ 9223372036854775807) ∧ (-9223372036854775808 ≤ m.mo ∧ m.mo ≤ 9223372036854775807) := by
  obtain ⟨cs, rfl, hsz⟩ := Go.WideShapes.okWide_struct Tryd.underlying23 ok
  obtain ⟨fuel, h⟩ := k
  obtain ⟨xs, n, hn, hx, hlen, hxl, hy⟩ := DataW.trod_struct Tryd.underlying23 h
  obtain ⟨cl⟩ := cs
  rw [cellsOf23] at hlen
  obtain ⟨c0, c1, c2, c3, c4, c5, c6, c7, c8, rfl⟩ := list9 (show cl.length = 9 from hlen)
  obtain ⟨x0, x1, x2, x3, x4, x5, x6, x7, x8, rfl⟩ := list9 (show xs.length = 9 from hxl)
  have g0 : DataW.trod enc Tryd.prog W 0 (fun _ => true) true n 9 [c0] = some x0 := (hy 0 _ rfl).trans rfl
  have g1 : DataW.trod enc Tryd.prog W 0 (fun _ => true) true n 9 [c1] = some x1 := (hy 1 _ rfl).trans rfl
  have g2 : DataW.trod enc Tryd.prog W 0 (fun _ => true) true n 3 [c2] = some x2 := (hy 2 _ rfl).trans rfl
  have g3 : DataW.trod enc Tryd.prog W 0 (fun _ => true) true n 3 [c3] = some x3 := (hy 3 _ rfl).trans rfl
  have g4 : DataW.trod enc Tryd.prog W 0 (fun _ => true) true n 9 [c4] = some x4 := (hy 4 _ rfl).trans rfl
  have g5 : DataW.trod enc Tryd.prog W 0 (fun _ => true) true n 9 [c5] = some x5 := (hy 5 _ rfl).trans rfl
  have g6 : DataW.trod enc Tryd.prog W 0 (fun _ => true) true n 9 [c6] = some x6 := (hy 6 _ rfl).trans rfl
  have g7 : DataW.trod enc Tryd.prog W 0 (fun _ => true) true n 3 [c7] = some x7 := (hy 7 _ rfl).trans rfl
  have g8 : DataW.trod enc Tryd.prog W 0 (fun _ => true) true n 3 [c8] = some x8 := (hy 8 _ rfl).trans rfl
  obtain ⟨fo, e0, f0, _⟩ := DataW.trod_string Tryd.underlying9 g0
  obtain ⟨ty, e1, f1, _⟩ := DataW.trod_string Tryd.underlying9 g1
  obtain ⟨sz, e2, f2, b2⟩ := DataW.trod_int Tryd.underlying3 g2
  obtain ⟨ve, e3, f3, b3⟩ := DataW.trod_int Tryd.underlying3 g3
  obtain ⟨la, e4, f4, _⟩ := DataW.trod_string Tryd.underlying9 g4
  obtain ⟨ne, e5, f5, _⟩ := DataW.trod_string Tryd.underlying9 g5
  obtain ⟨no, e6, f6, _⟩ := DataW.trod_string Tryd.underlying9 g6
  obtain ⟨mm, e7, f7, b7⟩ := DataW.trod_int Tryd.underlying3 g7
  obtain ⟨mo, e8, f8, b8⟩ := DataW.trod_int Tryd.underlying3 g8
  simp only [List.cons.injEq, and_true] at e0 e1 e2 e3 e4 e5 e6 e7 e8
  subst e0 e1 e2 e3 e4 e5 e6 e7 e8
  exact ⟨⟨fo, ty, sz, ve, la, ne, no, mm, mo⟩, rfl, wf_i64 b2, wf_i64 b3, wf_i64 b7, wf_i64 b8⟩
set_option maxRecDepth 100000 in
theorem metinfBack_law {H : Type} {enc : TypeId × Value → H} {W : World} (v0 v1 : Value) (d0 d1 : DataW H) (p0 p1 : List MemPlace) (k0 : DataW.Trod enc Tryd.prog W 0 (fun _ => true) true 23 v0 d0 p0) (k1 : DataW.Trod enc Tryd.prog W 0 (fun _ => true) true 46 v1 d1 p1) {base : Nat} (ok0 : Value.okWide Tryd.prog W .any base 23 v0) (ok1 : Value.okWide Tryd.prog W .any base 46 v1)
    (hz : ∀ q ∈ d1.weights Tryd.prog 46, q ≤ reachBytes) (m : Int) (hT : TabG m W) : Calls Tryd.prog 8 #[v0, v1] W fun e w' => e = .returned (.bool true) ∧ Below W.heap.size W w' := by
  obtain ⟨mv, rfl, g1, g2, g3, g4⟩ := open_meta v0 d0 p0 k0 ok0
  obtain ⟨e, he⟩ := elem_ofG k1 ok1 hz
  exact metinfBack_walk mv g1 g2 g3 g4 e v1 W m he hT
end Go.Proofs.YtgechifbbhipaaaDoor
