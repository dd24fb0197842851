/- grammar: GrammarTells' walk and law. No condition but the tables. -/
import Derived.Test.YtgechifbbhipaaaDoorGrX
set_option linter.unusedVariables false
set_option linter.unusedSimpArgs false
namespace Go.Proofs.YtgechifbbhipaaaDoor
open Go.RowKit Go.Shelf Go.ChangeShapes Go.WideShapes
open Go.ChangeMaps (open_string)

set_option maxRecDepth 100000 in
theorem open_kids {H : Type} {enc : TypeId × Value → H} {W : World} (n : Nat) (c4 : Value) (x4 : DataW H × List MemPlace) (g4 : DataW.trod enc Tryd.prog W 0 (fun _ => true) true n 44 [c4] = some x4)
    (hw1 : ∀ q ∈ x4.1.weights Tryd.prog 44, q ≤ reachBytes) : ∃ (ks : List Tr) (a : Option Addr) (c : Nat), c4 = .slice a ks.length c ∧ ks.length ≤ reachT ∧ AtL W W.heap.size a 0 ks ∧ (a = none → ks.length = 0 ∧ c = 0) ∧ ks.length ≤ c := by
  rcases DataW.trod_slice Tryd.underlying44 g4 with ⟨e4, _⟩ | ⟨ad, len, cap, elems, rest, m, rfl, e4, f4, _, hlc, _, hel, hi, _, _⟩
  · simp only [List.cons.injEq, and_true] at e4
    subst e4
    exact ⟨[], none, 0, rfl, by decide, by unfold AtL; trivial, fun _ => ⟨rfl, rfl⟩, Nat.le_refl _⟩
  · simp only [List.cons.injEq, and_true] at e4
    subst e4 f4
    simp only [DataW.weights, Tryd.underlying44, List.length_map] at hw1
    have hlen2 : len ≤ reachT := by
      have h9 := hw1 ((elems.length + rest.length) * Tryd.prog.bytesOf 46) (List.mem_cons_self)
      have hb := bytesOf24
      have : elems.length + rest.length ≤ (elems.length + rest.length) * Tryd.prog.bytesOf 46 := Nat.le_mul_of_pos_right _ hb
      simp only [reachBytes] at h9; simp only [reachT]; omega
    rw [cellsOf24] at hi
    have hex : ∀ i, i < len → ∃ e : Tr, ∃ cs : List Value, Tryd.prog.cellsOf 46 = 5 ∧ W.cells? 0 (ad.add (i * 5)) 5 = some cs ∧ AtT W W.heap.size e (.agg cs.toArray) := fun i hil => by
      have h1 := hi i hil
      have h2 : elems[i]? = some elems[i] := List.getElem?_eq_getElem (by omega)
      rw [h2] at h1
      obtain ⟨cs', h3, h4⟩ := Option.bind_eq_some_iff.1 h1
      obtain ⟨e, he⟩ := open_tr m cs' _ h4 (fun q hq => hw1 q (List.mem_cons_of_mem _ (List.mem_append.2 (.inl (weightsAll_mem (P := Tryd.prog) (e := 46) (l := elems.map (·.1)) (List.mem_map.2 ⟨elems[i], List.getElem_mem _, rfl⟩) q hq)))))
      exact ⟨e, cs', cellsOf24, h3, he⟩
    obtain ⟨ks, hkl, hks⟩ := exists_list len hex
    refine ⟨ks, some ad, cap, by rw [hkl], by rw [hkl]; exact hlen2, ?_, fun h => (by cases h), by rw [hkl]; exact hlc⟩
    by_cases h0 : ks.length = 0
    · rw [List.eq_nil_of_length_eq_zero h0]; unfold AtL; trivial
    · obtain ⟨b, o2, sp⟩ := ad
      obtain ⟨cs0, _, hc0, _⟩ := hks 0 (by omega)
      obtain ⟨_, hl0, hget0⟩ := World.cells?_some hc0
      have c00 := hget0 0 (by decide)
      obtain ⟨v0, hv0⟩ : ∃ v0, cs0[0]? = some v0 := ⟨cs0[0], List.getElem?_eq_getElem (by omega)⟩
      rw [hv0] at c00
      obtain rfl : sp = none := by simpa [Addr.add] using World.cell?_spot c00
      refine atL_of (World.block_lt_of_cell? _ _ c00) ks 0 fun j hj => ?_
      obtain ⟨cs, _, hc, hat⟩ := hks j hj
      obtain ⟨_, hl, hget⟩ := World.cells?_some hc
      refine ⟨cs, fun k v hv => ?_, hat⟩
      have hk5 : k < 5 := by have := (List.getElem?_eq_some_iff.1 hv).1; omega
      have := hget k hk5
      rw [addr_addT, addr_addT, hv] at this
      rw [Nat.zero_add]
      exact this


theorem preL_ge {m d : Nat} (h : ¬ m < d) : ∀ ks : List Tr, ks.length ≤ (preL m d ks).length
  | [] => by simp
  | k :: ks => by
    have ih := preL_ge h ks
    rw [preL, List.length_append, preT_in h, List.length_cons, List.length_cons]
    omega
theorem greatV_kids {e : Tr} (h : greatV e = false) : e.kids.length ≤ 3000 := by
  unfold greatV at h
  rw [Bool.or_eq_false_iff] at h
  have h1 := h.2
  simp only [decide_eq_false_iff_not, Nat.not_le, List.length_take] at h1
  have h2 := preL_ge (m := 60) (d := 2) (by omega) e.kids
  have h3 : (preT 60 1 e).length = (preL 60 2 e.kids).length + 1 := by rw [preT_in (by omega), List.length_cons]
  omega
theorem eqb (b : Bool) : (b == b) = true := by cases b <;> rfl
theorem eqs (s : ByteArray) : (s.toList == s.toList) = true := by simp

set_option maxRecDepth 100000 in
set_option maxHeartbeats 1000000 in
theorem grammarTells_walk (pg : Int) (nm : ByteArray) (ks : List Tr) (a : Option Addr) (c : Nat) (w : World) (m : Int) (hnm : nm.size ≤ 140737488355328) (hkl : ks.length ≤ reachT) (hk : AtL w w.heap.size a 0 ks) (hcap : ks.length ≤ c) (hT : TabG m w) :
    Calls Tryd.prog 5 #[.int .i64 pg, .string nm, .slice a ks.length c] w fun r w' => r = .returned (.bool true) ∧ Below w.heap.size w w' := by
  have hv : AtT w w.heap.size (.mk 0 ByteArray.empty ByteArray.empty false ks) (.agg #[.int .i64 0, .string ByteArray.empty, .string ByteArray.empty, .bool false, .slice a ks.length c]) := by
    unfold AtT
    exact ⟨by decide, by decide, hkl, a, c, rfl, hk, hcap⟩
  have cG := Lib.hid (great_any _ _ w hv)
  have cN := Lib.hid (fun X (hX : Below w.heap.size w X) => ruleN_any pg nm hnm m X (hT.below hX).2.1)
  have cM := Lib.hid (fun X (_ : Below w.heap.size w X) => refRule_any pg nm X)
  have cF0 := Lib.hid (fun (s : ByteArray) (h1 : ks.length ≤ 3000) X (hX : Below w.heap.size w X) => fitsP_any pg s ks a c w.heap.size m X hX.size (AtL.below hX a ks 0 hk) h1 hcap (hT.below hX))
  have cR0 := Lib.hid (fun (s : ByteArray) (h1 : ks.length ≤ 3000) X (hX : Below w.heap.size w X) => refFitsP_any pg s ks a c w.heap.size X hX.size (AtL.below hX a ks 0 hk) h1)
  rw [ruleM_eq pg nm] at cN
  generalize ruleVal (ruleM pg nm) = RV at *
  obtain ⟨R, bo⟩ := RV
  clear hk hcap hT hv hnm hkl
  cases hg : greatV (.mk 0 ByteArray.empty ByteArray.empty false ks) with
  | true =>
    rw [hg] at cG
    clear hg
    generalize ks.length = nk at *
    go_enter Tryd.func5, Tryd.ntmps5
    go_wp2_with fail
    have cW := cG.out
    refine cW.mono ?_
    rintro r X ⟨rfl, hb1⟩
    go_wp2_with fail
    go_ret
    exact ⟨rfl, hb1⟩
  | false =>
    have hkl := greatV_kids hg
    have cF := Lib.hid (fun s X hX => cF0.out s hkl X hX)
    have cR := Lib.hid (fun s X hX => cR0.out s hkl X hX)
    rw [hg] at cG
    clear hg hkl cF0 cR0
    have hRR := eqs R
    have hbb := eqb bo
    have cF1 := Lib.hid (cF.out R)
    have cF2 := Lib.hid (cF.out nm)
    have cR1 := Lib.hid (cR.out R)
    have cR2 := Lib.hid (cR.out nm)
    clear cF cR
    generalize fitsP pg R.data.toList ks = B1 at *
    generalize fitsP pg nm.data.toList ks = B2 at *
    have hb1 := eqb B1
    have hb2 := eqb B2
    generalize ks.length = nk at *
    simp only [] at cN cM
    go_enter Tryd.func5, Tryd.ntmps5
    go_wp2_with fail
    have cW := cG.out
    refine cW.mono ?_
    clear cW
    rintro r X ⟨rfl, hx⟩
    have HX := Lib.hid hx
    clear hx
    go_wp2_with fail
    have cW := cN.out _ HX.out
    refine cW.mono ?_
    clear cW
    rintro r X1 ⟨rfl, hx⟩
    have HX1 := Lib.hid (HX.out.trans (hx.mono HX.out.size))
    clear hx
    go_wp2_with fail
    have cW := cM.out _ HX1.out
    refine cW.mono ?_
    clear cW
    rintro r X2 ⟨rfl, hx⟩
    have HX2 := Lib.hid (HX1.out.trans (hx.mono HX1.out.size))
    clear hx
    go_wp2_with fail
    have cW := cF1.out _ HX2.out
    refine cW.mono ?_
    clear cW
    rintro r X3 ⟨rfl, hx⟩
    have HX3 := Lib.hid (HX2.out.trans (hx.mono HX2.out.size))
    clear hx
    go_wp2_with fail
    have cW := cR1.out _ HX3.out
    refine cW.mono ?_
    clear cW
    rintro r X4 ⟨rfl, hx⟩
    have HX4 := Lib.hid (HX3.out.trans (hx.mono HX3.out.size))
    clear hx
    go_wp2_with fail
    have cW := cF2.out _ HX4.out
    refine cW.mono ?_
    clear cW
    rintro r X5 ⟨rfl, hx⟩
    have HX5 := Lib.hid (HX4.out.trans (hx.mono HX4.out.size))
    clear hx
    go_wp2_with fail
    have cW := cR2.out _ HX5.out
    refine cW.mono ?_
    clear cW
    rintro r X6 ⟨rfl, hx⟩
    have HX6 := Lib.hid (HX5.out.trans (hx.mono HX5.out.size))
    clear hx
    go_wp2_with fail
    go_ret
    exact ⟨rfl, HX6.out⟩

set_option maxRecDepth 100000 in
theorem grammarTells_law {H : Type} {enc : TypeId × Value → H} {W : World} (v0 v1 v2 : Value) (d0 d1 d2 : DataW H) (p0 p1 p2 : List MemPlace) (k0 : DataW.Trod enc Tryd.prog W 0 (fun _ => true) true 3 v0 d0 p0) (k1 : DataW.Trod enc Tryd.prog W 0 (fun _ => true) true 9 v1 d1 p1) (k2 : DataW.Trod enc Tryd.prog W 0 (fun _ => true) true 44 v2 d2 p2)
    {base : Nat} (ok0 : Value.okWide Tryd.prog W .any base 3 v0) (ok1 : Value.okWide Tryd.prog W .any base 9 v1) (ok2 : Value.okWide Tryd.prog W .any base 44 v2)
    (z1 : ∀ q ∈ d1.weights Tryd.prog 9, q ≤ reachBytes) (z2 : ∀ q ∈ d2.weights Tryd.prog 44, q ≤ reachBytes) (m : Int) (hT : TabG m W) : Calls Tryd.prog 5 #[v0, v1, v2] W fun e w' => e = .returned (.bool true) ∧ Below W.heap.size W w' := by
  obtain ⟨pg, rfl, _, _, _⟩ := open_int Tryd.underlying3 ok0 k0
  obtain ⟨nm, rfl, rfl, _, _⟩ := open_string Tryd.underlying9 ok1 k1
  have hnm : nm.size ≤ 140737488355328 := by
    have := z1 nm.data.toList.length (by simp [DataW.weights])
    rw [len_toList] at this
    simp only [reachBytes] at this
    omega
  obtain ⟨a, len, cap, rfl⟩ := okWide_slice Tryd.underlying44 ok2
  obtain ⟨fuel, h2⟩ := k2
  obtain ⟨ks, a', c', he, hl, hk, _, hcap⟩ := open_kids fuel (.slice a len cap) (d2, p2) h2 z2
  rw [he]
  exact grammarTells_walk pg nm ks a' c' W m hnm hl hk hcap hT
end Go.Proofs.YtgechifbbhipaaaDoor
