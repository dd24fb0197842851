/- tree: an element that came in reads as a tree. No condition but the form's reach. -/
import Derived.Test.YtgechifbbhipaaaDoorTrY
import Derived.ProofKit
import Derived.OpenShut
import Derived.SizedLaws
set_option linter.unusedVariables false
set_option linter.unusedSimpArgs false
namespace Go.Proofs.YtgechifbbhipaaaDoor
open Go.RowKit Go.ChangeShapes Go.WideShapes

theorem weightsAll_mem {H : Type} {P : Program} {e : TypeId} {l : List (DataW H)} {d : DataW H} (h : d ∈ l) : ∀ n ∈ d.weights P e, n ∈ DataW.weightsAll P e l := by
  induction l with
  | nil => cases h
  | cons x l ih =>
    intro n hn
    rw [DataW.weightsAll, List.mem_append]
    rcases List.mem_cons.1 h with rfl | h
    · exact .inl hn
    · exact .inr (ih h n hn)
theorem list5 {α : Type} {l : List α} (h : l.length = 5) : ∃ a b c d e, l = [a, b, c, d, e] := by
  match l, h with
  | [a, b, c, d, e], _ => exact ⟨a, b, c, d, e, rfl⟩
theorem addr_addT (b o k : Nat) : (⟨b, o, none⟩ : Addr).add k = ⟨b, o + k, none⟩ := by
  unfold Addr.add; split <;> simp_all
theorem cellsOf24 : Tryd.prog.cellsOf 46 = 5 := by kernel_rfl
theorem cellsOf22 : Tryd.prog.cellsOf 44 = 1 := by kernel_rfl
theorem bytesOf24 : 1 ≤ Tryd.prog.bytesOf 46 := of_decide_eq_true (by kernel_rfl)

theorem atL_of {w : World} {M b o : Nat} (hb : b < M) : ∀ (l : List Tr) (m : Nat), (∀ j (hj : j < l.length), ∃ cs : List Value, w.rangeAt b (o + (m + j) * 5) cs ∧ AtT w M l[j] (.agg cs.toArray)) → AtL w M (some ⟨b, o, none⟩) m l
  | [], _, _ => by unfold AtL; trivial
  | k :: l, m, h => by
    unfold AtL
    obtain ⟨cs, h1, h2⟩ := h 0 (by simp)
    refine ⟨⟨b, o, .agg cs.toArray, rfl, hb, ?_, h2⟩, atL_of hb l (m + 1) fun j hj => ?_⟩
    · simpa using h1
    · obtain ⟨cs2, h3, h4⟩ := h (j + 1) (by simpa using hj)
      exact ⟨cs2, by rw [show m + 1 + j = m + (j + 1) from by omega]; exact h3, h4⟩
theorem exists_list {α : Type} {P : Nat → α → Prop} (n : Nat) (h : ∀ i, i < n → ∃ e, P i e) : ∃ ks : List α, ks.length = n ∧ ∀ i (hi : i < ks.length), P i ks[i] := by
  induction n with
  | zero => exact ⟨[], rfl, fun i hi => by simp at hi⟩
  | succ n ih =>
    obtain ⟨ks, h1, h2⟩ := ih (fun i hi => h i (by omega))
    obtain ⟨e, he⟩ := h n (by omega)
    refine ⟨ks ++ [e], by simp [h1], fun i hi => ?_⟩
    by_cases hlt : i < ks.length
    · rw [List.getElem_append_left hlt]; exact h2 i hlt
    · have : i = ks.length := by simp at hi; omega
      subst this
      rw [List.getElem_append_right (Nat.le_refl _)]
      simp only [Nat.sub_self, List.getElem_cons_zero]
      rw [h1]; exact he

set_option maxRecDepth 100000 in
theorem open_tr {H : Type} {enc : TypeId × Value → H} {W : World} : ∀ (fuel : Nat) (cs : List Value) (x : DataW H × List MemPlace), DataW.trod enc Tryd.prog W 0 (fun _ => true) true fuel 46 cs = some x →
    (∀ n ∈ x.1.weights Tryd.prog 46, n ≤ reachBytes) → ∃ e : Tr, AtT W W.heap.size e (.agg cs.toArray) := by
  intro fuel
  induction fuel using Nat.strongRecOn with
  | _ fuel ih =>
  intro cs x h hw
  obtain ⟨xs, n, rfl, rfl, hlen, hxl, hy⟩ := DataW.trod_struct Tryd.underlying46 h
  rw [cellsOf24] at hlen
  obtain ⟨c0, c1, c2, c3, c4, rfl⟩ := list5 hlen
  have g0 : DataW.trod enc Tryd.prog W 0 (fun _ => true) true n 3 [c0] = xs[0]? := hy 0 _ rfl
  have g1 : DataW.trod enc Tryd.prog W 0 (fun _ => true) true n 9 [c1] = xs[1]? := hy 1 _ rfl
  have g2 : DataW.trod enc Tryd.prog W 0 (fun _ => true) true n 9 [c2] = xs[2]? := hy 2 _ rfl
  have g3 : DataW.trod enc Tryd.prog W 0 (fun _ => true) true n 4 [c3] = xs[3]? := hy 3 _ rfl
  have g4 : DataW.trod enc Tryd.prog W 0 (fun _ => true) true n 44 [c4] = xs[4]? := hy 4 _ rfl
  have h5 : xs.length = 5 := hxl
  obtain ⟨x0, x1, x2, x3, x4, rfl⟩ := list5 h5
  obtain ⟨p, e0, f0, _⟩ := DataW.trod_int Tryd.underlying3 (g0.trans rfl)
  obtain ⟨nm, e1, f1, _⟩ := DataW.trod_string Tryd.underlying9 (g1.trans rfl)
  obtain ⟨tx, e2, f2, _⟩ := DataW.trod_string Tryd.underlying9 (g2.trans rfl)
  obtain ⟨o, e3, f3⟩ := DataW.trod_bool Tryd.underlying4 (g3.trans rfl)
  simp only [List.cons.injEq, and_true] at e0 e1 e2 e3
  subst e0 e1 e2 e3 f0 f1 f2 f3
  have hw0 : ∀ (k : Nat) (t : TypeId) (d : DataW H), [3, 9, 9, 4, 44][k]? = some t → (([_, _, _, _, _] : List (DataW H × List MemPlace)).map (·.1))[k]? = some d → ∀ q ∈ d.weights Tryd.prog t, q ≤ reachBytes := fun k t d h1 h2 q hq => hw q (DataW.weights_mem_each h1 h2 q hq)
  have w1 : nm.size ≤ reachT := by
    have := hw0 1 9 _ rfl rfl nm.data.toList.length (by simp [DataW.weights])
    rw [len_toList] at this
    simp only [reachBytes] at this; simp only [reachT]; omega
  have w2 : tx.size ≤ reachT := by
    have := hw0 2 9 _ rfl rfl tx.data.toList.length (by simp [DataW.weights])
    rw [len_toList] at this
    simp only [reachBytes] at this; simp only [reachT]; omega
  rcases DataW.trod_slice Tryd.underlying44 (g4.trans rfl) with ⟨e4, _⟩ | ⟨ad, len, cap, elems, rest, m, rfl, e4, f4, _, hlc, _, hel, hi, _, _⟩
  · simp only [List.cons.injEq, and_true] at e4
    subst e4
    refine ⟨.mk p nm tx o [], ?_⟩
    unfold AtT
    exact ⟨w1, w2, by decide, none, 0, rfl, by unfold AtL; trivial, Nat.le_refl _⟩
  · simp only [List.cons.injEq, and_true] at e4
    subst e4 f4
    have hw1 := hw0 4 44 _ rfl rfl
    simp only [DataW.weights, Tryd.underlying44, List.length_map] at hw1
    have hlen2 : len ≤ reachT := by
      have h9 := hw1 ((elems.length + rest.length) * Tryd.prog.bytesOf 46) (List.mem_cons_self)
      have hb := bytesOf24
      have : elems.length + rest.length ≤ (elems.length + rest.length) * Tryd.prog.bytesOf 46 := Nat.le_mul_of_pos_right _ hb
      simp only [reachBytes] at h9; simp only [reachT]; omega
    rw [cellsOf24] at hi
    have hex : ∀ i, i < len → ∃ e : Tr, ∃ cs : List Value, Tryd.prog.cellsOf 46 = 5 ∧ W.cells? 0 (ad.add (i * 5)) 5 = some cs ∧ AtT W W.heap.size e (.agg cs.toArray) := fun i hil => by
      have h1 := hi i hil
      have h2 : elems[i]? = some elems[i] := List.getElem?_eq_getElem (by omega)
      rw [h2] at h1
      obtain ⟨cs', h3, h4⟩ := Option.bind_eq_some_iff.1 h1
      obtain ⟨e, he⟩ := ih m (by omega) cs' _ h4 (fun q hq => hw1 q (List.mem_cons_of_mem _ (List.mem_append.2 (.inl (weightsAll_mem (P := Tryd.prog) (e := 46) (l := elems.map (·.1)) (List.mem_map.2 ⟨elems[i], List.getElem_mem _, rfl⟩) q hq)))))
      exact ⟨e, cs', cellsOf24, h3, he⟩
    obtain ⟨ks, hkl, hks⟩ := exists_list len hex
    refine ⟨.mk p nm tx o ks, ?_⟩
    unfold AtT
    refine ⟨w1, w2, by rw [hkl]; exact hlen2, some ad, cap, by rw [hkl], ?_, by rw [hkl]; exact hlc⟩
    by_cases h0 : ks.length = 0
    · rw [List.eq_nil_of_length_eq_zero h0]; unfold AtL; trivial
    · obtain ⟨b, o2, sp⟩ := ad
      obtain ⟨cs0, _, hc0, _⟩ := hks 0 (by omega)
      obtain ⟨_, hl0, hget0⟩ := World.cells?_some hc0
      have c00 := hget0 0 (by decide)
      obtain ⟨v0, hv0⟩ : ∃ v0, cs0[0]? = some v0 := ⟨cs0[0], List.getElem?_eq_getElem (by omega)⟩
      rw [hv0] at c00
      obtain rfl : sp = none := by simpa [Addr.add] using World.cell?_spot c00
      refine atL_of (World.block_lt_of_cell? _ _ c00) ks 0 fun j hj => ?_
      obtain ⟨cs, _, hc, hat⟩ := hks j hj
      obtain ⟨_, hl, hget⟩ := World.cells?_some hc
      refine ⟨cs, fun k v hv => ?_, hat⟩
      have hk5 : k < 5 := by have := (List.getElem?_eq_some_iff.1 hv).1; omega
      have := hget k hk5
      rw [addr_addT, addr_addT, hv] at this
      rw [Nat.zero_add]
      exact this
end Go.Proofs.YtgechifbbhipaaaDoor
