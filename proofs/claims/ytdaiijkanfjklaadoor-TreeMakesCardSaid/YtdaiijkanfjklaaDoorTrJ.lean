/- TreeMakes over arguments that came in. No condition. -/
import Derived.Test.YtdaiijkanfjklaaDoorTrF
import Derived.Test.YtdaiijkanfjklaaDoorTrV
namespace Go.Proofs.YtdaiijkanfjklaaDoor
open Go.RowKit Go.ChangeShapes Go.WideShapes

set_option maxRecDepth 100000 in
theorem open_kids {H : Type} {enc : TypeId × Value → H} {W : World} (n : Nat) (c4 : Value) (x4 : DataW H × List MemPlace) (g4 : DataW.trod enc Tryd.prog W 0 (fun _ => true) true n 22 [c4] = some x4)
    (hw1 : ∀ q ∈ x4.1.weights Tryd.prog 22, q ≤ reachBytes) : ∃ (ks : List Tr) (a : Option Addr) (c : Nat), c4 = .slice a ks.length c ∧ ks.length ≤ reachT ∧ AtL W W.heap.size a 0 ks ∧ (a = none → ks.length = 0 ∧ c = 0) := by
  rcases DataW.trod_slice Tryd.underlying22 g4 with ⟨e4, _⟩ | ⟨ad, len, cap, elems, rest, m, rfl, e4, f4, _, hlc, _, hel, hi, _, _⟩
  · simp only [List.cons.injEq, and_true] at e4
    subst e4
    exact ⟨[], none, 0, rfl, by decide, by unfold AtL; trivial, fun _ => ⟨rfl, rfl⟩⟩
  · simp only [List.cons.injEq, and_true] at e4
    subst e4 f4
    simp only [DataW.weights, Tryd.underlying22, List.length_map] at hw1
    have hlen2 : len ≤ reachT := by
      have h9 := hw1 ((elems.length + rest.length) * Tryd.prog.bytesOf 24) (List.mem_cons_self)
      have hb := bytesOf24
      have : elems.length + rest.length ≤ (elems.length + rest.length) * Tryd.prog.bytesOf 24 := Nat.le_mul_of_pos_right _ hb
      simp only [reachBytes] at h9; simp only [reachT]; omega
    rw [cellsOf24] at hi
    have hex : ∀ i, i < len → ∃ e : Tr, ∃ cs : List Value, Tryd.prog.cellsOf 24 = 5 ∧ W.cells? 0 (ad.add (i * 5)) 5 = some cs ∧ AtT W W.heap.size e (.agg cs.toArray) := fun i hil => by
      have h1 := hi i hil
      have h2 : elems[i]? = some elems[i] := List.getElem?_eq_getElem (by omega)
      rw [h2] at h1
      obtain ⟨cs', h3, h4⟩ := Option.bind_eq_some_iff.1 h1
      obtain ⟨e, he⟩ := open_tr m cs' _ h4 (fun q hq => hw1 q (List.mem_cons_of_mem _ (List.mem_append.2 (.inl (weightsAll_mem (P := Tryd.prog) (e := 24) (l := elems.map (·.1)) (List.mem_map.2 ⟨elems[i], List.getElem_mem _, rfl⟩) q hq)))))
      exact ⟨e, cs', cellsOf24, h3, he⟩
    obtain ⟨ks, hkl, hks⟩ := exists_list len hex
    refine ⟨ks, some ad, cap, by rw [hkl], by rw [hkl]; exact hlen2, ?_, fun h => by cases h⟩
    by_cases h0 : ks.length = 0
    · rw [List.eq_nil_of_length_eq_zero h0]; unfold AtL; trivial
    · obtain ⟨b, o2, sp⟩ := ad
      obtain ⟨cs0, _, hc0, _⟩ := hks 0 (by omega)
      obtain ⟨_, hl0, hget0⟩ := World.cells?_some hc0
      have c00 := hget0 0 (by decide)
      obtain ⟨v0, hv0⟩ : ∃ v0, cs0[0]? = some v0 := ⟨cs0[0], List.getElem?_eq_getElem (by omega)⟩
      rw [hv0] at c00
      obtain rfl : sp = none := by simpa [Addr.add] using World.cell?_spot c00
      refine atL_of (World.block_lt_of_cell? _ _ c00) ks 0 fun j hj => ?_
      obtain ⟨cs, _, hc, hat⟩ := hks j hj
      obtain ⟨_, hl, hget⟩ := World.cells?_some hc
      refine ⟨cs, fun k v hv => ?_, hat⟩
      have hk5 : k < 5 := by have := (List.getElem?_eq_some_iff.1 hv).1; omega
      have := hget k hk5
      rw [addr_addT, addr_addT, hv] at this
      rw [Nat.zero_add]
      exact this

theorem list4 {α : Type} {l : List α} (h : l.length = 4) : ∃ a b c d, l = [a, b, c, d] := by
  match l, h with
  | [a, b, c, d], _ => exact ⟨a, b, c, d, rfl⟩
theorem cellsOf30 : Tryd.prog.cellsOf 30 = 4 := by kernel_rfl

set_option maxRecDepth 100000 in
theorem treeMakes_law {H : Type} {enc : TypeId × Value → H} {W : World} (v : Value) (d : DataW H) (p : List MemPlace) (k : DataW.Trod enc Tryd.prog W 0 (fun _ => true) true 30 v d p) {base : Nat} (ok : Value.okWide Tryd.prog W .any base 30 v)
    (hz : ∀ q ∈ d.weights Tryd.prog 30, q ≤ reachBytes) (hT : Lib.Utf8Tabs 0 1 W) : Calls Tryd.prog 4 #[v] W fun e w' => e = .returned (.bool true) ∧ Below W.heap.size W w' := by
  obtain ⟨cs, rfl, hsz⟩ := okWide_struct Tryd.underlying30 ok
  obtain ⟨fuel, h⟩ := k
  obtain ⟨xs, n, hn, hx, hlen, hxl, hy⟩ := DataW.trod_struct Tryd.underlying30 h
  obtain ⟨cl⟩ := cs
  rw [cellsOf30] at hlen
  obtain ⟨c0, c1, c2, c3, rfl⟩ := list4 (show cl.length = 4 from hlen)
  have g0 : DataW.trod enc Tryd.prog W 0 (fun _ => true) true n 3 [c0] = xs[0]? := hy 0 _ rfl
  have g1 : DataW.trod enc Tryd.prog W 0 (fun _ => true) true n 9 [c1] = xs[1]? := hy 1 _ rfl
  have g2 : DataW.trod enc Tryd.prog W 0 (fun _ => true) true n 9 [c2] = xs[2]? := hy 2 _ rfl
  have g3 : DataW.trod enc Tryd.prog W 0 (fun _ => true) true n 22 [c3] = xs[3]? := hy 3 _ rfl
  obtain ⟨x0, x1, x2, x3, rfl⟩ := list4 (show xs.length = 4 from hxl)
  obtain ⟨pg, e0, f0, _⟩ := DataW.trod_int Tryd.underlying3 (g0.trans rfl)
  obtain ⟨nm, e1, f1, _⟩ := DataW.trod_string Tryd.underlying9 (g1.trans rfl)
  obtain ⟨tx, e2, f2, _⟩ := DataW.trod_string Tryd.underlying9 (g2.trans rfl)
  simp only [List.cons.injEq, and_true] at e0 e1 e2
  subst e0 e1 e2
  have hd : d = .agg ([x0, x1, x2, x3].map (·.1)) := (Prod.mk.injEq _ _ _ _ ▸ hx).1
  have hw0 : ∀ (k : Nat) (t : TypeId) (d' : DataW H), [3, 9, 9, 22][k]? = some t → ([x0, x1, x2, x3].map (·.1))[k]? = some d' → ∀ q ∈ d'.weights Tryd.prog t, q ≤ reachBytes := fun k t d' h1 h2 q hq => hz q (by rw [hd]; exact DataW.weights_mem_each h1 h2 q hq)
  have w1 : nm.size ≤ reachT := by
    have := hw0 1 9 _ rfl rfl nm.data.toList.length (by rw [f1]; simp [DataW.weights])
    rw [len_toList] at this
    simp only [reachBytes] at this; simp only [reachT]; omega
  have w2 : tx.size ≤ reachT := by
    have := hw0 2 9 _ rfl rfl tx.data.toList.length (by rw [f2]; simp [DataW.weights])
    rw [len_toList] at this
    simp only [reachBytes] at this; simp only [reachT]; omega
  obtain ⟨ks, a, c, rfl, s3, hk, ha⟩ := open_kids n c3 x3 g3 (hw0 3 22 _ rfl rfl)
  exact treeMakes_walk pg nm tx ks a c W w1 w2 s3 hk ha hT
end Go.Proofs.YtdaiijkanfjklaaDoor
