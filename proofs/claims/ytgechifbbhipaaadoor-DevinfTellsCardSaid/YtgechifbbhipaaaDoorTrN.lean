/- tree: Leaf and Node, both; Clone of a list of elements. No condition but how many. -/
import Derived.Test.YtgechifbbhipaaaDoorTrX
import Derived.Laws.Rows
import Derived.Maps.AppendAt
import Derived.Laws.Tables
import Derived.ProofKit
import Derived.OpenShut
import Derived.SizedLaws
set_option linter.unusedVariables false
set_option linter.unusedSimpArgs false
namespace Go.Proofs.YtgechifbbhipaaaDoor
open Go.RowKit

theorem addr_addN (b o k : Nat) : (⟨b, o, none⟩ : Addr).add k = ⟨b, o + k, none⟩ := by
  unfold Addr.add; split <;> simp_all
def elV (p : Int) (nm tx : ByteArray) (o : Bool) (v : Value) : Value := .agg #[.int .i64 p, .string nm, .string tx, .bool o, v]

theorem leaf_any (p : Int) (nm tx : ByteArray) (w : World) : Calls Tryd.prog 63 #[.int .i64 p, .string nm, .string tx] w fun r w' => r = .returned (.agg #[.int .i64 p, .string nm, .string tx, .bool false, .slice none 0 0]) ∧ Below w.heap.size w w' := by
  go_enter Tryd.func63, Tryd.ntmps63
  go_wp2
  refine bodyPost_ret (results_cell_row rfl _ _ w.heap.size 46 #[.int .i64 p, .string nm, .string tx, .bool false, .slice none 0 0] (0, 0) _ rfl (World.alloc_heap_new w _) Tryd.underlying46 rfl (by kernel_rfl)) rfl ?_
  exact ⟨rfl, (Below.refl _ w).alloc (Nat.le_refl _) _⟩
/-- cells that read as elements, five by five -/
def KL (w : World) (M : Nat) : List Tr → List Value → Prop
  | [], xs => xs = []
  | k :: ks, xs => ∃ cs rest, xs = cs ++ rest ∧ cs.length = 5 ∧ AtT w M k (.agg cs.toArray) ∧ KL w M ks rest
theorem KL.below {w w' : World} {M : Nat} (hb : Below M w w') : ∀ {L : List Tr} {xs : List Value}, KL w M L xs → KL w' M L xs
  | [], _, h => h
  | _ :: _, _, ⟨cs, rest, h1, h2, h3, h4⟩ => ⟨cs, rest, h1, h2, AtT.below hb _ _ h3, h4.below hb⟩
theorem KL.mono {w : World} {M N : Nat} (hb : M ≤ N) : ∀ {L : List Tr} {xs : List Value}, KL w M L xs → KL w N L xs
  | [], _, h => h
  | _ :: _, _, ⟨cs, rest, h1, h2, h3, h4⟩ => ⟨cs, rest, h1, h2, AtT.mono hb _ _ h3, h4.mono hb⟩
theorem KL.len {w : World} {M : Nat} : ∀ {L : List Tr} {xs : List Value}, KL w M L xs → xs.length = L.length * 5
  | [], _, h => by have h : _ = [] := h; subst h; rfl
  | _ :: _, _, ⟨cs, rest, h1, h2, _, h4⟩ => by rw [h1, List.length_append, h2, h4.len, List.length_cons]; omega
theorem KL.append {w : World} {M : Nat} : ∀ {L K : List Tr} {xs ys : List Value}, KL w M L xs → KL w M K ys → KL w M (L ++ K) (xs ++ ys)
  | [], _, _, _, h, k => by have h : _ = [] := h; subst h; exact k
  | _ :: _, _, _, _, ⟨cs, rest, h1, h2, h3, h4⟩, k => ⟨cs, rest ++ _, by rw [h1, List.append_assoc], h2, h3, h4.append k⟩
theorem AtT.cells5 {w : World} {M : Nat} {e : Tr} {v : Value} (h : AtT w M e v) : ∃ a c, v = .agg (#[.int .i64 e.page, .string e.name, .string e.text, .bool e.opq, .slice a e.kids.length c]) := by
  obtain ⟨_, _, _, a, c, hv, _⟩ := h.parts
  exact ⟨a, c, hv⟩
/-- the cells of kids -/
theorem AtL.kl {w : World} {M b o : Nat} : ∀ {ks : List Tr} {i : Nat}, AtL w M (some ⟨b, o, none⟩) i ks → ∃ xs, KL w M ks xs ∧ ∀ j u, xs[j]? = some u → w.cell? ⟨b, o + i * 5 + j, none⟩ = some u
  | [], _, _ => ⟨[], rfl, fun j u h => by simp at h⟩
  | k :: ks, i, h => by
    unfold AtL at h
    obtain ⟨⟨b', o', v, h1, h2, h3, h4⟩, h5⟩ := h
    simp only [Option.some.injEq, Addr.mk.injEq, and_true] at h1
    obtain ⟨rfl, rfl⟩ := h1
    obtain ⟨a, c, rfl⟩ := h4.cells5
    obtain ⟨xs, k1, k2⟩ := AtL.kl h5
    refine ⟨[.int .i64 k.page, .string k.name, .string k.text, .bool k.opq, .slice a k.kids.length c] ++ xs, ⟨_, xs, rfl, rfl, h4, k1⟩, fun j u hu => ?_⟩
    by_cases hj : j < 5
    · rw [List.getElem?_append_left (by simpa using hj)] at hu
      exact h3 j u hu
    · rw [List.getElem?_append_right (by simp; omega)] at hu
      have := k2 _ _ hu
      simp only [List.length_cons, List.length_nil, Nat.zero_add, Nat.reduceAdd] at this
      rwa [show o + (i + 1) * 5 + (j - 5) = o + i * 5 + j from by omega] at this
/-- and back -/
theorem KL.atL {w : World} {M g o : Nat} (hg : g < M) : ∀ {ks : List Tr} {xs : List Value} {i : Nat}, KL w M ks xs → (∀ j u, xs[j]? = some u → w.cell? ⟨g, o + i * 5 + j, none⟩ = some u) → AtL w M (some ⟨g, o, none⟩) i ks
  | [], _, _, _, _ => by unfold AtL; trivial
  | k :: ks, xs, i, ⟨cs, rest, h1, h2, h3, h4⟩, hc => by
    unfold AtL
    obtain ⟨a, c, hv⟩ := h3.cells5
    refine ⟨⟨g, o, .agg cs.toArray, rfl, hg, fun j u hu => ?_, h3⟩, KL.atL hg (i := i + 1) h4 fun j u hu => ?_⟩
    · have hj : j < cs.length := (List.getElem?_eq_some_iff.1 hu).1
      exact hc j u (by rw [h1, List.getElem?_append_left hj]; exact hu)
    · have := hc (5 + j) u (by rw [h1, List.getElem?_append_right (by omega), h2]; simpa using hu)
      rwa [show o + (i + 1) * 5 + j = o + i * 5 + (5 + j) from by omega]

theorem info24 : ∃ i0, Tryd.prog.info? 46 = some i0 ∧ i0.zero = some (.agg #[.int .i64 0, .string ByteArray.empty, .string ByteArray.empty, .bool false, .slice none 0 0]) ∧ i0.size = 5 ∧ i0.bytes = 72 := by
  have h : (Tryd.prog.info? 46).map (fun i => (i.zero, i.size, i.bytes)) = some (some (.agg #[.int .i64 0, .string ByteArray.empty, .string ByteArray.empty, .bool false, .slice none 0 0]), 5, 72) := by kernel_rfl
  obtain ⟨i0, hi, h⟩ := Option.map_eq_some_iff.1 h
  simp only [Prod.mk.injEq] at h
  exact ⟨i0, hi, h.1, h.2.1, h.2.2⟩
theorem KL.one {w : World} {M : Nat} : ∀ {L : List Tr} {xs : List Value}, KL w M L xs → ∀ u ∈ xs, u.oneCell' = true
  | [], _, h, u, hu => by have h : _ = [] := h; subst h; simp at hu
  | _ :: _, _, ⟨cs, rest, h1, h2, h3, h4⟩, u, hu => by
    obtain ⟨a, c, hv⟩ := h3.cells5
    rw [h1] at hu
    rcases List.mem_append.1 hu with h | h
    · simp only [Value.agg.injEq] at hv
      have hcs := congrArg Array.toList hv
      simp only [] at hcs
      rw [hcs] at h
      simp only [List.mem_cons, List.not_mem_nil, or_false] at h
      rcases h with rfl | rfl | rfl | rfl | rfl <;> rfl
    · exact KL.one h4 u h
/-- an owned row of elements reads as kids -/
theorem own_atL {w : World} {B : Nat} {ks : List Tr} {a : Option Addr} {c : Nat} {xs : List Value} (ho : w.ownsRow B 46 5 (.slice a ks.length c) ks.length xs) (hk : KL w w.heap.size ks xs) : AtL w w.heap.size a 0 ks := by
  rcases ho.2 with ⟨_, h0⟩ | ⟨g, cap, cur, hv, _⟩
  · rw [List.eq_nil_of_length_eq_zero h0]; unfold AtL; trivial
  · simp only [Value.slice.injEq] at hv
    obtain ⟨rfl, _, rfl⟩ := hv
    refine KL.atL (ho.lt g rfl).2 (i := 0) hk fun j u hu => ?_
    have := ho.cells (g := g) rfl j u hu
    rw [addr_addN] at this
    simpa using this

set_option maxRecDepth 100000 in
set_option maxHeartbeats 4000000 in
theorem clone_any (M : Nat) (ks : List Tr) (a : Option Addr) (c : Nat) (w : World) (hM : M ≤ w.heap.size) (hk : AtL w M a 0 ks) (hn : ks.length ≤ 1000000) (ha : a = none → ks.length = 0 ∧ c = 0) : Calls Tryd.prog 124 #[.slice a ks.length c] w fun r w' =>
    (∃ a' c' xs, r = .returned (.slice a' ks.length c') ∧ w'.ownsRow w.heap.size 46 5 (.slice a' ks.length c') ks.length xs ∧ KL w' M ks xs) ∧ Below w.heap.size w w' := by
  have hf : ∀ (b : Option Addr), Hid True := fun _ => trivial
  clear hf
  cases a with
  | none =>
    obtain ⟨h0, rfl⟩ := ha rfl
    have HK := Lib.hid (List.eq_nil_of_length_eq_zero h0)
    generalize ks.length = n at *
    subst h0
    clear hk ha
    have heq := fun w => Lib.run_eql_slice_nil (P := Tryd.prog) w 44 46 none 0 0 0 0 Tryd.underlying44
    go_enter Tryd.func124, Tryd.ntmps124
    go_wp2
    go_ret
    exact ⟨⟨none, 0, [], rfl, World.ownsRow_nil _ _ _ _, by rw [HK.out]; rfl⟩, Below.refl _ _⟩
  | some ad =>
    have hkl : ∃ xs, KL w M ks xs ∧ (∀ j u, xs[j]? = some u → w.cell? (ad.add j) = some u) := by
      cases hks : ks with
      | nil => exact ⟨[], rfl, fun j u h => by simp at h⟩
      | cons k l =>
        rw [hks] at hk
        have hk2 := hk
        unfold AtL at hk2
        obtain ⟨⟨b, o, v, h1, _⟩, _⟩ := hk2
        simp only [Option.some.injEq] at h1
        subst h1
        obtain ⟨xs, k1, k2⟩ := AtL.kl hk
        exact ⟨xs, k1, fun j u hu => by rw [addr_addN]; simpa using k2 j u hu⟩
    obtain ⟨xs, k1, k2⟩ := hkl
    have HK1 := Lib.hid k1
    have hal : Below w.heap.size w (w.alloc (.cells #[] 46)) := (Below.refl _ w).alloc (Nat.le_refl _) _
    have HK2 : Hid (∀ j u, xs[j]? = some u → (w.alloc (.cells #[] 46)).cell? (ad.add j) = some u) := fun j u hu => by
      have h := k2 j u hu
      rw [← h]
      exact World.cell?_of_block (Below.heap_alloc _ _ _ (World.block_lt_of_cell? _ _ h))
    have HLen : Hid (xs.length = ks.length * 5) := k1.len
    have HOne := Lib.hid k1.one
    have HO : Hid ((w.alloc (.cells #[] 46)).ownsRow w.heap.size 46 5 (.slice (some ⟨w.heap.size, 0, none⟩) 0 0) 0 []) := by
      have := World.ownsRow_lit (base := w.heap.size) (e := 46) (size := 5) w #[] 0 (Nat.le_refl _) (by decide) (by simp)
      unfold Hid; simpa using this
    have HAl := Lib.hid hal
    clear hk ha k1 k2 hal
    obtain ⟨i0, hi, hz0, hz1, hz2⟩ := info24
    generalize hnn : ks.length = n at *
    have HNN := Lib.hid hnn
    clear hnn
    go_enter Tryd.func124, Tryd.ntmps124
    have heq := fun w => Lib.run_eql_slice_nil (P := Tryd.prog) w 44 46 (some ad) n c 0 0 Tryd.underlying44
    have h63 : 0 + n ≤ maxLen := by simp [maxLen]; omega
    have hby : (0 + n) * 72 ≤ 140737488355328 := by omega
    go_wp2_with (at_builtin; go_must (refine wpList_append_own_at _ rfl _ _ 44 rfl w.heap.size 46 i0 _ 5 72 Tryd.underlying44 hi hz0 hz1 hz2 rfl (by decide) _ _ [] rfl HO.out ad n c xs rfl HLen.out HK2.out HOne.out h63 hby HAl.out.size ?_); intro v' w3 hown3 hgr3 _ hob3)
    rw [Nat.zero_add, List.nil_append] at hown3
    obtain ⟨a1, c1, rfl⟩ := own_form hown3
    have hb3 : Below w.heap.size w w3 := HAl.out.trans ⟨hgr3.os, hgr3.tape, hgr3.output, hgr3.size, fun k hk => hgr3.block k (Nat.lt_of_lt_of_le hk HAl.out.size) (fun e => absurd hk (by rw [Option.some.inj (show some k = some w.heap.size from e)]; exact Nat.lt_irrefl _))⟩
    go_ret
    exact ⟨⟨a1, c1, xs, rfl, hown3, HK1.out.below (hb3.mono hM)⟩, hb3⟩
end Go.Proofs.YtgechifbbhipaaaDoor

/- tree: the program's Node. No condition but how many. -/
set_option linter.unusedVariables false
set_option linter.unusedSimpArgs false
namespace Go.Proofs.YtgechifbbhipaaaDoor
open Go.RowKit

theorem owns_other {w w' : World} {B : Nat} {e : TypeId} {sz : Nat} {v : Value} {n : Nat} {xs : List Value} (h : w.ownsRow B e sz v n xs) (hb : ∀ k, v.ownBlock = some k → w'.heap[k]? = w.heap[k]?) : w'.ownsRow B e sz v n xs := by
  refine ⟨h.1, ?_⟩
  rcases h.2 with h2 | ⟨g, cap, cur, hv, hg, hh, r⟩
  · exact .inl h2
  · exact .inr ⟨g, cap, cur, hv, hg, by rw [hb g (by rw [hv]; rfl)]; exact hh, r⟩
theorem below_setRow {B g : Nat} (w : World) (cs : Array Value) (h : B ≤ g) : Below B w (w.setRow g cs) := ⟨rfl, rfl, rfl, by simp, fun k hk => setRow_other w g k cs (by omega)⟩

theorem own_cap5 {w : World} {B : Nat} {e : TypeId} {z : Nat} {ad : Option Addr} {n c : Nat} {xs : List Value} (h : w.ownsRow B e z (.slice ad n c) n xs) : n ≤ c := by
  rcases h.2 with ⟨h1, h0⟩ | ⟨g, cap, cur, h1, _, _, h2, _⟩
  · omega
  · simp only [Value.slice.injEq] at h1; omega
set_option maxRecDepth 100000 in
theorem node_any (M : Nat) (p : Int) (nm : ByteArray) (hnm : nm.size ≤ reachT) (ks : List Tr) (a : Option Addr) (c : Nat) (w : World) (hM : M ≤ w.heap.size) (hk : AtL w M a 0 ks) (hn : ks.length ≤ 1000000) (ha : a = none → ks.length = 0 ∧ c = 0) : Calls Tryd.prog 64 #[.int .i64 p, .string nm, .slice a ks.length c] w fun r w' =>
    (∃ v, r = .returned v ∧ AtT w' w'.heap.size (.mk p nm ByteArray.empty false ks) v) ∧ Below w.heap.size w w' := by
  have cC := Lib.hid (fun W (hW : Below w.heap.size w W) => clone_any M ks a c W (Nat.le_trans hM hW.size) (AtL.below (hW.mono hM) a ks 0 hk) hn ha)
  generalize hnn : ks.length = n at *
  have HN := Lib.hid hnn
  clear hnn hk ha
  go_enter Tryd.func64, Tryd.ntmps64
  have hal : Below w.heap.size w (w.alloc (.cells #[.int .i64 0, .string ByteArray.empty, .string ByteArray.empty, .bool false, .slice none 0 0] 46)) := (Below.refl _ w).alloc (Nat.le_refl _) _
  have HAl := Lib.hid hal
  clear hal
  go_wp2_with (first | (go_at_call 124; refine (cC.out _ HAl.out).mono ?_; rintro r w1 ⟨⟨a', c', xs, rfl, hown, hkl⟩, hb1⟩; have hz1 : w1.heap[w.heap.size]? = some (.cells #[.int .i64 0, .string ByteArray.empty, .string ByteArray.empty, .bool false, .slice none 0 0] 46) := (hb1.block w.heap.size (by simp)).trans (World.alloc_heap_new w _); have HZ1 := Lib.hid hz1) | (refine wpList_store_row rfl 46 (.tmp 6) (.tmp 11) rfl w.heap.size #[.int .i64 p, .string nm, .string ⟨#[]⟩, .bool false, .slice a' n c'] rfl rfl 46 _ HZ1.out (by kernel_rfl) rfl (by simp [Value.oneCell']) ?_))
  have hzz : (w1.setRow w.heap.size #[.int .i64 p, .string nm, .string ⟨#[]⟩, .bool false, .slice a' n c']).heap[w.heap.size]? = some (.cells #[.int .i64 p, .string nm, .string ⟨#[]⟩, .bool false, .slice a' n c'] 46) := setRow_heap w1 w.heap.size _ _ 46 _ hz1
  refine bodyPost_ret (results_cell_row rfl _ _ w.heap.size 46 #[.int .i64 p, .string nm, .string ⟨#[]⟩, .bool false, .slice a' n c'] (0, 0) _ rfl hzz Tryd.underlying46 rfl (by kernel_rfl)) rfl ?_
  have hsr := below_setRow (B := w.heap.size) w1 #[.int .i64 p, .string nm, .string ⟨#[]⟩, .bool false, .slice a' n c'] (Nat.le_refl _)
  have hbw : Below w.heap.size w w1 := HAl.out.trans (hb1.mono HAl.out.size)
  have hown2 := owns_other (w' := w1.setRow w.heap.size #[.int .i64 p, .string nm, .string ⟨#[]⟩, .bool false, .slice a' n c']) hown (fun k hk => setRow_other w1 w.heap.size k _ (by have := (hown.lt k hk).1; simp only [World.size_alloc] at this; omega))
  refine ⟨⟨_, rfl, ?_⟩, hbw.trans hsr⟩
  unfold AtT
  refine ⟨hnm, by decide, by rw [HN.out]; simp only [reachT]; omega, a', c', by rw [HN.out]; rfl, ?_, by rw [HN.out]; exact own_cap5 hown2⟩
  have hkl2 := (hkl.below (hsr.mono hM)).mono (N := (w1.setRow w.heap.size #[.int .i64 p, .string nm, .string ⟨#[]⟩, .bool false, .slice a' n c']).heap.size) (Nat.le_trans hM (Nat.le_trans hbw.size hsr.size))
  exact own_atL (ks := ks) (a := a') (c := c') (by rw [HN.out]; exact hown2) hkl2
end Go.Proofs.YtgechifbbhipaaaDoor

/- tree: an element that came in reads as a tree. No condition but the form's reach. -/
set_option linter.unusedVariables false
set_option linter.unusedSimpArgs false
namespace Go.Proofs.YtgechifbbhipaaaDoor
open Go.RowKit Go.ChangeShapes Go.WideShapes

theorem weightsAll_mem {H : Type} {P : Program} {e : TypeId} {l : List (DataW H)} {d : DataW H} (h : d ∈ l) : ∀ n ∈ d.weights P e, n ∈ DataW.weightsAll P e l := by
  induction l with
  | nil => cases h
  | cons x l ih =>
    intro n hn
    rw [DataW.weightsAll, List.mem_append]
    rcases List.mem_cons.1 h with rfl | h
    · exact .inl hn
    · exact .inr (ih h n hn)
theorem list5 {α : Type} {l : List α} (h : l.length = 5) : ∃ a b c d e, l = [a, b, c, d, e] := by
  match l, h with
  | [a, b, c, d, e], _ => exact ⟨a, b, c, d, e, rfl⟩
theorem addr_addT (b o k : Nat) : (⟨b, o, none⟩ : Addr).add k = ⟨b, o + k, none⟩ := by
  unfold Addr.add; split <;> simp_all
theorem cellsOf24 : Tryd.prog.cellsOf 46 = 5 := by kernel_rfl
theorem cellsOf22 : Tryd.prog.cellsOf 44 = 1 := by kernel_rfl
theorem bytesOf24 : 1 ≤ Tryd.prog.bytesOf 46 := of_decide_eq_true (by kernel_rfl)

theorem atL_of {w : World} {M b o : Nat} (hb : b < M) : ∀ (l : List Tr) (m : Nat), (∀ j (hj : j < l.length), ∃ cs : List Value, w.rangeAt b (o + (m + j) * 5) cs ∧ AtT w M l[j] (.agg cs.toArray)) → AtL w M (some ⟨b, o, none⟩) m l
  | [], _, _ => by unfold AtL; trivial
  | k :: l, m, h => by
    unfold AtL
    obtain ⟨cs, h1, h2⟩ := h 0 (by simp)
    refine ⟨⟨b, o, .agg cs.toArray, rfl, hb, ?_, h2⟩, atL_of hb l (m + 1) fun j hj => ?_⟩
    · simpa using h1
    · obtain ⟨cs2, h3, h4⟩ := h (j + 1) (by simpa using hj)
      exact ⟨cs2, by rw [show m + 1 + j = m + (j + 1) from by omega]; exact h3, h4⟩
theorem exists_list {α : Type} {P : Nat → α → Prop} (n : Nat) (h : ∀ i, i < n → ∃ e, P i e) : ∃ ks : List α, ks.length = n ∧ ∀ i (hi : i < ks.length), P i ks[i] := by
  induction n with
  | zero => exact ⟨[], rfl, fun i hi => by simp at hi⟩
  | succ n ih =>
    obtain ⟨ks, h1, h2⟩ := ih (fun i hi => h i (by omega))
    obtain ⟨e, he⟩ := h n (by omega)
    refine ⟨ks ++ [e], by simp [h1], fun i hi => ?_⟩
    by_cases hlt : i < ks.length
    · rw [List.getElem_append_left hlt]; exact h2 i hlt
    · have : i = ks.length := by simp at hi; omega
      subst this
      rw [List.getElem_append_right (Nat.le_refl _)]
      simp only [Nat.sub_self, List.getElem_cons_zero]
      rw [h1]; exact he

set_option maxRecDepth 100000 in
theorem open_tr {H : Type} {enc : TypeId × Value → H} {W : World} : ∀ (fuel : Nat) (cs : List Value) (x : DataW H × List MemPlace), DataW.trod enc Tryd.prog W 0 (fun _ => true) true fuel 46 cs = some x →
    (∀ n ∈ x.1.weights Tryd.prog 46, n ≤ reachBytes) → ∃ e : Tr, AtT W W.heap.size e (.agg cs.toArray) := by
  intro fuel
  induction fuel using Nat.strongRecOn with
  | _ fuel ih =>
  intro cs x h hw
  obtain ⟨xs, n, rfl, rfl, hlen, hxl, hy⟩ := DataW.trod_struct Tryd.underlying46 h
  rw [cellsOf24] at hlen
  obtain ⟨c0, c1, c2, c3, c4, rfl⟩ := list5 hlen
  have g0 : DataW.trod enc Tryd.prog W 0 (fun _ => true) true n 3 [c0] = xs[0]? := hy 0 _ rfl
  have g1 : DataW.trod enc Tryd.prog W 0 (fun _ => true) true n 9 [c1] = xs[1]? := hy 1 _ rfl
  have g2 : DataW.trod enc Tryd.prog W 0 (fun _ => true) true n 9 [c2] = xs[2]? := hy 2 _ rfl
  have g3 : DataW.trod enc Tryd.prog W 0 (fun _ => true) true n 4 [c3] = xs[3]? := hy 3 _ rfl
  have g4 : DataW.trod enc Tryd.prog W 0 (fun _ => true) true n 44 [c4] = xs[4]? := hy 4 _ rfl
  have h5 : xs.length = 5 := hxl
  obtain ⟨x0, x1, x2, x3, x4, rfl⟩ := list5 h5
  obtain ⟨p, e0, f0, _⟩ := DataW.trod_int Tryd.underlying3 (g0.trans rfl)
  obtain ⟨nm, e1, f1, _⟩ := DataW.trod_string Tryd.underlying9 (g1.trans rfl)
  obtain ⟨tx, e2, f2, _⟩ := DataW.trod_string Tryd.underlying9 (g2.trans rfl)
  obtain ⟨o, e3, f3⟩ := DataW.trod_bool Tryd.underlying4 (g3.trans rfl)
  simp only [List.cons.injEq, and_true] at e0 e1 e2 e3
  subst e0 e1 e2 e3 f0 f1 f2 f3
  have hw0 : ∀ (k : Nat) (t : TypeId) (d : DataW H), [3, 9, 9, 4, 44][k]? = some t → (([_, _, _, _, _] : List (DataW H × List MemPlace)).map (·.1))[k]? = some d → ∀ q ∈ d.weights Tryd.prog t, q ≤ reachBytes := fun k t d h1 h2 q hq => hw q (DataW.weights_mem_each h1 h2 q hq)
  have w1 : nm.size ≤ reachT := by
    have := hw0 1 9 _ rfl rfl nm.data.toList.length (by simp [DataW.weights])
    rw [len_toList] at this
    simp only [reachBytes] at this; simp only [reachT]; omega
  have w2 : tx.size ≤ reachT := by
    have := hw0 2 9 _ rfl rfl tx.data.toList.length (by simp [DataW.weights])
    rw [len_toList] at this
    simp only [reachBytes] at this; simp only [reachT]; omega
  rcases DataW.trod_slice Tryd.underlying44 (g4.trans rfl) with ⟨e4, _⟩ | ⟨ad, len, cap, elems, rest, m, rfl, e4, f4, _, hlc, _, hel, hi, _, _⟩
  · simp only [List.cons.injEq, and_true] at e4
    subst e4
    refine ⟨.mk p nm tx o [], ?_⟩
    unfold AtT
    exact ⟨w1, w2, by decide, none, 0, rfl, by unfold AtL; trivial, Nat.le_refl _⟩
  · simp only [List.cons.injEq, and_true] at e4
    subst e4 f4
    have hw1 := hw0 4 44 _ rfl rfl
    simp only [DataW.weights, Tryd.underlying44, List.length_map] at hw1
    have hlen2 : len ≤ reachT := by
      have h9 := hw1 ((elems.length + rest.length) * Tryd.prog.bytesOf 46) (List.mem_cons_self)
      have hb := bytesOf24
      have : elems.length + rest.length ≤ (elems.length + rest.length) * Tryd.prog.bytesOf 46 := Nat.le_mul_of_pos_right _ hb
      simp only [reachBytes] at h9; simp only [reachT]; omega
    rw [cellsOf24] at hi
    have hex : ∀ i, i < len → ∃ e : Tr, ∃ cs : List Value, Tryd.prog.cellsOf 46 = 5 ∧ W.cells? 0 (ad.add (i * 5)) 5 = some cs ∧ AtT W W.heap.size e (.agg cs.toArray) := fun i hil => by
      have h1 := hi i hil
      have h2 : elems[i]? = some elems[i] := List.getElem?_eq_getElem (by omega)
      rw [h2] at h1
      obtain ⟨cs', h3, h4⟩ := Option.bind_eq_some_iff.1 h1
      obtain ⟨e, he⟩ := ih m (by omega) cs' _ h4 (fun q hq => hw1 q (List.mem_cons_of_mem _ (List.mem_append.2 (.inl (weightsAll_mem (P := Tryd.prog) (e := 46) (l := elems.map (·.1)) (List.mem_map.2 ⟨elems[i], List.getElem_mem _, rfl⟩) q hq)))))
      exact ⟨e, cs', cellsOf24, h3, he⟩
    obtain ⟨ks, hkl, hks⟩ := exists_list len hex
    refine ⟨.mk p nm tx o ks, ?_⟩
    unfold AtT
    refine ⟨w1, w2, by rw [hkl]; exact hlen2, some ad, cap, by rw [hkl], ?_, by rw [hkl]; exact hlc⟩
    by_cases h0 : ks.length = 0
    · rw [List.eq_nil_of_length_eq_zero h0]; unfold AtL; trivial
    · obtain ⟨b, o2, sp⟩ := ad
      obtain ⟨cs0, _, hc0, _⟩ := hks 0 (by omega)
      obtain ⟨_, hl0, hget0⟩ := World.cells?_some hc0
      have c00 := hget0 0 (by decide)
      obtain ⟨v0, hv0⟩ : ∃ v0, cs0[0]? = some v0 := ⟨cs0[0], List.getElem?_eq_getElem (by omega)⟩
      rw [hv0] at c00
      obtain rfl : sp = none := by simpa [Addr.add] using World.cell?_spot c00
      refine atL_of (World.block_lt_of_cell? _ _ c00) ks 0 fun j hj => ?_
      obtain ⟨cs, _, hc, hat⟩ := hks j hj
      obtain ⟨_, hl, hget⟩ := World.cells?_some hc
      refine ⟨cs, fun k v hv => ?_, hat⟩
      have hk5 : k < 5 := by have := (List.getElem?_eq_some_iff.1 hv).1; omega
      have := hget k hk5
      rw [addr_addT, addr_addT, hv] at this
      rw [Nat.zero_add]
      exact this
end Go.Proofs.YtgechifbbhipaaaDoor
