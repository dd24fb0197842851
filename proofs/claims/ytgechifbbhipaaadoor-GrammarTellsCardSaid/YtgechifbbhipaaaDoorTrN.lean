/- tree: Leaf and Node, both; Clone of a list of elements. No condition but how many. -/
import Derived.Test.YtgechifbbhipaaaDoorTrY
import Derived.Laws.Rows
import Derived.Maps.AppendAt
set_option linter.unusedVariables false
set_option linter.unusedSimpArgs false
namespace Go.Proofs.YtgechifbbhipaaaDoor
open Go.RowKit

theorem addr_addN (b o k : Nat) : (⟨b, o, none⟩ : Addr).add k = ⟨b, o + k, none⟩ := by
  unfold Addr.add; split <;> simp_all
def elV (p : Int) (nm tx : ByteArray) (o : Bool) (v : Value) : Value := .agg #[.int .i64 p, .string nm, .string tx, .bool o, v]

theorem leaf_any (p : Int) (nm tx : ByteArray) (w : World) : Calls Tryd.prog 63 #[.int .i64 p, .string nm, .string tx] w fun r w' => r = .returned (.agg #[.int .i64 p, .string nm, .string tx, .bool false, .slice none 0 0]) ∧ Below w.heap.size w w' := by
  go_enter Tryd.func63, Tryd.ntmps63
  go_wp2
  refine bodyPost_ret (results_cell_row rfl _ _ w.heap.size 46 #[.int .i64 p, .string nm, .string tx, .bool false, .slice none 0 0] (0, 0) _ rfl (World.alloc_heap_new w _) Tryd.underlying46 rfl (by kernel_rfl)) rfl ?_
  exact ⟨rfl, (Below.refl _ w).alloc (Nat.le_refl _) _⟩
/-- cells that read as elements, five by five -/
def KL (w : World) (M : Nat) : List Tr → List Value → Prop
  | [], xs => xs = []
  | k :: ks, xs => ∃ cs rest, xs = cs ++ rest ∧ cs.length = 5 ∧ AtT w M k (.agg cs.toArray) ∧ KL w M ks rest
theorem KL.below {w w' : World} {M : Nat} (hb : Below M w w') : ∀ {L : List Tr} {xs : List Value}, KL w M L xs → KL w' M L xs
  | [], _, h => h
  | _ :: _, _, ⟨cs, rest, h1, h2, h3, h4⟩ => ⟨cs, rest, h1, h2, AtT.below hb _ _ h3, h4.below hb⟩
theorem KL.mono {w : World} {M N : Nat} (hb : M ≤ N) : ∀ {L : List Tr} {xs : List Value}, KL w M L xs → KL w N L xs
  | [], _, h => h
  | _ :: _, _, ⟨cs, rest, h1, h2, h3, h4⟩ => ⟨cs, rest, h1, h2, AtT.mono hb _ _ h3, h4.mono hb⟩
theorem KL.len {w : World} {M : Nat} : ∀ {L : List Tr} {xs : List Value}, KL w M L xs → xs.length = L.length * 5
  | [], _, h => by have h : _ = [] := h; subst h; rfl
  | _ :: _, _, ⟨cs, rest, h1, h2, _, h4⟩ => by rw [h1, List.length_append, h2, h4.len, List.length_cons]; omega
theorem KL.append {w : World} {M : Nat} : ∀ {L K : List Tr} {xs ys : List Value}, KL w M L xs → KL w M K ys → KL w M (L ++ K) (xs ++ ys)
  | [], _, _, _, h, k => by have h : _ = [] := h; subst h; exact k
  | _ :: _, _, _, _, ⟨cs, rest, h1, h2, h3, h4⟩, k => ⟨cs, rest ++ _, by rw [h1, List.append_assoc], h2, h3, h4.append k⟩
theorem AtT.cells5 {w : World} {M : Nat} {e : Tr} {v : Value} (h : AtT w M e v) : ∃ a c, v = .agg (#[.int .i64 e.page, .string e.name, .string e.text, .bool e.opq, .slice a e.kids.length c]) := by
  obtain ⟨_, _, _, a, c, hv, _⟩ := h.parts
  exact ⟨a, c, hv⟩
/-- the cells of kids -/
theorem AtL.kl {w : World} {M b o : Nat} : ∀ {ks : List Tr} {i : Nat}, AtL w M (some ⟨b, o, none⟩) i ks → ∃ xs, KL w M ks xs ∧ ∀ j u, xs[j]? = some u → w.cell? ⟨b, o + i * 5 + j, none⟩ = some u
  | [], _, _ => ⟨[], rfl, fun j u h => by simp at h⟩
  | k :: ks, i, h => by
    unfold AtL at h
    obtain ⟨⟨b', o', v, h1, h2, h3, h4⟩, h5⟩ := h
    simp only [Option.some.injEq, Addr.mk.injEq, and_true] at h1
    obtain ⟨rfl, rfl⟩ := h1
    obtain ⟨a, c, rfl⟩ := h4.cells5
    obtain ⟨xs, k1, k2⟩ := AtL.kl h5
    refine ⟨[.int .i64 k.page, .string k.name, .string k.text, .bool k.opq, .slice a k.kids.length c] ++ xs, ⟨_, xs, rfl, rfl, h4, k1⟩, fun j u hu => ?_⟩
    by_cases hj : j < 5
    · rw [List.getElem?_append_left (by simpa using hj)] at hu
      exact h3 j u hu
    · rw [List.getElem?_append_right (by simp; omega)] at hu
      have := k2 _ _ hu
      simp only [List.length_cons, List.length_nil, Nat.zero_add, Nat.reduceAdd] at this
      rwa [show o + (i + 1) * 5 + (j - 5) = o + i * 5 + j from by omega] at this
/-- and back -/
theorem KL.atL {w : World} {M g o : Nat} (hg : g < M) : ∀ {ks : List Tr} {xs : List Value} {i : Nat}, KL w M ks xs → (∀ j u, xs[j]? = some u → w.cell? ⟨g, o + i * 5 + j, none⟩ = some u) → AtL w M (some ⟨g, o, none⟩) i ks
  | [], _, _, _, _ => by unfold AtL; trivial
  | k :: ks, xs, i, ⟨cs, rest, h1, h2, h3, h4⟩, hc => by
    unfold AtL
    obtain ⟨a, c, hv⟩ := h3.cells5
    refine ⟨⟨g, o, .agg cs.toArray, rfl, hg, fun j u hu => ?_, h3⟩, KL.atL hg (i := i + 1) h4 fun j u hu => ?_⟩
    · have hj : j < cs.length := (List.getElem?_eq_some_iff.1 hu).1
      exact hc j u (by rw [h1, List.getElem?_append_left hj]; exact hu)
    · have := hc (5 + j) u (by rw [h1, List.getElem?_append_right (by omega), h2]; simpa using hu)
      rwa [show o + (i + 1) * 5 + j = o + i * 5 + (5 + j) from by omega]

theorem info24 : ∃ i0, Tryd.prog.info? 46 = some i0 ∧ i0.zero = some (.agg #[.int .i64 0, .string ByteArray.empty, .string ByteArray.empty, .bool false, .slice none 0 0]) ∧ i0.size = 5 ∧ i0.bytes = 72 := by
  have h : (Tryd.prog.info? 46).map (fun i => (i.zero, i.size, i.bytes)) = some (some (.agg #[.int .i64 0, .string ByteArray.empty, .string ByteArray.empty, .bool false, .slice none 0 0]), 5, 72) := by kernel_rfl
  obtain ⟨i0, hi, h⟩ := Option.map_eq_some_iff.1 h
  simp only [Prod.mk.injEq] at h
  exact ⟨i0, hi, h.1, h.2.1, h.2.2⟩
theorem KL.one {w : World} {M : Nat} : ∀ {L : List Tr} {xs : List Value}, KL w M L xs → ∀ u ∈ xs, u.oneCell' = true
  | [], _, h, u, hu => by have h : _ = [] := h; subst h; simp at hu
  | _ :: _, _, ⟨cs, rest, h1, h2, h3, h4⟩, u, hu => by
    obtain ⟨a, c, hv⟩ := h3.cells5
    rw [h1] at hu
    rcases List.mem_append.1 hu with h | h
    · simp only [Value.agg.injEq] at hv
      have hcs := congrArg Array.toList hv
      simp only [] at hcs
      rw [hcs] at h
      simp only [List.mem_cons, List.not_mem_nil, or_false] at h
      rcases h with rfl | rfl | rfl | rfl | rfl <;> rfl
    · exact KL.one h4 u h
/-- an owned row of elements reads as kids -/
theorem own_atL {w : World} {B : Nat} {ks : List Tr} {a : Option Addr} {c : Nat} {xs : List Value} (ho : w.ownsRow B 46 5 (.slice a ks.length c) ks.length xs) (hk : KL w w.heap.size ks xs) : AtL w w.heap.size a 0 ks := by
  rcases ho.2 with ⟨_, h0⟩ | ⟨g, cap, cur, hv, _⟩
  · rw [List.eq_nil_of_length_eq_zero h0]; unfold AtL; trivial
  · simp only [Value.slice.injEq] at hv
    obtain ⟨rfl, _, rfl⟩ := hv
    refine KL.atL (ho.lt g rfl).2 (i := 0) hk fun j u hu => ?_
    have := ho.cells (g := g) rfl j u hu
    rw [addr_addN] at this
    simpa using this

set_option maxRecDepth 100000 in
set_option maxHeartbeats 4000000 in
theorem clone_any (M : Nat) (ks : List Tr) (a : Option Addr) (c : Nat) (w : World) (hM : M ≤ w.heap.size) (hk : AtL w M a 0 ks) (hn : ks.length ≤ 1000000) (ha : a = none → ks.length = 0 ∧ c = 0) : Calls Tryd.prog 124 #[.slice a ks.length c] w fun r w' =>
    (∃ a' c' xs, r = .returned (.slice a' ks.length c') ∧ w'.ownsRow w.heap.size 46 5 (.slice a' ks.length c') ks.length xs ∧ KL w' M ks xs) ∧ Below w.heap.size w w' := by
  have hf : ∀ (b : Option Addr), Hid True := fun _ => trivial
  clear hf
  cases a with
  | none =>
    obtain ⟨h0, rfl⟩ := ha rfl
    have HK := Lib.hid (List.eq_nil_of_length_eq_zero h0)
    generalize ks.length = n at *
    subst h0
    clear hk ha
    have heq := fun w => Lib.run_eql_slice_nil (P := Tryd.prog) w 44 46 none 0 0 0 0 Tryd.underlying44
    go_enter Tryd.func124, Tryd.ntmps124
    go_wp2
    go_ret
    exact ⟨⟨none, 0, [], rfl, World.ownsRow_nil _ _ _ _, by rw [HK.out]; rfl⟩, Below.refl _ _⟩
  | some ad =>
    have hkl : ∃ xs, KL w M ks xs ∧ (∀ j u, xs[j]? = some u → w.cell? (ad.add j) = some u) := by
      cases hks : ks with
      | nil => exact ⟨[], rfl, fun j u h => by simp at h⟩
      | cons k l =>
        rw [hks] at hk
        have hk2 := hk
        unfold AtL at hk2
        obtain ⟨⟨b, o, v, h1, _⟩, _⟩ := hk2
        simp only [Option.some.injEq] at h1
        subst h1
        obtain ⟨xs, k1, k2⟩ := AtL.kl hk
        exact ⟨xs, k1, fun j u hu => by rw [addr_addN]; simpa using k2 j u hu⟩
    obtain ⟨xs, k1, k2⟩ := hkl
    have HK1 := Lib.hid k1
    have hal : Below w.heap.size w (w.alloc (.cells #[] 46)) := (Below.refl _ w).alloc (Nat.le_refl _) _
    have HK2 : Hid (∀ j u, xs[j]? = some u → (w.alloc (.cells #[] 46)).cell? (ad.add j) = some u) := fun j u hu => by
      have h := k2 j u hu
      rw [← h]
      exact World.cell?_of_block (Below.heap_alloc _ _ _ (World.block_lt_of_cell? _ _ h))
    have HLen : Hid (xs.length = ks.length * 5) := k1.len
    have HOne := Lib.hid k1.one
    have HO : Hid ((w.alloc (.cells #[] 46)).ownsRow w.heap.size 46 5 (.slice (some ⟨w.heap.size, 0, none⟩) 0 0) 0 []) := by
      have := World.ownsRow_lit (base := w.heap.size) (e := 46) (size := 5) w #[] 0 (Nat.le_refl _) (by decide) (by simp)
      unfold Hid; simpa using this
    have HAl := Lib.hid hal
    clear hk ha k1 k2 hal
    obtain ⟨i0, hi, hz0, hz1, hz2⟩ := info24
    generalize hnn : ks.length = n at *
    have HNN := Lib.hid hnn
    clear hnn
    go_enter Tryd.func124, Tryd.ntmps124
    have heq := fun w => Lib.run_eql_slice_nil (P := Tryd.prog) w 44 46 (some ad) n c 0 0 Tryd.underlying44
    have h63 : 0 + n ≤ maxLen := by simp [maxLen]; omega
    have hby : (0 + n) * 72 ≤ 140737488355328 := by omega
    go_wp2_with (at_builtin; go_must (refine wpList_append_own_at _ rfl _ _ 44 rfl w.heap.size 46 i0 _ 5 72 Tryd.underlying44 hi hz0 hz1 hz2 rfl (by decide) _ _ [] rfl HO.out ad n c xs rfl HLen.out HK2.out HOne.out h63 hby HAl.out.size ?_); intro v' w3 hown3 hgr3 _ hob3)
    rw [Nat.zero_add, List.nil_append] at hown3
    obtain ⟨a1, c1, rfl⟩ := own_form hown3
    have hb3 : Below w.heap.size w w3 := HAl.out.trans ⟨hgr3.os, hgr3.tape, hgr3.output, hgr3.size, fun k hk => hgr3.block k (Nat.lt_of_lt_of_le hk HAl.out.size) (fun e => absurd hk (by rw [Option.some.inj (show some k = some w.heap.size from e)]; exact Nat.lt_irrefl _))⟩
    go_ret
    exact ⟨⟨a1, c1, xs, rfl, hown3, HK1.out.below (hb3.mono hM)⟩, hb3⟩
end Go.Proofs.YtgechifbbhipaaaDoor
