/- tree: Clone and Node, told of which blocks the kids lie in. No condition but how many. -/
import Derived.Test.YtgechifbbhipaaaDoorTrH
set_option linter.unusedVariables false
set_option linter.unusedSimpArgs false
namespace Go.Proofs.YtgechifbbhipaaaDoor
open Go.RowKit

theorem AtQ.cells5 {w : World} {P : Nat → Prop} {e : Tr} {v : Value} (h : AtQ w P e v) : ∃ a c, v = .agg (#[.int .i64 e.page, .string e.name, .string e.text, .bool e.opq, .slice a e.kids.length c]) := by
  obtain ⟨_, _, _, a, c, hv, _⟩ := h.parts
  exact ⟨a, c, hv⟩
theorem KLQ.len {w : World} {P : Nat → Prop} : ∀ {L : List Tr} {xs : List Value}, KLQ w P L xs → xs.length = L.length * 5
  | [], _, h => by have h : _ = [] := h; subst h; rfl
  | _ :: _, _, ⟨cs, rest, h1, h2, _, h4⟩ => by rw [h1, List.length_append, h2, h4.len, List.length_cons]; omega
theorem KLQ.one {w : World} {P : Nat → Prop} : ∀ {L : List Tr} {xs : List Value}, KLQ w P L xs → ∀ u ∈ xs, u.oneCell' = true
  | [], _, h, u, hu => by have h : _ = [] := h; subst h; simp at hu
  | _ :: _, _, ⟨cs, rest, h1, h2, h3, h4⟩, u, hu => by
    obtain ⟨a, c, hv⟩ := h3.cells5
    rw [h1] at hu
    rcases List.mem_append.1 hu with h | h
    · simp only [Value.agg.injEq] at hv
      have hcs := congrArg Array.toList hv
      simp only [] at hcs
      rw [hcs] at h
      simp only [List.mem_cons, List.not_mem_nil, or_false] at h
      rcases h with rfl | rfl | rfl | rfl | rfl <;> rfl
    · exact KLQ.one h4 u h
theorem AtLQ.kl {w : World} {P : Nat → Prop} {b o : Nat} : ∀ {ks : List Tr} {i : Nat}, AtLQ w P (some ⟨b, o, none⟩) i ks → ∃ xs, KLQ w P ks xs ∧ ∀ j u, xs[j]? = some u → w.cell? ⟨b, o + i * 5 + j, none⟩ = some u
  | [], _, _ => ⟨[], rfl, fun j u h => by simp at h⟩
  | k :: ks, i, h => by
    unfold AtLQ at h
    obtain ⟨⟨b', o', v, h1, h2, h3, h4⟩, h5⟩ := h
    simp only [Option.some.injEq, Addr.mk.injEq, and_true] at h1
    obtain ⟨rfl, rfl⟩ := h1
    obtain ⟨a, c, rfl⟩ := h4.cells5
    obtain ⟨xs, k1, k2⟩ := AtLQ.kl h5
    refine ⟨[.int .i64 k.page, .string k.name, .string k.text, .bool k.opq, .slice a k.kids.length c] ++ xs, ⟨_, xs, rfl, rfl, h4, k1⟩, fun j u hu => ?_⟩
    by_cases hj : j < 5
    · rw [List.getElem?_append_left (by simpa using hj)] at hu
      exact h3 j u hu
    · rw [List.getElem?_append_right (by simp; omega)] at hu
      have := k2 _ _ hu
      simp only [List.length_cons, List.length_nil, Nat.zero_add, Nat.reduceAdd] at this
      rwa [show o + (i + 1) * 5 + (j - 5) = o + i * 5 + j from by omega] at this
theorem KLQ.atL {w : World} {P : Nat → Prop} {g o : Nat} (hg : P g) : ∀ {ks : List Tr} {xs : List Value} {i : Nat}, KLQ w P ks xs → (∀ j u, xs[j]? = some u → w.cell? ⟨g, o + i * 5 + j, none⟩ = some u) → AtLQ w P (some ⟨g, o, none⟩) i ks
  | [], _, _, _, _ => by unfold AtLQ; trivial
  | k :: ks, xs, i, ⟨cs, rest, h1, h2, h3, h4⟩, hc => by
    unfold AtLQ
    obtain ⟨a, c, hv⟩ := h3.cells5
    refine ⟨⟨g, o, .agg cs.toArray, rfl, hg, fun j u hu => ?_, h3⟩, KLQ.atL hg (i := i + 1) h4 fun j u hu => ?_⟩
    · have hj : j < cs.length := (List.getElem?_eq_some_iff.1 hu).1
      exact hc j u (by rw [h1, List.getElem?_append_left hj]; exact hu)
    · have := hc (5 + j) u (by rw [h1, List.getElem?_append_right (by omega), h2]; simpa using hu)
      rwa [show o + (i + 1) * 5 + j = o + i * 5 + (5 + j) from by omega]
/-- an owned row of elements reads as kids -/
theorem own_atLQ {w : World} {P : Nat → Prop} {B : Nat} {ks : List Tr} {a : Option Addr} {c : Nat} {xs : List Value} (hP : ∀ g, B ≤ g → g < w.heap.size → P g) (ho : w.ownsRow B 46 5 (.slice a ks.length c) ks.length xs) (hk : KLQ w P ks xs) : AtLQ w P a 0 ks := by
  rcases ho.2 with ⟨_, h0⟩ | ⟨g, cap, cur, hv, _⟩
  · rw [List.eq_nil_of_length_eq_zero h0]; unfold AtLQ; trivial
  · simp only [Value.slice.injEq] at hv
    obtain ⟨rfl, _, rfl⟩ := hv
    refine KLQ.atL (hP g (ho.lt g rfl).1 (ho.lt g rfl).2) (i := 0) hk fun j u hu => ?_
    have := ho.cells (g := g) rfl j u hu
    rw [addr_addN] at this
    simpa using this
/-- a row of the call's own as kids -/
theorem RowQ.atLQ {w : World} {B : Nat} {v : Value} {ks : List Tr} (h : RowQ w B v ks) : ∃ a c, v = .slice a ks.length c ∧ AtLQ w (fun b => B ≤ b ∧ b < w.heap.size) a 0 ks ∧ (a = none → ks.length = 0 ∧ c = 0) := by
  obtain ⟨xs, h1, h2⟩ := h
  obtain ⟨a, c, rfl⟩ := own_form h1
  exact ⟨a, c, rfl, own_atLQ (fun g h3 h4 => ⟨h3, h4⟩) h1 (h2.keep (fun b hb => ⟨⟨hb.1, hb.2.1⟩, rfl⟩)), own_nil h1⟩

set_option maxRecDepth 100000 in
set_option maxHeartbeats 4000000 in
theorem cloneQ_any (P : Nat → Prop) (ks : List Tr) (a : Option Addr) (c : Nat) (w : World) (hM : ∀ b, P b → b < w.heap.size) (hk : AtLQ w P a 0 ks) (hn : ks.length ≤ 1000000) (ha : a = none → ks.length = 0 ∧ c = 0) : Calls Tryd.prog 124 #[.slice a ks.length c] w fun r w' =>
    (∃ a' c' xs, r = .returned (.slice a' ks.length c') ∧ w'.ownsRow w.heap.size 46 5 (.slice a' ks.length c') ks.length xs ∧ KLQ w' P ks xs) ∧ Below w.heap.size w w' := by
  have hf : ∀ (b : Option Addr), Hid True := fun _ => trivial
  clear hf
  cases a with
  | none =>
    obtain ⟨h0, rfl⟩ := ha rfl
    have HK := Lib.hid (List.eq_nil_of_length_eq_zero h0)
    generalize ks.length = n at *
    subst h0
    clear hk ha
    have heq := fun w => Lib.run_eql_slice_nil (P := Tryd.prog) w 44 46 none 0 0 0 0 Tryd.underlying44
    go_enter Tryd.func124, Tryd.ntmps124
    go_wp2
    go_ret
    exact ⟨⟨none, 0, [], rfl, World.ownsRow_nil _ _ _ _, by rw [HK.out]; rfl⟩, Below.refl _ _⟩
  | some ad =>
    have hkl : ∃ xs, KLQ w P ks xs ∧ (∀ j u, xs[j]? = some u → w.cell? (ad.add j) = some u) := by
      cases hks : ks with
      | nil => exact ⟨[], rfl, fun j u h => by simp at h⟩
      | cons k l =>
        rw [hks] at hk
        have hk2 := hk
        unfold AtLQ at hk2
        obtain ⟨⟨b, o, v, h1, _⟩, _⟩ := hk2
        simp only [Option.some.injEq] at h1
        subst h1
        obtain ⟨xs, k1, k2⟩ := AtLQ.kl hk
        exact ⟨xs, k1, fun j u hu => by rw [addr_addN]; simpa using k2 j u hu⟩
    obtain ⟨xs, k1, k2⟩ := hkl
    have HK1 := Lib.hid k1
    have hal : Below w.heap.size w (w.alloc (.cells #[] 46)) := (Below.refl _ w).alloc (Nat.le_refl _) _
    have HK2 : Hid (∀ j u, xs[j]? = some u → (w.alloc (.cells #[] 46)).cell? (ad.add j) = some u) := fun j u hu => by
      have h := k2 j u hu
      rw [← h]
      exact World.cell?_of_block (Below.heap_alloc _ _ _ (World.block_lt_of_cell? _ _ h))
    have HLen : Hid (xs.length = ks.length * 5) := k1.len
    have HOne := Lib.hid k1.one
    have HO : Hid ((w.alloc (.cells #[] 46)).ownsRow w.heap.size 46 5 (.slice (some ⟨w.heap.size, 0, none⟩) 0 0) 0 []) := by
      have := World.ownsRow_lit (base := w.heap.size) (e := 46) (size := 5) w #[] 0 (Nat.le_refl _) (by decide) (by simp)
      unfold Hid; simpa using this
    have HAl := Lib.hid hal
    clear hk ha k1 k2 hal
    obtain ⟨i0, hi, hz0, hz1, hz2⟩ := info24
    generalize hnn : ks.length = n at *
    have HNN := Lib.hid hnn
    clear hnn
    go_enter Tryd.func124, Tryd.ntmps124
    have heq := fun w => Lib.run_eql_slice_nil (P := Tryd.prog) w 44 46 (some ad) n c 0 0 Tryd.underlying44
    have h63 : 0 + n ≤ maxLen := by simp [maxLen]; omega
    have hby : (0 + n) * 72 ≤ 140737488355328 := by omega
    go_wp2_with (at_builtin; go_must (refine wpList_append_own_at _ rfl _ _ 44 rfl w.heap.size 46 i0 _ 5 72 Tryd.underlying44 hi hz0 hz1 hz2 rfl (by decide) _ _ [] rfl HO.out ad n c xs rfl HLen.out HK2.out HOne.out h63 hby HAl.out.size ?_); intro v' w3 hown3 hgr3 _ hob3)
    rw [Nat.zero_add, List.nil_append] at hown3
    obtain ⟨a1, c1, rfl⟩ := own_form hown3
    have hb3 : Below w.heap.size w w3 := HAl.out.trans ⟨hgr3.os, hgr3.tape, hgr3.output, hgr3.size, fun k hk => hgr3.block k (Nat.lt_of_lt_of_le hk HAl.out.size) (fun e => absurd hk (by rw [Option.some.inj (show some k = some w.heap.size from e)]; exact Nat.lt_irrefl _))⟩
    go_ret
    exact ⟨⟨a1, c1, xs, rfl, hown3, HK1.out.keep (fun b hb => ⟨hb, hb3.block b (hM b hb)⟩)⟩, hb3⟩
set_option maxRecDepth 100000 in
theorem nodeQ_any (P : Nat → Prop) (p : Int) (nm : ByteArray) (hnm : nm.size ≤ reachT) (ks : List Tr) (a : Option Addr) (c : Nat) (w : World) (hM : ∀ b, P b → b < w.heap.size) (hk : AtLQ w P a 0 ks) (hn : ks.length ≤ 1000000) (ha : a = none → ks.length = 0 ∧ c = 0) : Calls Tryd.prog 64 #[.int .i64 p, .string nm, .slice a ks.length c] w fun r w' =>
    (∃ v, r = .returned v ∧ AtQ w' (fun b => P b ∨ (w.heap.size ≤ b ∧ b < w'.heap.size)) (.mk p nm ByteArray.empty false ks) v) ∧ Below w.heap.size w w' := by
  have cC := Lib.hid (fun W (hW : Below w.heap.size w W) => cloneQ_any P ks a c W (fun b hb => Nat.lt_of_lt_of_le (hM b hb) hW.size) (AtLQ.keep (fun b hb => ⟨hb, hW.block b (hM b hb)⟩) a ks 0 hk) hn ha)
  generalize hnn : ks.length = n at *
  have HN := Lib.hid hnn
  clear hnn hk ha
  go_enter Tryd.func64, Tryd.ntmps64
  have hal : Below w.heap.size w (w.alloc (.cells #[.int .i64 0, .string ByteArray.empty, .string ByteArray.empty, .bool false, .slice none 0 0] 46)) := (Below.refl _ w).alloc (Nat.le_refl _) _
  have HAl := Lib.hid hal
  clear hal
  go_wp2_with (first | (go_at_call 124; refine (cC.out _ HAl.out).mono ?_; rintro r w1 ⟨⟨a', c', xs, rfl, hown, hkl⟩, hb1⟩; have hz1 : w1.heap[w.heap.size]? = some (.cells #[.int .i64 0, .string ByteArray.empty, .string ByteArray.empty, .bool false, .slice none 0 0] 46) := (hb1.block w.heap.size (by simp)).trans (World.alloc_heap_new w _); have HZ1 := Lib.hid hz1) | (refine wpList_store_row rfl 46 (.tmp 6) (.tmp 11) rfl w.heap.size #[.int .i64 p, .string nm, .string ⟨#[]⟩, .bool false, .slice a' n c'] rfl rfl 46 _ HZ1.out (by kernel_rfl) rfl (by simp [Value.oneCell']) ?_))
  have hzz : (w1.setRow w.heap.size #[.int .i64 p, .string nm, .string ⟨#[]⟩, .bool false, .slice a' n c']).heap[w.heap.size]? = some (.cells #[.int .i64 p, .string nm, .string ⟨#[]⟩, .bool false, .slice a' n c'] 46) := setRow_heap w1 w.heap.size _ _ 46 _ hz1
  refine bodyPost_ret (results_cell_row rfl _ _ w.heap.size 46 #[.int .i64 p, .string nm, .string ⟨#[]⟩, .bool false, .slice a' n c'] (0, 0) _ rfl hzz Tryd.underlying46 rfl (by kernel_rfl)) rfl ?_
  have hsr := below_setRow (B := w.heap.size) w1 #[.int .i64 p, .string nm, .string ⟨#[]⟩, .bool false, .slice a' n c'] (Nat.le_refl _)
  have hbw : Below w.heap.size w w1 := HAl.out.trans (hb1.mono HAl.out.size)
  have hown2 := owns_other (w' := w1.setRow w.heap.size #[.int .i64 p, .string nm, .string ⟨#[]⟩, .bool false, .slice a' n c']) hown (fun k hk => setRow_other w1 w.heap.size k _ (by have := (hown.lt k hk).1; simp only [World.size_alloc] at this; omega))
  refine ⟨⟨_, rfl, ?_⟩, hbw.trans hsr⟩
  unfold AtQ
  refine ⟨hnm, by decide, by rw [HN.out]; simp only [reachT]; omega, a', c', by rw [HN.out]; rfl, ?_, by rw [HN.out]; exact own_cap5 hown2⟩
  have hsz2 : w.heap.size < (w1.setRow w.heap.size #[.int .i64 p, .string nm, .string ⟨#[]⟩, .bool false, .slice a' n c']).heap.size := Nat.lt_of_lt_of_le (by simp) (Nat.le_trans hb1.size hsr.size)
  have hkl2 : KLQ (w1.setRow w.heap.size #[.int .i64 p, .string nm, .string ⟨#[]⟩, .bool false, .slice a' n c']) (fun b => P b ∨ (w.heap.size ≤ b ∧ b < (w1.setRow w.heap.size #[.int .i64 p, .string nm, .string ⟨#[]⟩, .bool false, .slice a' n c']).heap.size)) ks xs :=
    hkl.keep (fun b hb => ⟨.inl hb, hsr.block b (hM b hb)⟩)
  exact own_atLQ (ks := ks) (a := a') (c := c') (B := w.heap.size + 1) (fun g hg1 hg2 => .inr ⟨Nat.le_of_succ_le hg1, hg2⟩) (by rw [HN.out]; simpa using hown2) hkl2
end Go.Proofs.YtgechifbbhipaaaDoor
