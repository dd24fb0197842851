/- tree: elements in memory; lists of elements with how deep each lies. No condition. -/
import Derived.Test.YtgechifbbhipaaaDoorTrP
import Derived.Deep.MidRow
import Derived.Maps.AppendAt
set_option linter.unusedVariables false
set_option linter.unusedSimpArgs false
namespace Go.Proofs.YtgechifbbhipaaaDoor
open Go.RowKit

def reachT : Nat := 140737488355328
mutual
/-- a value that reads as an element, its kids in blocks below M -/
def AtT (w : World) (M : Nat) : Tr → Value → Prop
  | .mk p nm tx o ks, v => nm.size ≤ reachT ∧ tx.size ≤ reachT ∧ ks.length ≤ reachT ∧ ∃ a c, v = .agg #[.int .i64 p, .string nm, .string tx, .bool o, .slice a ks.length c] ∧ AtL w M a 0 ks ∧ ks.length ≤ c
def AtL (w : World) (M : Nat) (a : Option Addr) : Nat → List Tr → Prop
  | _, [] => True
  | i, k :: ks => (∃ b o v, a = some ⟨b, o, none⟩ ∧ b < M ∧ w.rangeAt b (o + i * 5) (match v with | .agg cs => cs.toList | _ => []) ∧ AtT w M k v) ∧ AtL w M a (i + 1) ks
end

theorem range_below {w w' : World} {M b o : Nat} {cs : List Value} (h : w.rangeAt b o cs) (hb : Below M w w') (hM : b < M) : w'.rangeAt b o cs :=
  fun j v hv => (hb.cell (p := ⟨b, o + j, none⟩) hM).trans (h j v hv)
mutual
theorem AtT.below {w w' : World} {M : Nat} (hb : Below M w w') : ∀ (e : Tr) (v : Value), AtT w M e v → AtT w' M e v
  | .mk p nm tx o ks, v, h => by
    unfold AtT at h ⊢
    obtain ⟨h1, h2, h3, a, c, h4, h5, h6⟩ := h
    exact ⟨h1, h2, h3, a, c, h4, AtL.below hb a ks 0 h5, h6⟩
theorem AtL.below {w w' : World} {M : Nat} (hb : Below M w w') (a : Option Addr) : ∀ (ks : List Tr) (i : Nat), AtL w M a i ks → AtL w' M a i ks
  | [], _, _ => by unfold AtL; trivial
  | k :: ks, i, h => by
    unfold AtL at h ⊢
    obtain ⟨⟨b, o, v, h1, h2, h3, h4⟩, h5⟩ := h
    exact ⟨⟨b, o, v, h1, h2, range_below h3 hb h2, AtT.below hb k v h4⟩, AtL.below hb a ks (i + 1) h5⟩
end
/-- the fields -/
theorem AtT.parts {w : World} {M : Nat} {e : Tr} {v : Value} (h : AtT w M e v) : e.name.size ≤ reachT ∧ e.text.size ≤ reachT ∧ e.kids.length ≤ reachT ∧ ∃ a c, v = .agg #[.int .i64 e.page, .string e.name, .string e.text, .bool e.opq, .slice a e.kids.length c] ∧ AtL w M a 0 e.kids := by
  cases e; unfold AtT at h
  obtain ⟨h1, h2, h3, a, c, h4, h5, _⟩ := h
  exact ⟨h1, h2, h3, a, c, h4, h5⟩
theorem AtT.cap {w : World} {M : Nat} {e : Tr} {p : Int} {nm tx : ByteArray} {o : Bool} {a : Option Addr} {n c : Nat} (h : AtT w M e (.agg #[.int .i64 p, .string nm, .string tx, .bool o, .slice a n c])) : e.kids.length ≤ c := by
  cases e; unfold AtT at h
  obtain ⟨_, _, _, a2, c2, h4, _, h6⟩ := h
  simp only [Value.agg.injEq, Array.mk.injEq, List.cons.injEq, Value.slice.injEq] at h4
  obtain ⟨_, _, _, _, ⟨_, _, h7⟩, _⟩ := h4
  rw [h7]; exact h6
theorem AtL.get {w : World} {M : Nat} {a : Option Addr} : ∀ {ks : List Tr} {i : Nat}, AtL w M a i ks → ∀ j (hj : j < ks.length), ∃ b o v, a = some ⟨b, o, none⟩ ∧ b < M ∧ w.rangeAt b (o + (i + j) * 5) (match v with | .agg cs => cs.toList | _ => []) ∧ AtT w M ks[j] v
  | [], _, _, j, hj => by simp at hj
  | k :: ks, i, h, j, hj => by
    unfold AtL at h
    obtain ⟨h1, h2⟩ := h
    cases j with
    | zero => exact h1
    | succ j =>
      have := AtL.get h2 j (by simpa using hj)
      rw [show i + 1 + j = i + (j + 1) from by omega] at this
      exact this
/-- a kid, its cells -/
theorem AtL.kid {w : World} {M : Nat} {a : Option Addr} {ks : List Tr} (h : AtL w M a 0 ks) (j : Nat) (hj : j < ks.length) : ∃ b o a' c', a = some ⟨b, o, none⟩ ∧ b < M ∧
    w.rangeAt b (o + j * 5) [.int .i64 ks[j].page, .string ks[j].name, .string ks[j].text, .bool ks[j].opq, .slice a' ks[j].kids.length c'] ∧
    AtT w M ks[j] (.agg #[.int .i64 ks[j].page, .string ks[j].name, .string ks[j].text, .bool ks[j].opq, .slice a' ks[j].kids.length c']) := by
  obtain ⟨b, o, v, h1, h2, h3, h4⟩ := h.get j hj
  obtain ⟨_, _, _, a', c', rfl, _⟩ := h4.parts
  rw [Nat.zero_add] at h3
  exact ⟨b, o, a', c', h1, h2, h3, h4⟩

/-- cells that read as elements with how deep each lies -/
def PrL (w : World) (M : Nat) : List (Nat × Tr) → List Value → Prop
  | [], xs => xs = []
  | p :: l, xs => ∃ a c rest, xs = [.int .i64 (p.1 : Int), .int .i64 p.2.page, .string p.2.name, .string p.2.text, .bool p.2.opq, .slice a p.2.kids.length c] ++ rest ∧
      AtT w M p.2 (.agg #[.int .i64 p.2.page, .string p.2.name, .string p.2.text, .bool p.2.opq, .slice a p.2.kids.length c]) ∧ PrL w M l rest
theorem PrL.below {w w' : World} {M : Nat} (hb : Below M w w') : ∀ {L : List (Nat × Tr)} {xs : List Value}, PrL w M L xs → PrL w' M L xs
  | [], _, h => h
  | _ :: _, _, ⟨a, c, rest, h1, h2, h3⟩ => ⟨a, c, rest, h1, AtT.below hb _ _ h2, h3.below hb⟩
theorem PrL.snoc {w : World} {M : Nat} {d : Nat} {e : Tr} {a : Option Addr} {c : Nat} (he : AtT w M e (.agg #[.int .i64 e.page, .string e.name, .string e.text, .bool e.opq, .slice a e.kids.length c])) :
    ∀ {L : List (Nat × Tr)} {xs : List Value}, PrL w M L xs → PrL w M (L ++ [(d, e)]) (xs ++ [.int .i64 (d : Int), .int .i64 e.page, .string e.name, .string e.text, .bool e.opq, .slice a e.kids.length c])
  | [], _, h => by
    have h : _ = [] := h
    subst h
    exact ⟨a, c, [], by simp, he, rfl⟩
  | _ :: _, _, ⟨a', c', rest, h1, h2, h3⟩ => ⟨a', c', rest ++ _, by rw [h1, List.append_assoc], h2, PrL.snoc he h3⟩
theorem PrL.get {w : World} {M : Nat} : ∀ {L : List (Nat × Tr)} {xs : List Value}, PrL w M L xs → ∀ i (hi : i < L.length), ∃ a c, (xs.drop (i * 6)).take 6 = [.int .i64 (L[i].1 : Int), .int .i64 L[i].2.page, .string L[i].2.name, .string L[i].2.text, .bool L[i].2.opq, .slice a L[i].2.kids.length c] ∧
      AtT w M L[i].2 (.agg #[.int .i64 L[i].2.page, .string L[i].2.name, .string L[i].2.text, .bool L[i].2.opq, .slice a L[i].2.kids.length c])
  | [], _, _, i, hi => by simp at hi
  | _ :: _, _, ⟨a', c', rest, h1, h2, h3⟩, i, hi => by
    cases i with
    | zero => exact ⟨a', c', by rw [h1]; rfl, h2⟩
    | succ i =>
      obtain ⟨a, c, h4, h5⟩ := PrL.get h3 i (by simpa using hi)
      refine ⟨a, c, ?_, h5⟩
      rw [h1, show (i + 1) * 6 = 6 + i * 6 from by omega, ← List.drop_drop]
      exact h4

/-- what comes to a list, as far as there is room -/
def addT {α : Type} (most : Nat) (L P : List α) : List α := L ++ P.take (most - L.length)
theorem addT_app {α : Type} (most : Nat) (L P Q : List α) : addT most (addT most L P) Q = addT most L (P ++ Q) := by
  unfold addT
  rw [List.take_append, List.append_assoc, List.length_append, List.length_take]
  congr 2
  congr 1
  omega
theorem addT_full {α : Type} (most : Nat) (L P Q : List α) (h : most ≤ (addT most L P).length) (_ : L.length ≤ most) : addT most L (P ++ Q) = addT most L P := by
  unfold addT at h ⊢
  rw [List.length_append, List.length_take] at h
  rw [List.take_append, show most - L.length - P.length = 0 from by omega]
  simp
theorem addT_len {α : Type} (most : Nat) (L P : List α) (hL : L.length ≤ most) : (addT most L P).length ≤ most := by
  unfold addT
  rw [List.length_append, List.length_take]; omega
theorem addT_one {α : Type} (most : Nat) (L : List α) (x : α) (hL : L.length < most) : addT most L [x] = L ++ [x] := by
  unfold addT
  rw [List.take_of_length_le (by simp; omega)]
theorem addT_nil {α : Type} (most : Nat) (L : List α) : addT most L [] = L := by simp [addT]
theorem addT_no {α : Type} (most : Nat) (L P : List α) (hL : most ≤ L.length) : addT most L P = L := by
  unfold addT
  rw [show most - L.length = 0 from by omega]; simp
theorem grown_trans {w w1 w2 : World} {r1 r2 : Option Nat} (h : w.grownBy w1 r1) (k : w1.grownBy w2 r2) (hr : r2 = r1 ∨ ∀ b, r2 = some b → w.heap.size ≤ b) : w.grownBy w2 r1 :=
  ⟨k.os.trans h.os, k.tape.trans h.tape, k.output.trans h.output, Nat.le_trans h.size k.size, fun q hq hne => (k.block q (Nat.lt_of_lt_of_le hq h.size) (by
    rcases hr with rfl | hr
    · exact hne
    · intro e; have := hr q e.symm; omega)).trans (h.block q hq hne)⟩
end Go.Proofs.YtgechifbbhipaaaDoor

/- tree: the reference's all: an element and all within it, as a list. No condition but how many. -/
set_option linter.unusedVariables false
set_option linter.unusedSimpArgs false
namespace Go.Proofs.YtgechifbbhipaaaDoor
open Go.RowKit

def AllP (M B : Nat) (L' : List (Nat × Tr)) (l : Value) (w : World) (r : Ending) (w' : World) : Prop :=
  ∃ l' xs', r = .returned l' ∧ w'.ownsRow B 106 6 l' L'.length xs' ∧ PrL w' M L' xs' ∧ w.grownBy w' l.ownBlock ∧ (l'.ownBlock = l.ownBlock ∨ ∀ b, l'.ownBlock = some b → w.heap.size ≤ b)

theorem info44 : ∃ i0, Tryd.prog.info? 106 = some i0 ∧ i0.zero = some (.agg #[.int .i64 0, .int .i64 0, .string ByteArray.empty, .string ByteArray.empty, .bool false, .slice none 0 0]) ∧ i0.size = 6 ∧ i0.bytes = 80 := by
  have h : (Tryd.prog.info? 106).map (fun i => (i.zero, i.size, i.bytes)) = some (some (.agg #[.int .i64 0, .int .i64 0, .string ByteArray.empty, .string ByteArray.empty, .bool false, .slice none 0 0]), 6, 80) := by kernel_rfl
  obtain ⟨i0, hi, h⟩ := Option.map_eq_some_iff.1 h
  simp only [Prod.mk.injEq] at h
  exact ⟨i0, hi, h.1, h.2.1, h.2.2⟩

theorem below_row {B : Nat} {w w' : World} {e : TypeId} {sz n : Nat} {v : Value} {xs : List Value} (ho : w.ownsRow B e sz v n xs) (hg : w.grownBy w' v.ownBlock) (hB : B ≤ w.heap.size) : Below B w w' :=
  ⟨hg.os, hg.tape, hg.output, hg.size, fun k hk => hg.block k (by omega) (fun h => by have := (ho.lt k h.symm).1; omega)⟩

theorem size24 : (Tryd.prog.info? 46).map (·.size) = some 5 := by kernel_rfl
theorem elem_cells {w : World} {b o : Nat} {p : Int} {nm tx : ByteArray} {q : Bool} {v : Value} (h : w.rangeAt b o [.int .i64 p, .string nm, .string tx, .bool q, v]) :
    w.cell? ⟨b, o, none⟩ = some (.int .i64 p) ∧ w.cell? ⟨b, o + 1, none⟩ = some (.string nm) ∧ w.cell? ⟨b, o + 2, none⟩ = some (.string tx) ∧ w.cell? ⟨b, o + 3, none⟩ = some (.bool q) ∧ w.cell? ⟨b, o + 4, none⟩ = some v :=
  ⟨h 0 _ rfl, h 1 _ rfl, h 2 _ rfl, h 3 _ rfl, h 4 _ rfl⟩
theorem wrap_succ (d : Nat) (h : d ≤ 10000) : wrap64 ((d : Int) + 1) = ((d + 1 : Nat) : Int) := by unfold wrap64; omega
theorem cells_new (w : World) (cs : List Value) (t : TypeId) : ∀ j u, cs[j]? = some u → (w.alloc (.cells cs.toArray t)).cell? ((⟨w.heap.size, 0, none⟩ : Addr).add j) = some u := fun j u hu => by
  rw [show (⟨w.heap.size, 0, none⟩ : Addr).add j = ⟨w.heap.size, j, none⟩ from by unfold Addr.add; split <;> simp_all]
  rw [World.cell?_alloc_at _ _ _ _ rfl]
  simpa using hu
theorem preL_app (most d : Nat) (a b : List Tr) : preL most d (a ++ b) = preL most d a ++ preL most d b := by
  induction a with
  | nil => simp [preL]
  | cons x l ih => rw [List.cons_append, preL, preL, ih, List.append_assoc]

set_option maxRecDepth 100000 in
set_option maxHeartbeats 8000000 in
theorem refAll_any (M most deepest : Nat) (hmost : most ≤ 5000) (hdst : deepest ≤ 5000) : ∀ (h : Nat) (e : Tr), hT e ≤ h → ∀ (v : Value) (deep : Nat) (L : List (Nat × Tr)) (xs : List Value) (l : Value) (B : Nat) (w : World),
    deep ≤ 5001 → M ≤ B → B ≤ w.heap.size → L.length ≤ most → AtT w M e v → w.ownsRow B 106 6 l L.length xs → PrL w M L xs →
    Calls Tryd.prog 135 #[l, v, .int .i64 (deep : Int), .int .i64 (most : Int), .int .i64 (deepest : Int)] w (AllP M B (addT most L (preT deepest deep e)) l w) := by
  intro h
  induction h with
  | zero => intro e he; cases e; rw [hT] at he; omega
  | succ h ih =>
    intro e he v deep L xs l B w hdeep hMB hBw hLm hv ho hp
    obtain ⟨al, cl, rfl⟩ := own_form ho
    obtain ⟨s1, s2, s3, a, c, rfl, hk⟩ := hv.parts
    by_cases hd : deepest < deep
    · have j1 : (deepest : Int) < (deep : Int) := by omega
      rw [preT_deep hd, addT_nil]
      go_enter Tryd.func135, Tryd.ntmps135
      go_wp2_with fail
      go_ret
      refine ⟨_, xs, rfl, ho.alloc _, hp.below (((Below.refl M w).alloc (by omega) _)), ?_, .inl rfl⟩
      exact ⟨rfl, rfl, rfl, by simp, fun k hk _ => Below.heap_alloc _ _ _ hk⟩
    · have j1 : ¬ (deepest : Int) < (deep : Int) := by omega
      by_cases hf : most ≤ L.length
      · have j2 : (most : Int) ≤ (L.length : Int) := by omega
        rw [addT_no most L _ hf]
        go_enter Tryd.func135, Tryd.ntmps135
        go_wp2_with fail
        go_ret
        refine ⟨_, xs, rfl, ho.alloc _, hp.below (((Below.refl M w).alloc (by omega) _)), ?_, .inl rfl⟩
        exact ⟨rfl, rfl, rfl, by simp, fun k hk _ => Below.heap_alloc _ _ _ hk⟩
      · have j2 : ¬ (most : Int) ≤ (L.length : Int) := by omega
        rw [preT_in hd]
        obtain ⟨i0, hi, hz0, hz1, hz2⟩ := info44
        have HO := Lib.hid ho
        have HP := Lib.hid hp
        have HV := Lib.hid hv
        clear ho hp hv
        go_enter Tryd.func135, Tryd.ntmps135
        have h63 : L.length + 1 ≤ maxLen := by simp [maxLen]; omega
        have hnew := cells_new (w.alloc (.cells #[.int .i64 e.page, .string e.name, .string e.text, .bool e.opq, .slice a e.kids.length c] 46)) [.int .i64 (deep : Int), .int .i64 e.page, .string e.name, .string e.text, .bool e.opq, .slice a e.kids.length c] 106
        rw [World.size_alloc] at hnew
        have HNew := Lib.hid hnew
        clear hnew
        go_wp2_with (at_builtin; go_must (refine wpList_append_own_at _ rfl _ _ 103 rfl B 106 i0 _ 6 80 Tryd.underlying103 hi hz0 hz1 hz2 rfl (by decide) _ _ xs rfl ((HO.out.alloc _).alloc _) ⟨w.heap.size + 1, 0, none⟩ 1 1 [.int .i64 (deep : Int), .int .i64 e.page, .string e.name, .string e.text, .bool e.opq, .slice a e.kids.length c] rfl rfl HNew.out (by simp [Value.oneCell']) h63 (by omega) (by simp; omega) ?_); intro v' w3 hown3 hgr3 _ hob3)
        obtain ⟨a1, c1, rfl⟩ := own_form hown3
        have hlg : ∀ g, (Value.slice al L.length cl).ownBlock = some g → g < w.heap.size := fun g hg => (HO.out.lt g hg).2
        have hg3 : w.grownBy w3 (Value.slice al L.length cl).ownBlock :=
          ⟨hgr3.os, hgr3.tape, hgr3.output, by have := hgr3.size; simp only [World.size_alloc] at this; omega, fun k hk hne => (hgr3.block k (by simp only [World.size_alloc]; omega) hne).trans ((Below.heap_alloc _ _ _ (by simp only [World.size_alloc]; omega)).trans (Below.heap_alloc _ _ _ hk))⟩
        have hsz3 : w.heap.size < w3.heap.size := by have := hgr3.size; simp only [World.size_alloc] at this; omega
        have hbx : w3.cell? ⟨w.heap.size, 4, none⟩ = some (.slice a e.kids.length c) := by
          refine (World.cell?_of_block (a := ⟨w.heap.size, 4, none⟩) ((hgr3.block w.heap.size (by simp only [World.size_alloc]; omega) (fun h => by have := hlg _ h.symm; omega)).trans (Below.heap_alloc _ _ _ (by simp only [World.size_alloc]; omega)))).trans ?_
          rw [World.cell?_alloc_at _ _ _ _ rfl]; rfl
        have HBM : Hid (∀ X, w.grownBy X (Value.slice al L.length cl).ownBlock → Below B w X) := fun X hX => below_row HO.out hX hBw
        have HP3 : Hid (PrL w3 M (L ++ [(deep, e)]) (xs ++ [.int .i64 (deep : Int), .int .i64 e.page, .string e.name, .string e.text, .bool e.opq, .slice a e.kids.length c])) := PrL.snoc (AtT.below ((HBM.out _ hg3).mono hMB) _ _ HV.out) (HP.out.below ((HBM.out _ hg3).mono hMB))
        have hob3' : (Value.slice a1 (L.length + 1) c1).ownBlock = (Value.slice al L.length cl).ownBlock ∨ ∀ b, (Value.slice a1 (L.length + 1) c1).ownBlock = some b → w.heap.size < b := by
          rcases hob3 with h | h
          · exact .inl h
          · refine .inr fun b hb => ?_
            rw [h] at hb; cases hb; simp only [World.size_alloc]; omega
        have HG3 := Lib.hid hg3
        have HOw := Lib.hid hown3
        have HOB3 := Lib.hid hob3'
        have HKids := Lib.hid hk
        have HLG := Lib.hid hlg
        clear hg3 hown3 hgr3 hob3 hob3' hk hlg HNew
        generalize hnk : e.kids.length = nk at *
        have HNK := Lib.hid hnk
        have hnkb : nk ≤ 140737488355328 := s3
        clear hnk s1 s2 s3
        go_loopw [0, 11] (fun lv iv wr => ∃ (i : Nat) (Li : List (Nat × Tr)) (xi : List Value) (ai : Option Addr) (ci : Nat), i ≤ nk ∧ iv = .int .i64 (i : Int) ∧ lv = .slice ai Li.length ci ∧ Hid (Li = addT most L ((deep, e) :: preL deepest (deep + 1) (e.kids.take i))) ∧ Li.length ≤ most ∧ Hid (wr.ownsRow B 106 6 (.slice ai Li.length ci) Li.length xi) ∧ Hid (PrL wr M Li xi) ∧ Hid (w.grownBy wr (Value.slice al L.length cl).ownBlock) ∧ Hid ((Value.slice ai Li.length ci).ownBlock = (Value.slice al L.length cl).ownBlock ∨ ∀ b, (Value.slice ai Li.length ci).ownBlock = some b → w.heap.size < b) ∧ wr.cell? ⟨w.heap.size, 4, none⟩ = some (.slice a nk c) ∧ w.heap.size < wr.heap.size) (fun _ iv _ => nk - (intOf iv).toNat)
        case atStart =>
          have hl1 : (L ++ [(deep, e)]).length = L.length + 1 := by simp
          exact ⟨0, L ++ [(deep, e)], _, a1, c1, Nat.zero_le _, rfl, by rw [hl1], by unfold Hid; rw [List.take_zero]; exact (addT_one most L (deep, e) (by omega)).symm, by rw [hl1]; omega, by rw [hl1]; exact HOw.out, HP3.out, HG3.out, by rw [hl1]; exact HOB3.out, hbx, hsz3⟩
        case round =>
          obtain ⟨i, Li, xi, ai, ci, hi, rfl, rfl, HLi, hlm, HOi, HPi, HGi, HOBi, hbxi, hszi⟩ := hrel
          clear hbx hsz3 HP3 HG3 HOw HOB3
          by_cases hlt : i < nk
          · have j3 : (i : Int) < (nk : Int) := by omega
            have d3 : decide (i < nk) = true := by simp; omega
            by_cases hroom : Li.length < most
            · have j4 : (Li.length : Int) < (most : Int) := by omega
              have hik : i < e.kids.length := by rw [HNK.out]; exact hlt
              obtain ⟨b, o, a', c', rfl, hbM, hrg, hat⟩ := HKids.out.kid i hik
              have hBX := (HBM.out _ HGi.out).mono hMB
              have hrg2 := range_below hrg hBX hbM
              have hat2 := AtT.below hBX _ _ hat
              obtain ⟨y0, y1, y2, y3, y4⟩ := elem_cells hrg2
              have hdd2 : deep ≤ 5000 := Nat.le_trans (Nat.le_of_not_lt hd) hdst
              have hdd : deep + 1 ≤ 5001 := Nat.succ_le_succ hdd2
              have hle : hT e.kids[i] ≤ h := Nat.le_of_lt_succ (Nat.lt_of_lt_of_le (hT_kid (e := e) (List.getElem_mem hik)) he)
              have hBz : B ≤ wr.heap.size := Nat.le_trans hBw (Nat.le_of_lt hszi)
              have cI := ih e.kids[i] hle _ (deep + 1) Li xi (.slice ai Li.length ci) B wr hdd hMB hBz hlm hat2 HOi.out HPi.out
              rw [show ((deep + 1 : Nat) : Int) = (deep : Int) + 1 from rfl] at cI
              have cI := Lib.hid cI
              have hnext : Hid (addT most Li (preT deepest (deep + 1) e.kids[i]) = addT most L ((deep, e) :: preL deepest (deep + 1) (e.kids.take (i + 1)))) := by
                unfold Hid
                rw [HLi.out, addT_app, List.take_succ_eq_append_getElem hik, preL_snoc, List.cons_append]
              have HL5 := Lib.hid (addT_len most Li (preT deepest (deep + 1) e.kids[i]) hlm)
              generalize addT most Li (preT deepest (deep + 1) e.kids[i]) = L5 at *
              have HWs := Lib.hid hszi
              clear hrg hrg2 hat hat2 ih hle hBz hdd hdd2
              go_wp2_with (go_at_call 135; refine cI.out.mono ?_; rintro r w5 ⟨l5, x5, rfl, ho5, hp5, hg5, hob5⟩)
              obtain ⟨a5, c5, rfl⟩ := own_form ho5
              have hg6 : w.grownBy w5 (Value.slice al L.length cl).ownBlock := grown_trans HGi.out hg5 (HOBi.out.imp id (fun h b hb => Nat.le_of_lt (h b hb)))
              have hob6 : (Value.slice a5 L5.length c5).ownBlock = (Value.slice al L.length cl).ownBlock ∨ ∀ b, (Value.slice a5 L5.length c5).ownBlock = some b → w.heap.size < b := by
                rcases hob5 with h5 | h5
                · rw [h5]; exact HOBi.out
                · exact .inr (fun b hb => Nat.lt_of_lt_of_le HWs.out (h5 b hb))
              have hbx6 : w5.cell? ⟨w.heap.size, 4, none⟩ = some (.slice (some ⟨b, o, none⟩) nk c) := by
                refine (World.cell?_of_block (a := ⟨w.heap.size, 4, none⟩) (hg5.block w.heap.size HWs.out (fun h6 => ?_))).trans hbxi
                rcases HOBi.out with h7 | h7
                · rw [h7] at h6; exact Nat.lt_irrefl _ (HLG.out _ h6.symm)
                · exact Nat.lt_irrefl _ (h7 _ h6.symm)
              have hsz6 : w.heap.size < w5.heap.size := Nat.lt_of_lt_of_le HWs.out hg5.size
              go_roundw
              case rel => exact ⟨i + 1, L5, x5, a5, c5, by omega, by go_num, rfl, hnext.out, HL5.out, ho5, hp5, hg6, hob6, hbx6, hsz6⟩
              case measure => simp [intOf]; omega
            · have j4 : ¬ (Li.length : Int) < (most : Int) := by omega
              have hend : Hid (Li = addT most L ((deep, e) :: preL deepest (deep + 1) e.kids)) := by
                have h1 := addT_full most L ((deep, e) :: preL deepest (deep + 1) (e.kids.take i)) (preL deepest (deep + 1) (e.kids.drop i)) (by rw [← HLi.out]; omega) hLm
                unfold Hid
                rw [List.cons_append, ← preL_app, List.take_append_drop] at h1
                rw [h1]; exact HLi.out
              clear ih
              go_wp2_with fail
              go_ret
              rw [← hend.out]
              exact ⟨_, xi, rfl, HOi.out, HPi.out, HGi.out, HOBi.out.imp id (fun h b hb => Nat.le_of_lt (h b hb))⟩
          · have j3 : ¬ (i : Int) < (nk : Int) := by omega
            have d3 : decide (i < nk) = false := by simp; omega
            have hend : Hid (Li = addT most L ((deep, e) :: preL deepest (deep + 1) e.kids)) := by
              unfold Hid
              rw [HLi.out, List.take_of_length_le (by rw [HNK.out]; omega)]
            clear ih
            go_wp2_with fail
            go_ret
            rw [← hend.out]
            exact ⟨_, xi, rfl, HOi.out, HPi.out, HGi.out, HOBi.out.imp id (fun h b hb => Nat.le_of_lt (h b hb))⟩
end Go.Proofs.YtgechifbbhipaaaDoor
