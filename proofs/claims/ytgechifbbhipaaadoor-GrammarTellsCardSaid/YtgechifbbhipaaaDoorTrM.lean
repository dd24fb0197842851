/- tree: elements in memory; lists of elements with how deep each lies. No condition. -/
import Derived.Test.YtgechifbbhipaaaDoorTrK
import Derived.Deep.MidRow
import Derived.Maps.AppendAt
set_option linter.unusedVariables false
set_option linter.unusedSimpArgs false
namespace Go.Proofs.YtgechifbbhipaaaDoor
open Go.RowKit

def reachT : Nat := 140737488355328
mutual
/-- a value that reads as an element, its kids in blocks below M -/
def AtT (w : World) (M : Nat) : Tr → Value → Prop
  | .mk p nm tx o ks, v => nm.size ≤ reachT ∧ tx.size ≤ reachT ∧ ks.length ≤ reachT ∧ ∃ a c, v = .agg #[.int .i64 p, .string nm, .string tx, .bool o, .slice a ks.length c] ∧ AtL w M a 0 ks ∧ ks.length ≤ c
def AtL (w : World) (M : Nat) (a : Option Addr) : Nat → List Tr → Prop
  | _, [] => True
  | i, k :: ks => (∃ b o v, a = some ⟨b, o, none⟩ ∧ b < M ∧ w.rangeAt b (o + i * 5) (match v with | .agg cs => cs.toList | _ => []) ∧ AtT w M k v) ∧ AtL w M a (i + 1) ks
end

theorem range_below {w w' : World} {M b o : Nat} {cs : List Value} (h : w.rangeAt b o cs) (hb : Below M w w') (hM : b < M) : w'.rangeAt b o cs :=
  fun j v hv => (hb.cell (p := ⟨b, o + j, none⟩) hM).trans (h j v hv)
mutual
theorem AtT.below {w w' : World} {M : Nat} (hb : Below M w w') : ∀ (e : Tr) (v : Value), AtT w M e v → AtT w' M e v
  | .mk p nm tx o ks, v, h => by
    unfold AtT at h ⊢
    obtain ⟨h1, h2, h3, a, c, h4, h5, h6⟩ := h
    exact ⟨h1, h2, h3, a, c, h4, AtL.below hb a ks 0 h5, h6⟩
theorem AtL.below {w w' : World} {M : Nat} (hb : Below M w w') (a : Option Addr) : ∀ (ks : List Tr) (i : Nat), AtL w M a i ks → AtL w' M a i ks
  | [], _, _ => by unfold AtL; trivial
  | k :: ks, i, h => by
    unfold AtL at h ⊢
    obtain ⟨⟨b, o, v, h1, h2, h3, h4⟩, h5⟩ := h
    exact ⟨⟨b, o, v, h1, h2, range_below h3 hb h2, AtT.below hb k v h4⟩, AtL.below hb a ks (i + 1) h5⟩
end
/-- the fields -/
theorem AtT.parts {w : World} {M : Nat} {e : Tr} {v : Value} (h : AtT w M e v) : e.name.size ≤ reachT ∧ e.text.size ≤ reachT ∧ e.kids.length ≤ reachT ∧ ∃ a c, v = .agg #[.int .i64 e.page, .string e.name, .string e.text, .bool e.opq, .slice a e.kids.length c] ∧ AtL w M a 0 e.kids := by
  cases e; unfold AtT at h
  obtain ⟨h1, h2, h3, a, c, h4, h5, _⟩ := h
  exact ⟨h1, h2, h3, a, c, h4, h5⟩
theorem AtT.cap {w : World} {M : Nat} {e : Tr} {p : Int} {nm tx : ByteArray} {o : Bool} {a : Option Addr} {n c : Nat} (h : AtT w M e (.agg #[.int .i64 p, .string nm, .string tx, .bool o, .slice a n c])) : e.kids.length ≤ c := by
  cases e; unfold AtT at h
  obtain ⟨_, _, _, a2, c2, h4, _, h6⟩ := h
  simp only [Value.agg.injEq, Array.mk.injEq, List.cons.injEq, Value.slice.injEq] at h4
  obtain ⟨_, _, _, _, ⟨_, _, h7⟩, _⟩ := h4
  rw [h7]; exact h6
theorem AtL.get {w : World} {M : Nat} {a : Option Addr} : ∀ {ks : List Tr} {i : Nat}, AtL w M a i ks → ∀ j (hj : j < ks.length), ∃ b o v, a = some ⟨b, o, none⟩ ∧ b < M ∧ w.rangeAt b (o + (i + j) * 5) (match v with | .agg cs => cs.toList | _ => []) ∧ AtT w M ks[j] v
  | [], _, _, j, hj => by simp at hj
  | k :: ks, i, h, j, hj => by
    unfold AtL at h
    obtain ⟨h1, h2⟩ := h
    cases j with
    | zero => exact h1
    | succ j =>
      have := AtL.get h2 j (by simpa using hj)
      rw [show i + 1 + j = i + (j + 1) from by omega] at this
      exact this
/-- a kid, its cells -/
theorem AtL.kid {w : World} {M : Nat} {a : Option Addr} {ks : List Tr} (h : AtL w M a 0 ks) (j : Nat) (hj : j < ks.length) : ∃ b o a' c', a = some ⟨b, o, none⟩ ∧ b < M ∧
    w.rangeAt b (o + j * 5) [.int .i64 ks[j].page, .string ks[j].name, .string ks[j].text, .bool ks[j].opq, .slice a' ks[j].kids.length c'] ∧
    AtT w M ks[j] (.agg #[.int .i64 ks[j].page, .string ks[j].name, .string ks[j].text, .bool ks[j].opq, .slice a' ks[j].kids.length c']) := by
  obtain ⟨b, o, v, h1, h2, h3, h4⟩ := h.get j hj
  obtain ⟨_, _, _, a', c', rfl, _⟩ := h4.parts
  rw [Nat.zero_add] at h3
  exact ⟨b, o, a', c', h1, h2, h3, h4⟩

/-- cells that read as elements with how deep each lies -/
def PrL (w : World) (M : Nat) : List (Nat × Tr) → List Value → Prop
  | [], xs => xs = []
  | p :: l, xs => ∃ a c rest, xs = [.int .i64 (p.1 : Int), .int .i64 p.2.page, .string p.2.name, .string p.2.text, .bool p.2.opq, .slice a p.2.kids.length c] ++ rest ∧
      AtT w M p.2 (.agg #[.int .i64 p.2.page, .string p.2.name, .string p.2.text, .bool p.2.opq, .slice a p.2.kids.length c]) ∧ PrL w M l rest
theorem PrL.below {w w' : World} {M : Nat} (hb : Below M w w') : ∀ {L : List (Nat × Tr)} {xs : List Value}, PrL w M L xs → PrL w' M L xs
  | [], _, h => h
  | _ :: _, _, ⟨a, c, rest, h1, h2, h3⟩ => ⟨a, c, rest, h1, AtT.below hb _ _ h2, h3.below hb⟩
theorem PrL.snoc {w : World} {M : Nat} {d : Nat} {e : Tr} {a : Option Addr} {c : Nat} (he : AtT w M e (.agg #[.int .i64 e.page, .string e.name, .string e.text, .bool e.opq, .slice a e.kids.length c])) :
    ∀ {L : List (Nat × Tr)} {xs : List Value}, PrL w M L xs → PrL w M (L ++ [(d, e)]) (xs ++ [.int .i64 (d : Int), .int .i64 e.page, .string e.name, .string e.text, .bool e.opq, .slice a e.kids.length c])
  | [], _, h => by
    have h : _ = [] := h
    subst h
    exact ⟨a, c, [], by simp, he, rfl⟩
  | _ :: _, _, ⟨a', c', rest, h1, h2, h3⟩ => ⟨a', c', rest ++ _, by rw [h1, List.append_assoc], h2, PrL.snoc he h3⟩
theorem PrL.get {w : World} {M : Nat} : ∀ {L : List (Nat × Tr)} {xs : List Value}, PrL w M L xs → ∀ i (hi : i < L.length), ∃ a c, (xs.drop (i * 6)).take 6 = [.int .i64 (L[i].1 : Int), .int .i64 L[i].2.page, .string L[i].2.name, .string L[i].2.text, .bool L[i].2.opq, .slice a L[i].2.kids.length c] ∧
      AtT w M L[i].2 (.agg #[.int .i64 L[i].2.page, .string L[i].2.name, .string L[i].2.text, .bool L[i].2.opq, .slice a L[i].2.kids.length c])
  | [], _, _, i, hi => by simp at hi
  | _ :: _, _, ⟨a', c', rest, h1, h2, h3⟩, i, hi => by
    cases i with
    | zero => exact ⟨a', c', by rw [h1]; rfl, h2⟩
    | succ i =>
      obtain ⟨a, c, h4, h5⟩ := PrL.get h3 i (by simpa using hi)
      refine ⟨a, c, ?_, h5⟩
      rw [h1, show (i + 1) * 6 = 6 + i * 6 from by omega, ← List.drop_drop]
      exact h4

/-- what comes to a list, as far as there is room -/
def addT {α : Type} (most : Nat) (L P : List α) : List α := L ++ P.take (most - L.length)
theorem addT_app {α : Type} (most : Nat) (L P Q : List α) : addT most (addT most L P) Q = addT most L (P ++ Q) := by
  unfold addT
  rw [List.take_append, List.append_assoc, List.length_append, List.length_take]
  congr 2
  congr 1
  omega
theorem addT_full {α : Type} (most : Nat) (L P Q : List α) (h : most ≤ (addT most L P).length) (_ : L.length ≤ most) : addT most L (P ++ Q) = addT most L P := by
  unfold addT at h ⊢
  rw [List.length_append, List.length_take] at h
  rw [List.take_append, show most - L.length - P.length = 0 from by omega]
  simp
theorem addT_len {α : Type} (most : Nat) (L P : List α) (hL : L.length ≤ most) : (addT most L P).length ≤ most := by
  unfold addT
  rw [List.length_append, List.length_take]; omega
theorem addT_one {α : Type} (most : Nat) (L : List α) (x : α) (hL : L.length < most) : addT most L [x] = L ++ [x] := by
  unfold addT
  rw [List.take_of_length_le (by simp; omega)]
theorem addT_nil {α : Type} (most : Nat) (L : List α) : addT most L [] = L := by simp [addT]
theorem addT_no {α : Type} (most : Nat) (L P : List α) (hL : most ≤ L.length) : addT most L P = L := by
  unfold addT
  rw [show most - L.length = 0 from by omega]; simp
theorem grown_trans {w w1 w2 : World} {r1 r2 : Option Nat} (h : w.grownBy w1 r1) (k : w1.grownBy w2 r2) (hr : r2 = r1 ∨ ∀ b, r2 = some b → w.heap.size ≤ b) : w.grownBy w2 r1 :=
  ⟨k.os.trans h.os, k.tape.trans h.tape, k.output.trans h.output, Nat.le_trans h.size k.size, fun q hq hne => (k.block q (Nat.lt_of_lt_of_le hq h.size) (by
    rcases hr with rfl | hr
    · exact hne
    · intro e; have := hr q e.symm; omega)).trans (h.block q hq hne)⟩
end Go.Proofs.YtgechifbbhipaaaDoor
