/- tree: lists of elements under construction, in a row of the call's own. No condition. -/
import Derived.Test.YtgechifbbhipaaaDoorTrI
import Derived.Deep.RegionLaw
set_option linter.unusedVariables false
set_option linter.unusedSimpArgs false
namespace Go.Proofs.YtgechifbbhipaaaDoor
open Go.RowKit

mutual
/-- a value that reads as an element, its kids in blocks of which P holds -/
def AtQ (w : World) (P : Nat → Prop) : Tr → Value → Prop
  | .mk p nm tx o ks, v => nm.size ≤ reachT ∧ tx.size ≤ reachT ∧ ks.length ≤ reachT ∧ ∃ a c, v = .agg #[.int .i64 p, .string nm, .string tx, .bool o, .slice a ks.length c] ∧ AtLQ w P a 0 ks ∧ ks.length ≤ c
def AtLQ (w : World) (P : Nat → Prop) (a : Option Addr) : Nat → List Tr → Prop
  | _, [] => True
  | i, k :: ks => (∃ b o v, a = some ⟨b, o, none⟩ ∧ P b ∧ w.rangeAt b (o + i * 5) (match v with | .agg cs => cs.toList | _ => []) ∧ AtQ w P k v) ∧ AtLQ w P a (i + 1) ks
end
theorem range_keep {w w' : World} {b o : Nat} {cs : List Value} (h : w.rangeAt b o cs) (hb : w'.heap[b]? = w.heap[b]?) : w'.rangeAt b o cs :=
  fun j v hv => (World.cell?_of_block (a := ⟨b, o + j, none⟩) hb).trans (h j v hv)
mutual
theorem AtQ.keep {w w' : World} {P P' : Nat → Prop} (hb : ∀ b, P b → P' b ∧ w'.heap[b]? = w.heap[b]?) : ∀ (e : Tr) (v : Value), AtQ w P e v → AtQ w' P' e v
  | .mk p nm tx o ks, v, h => by
    unfold AtQ at h ⊢
    obtain ⟨h1, h2, h3, a, c, h4, h5, h6⟩ := h
    exact ⟨h1, h2, h3, a, c, h4, AtLQ.keep hb a ks 0 h5, h6⟩
theorem AtLQ.keep {w w' : World} {P P' : Nat → Prop} (hb : ∀ b, P b → P' b ∧ w'.heap[b]? = w.heap[b]?) (a : Option Addr) : ∀ (ks : List Tr) (i : Nat), AtLQ w P a i ks → AtLQ w' P' a i ks
  | [], _, _ => by unfold AtLQ; trivial
  | k :: ks, i, h => by
    unfold AtLQ at h ⊢
    obtain ⟨⟨b, o, v, h1, h2, h3, h4⟩, h5⟩ := h
    exact ⟨⟨b, o, v, h1, (hb b h2).1, range_keep h3 (hb b h2).2, AtQ.keep hb k v h4⟩, AtLQ.keep hb a ks (i + 1) h5⟩
end
mutual
theorem AtQ.to {w : World} {P : Nat → Prop} {M : Nat} (hb : ∀ b, P b → b < M) : ∀ (e : Tr) (v : Value), AtQ w P e v → AtT w M e v
  | .mk p nm tx o ks, v, h => by
    unfold AtQ at h; unfold AtT
    obtain ⟨h1, h2, h3, a, c, h4, h5, h6⟩ := h
    exact ⟨h1, h2, h3, a, c, h4, AtLQ.to hb a ks 0 h5, h6⟩
theorem AtLQ.to {w : World} {P : Nat → Prop} {M : Nat} (hb : ∀ b, P b → b < M) (a : Option Addr) : ∀ (ks : List Tr) (i : Nat), AtLQ w P a i ks → AtL w M a i ks
  | [], _, _ => by unfold AtL; trivial
  | k :: ks, i, h => by
    unfold AtLQ at h; unfold AtL
    obtain ⟨⟨b, o, v, h1, h2, h3, h4⟩, h5⟩ := h
    exact ⟨⟨b, o, v, h1, hb b h2, h3, AtQ.to hb k v h4⟩, AtLQ.to hb a ks (i + 1) h5⟩
end
mutual
theorem AtT.toQ {w : World} {M : Nat} : ∀ (e : Tr) (v : Value), AtT w M e v → AtQ w (· < M) e v
  | .mk p nm tx o ks, v, h => by
    unfold AtT at h; unfold AtQ
    obtain ⟨h1, h2, h3, a, c, h4, h5, h6⟩ := h
    exact ⟨h1, h2, h3, a, c, h4, AtL.toQ a ks 0 h5, h6⟩
theorem AtL.toQ {w : World} {M : Nat} (a : Option Addr) : ∀ (ks : List Tr) (i : Nat), AtL w M a i ks → AtLQ w (· < M) a i ks
  | [], _, _ => by unfold AtLQ; trivial
  | k :: ks, i, h => by
    unfold AtL at h; unfold AtLQ
    obtain ⟨⟨b, o, v, h1, h2, h3, h4⟩, h5⟩ := h
    exact ⟨⟨b, o, v, h1, h2, h3, AtT.toQ k v h4⟩, AtL.toQ a ks (i + 1) h5⟩
end
theorem AtQ.parts {w : World} {P : Nat → Prop} {e : Tr} {v : Value} (h : AtQ w P e v) : e.name.size ≤ reachT ∧ e.text.size ≤ reachT ∧ e.kids.length ≤ reachT ∧ ∃ a c, v = .agg #[.int .i64 e.page, .string e.name, .string e.text, .bool e.opq, .slice a e.kids.length c] ∧ AtLQ w P a 0 e.kids := by
  cases e; unfold AtQ at h; obtain ⟨h1, h2, h3, a, c, h4, h5, _⟩ := h; exact ⟨h1, h2, h3, a, c, h4, h5⟩
theorem AtQ.leaf {w : World} {P : Nat → Prop} {p : Int} {nm tx : ByteArray} (h1 : nm.size ≤ reachT) (h2 : tx.size ≤ reachT) : AtQ w P (.mk p nm tx false []) (.agg #[.int .i64 p, .string nm, .string tx, .bool false, .slice none 0 0]) := by
  unfold AtQ; exact ⟨h1, h2, by decide, none, 0, rfl, by unfold AtLQ; trivial, Nat.le_refl _⟩

/-- cells that read as elements, five by five -/
def KLQ (w : World) (P : Nat → Prop) : List Tr → List Value → Prop
  | [], xs => xs = []
  | k :: ks, xs => ∃ cs rest, xs = cs ++ rest ∧ cs.length = 5 ∧ AtQ w P k (.agg cs.toArray) ∧ KLQ w P ks rest
theorem KLQ.keep {w w' : World} {P P' : Nat → Prop} (hb : ∀ b, P b → P' b ∧ w'.heap[b]? = w.heap[b]?) : ∀ {L : List Tr} {xs : List Value}, KLQ w P L xs → KLQ w' P' L xs
  | [], _, h => h
  | _ :: _, _, ⟨cs, rest, h1, h2, h3, h4⟩ => ⟨cs, rest, h1, h2, AtQ.keep hb _ _ h3, h4.keep hb⟩
theorem KLQ.to {w : World} {P : Nat → Prop} {M : Nat} (hb : ∀ b, P b → b < M) : ∀ {L : List Tr} {xs : List Value}, KLQ w P L xs → KL w M L xs
  | [], _, h => h
  | _ :: _, _, ⟨cs, rest, h1, h2, h3, h4⟩ => ⟨cs, rest, h1, h2, AtQ.to hb _ _ h3, h4.to hb⟩
theorem KLQ.append {w : World} {P : Nat → Prop} : ∀ {L K : List Tr} {xs ys : List Value}, KLQ w P L xs → KLQ w P K ys → KLQ w P (L ++ K) (xs ++ ys)
  | [], _, _, _, h, k => by have h : _ = [] := h; subst h; exact k
  | _ :: _, _, _, _, ⟨cs, rest, h1, h2, h3, h4⟩, k => ⟨cs, rest ++ _, by rw [h1, List.append_assoc], h2, h3, h4.append k⟩

/-- v is a row of the call's own that holds the elements ks; their kids lie in blocks from B on -/
def RowQ (w : World) (B : Nat) (v : Value) (ks : List Tr) : Prop := ∃ xs, w.ownsRow B 46 5 v ks.length xs ∧ KLQ w (fun b => B ≤ b ∧ b < w.heap.size ∧ v.ownBlock ≠ some b) ks xs
theorem RowQ.nil (w : World) (B : Nat) : RowQ w B (.slice none 0 0) [] := ⟨[], World.ownsRow_nil _ _ _ _, rfl⟩
theorem owns_keep {w w' : World} {B : Nat} {e : TypeId} {sz : Nat} {v : Value} {n : Nat} {xs : List Value} (h : w.ownsRow B e sz v n xs) (hb : ∀ k, v.ownBlock = some k → w'.heap[k]? = w.heap[k]?) : w'.ownsRow B e sz v n xs := by
  refine ⟨h.1, ?_⟩
  rcases h.2 with h2 | ⟨g, cap, cur, hv, hg, hh, r⟩
  · exact .inl h2
  · exact .inr ⟨g, cap, cur, hv, hg, by rw [hb g (by rw [hv]; rfl)]; exact hh, r⟩
/-- nothing from B on that was there has changed -/
theorem RowQ.keep {w w' : World} {B : Nat} {v : Value} {ks : List Tr} (h : RowQ w B v ks) (hs : w.heap.size ≤ w'.heap.size) (hb : ∀ k, B ≤ k → k < w.heap.size → w'.heap[k]? = w.heap[k]?) : RowQ w' B v ks := by
  obtain ⟨xs, h1, h2⟩ := h
  exact ⟨xs, owns_keep h1 (fun k hk => hb k (h1.lt k hk).1 (h1.lt k hk).2), h2.keep (fun b hb2 => ⟨⟨hb2.1, Nat.lt_of_lt_of_le hb2.2.1 hs, hb2.2.2⟩, hb b hb2.1 hb2.2.1⟩)⟩
theorem RowQ.below {w w' : World} {B : Nat} {v : Value} {ks : List Tr} (h : RowQ w B v ks) (hb : Below w.heap.size w w') : RowQ w' B v ks := h.keep hb.size (fun k _ hk => hb.block k hk)
theorem RowQ.setCell {w : World} {B : Nat} {v : Value} {ks : List Tr} (h : RowQ w B v ks) {a : Addr} (ha : a.block < B) (u : Value) : RowQ (w.setCell a u) B v ks :=
  h.keep (by simp [World.setCell]) (fun k hk _ => Below.heap_setCell _ _ _ _ (by omega))
/-- the row as a slice of kids -/
theorem RowQ.atL {w : World} {B : Nat} {v : Value} {ks : List Tr} (h : RowQ w B v ks) : ∃ a c, v = .slice a ks.length c ∧ AtL w w.heap.size a 0 ks ∧ (a = none → ks.length = 0 ∧ c = 0) := by
  obtain ⟨xs, h1, h2⟩ := h
  obtain ⟨a, c, rfl⟩ := own_form h1
  exact ⟨a, c, rfl, own_atL h1 (h2.to (fun b hb => hb.2.1)), own_nil h1⟩
/-- the row has grown by an element -/
theorem RowQ.push {w w' : World} {B : Nat} {v v' : Value} {ks : List Tr} {k : Tr} {xs cs : List Value} {P : Nat → Prop} (hr : w.ownsRow B 46 5 v ks.length xs) (hq : KLQ w (fun b => B ≤ b ∧ b < w.heap.size ∧ v.ownBlock ≠ some b) ks xs)
    (ho : w'.ownsRow B 46 5 v' (ks.length + 1) (xs ++ cs)) (hc : cs.length = 5) (hk : AtQ w' P k (.agg cs.toArray)) (hP : ∀ b, P b → B ≤ b ∧ b < w'.heap.size ∧ v'.ownBlock ≠ some b)
    (hg : w.grownBy w' v.ownBlock) (hm : v'.ownBlock = v.ownBlock ∨ ∀ b, v'.ownBlock = some b → w.heap.size ≤ b) : RowQ w' B v' (ks ++ [k]) := by
  have _ := hr
  refine ⟨xs ++ cs, by rw [List.length_append]; exact ho, (hq.keep (fun b hb => ⟨⟨hb.1, Nat.lt_of_lt_of_le hb.2.1 hg.size, ?_⟩, hg.block b hb.2.1 (fun e => hb.2.2 e.symm)⟩)).append ⟨cs, [], by simp, hc, AtQ.keep (fun b hb => ⟨hP b hb, rfl⟩) _ _ hk, rfl⟩⟩
  rcases hm with hm | hm
  · rw [hm]; exact hb.2.2
  · intro e; have := hm b e; omega
end Go.Proofs.YtgechifbbhipaaaDoor
