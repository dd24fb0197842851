/- devinf: lists of elements under construction: what store and Elem share. No condition. -/
import Derived.Test.YtgechifbbhipaaaDoorDvX
import Derived.Test.YtgechifbbhipaaaDoorText
set_option linter.unusedVariables false
set_option linter.unusedSimpArgs false
namespace Go.Proofs.YtgechifbbhipaaaDoor
open Go.RowKit

theorem dv_set5_row {w : World} {g : Nat} {z0 z1 z2 z3 z4 c0 c1 c2 c3 c4 : Value} {t : TypeId} (h : w.heap[g]? = some (.cells #[z0, z1, z2, z3, z4] t (0, 0))) :
    (((((w.setCell ⟨g, 0, none⟩ c0).setCell ⟨g, 1, none⟩ c1).setCell ⟨g, 2, none⟩ c2).setCell ⟨g, 3, none⟩ c3).setCell ⟨g, 4, none⟩ c4).heap[g]? = some (.cells #[c0, c1, c2, c3, c4] t (0, 0)) := by
  have h0 := heap_setCell_same w g 0 _ t c0 h
  have h1 := heap_setCell_same _ g 1 _ t c1 h0
  have h2 := heap_setCell_same _ g 2 _ t c2 h1
  have h3 := heap_setCell_same _ g 3 _ t c3 h2
  have h4 := heap_setCell_same _ g 4 _ t c4 h3
  simpa using h4
theorem dv_cells_of {w : World} {g : Nat} {cs : Array Value} {t : TypeId} (h : w.heap[g]? = some (.cells cs t (0, 0))) : (∀ j v, cs[j]? = some v → w.cell? ⟨g, j, none⟩ = some v) ∧ ∀ j, w.frozen? ⟨g, j, none⟩ = false :=
  ⟨fun j v hv => by simp [World.cell?, h, hv], fun j => by simp [World.frozen?, h]⟩
theorem dv_set5_below {w : World} {B g : Nat} {c0 c1 c2 c3 c4 : Value} (h : B ≤ g) : Below B w (((((w.setCell ⟨g, 0, none⟩ c0).setCell ⟨g, 1, none⟩ c1).setCell ⟨g, 2, none⟩ c2).setCell ⟨g, 3, none⟩ c3).setCell ⟨g, 4, none⟩ c4) :=
  (((((Below.refl B w).setCell (p := ⟨g, 0, none⟩) h _).setCell (p := ⟨g, 1, none⟩) h _).setCell (p := ⟨g, 2, none⟩) h _).setCell (p := ⟨g, 3, none⟩) h _).setCell (p := ⟨g, 4, none⟩) h _
theorem dv_set5_other {w : World} {g b : Nat} {c0 c1 c2 c3 c4 : Value} (h : b ≠ g) : (((((w.setCell ⟨g, 0, none⟩ c0).setCell ⟨g, 1, none⟩ c1).setCell ⟨g, 2, none⟩ c2).setCell ⟨g, 3, none⟩ c3).setCell ⟨g, 4, none⟩ c4).heap[b]? = w.heap[b]? := by
  rw [Below.heap_setCell _ _ _ _ h, Below.heap_setCell _ _ _ _ h, Below.heap_setCell _ _ _ _ h, Below.heap_setCell _ _ _ _ h, Below.heap_setCell _ _ _ _ h]
/-- what a struct of five cells that lay in g reads as, once stored -/
theorem dv_stored_at {w w2 : World} {g : Nat} {P : Nat → Prop} {e : Tr} {c0 c1 c2 c3 c4 : Value} (hb : Below w.heap.size w w2) (hg : w.heap.size ≤ g) (ha : AtQ w2 P e (.agg #[c0, c1, c2, c3, c4])) (hP : ∀ b, P b → w.heap.size ≤ b ∧ b < w2.heap.size ∧ b ≠ g) :
    AtQ (((((w2.setCell ⟨g, 0, none⟩ c0).setCell ⟨g, 1, none⟩ c1).setCell ⟨g, 2, none⟩ c2).setCell ⟨g, 3, none⟩ c3).setCell ⟨g, 4, none⟩ c4) (fun b => w.heap.size ≤ b ∧ b < (((((w2.setCell ⟨g, 0, none⟩ c0).setCell ⟨g, 1, none⟩ c1).setCell ⟨g, 2, none⟩ c2).setCell ⟨g, 3, none⟩ c3).setCell ⟨g, 4, none⟩ c4).heap.size) e (.agg #[c0, c1, c2, c3, c4]) ∧
    Below w.heap.size w (((((w2.setCell ⟨g, 0, none⟩ c0).setCell ⟨g, 1, none⟩ c1).setCell ⟨g, 2, none⟩ c2).setCell ⟨g, 3, none⟩ c3).setCell ⟨g, 4, none⟩ c4) :=
  ⟨AtQ.keep (fun b h => ⟨⟨(hP b h).1, Nat.lt_of_lt_of_le (hP b h).2.1 (dv_set5_below (Nat.le_refl g)).size⟩, dv_set5_other (hP b h).2.2⟩) _ _ ha, hb.trans (dv_set5_below hg)⟩


def numD (n : Int) : ByteArray := strOfNums (textL n)
theorem dv_dl_pos (f m : Nat) (h : 0 < f) : 0 < (dl f m).length := by
  cases f with
  | zero => omega
  | succ f => rw [dl]; simp
theorem numD_size (n : Int) : (numD n).size ≠ 0 ∧ (numD n).size ≤ 21 := by
  unfold numD
  rw [strOfNums_size]
  refine ⟨?_, textL_len n⟩
  unfold textL
  have := dv_dl_pos 20 n.natAbs (by omega)
  split <;> simp <;> (intro h; rw [h] at this; simp at this)
/-- a row as what is appended -/
theorem RowQ.src {w : World} {B : Nat} {v : Value} {ks : List Tr} (h : RowQ w B v ks) : ∃ a c xs, v = .slice a ks.length c ∧ xs.length = ks.length * 5 ∧ KLQ w (fun b => B ≤ b ∧ b < w.heap.size) ks xs ∧ (a = none → ks.length = 0 ∧ c = 0) ∧ (∀ q, a = some q → ∀ j u, xs[j]? = some u → w.cell? (q.add j) = some u) ∧ (∀ u ∈ xs, u.oneCell' = true) := by
  obtain ⟨xs, ho, hq⟩ := h
  obtain ⟨a, c, rfl⟩ := own_form ho
  refine ⟨a, c, xs, rfl, ho.1, hq.keep (fun b hb => ⟨⟨hb.1, hb.2.1⟩, rfl⟩), own_nil ho, fun q hq2 j u hu => ?_, hq.one⟩
  subst hq2
  rcases ho.2 with ⟨hv, _⟩ | ⟨g, cap, cur, hv, _⟩
  · simp at hv
  · simp only [Value.slice.injEq, Option.some.injEq] at hv
    obtain ⟨rfl, _, rfl⟩ := hv
    exact ho.cells (g := g) rfl j u hu
/-- a row that has grown by a row that was made beside it -/
theorem push_many {W X w' : World} {B n m c c' : Nat} {a a' : Option Addr} {xs cs : List Value} {ks ks2 : List Tr} {lo hi : Nat}
    (hlen : ks.length = n) (hlen2 : ks2.length = m) (ho : W.ownsRow B 46 5 (.slice a n c) n xs) (hq : KLQ W (fun b => B ≤ b ∧ b < W.heap.size ∧ (.slice a n c : Value).ownBlock ≠ some b) ks xs)
    (hT : Below W.heap.size W X) (hB : B ≤ W.heap.size) (hlo : W.heap.size ≤ lo) (hhi : hi ≤ X.heap.size) (hat : KLQ X (fun b => lo ≤ b ∧ b < hi) ks2 cs)
    (k1 : w'.ownsRow B 46 5 (.slice a' (n + m) c') (n + m) (xs ++ cs)) (k2 : X.grownBy w' (.slice a n c : Value).ownBlock) (k3 : (.slice a' (n + m) c' : Value).ownBlock = (.slice a n c : Value).ownBlock ∨ (.slice a' (n + m) c' : Value).ownBlock = some X.heap.size) :
    RowQ w' B (.slice a' (n + m) c') (ks ++ ks2) := by
  subst hlen hlen2
  have hown : ∀ b, (.slice a ks.length c : Value).ownBlock = some b → b < W.heap.size := fun b hb => (ho.lt b hb).2
  have hnew : ∀ b, b < X.heap.size → (.slice a ks.length c : Value).ownBlock ≠ some b → (.slice a' (ks.length + ks2.length) c' : Value).ownBlock ≠ some b := fun b hb hne e => by
    rcases k3 with k3 | k3
    · rw [k3] at e; exact hne e
    · rw [k3] at e; injection e with e; omega
  refine ⟨xs ++ cs, by rw [List.length_append]; exact k1, (hq.keep (fun b hb => ?_)).append (hat.keep (fun b hb => ?_))⟩
  · have h1 : b < X.heap.size := Nat.lt_of_lt_of_le hb.2.1 hT.size
    exact ⟨⟨hb.1, Nat.lt_of_lt_of_le h1 k2.size, hnew b h1 hb.2.2⟩, (k2.block b h1 (fun e => hb.2.2 e.symm)).trans (hT.block b hb.2.1)⟩
  · have h1 : b < X.heap.size := Nat.lt_of_lt_of_le hb.2 hhi
    have h2 : (.slice a ks.length c : Value).ownBlock ≠ some b := fun e => by have := hown b e; omega
    exact ⟨⟨by omega, Nat.lt_of_lt_of_le h1 k2.size, hnew b h1 h2⟩, k2.block b h1 (fun e => h2 e.symm)⟩
/-- the list under way, in the box bl; W: the world behind the boxes -/
def StP (bl B : Nat) (W : World) (ks : List Tr) (X : World) : Prop := (∃ v, Boxed X bl 44 v ∧ RowQ X B v ks) ∧ BelowBut B bl W X
theorem StP.below {bl B : Nat} {W X Y : World} {ks : List Tr} (h : StP bl B W ks X) (hB : B ≤ X.heap.size) (hb : Below X.heap.size X Y) : StP bl B W ks Y := by
  obtain ⟨⟨v, hx, hr⟩, hbb⟩ := h
  exact ⟨⟨v, (hb.block bl hx.lt).trans hx, hr.below hb⟩, hbb.trans (BelowBut.of_below (hb.mono hB))⟩
theorem StP.old {bl B : Nat} {W X : World} {ks : List Tr} (h : StP bl B W ks X) {b j : Nat} {v : Value} (hb : b < B) (hne : b ≠ bl) (hc : W.cell? ⟨b, j, none⟩ = some v) : X.cell? ⟨b, j, none⟩ = some v := (h.2.cell hb hne).trans hc
theorem StP.sayP {bl B : Nat} {W X : World} {ks : List Tr} (h : StP bl B W ks X) (hbl : bl < B) (hz : B ≤ W.heap.size) (hn : ks.length ≤ 900) (nm tx : ByteArray) (h1 : nm.size ≤ reachT) (h2 : tx.size ≤ reachT) :
    Calls Tryd.prog 125 #[.string nm, .string tx, .pointer (some ⟨bl, 0, none⟩)] X fun r X' => (∃ u, r = .returned u) ∧ StP bl B W (ks ++ sayF nm tx) X' := by
  obtain ⟨⟨v, hx, hr⟩, hbb⟩ := h
  exact (sayP_any bl B hbl nm tx h1 h2 v ks (by omega) X (Nat.le_trans hz hbb.size) hx hr).mono fun r X' hp => ⟨hp.1, hp.2.1, hbb.trans hp.2.2⟩
theorem StP.sayD {bl B : Nat} {W X : World} {ks : List Tr} (h : StP bl B W ks X) (hbl : bl < B) (hz : B ≤ W.heap.size) (hn : ks.length ≤ 900) (nm tx : ByteArray) (h1 : nm.size ≤ reachT) (h2 : tx.size ≤ reachT) :
    Calls Tryd.prog 62 #[.string nm, .string tx, .pointer (some ⟨bl, 0, none⟩)] X fun r X' => (∃ u, r = .returned u) ∧ StP bl B W (ks ++ sayF nm tx) X' := by
  obtain ⟨⟨v, hx, hr⟩, hbb⟩ := h
  exact (sayD_any bl B hbl nm tx h1 h2 v ks (by omega) X (Nat.le_trans hz hbb.size) hx hr).mono fun r X' hp => ⟨hp.1, hp.2.1, hbb.trans hp.2.2⟩
/-- the box, stored anew -/
theorem StP.put {bl B : Nat} {W X0 X w' : World} {r : Option Nat} {v0 v' : Value} {ks' : List Tr} (h0 : BelowBut B bl W X0) (hB : B ≤ X0.heap.size) (hT : Below X0.heap.size X0 X) (k2 : X.grownBy w' r) (hr : ∀ b, r = some b → B ≤ b) (hbl : bl < B) (hx : Boxed w' bl 44 v0) (hq : RowQ w' B v' ks') :
    StP bl B W ks' (w'.setCell ⟨bl, 0, none⟩ v') := by
  refine ⟨⟨v', hx.set v', hq.setCell (a := ⟨bl, 0, none⟩) hbl v'⟩, h0.trans ((BelowBut.of_below (hT.mono hB)).trans ?_)⟩
  have hs := hT.size
  refine ⟨k2.os, k2.tape, k2.output, by simpa [World.setCell] using k2.size, fun k hk hne => ?_⟩
  rw [Below.heap_setCell _ _ _ _ hne]
  exact k2.block k (by omega) (fun e => by have := hr k e.symm; omega)
theorem sayF_len (nm tx : ByteArray) : (sayF nm tx).length ≤ 1 := by unfold sayF; split <;> simp
/-- a row of the call's own that holds leaves -/
def RowL (w : World) (B : Nat) (v : Value) (ks : List Tr) : Prop := ∃ xs, w.ownsRow B 46 5 v ks.length xs ∧ KLQ w (fun _ => False) ks xs
theorem RowL.nil (w : World) (B : Nat) : RowL w B (.slice none 0 0) [] := ⟨[], World.ownsRow_nil _ _ _ _, rfl⟩
theorem RowL.below {w w' : World} {B : Nat} {v : Value} {ks : List Tr} (h : RowL w B v ks) (hb : Below w.heap.size w w') : RowL w' B v ks := by
  obtain ⟨xs, h1, h2⟩ := h
  exact ⟨xs, owns_keep h1 (fun k hk => hb.block k (h1.lt k hk).2), h2.keep (fun _ hf => hf.elim)⟩
theorem RowL.push {w X w' : World} {B n c c' : Nat} {a a' : Option Addr} {xs : List Value} {ks : List Tr} {p : Int} {nm tx : ByteArray} (hn : ks.length = n) (h1 : nm.size ≤ reachT) (h2 : tx.size ≤ reachT) (hq : KLQ w (fun _ => False) ks xs)
    (k1 : w'.ownsRow B 46 5 (.slice a' (n + 1) c') (n + 1) (xs ++ [.int .i64 p, .string nm, .string tx, .bool false, .slice none 0 0])) : RowL w' B (.slice a' (n + 1) c') (ks ++ [.mk p nm tx false []]) := by
  subst hn
  exact ⟨_, by rw [List.length_append]; exact k1, (hq.keep (fun _ hf => hf.elim)).append ⟨[.int .i64 p, .string nm, .string tx, .bool false, .slice none 0 0], [], by simp, rfl, AtQ.leaf h1 h2, rfl⟩⟩
theorem RowL.atLQ {w : World} {B : Nat} {v : Value} {ks : List Tr} (h : RowL w B v ks) : ∃ a c, v = .slice a ks.length c ∧ AtLQ w (fun b => B ≤ b ∧ b < w.heap.size) a 0 ks ∧ (a = none → ks.length = 0 ∧ c = 0) := by
  obtain ⟨xs, h1, h2⟩ := h
  obtain ⟨a, c, rfl⟩ := own_form h1
  exact ⟨a, c, rfl, own_atLQ (fun g h3 h4 => ⟨h3, h4⟩) h1 (h2.keep (fun _ hf => hf.elim)), own_nil h1⟩
end Go.Proofs.YtgechifbbhipaaaDoor
