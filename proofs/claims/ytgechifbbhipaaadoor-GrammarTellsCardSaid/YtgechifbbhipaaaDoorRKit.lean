/- Small words for loops over iterators: a box that is written while all else below a bound stays. No condition. -/
import Derived.RangeFuncBox
import Derived.RangeFuncLeaves
import Derived.RangeFuncNested
import Derived.RangeFuncBound
import Derived.RangeFuncCalls
import Derived.Shelf.Abstract
import Derived.OwnWalkIn
import Derived.TacticsInMore
import Derived.LoopNIn
import Derived.LoopIn
import Derived.Maps.AppendAt
import Derived.Test.YtgechifbbhipaaaDoorKit
set_option linter.unusedVariables false
set_option linter.unusedSimpArgs false
namespace Go.Proofs.YtgechifbbhipaaaDoor
open Go.RowKit

/-- Below block n the world is as it was, but for block B. -/
structure BelowBut (n B : Nat) (w w' : World) : Prop where
  os : w'.os = w.os
  tape : w'.tape = w.tape
  output : w'.output = w.output
  size : w.heap.size ≤ w'.heap.size
  block : ∀ k, k < n → k ≠ B → w'.heap[k]? = w.heap[k]?

theorem BelowBut.refl (n B : Nat) (w : World) : BelowBut n B w w := ⟨rfl, rfl, rfl, Nat.le_refl _, fun _ _ _ => rfl⟩
theorem BelowBut.trans {n B : Nat} {a b c : World} (h : BelowBut n B a b) (k : BelowBut n B b c) : BelowBut n B a c :=
  ⟨k.os.trans h.os, k.tape.trans h.tape, k.output.trans h.output, Nat.le_trans h.size k.size, fun i hi hB => (k.block i hi hB).trans (h.block i hi hB)⟩
theorem BelowBut.below {n B m : Nat} {w w' : World} (h : BelowBut n B w w') (h1 : m ≤ n) (h2 : m ≤ B) : Below m w w' :=
  ⟨h.os, h.tape, h.output, h.size, fun k hk => h.block k (by omega) (by omega)⟩
theorem BelowBut.of_below {n B : Nat} {w w' : World} (h : Below n w w') : BelowBut n B w w' := ⟨h.os, h.tape, h.output, h.size, fun k hk _ => h.block k hk⟩
theorem BelowBut.cell {n B : Nat} {w w' : World} (h : BelowBut n B w w') {b o : Nat} (hb : b < n) (hB : b ≠ B) : w'.cell? ⟨b, o, none⟩ = w.cell? ⟨b, o, none⟩ :=
  World.cell?_of_block (a := ⟨b, o, none⟩) (h.block b hb hB)
theorem BelowBut.boxed {n B : Nat} {w w' : World} (h : BelowBut n B w w') {b t : Nat} {v : Value} (hx : Boxed w b t v) (hb : b < n) (hB : b ≠ B) : Boxed w' b t v :=
  (h.block b hb hB).trans hx
theorem BelowBut.put {n B : Nat} {w : World} (hn : n ≤ w.heap.size) (W : World) (l : Nat) (o o' : Obj) (hl : w.heap.size ≤ l) (_ : W.heap[l]? = some o) (_ : o.isCells = false) (_ : o.isWalk = false) : BelowBut n B W (W.putObj l o') :=
  .of_below (belowK_b (n₀ := n) hn W l o o' hl ‹_› ‹_› ‹_›)

theorem boxed_app {W w1 : World} {n₀ B : Nat} {t e : TypeId} {size : Nat} {v v' : Value} {k m : Nat} {xs ys : List Value} {tmp : Obj}
    (hv : Boxed W B t v) (hte : t ≠ e) (hrow : W.ownsRow n₀ e size v k xs) (hn₀ : n₀ ≤ W.heap.size) (hB : B < n₀)
    (hown' : w1.ownsRow n₀ e size v' m ys) (hgrow : (W.alloc tmp).grownBy w1 v.ownBlock) :
    Boxed w1 B t v ∧ Boxed (w1.setCell ⟨B, 0, none⟩ v') B t v' ∧ (w1.setCell ⟨B, 0, none⟩ v').ownsRow n₀ e size v' m ys ∧ KeepsOthers W (w1.setCell ⟨B, 0, none⟩ v') ∧ BelowBut n₀ B W (w1.setCell ⟨B, 0, none⟩ v') := by
  have weak : ∀ {X : World} {u : Value} {q : Nat} {zs : List Value}, X.ownsRow n₀ e size u q zs → X.ownsRow 0 e size u q zs := by
    rintro X u q zs ⟨h1, h2⟩
    refine ⟨h1, ?_⟩
    rcases h2 with h2 | ⟨g, cap, cur, a, _, c⟩
    · exact .inl h2
    · exact .inr ⟨g, cap, cur, a, Nat.zero_le _, c⟩
  obtain ⟨p1, p2, _, p4, _⟩ := hv.appended hte (weak hrow) (Nat.zero_le _) (Nat.zero_le _) (weak hown') hgrow
  refine ⟨p1, p2, ownsRow_setCell_below hown' hB _, p4, hgrow.os, hgrow.tape, hgrow.output, ?_, fun i hi hne => ?_⟩
  · have := hgrow.size; simp [World.setCell] at this ⊢; omega
  · rw [Below.heap_setCell _ _ _ _ (by simpa using hne), hgrow.block i (by simp; omega) (fun e' => by have := (hrow.lt i e'.symm).1; omega)]
    exact Below.heap_alloc _ _ _ (by omega)

theorem ownFrom_but {β : Type} {n B C : Nat} {w₀ : World} (hn : n ≤ w₀.heap.size) (hC : n ≤ C) : OwnFrom C (fun (_ : β) (W : World) => BelowBut n B w₀ W) :=
  fun _ W W' row hs hg hr => hs.trans ⟨hg.os, hg.tape, hg.output, hg.size, fun k hk _ => hg.block k (by have := hs.size; omega) (fun e => by have := (hr k e.symm).1; omega)⟩

theorem ownFrom_size {β : Type} {B m : Nat} : OwnFrom B (fun (_ : β) (W : World) => m ≤ W.heap.size) := fun _ _ _ _ hs hg _ => Nat.le_trans hs hg.size

theorem own_form {w : World} {B : Nat} {e : TypeId} {sz : Nat} {v : Value} {n : Nat} {xs : List Value} (h : w.ownsRow B e sz v n xs) : ∃ a c, v = .slice a n c := by
  rcases h.2 with ⟨rfl, rfl⟩ | ⟨g, cap, cur, rfl, _⟩
  · exact ⟨_, _, rfl⟩
  · exact ⟨_, _, rfl⟩
end Go.Proofs.YtgechifbbhipaaaDoor
