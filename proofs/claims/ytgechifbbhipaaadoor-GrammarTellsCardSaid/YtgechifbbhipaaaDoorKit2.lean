/- More laws of my own, over any program: a conversion to bytes at a step of a region that draws. No condition. -/
import Derived.Test.YtgechifbbhipaaaDoorKit
import Derived.Deep.RegionLaw
import Derived.Deep.QuietTactic
import Derived.BigQuiet
import Derived.RegionTactic
import Derived.Outline
import Derived.Deep.RegionHeld3
set_option linter.unusedVariables false
set_option linter.unusedSimpArgs false
namespace Go.Proofs.YtgechifbbhipaaaDoor
open Go.RowKit

/-- the conversion of a string to bytes, one operation. -/
theorem wp_bytes {P : Program} {w : World} {o : Oper} {a : Act} {K : Act → World → Prop} {Q : Exit → Act → World → Prop}
    (x : Operand) (src dst e : TypeId) (hop : o.op = Op.convert src dst x)
    (hs : P.underlying src = some .string) (hd : P.underlying dst = some (.slice e)) (he : P.underlying e = some (.int .u8)) (s : ByteArray) (hx : a.eval x = .string s)
    (hK : ∀ cap w', s.size ≤ cap → Src w' w.heap.size s → Below w.heap.size w w' → w.heap.size < w'.heap.size →
      (∀ j, j < s.size → w'.frozen? ⟨w.heap.size, j, none⟩ = false) →
      K (a.put o.dst (.slice (some ⟨w.heap.size, 0, none⟩) s.size cap)) w') :
    Oper.wp P o a w K Q := by
  have hrun := run_bytes_of_string (P := P) w src dst e s hs hd he
  unfold Oper.wp
  have hb : Below w.heap.size w (w.drew.alloc (.cells (bytesRow s (grownCap w s.size 0 e)) e ((bytesRow s (grownCap w s.size 0 e)).size, (bytesRow s (grownCap w s.size 0 e)).size + 1))) :=
    ((Below.refl _ w).drew).alloc (Nat.le_refl _) _
  have hcell : ∀ j (h : j < s.size), (w.drew.alloc (.cells (bytesRow s (grownCap w s.size 0 e)) e ((bytesRow s (grownCap w s.size 0 e)).size, (bytesRow s (grownCap w s.size 0 e)).size + 1))).cell? ⟨w.heap.size, j, none⟩ = some (.int .u8 (s[j].toNat : Int)) := fun j h => by
    have := World.cell?_alloc_mark w.drew (bytesRow s (grownCap w s.size 0 e)) e ((bytesRow s (grownCap w s.size 0 e)).size, (bytesRow s (grownCap w s.size 0 e)).size + 1) j
    rw [bytesRow_at s _ j h] at this
    exact this
  have hfr : ∀ j, j < s.size → (w.drew.alloc (.cells (bytesRow s (grownCap w s.size 0 e)) e ((bytesRow s (grownCap w s.size 0 e)).size, (bytesRow s (grownCap w s.size 0 e)).size + 1))).frozen? ⟨w.heap.size, j, none⟩ = false := fun j h => by
    have := World.frozen?_alloc_mark w.drew (bytesRow s (grownCap w s.size 0 e)) e (bytesRow s (grownCap w s.size 0 e)).size ((bytesRow s (grownCap w s.size 0 e)).size + 1) j
    have h3 : s.size ≤ (bytesRow s (grownCap w s.size 0 e)).size := by
      simp [bytesRow]
    refine Eq.trans this ?_
    simp; omega
  have hk := hK (grownCap w s.size 0 e) _ (grownCap_ge _ _ _ _) hcell hb (by simp) hfr
  simp [execOp, hop, hx, hrun, Result.andThen]
  exact hk

theorem step_bytes {P : Program} {w : World} {ops : Array Oper} {o : Oper} {a : Act} {K : Act → World → Prop} {Q : Exit → Act → World → Prop} {E : Prop}
    (hg : o.guard = none) (x : Operand) (src dst e : TypeId) (hop : o.op = Op.convert src dst x)
    (hs : P.underlying src = some .string) (hd : P.underlying dst = some (.slice e)) (he : P.underlying e = some (.int .u8)) (s : ByteArray) (hx : a.eval x = .string s)
    (hK : ∀ cap w', s.size ≤ cap → Src w' w.heap.size s → Below w.heap.size w w' → w.heap.size < w'.heap.size →
      (∀ j, j < s.size → w'.frozen? ⟨w.heap.size, j, none⟩ = false) →
      K (a.put o.dst (.slice (some ⟨w.heap.size, 0, none⟩) s.size cap)) w') :
    if Region.wanted o (yielded ops a.tmps) = true then Oper.wp P o a w K Q else E := by
  have hw : Region.wanted o (yielded ops a.tmps) = true := by simp [Region.wanted, hg]
  rw [if_pos hw]
  exact wp_bytes x src dst e hop hs hd he s hx hK

/-- the world behind a conversion of a string to bytes -/
def bytesW (s : ByteArray) (e : TypeId) (w : World) : World := w.drew.alloc (.cells (bytesRow s (grownCap w s.size 0 e)) e ((bytesRow s (grownCap w s.size 0 e)).size, (bytesRow s (grownCap w s.size 0 e)).size + 1))
def bytesC (s : ByteArray) (e : TypeId) (w : World) : Nat := grownCap w s.size 0 e

theorem run_bytesW {P : Program} (src dst e : TypeId) (hs : P.underlying src = some .string) (hd : P.underlying dst = some (.slice e)) (he : P.underlying e = some (.int .u8)) (s : ByteArray) (w : World) :
    (convert src dst (.string s)).run P w = .ok (.slice (some ⟨w.heap.size, 0, none⟩) s.size (bytesC s e w)) (bytesW s e w) := run_bytes_of_string (P := P) w src dst e s hs hd he

theorem bytesW_below (s : ByteArray) (e : TypeId) (w : World) : Below w.heap.size w (bytesW s e w) := ((Below.refl _ w).drew).alloc (Nat.le_refl _) _
theorem bytesW_size (s : ByteArray) (e : TypeId) (w : World) : w.heap.size < (bytesW s e w).heap.size := by unfold bytesW; simp
theorem bytesW_src (s : ByteArray) (e : TypeId) (w : World) : Src (bytesW s e w) w.heap.size s := fun j h => by
  have := World.cell?_alloc_mark w.drew (bytesRow s (grownCap w s.size 0 e)) e ((bytesRow s (grownCap w s.size 0 e)).size, (bytesRow s (grownCap w s.size 0 e)).size + 1) j
  rw [bytesRow_at s _ j h] at this
  exact this
theorem bytesW_free (s : ByteArray) (e : TypeId) (w : World) : ∀ j, j < s.size → (bytesW s e w).frozen? ⟨w.heap.size, j, none⟩ = false := fun j h => by
  have := World.frozen?_alloc_mark w.drew (bytesRow s (grownCap w s.size 0 e)) e (bytesRow s (grownCap w s.size 0 e)).size ((bytesRow s (grownCap w s.size 0 e)).size + 1) j
  have h3 : s.size ≤ (bytesRow s (grownCap w s.size 0 e)).size := by
    simp [bytesRow]
  refine Eq.trans this ?_
  simp; omega
end Go.Proofs.YtgechifbbhipaaaDoor

/- A list of cells that stay as they are over calls that only make memory: for regions that draw their order. No condition. -/
namespace Go.Proofs.YtgechifbbhipaaaDoor
open Go.RowKit

/-- these cells hold these values, and t holds. -/
def Cs : List (Nat × Nat × Value) → Prop → World → Prop
  | [], t, _ => t
  | (b, o, v) :: l, t, w => w.cell? ⟨b, o, none⟩ = some v ∧ Cs l t w
/-- all blocks lie below m. -/
def LtA : List (Nat × Nat × Value) → Nat → Prop
  | [], _ => True
  | (b, _, _) :: l, m => b < m ∧ LtA l m

theorem Cs.tail {l : List (Nat × Nat × Value)} {t : Prop} {w : World} (h : Cs l t w) : t := by
  induction l with
  | nil => exact h
  | cons x l ih => obtain ⟨b, o, v⟩ := x; exact ih h.2
theorem Cs.move {l : List (Nat × Nat × Value)} {t t' : Prop} {w w' : World} {m : Nat} (hm : LtA l m) (h : Cs l t w) (hw : m ≤ w.heap.size) (hb : Below w.heap.size w w') (ht : t') : Cs l t' w' := by
  induction l with
  | nil => exact ht
  | cons x l ih =>
    obtain ⟨b, o, v⟩ := x
    exact ⟨(hb.cell (p := ⟨b, o, none⟩) (Nat.lt_of_lt_of_le hm.1 hw)).trans h.1, ih hm.2 h.2⟩
/-- the cells, and what lay below w0. -/
def KC (w0 : World) (m : Nat) (l : List (Nat × Nat × Value)) (w : World) : Prop := Cs l (m ≤ w.heap.size ∧ Below w0.heap.size w0 w) w
theorem KC.below {w0 : World} {m : Nat} {l : List (Nat × Nat × Value)} {w : World} (h : KC w0 m l w) : Below w0.heap.size w0 w := (Cs.tail h).2
theorem KC.size {w0 : World} {m : Nat} {l : List (Nat × Nat × Value)} {w : World} (h : KC w0 m l w) : m ≤ w.heap.size := (Cs.tail h).1
theorem KC.call {w0 : World} {m : Nat} {l : List (Nat × Nat × Value)} {w w' : World} (hm : LtA l m) (h : KC w0 m l w) (hb : Below w.heap.size w w') : KC w0 m l w' :=
  Cs.move hm h h.size hb ⟨Nat.le_trans h.size hb.size, h.below.trans (hb.mono h.below.size)⟩
theorem KC.drew {w0 : World} {m : Nat} {l : List (Nat × Nat × Value)} {w : World} (hm : LtA l m) (h : KC w0 m l w) : KC w0 m l w.drew := h.call hm ((Below.refl _ _).drew)
theorem KC.alloc {w0 : World} {m : Nat} {l : List (Nat × Nat × Value)} {w : World} (hm : LtA l m) (h : KC w0 m l w) (o : Obj) : KC w0 m l (w.alloc o) := h.call hm ((Below.refl _ _).alloc (Nat.le_refl _) _)
/-- a new block's cells are added. -/
theorem Cs.append {l k : List (Nat × Nat × Value)} {t : Prop} {w : World} (h : Cs l (Cs k t w) w) : Cs (l ++ k) t w := by
  induction l with
  | nil => exact h
  | cons x l ih => obtain ⟨b, o, v⟩ := x; exact ⟨h.1, ih h.2⟩
theorem Cs.to {l : List (Nat × Nat × Value)} {t t' : Prop} {w : World} (h : Cs l t w) (ht : t') : Cs l t' w := by
  induction l with
  | nil => exact ht
  | cons x l ih => obtain ⟨b, o, v⟩ := x; exact ⟨h.1, ih h.2⟩
theorem LtA.mono {l : List (Nat × Nat × Value)} {m n : Nat} (h : LtA l m) (hn : m ≤ n) : LtA l n := by
  induction l with
  | nil => trivial
  | cons x l ih => obtain ⟨b, o, v⟩ := x; exact ⟨Nat.lt_of_lt_of_le h.1 hn, ih h.2⟩
theorem LtA.append {l k : List (Nat × Nat × Value)} {m : Nat} (h : LtA l m) (hk : LtA k m) : LtA (l ++ k) m := by
  induction l with
  | nil => exact hk
  | cons x l ih => obtain ⟨b, o, v⟩ := x; exact ⟨h.1, ih h.2⟩
/-- the cells of a block that was laid as a row. -/
def rowCs (b : Nat) : Nat → List Value → List (Nat × Nat × Value)
  | _, [] => []
  | o, v :: vs => (b, o, v) :: rowCs b (o + 1) vs
theorem rowCs_new (w : World) (vs : List Value) (t : TypeId) (p : Prop) (hp : p) (pre : List Value) : Cs (rowCs w.heap.size pre.length vs) p (w.alloc (.cells (pre ++ vs).toArray t)) := by
  induction vs generalizing pre with
  | nil => exact hp
  | cons v vs ih =>
    refine ⟨?_, ?_⟩
    · rw [World.cell?_alloc_at _ _ _ _ rfl]; simp
    · have := ih (pre ++ [v])
      simp only [List.length_append, List.length_cons, List.length_nil, Nat.zero_add, List.append_assoc, List.cons_append, List.nil_append] at this
      exact this
theorem rowCs_lt (b m o : Nat) (vs : List Value) (h : b < m) : LtA (rowCs b o vs) m := by
  induction vs generalizing o with
  | nil => trivial
  | cons v vs ih => exact ⟨h, ih _⟩
/-- known cells, and a new block. -/
theorem KC.add {w0 : World} {m : Nat} {l : List (Nat × Nat × Value)} {w : World} (hm : LtA l m) (h : KC w0 m l w) (vs : List Value) (t : TypeId) :
    KC w0 (w.heap.size + 1) (l ++ rowCs w.heap.size 0 vs) (w.alloc (.cells vs.toArray t)) ∧ LtA (l ++ rowCs w.heap.size 0 vs) (w.heap.size + 1) := by
  refine ⟨?_, (hm.mono (by have := h.size; omega)).append (rowCs_lt _ _ _ _ (by omega))⟩
  have hb : Below w.heap.size w (w.alloc (.cells vs.toArray t)) := (Below.refl _ _).alloc (Nat.le_refl _) _
  exact Cs.append ((Cs.move hm h h.size hb (rowCs_new w vs t _ ⟨by simp, h.below.alloc h.below.size _⟩ [])))
theorem KC.first (w : World) (vs : List Value) (t : TypeId) : KC w (w.heap.size + 1) (rowCs w.heap.size 0 vs) (w.alloc (.cells vs.toArray t)) ∧ LtA (rowCs w.heap.size 0 vs) (w.heap.size + 1) :=
  ⟨rowCs_new w vs t _ ⟨by simp, (Below.refl _ _).alloc (Nat.le_refl _) _⟩ [], rowCs_lt _ _ _ _ (by omega)⟩
end Go.Proofs.YtgechifbbhipaaaDoor
