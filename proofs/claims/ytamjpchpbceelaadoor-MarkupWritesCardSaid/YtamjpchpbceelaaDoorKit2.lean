/- More laws of my own, over any program: a conversion to bytes at a step of a region that draws. No condition. -/
import Derived.Test.YtamjpchpbceelaaDoorKit
import Derived.Deep.RegionLaw
import Derived.Deep.QuietTactic
import Derived.BigQuiet
import Derived.RegionTactic
import Derived.Outline
namespace Go.Proofs.YtamjpchpbceelaaDoor
open Go.RowKit

/-- the conversion of a string to bytes, one operation. -/
theorem wp_bytes {P : Program} {w : World} {o : Oper} {a : Act} {K : Act → World → Prop} {Q : Exit → Act → World → Prop}
    (x : Operand) (src dst e : TypeId) (hop : o.op = Op.convert src dst x)
    (hs : P.underlying src = some .string) (hd : P.underlying dst = some (.slice e)) (he : P.underlying e = some (.int .u8)) (s : ByteArray) (hx : a.eval x = .string s)
    (hK : ∀ cap w', s.size ≤ cap → Src w' w.heap.size s → Below w.heap.size w w' → w.heap.size < w'.heap.size →
      (∀ j, j < s.size → w'.frozen? ⟨w.heap.size, j, none⟩ = false) →
      K (a.put o.dst (.slice (some ⟨w.heap.size, 0, none⟩) s.size cap)) w') :
    Oper.wp P o a w K Q := by
  have hrun := run_bytes_of_string (P := P) w src dst e s hs hd he
  unfold Oper.wp
  have hb : Below w.heap.size w (w.drew.alloc (.cells (bytesRow s (grownCap w s.size 0 e)) e ((bytesRow s (grownCap w s.size 0 e)).size, (bytesRow s (grownCap w s.size 0 e)).size + 1))) :=
    ((Below.refl _ w).drew).alloc (Nat.le_refl _) _
  have hcell : ∀ j (h : j < s.size), (w.drew.alloc (.cells (bytesRow s (grownCap w s.size 0 e)) e ((bytesRow s (grownCap w s.size 0 e)).size, (bytesRow s (grownCap w s.size 0 e)).size + 1))).cell? ⟨w.heap.size, j, none⟩ = some (.int .u8 (s[j].toNat : Int)) := fun j h => by
    have := World.cell?_alloc_mark w.drew (bytesRow s (grownCap w s.size 0 e)) e ((bytesRow s (grownCap w s.size 0 e)).size, (bytesRow s (grownCap w s.size 0 e)).size + 1) j
    rw [bytesRow_at s _ j h] at this
    exact this
  have hfr : ∀ j, j < s.size → (w.drew.alloc (.cells (bytesRow s (grownCap w s.size 0 e)) e ((bytesRow s (grownCap w s.size 0 e)).size, (bytesRow s (grownCap w s.size 0 e)).size + 1))).frozen? ⟨w.heap.size, j, none⟩ = false := fun j h => by
    have := World.frozen?_alloc_mark w.drew (bytesRow s (grownCap w s.size 0 e)) e (bytesRow s (grownCap w s.size 0 e)).size ((bytesRow s (grownCap w s.size 0 e)).size + 1) j
    have h3 : s.size ≤ (bytesRow s (grownCap w s.size 0 e)).size := by
      simp [bytesRow]
    refine Eq.trans this ?_
    simp; omega
  have hk := hK (grownCap w s.size 0 e) _ (grownCap_ge _ _ _ _) hcell hb (by simp) hfr
  simp [execOp, hop, hx, hrun, Result.andThen]
  exact hk

theorem step_bytes {P : Program} {w : World} {ops : Array Oper} {o : Oper} {a : Act} {K : Act → World → Prop} {Q : Exit → Act → World → Prop} {E : Prop}
    (hg : o.guard = none) (x : Operand) (src dst e : TypeId) (hop : o.op = Op.convert src dst x)
    (hs : P.underlying src = some .string) (hd : P.underlying dst = some (.slice e)) (he : P.underlying e = some (.int .u8)) (s : ByteArray) (hx : a.eval x = .string s)
    (hK : ∀ cap w', s.size ≤ cap → Src w' w.heap.size s → Below w.heap.size w w' → w.heap.size < w'.heap.size →
      (∀ j, j < s.size → w'.frozen? ⟨w.heap.size, j, none⟩ = false) →
      K (a.put o.dst (.slice (some ⟨w.heap.size, 0, none⟩) s.size cap)) w') :
    if Region.wanted o (yielded ops a.tmps) = true then Oper.wp P o a w K Q else E := by
  have hw : Region.wanted o (yielded ops a.tmps) = true := by simp [Region.wanted, hg]
  rw [if_pos hw]
  exact wp_bytes x src dst e hop hs hd he s hx hK

/-- the world behind a conversion of a string to bytes -/
def bytesW (s : ByteArray) (e : TypeId) (w : World) : World := w.drew.alloc (.cells (bytesRow s (grownCap w s.size 0 e)) e ((bytesRow s (grownCap w s.size 0 e)).size, (bytesRow s (grownCap w s.size 0 e)).size + 1))
def bytesC (s : ByteArray) (e : TypeId) (w : World) : Nat := grownCap w s.size 0 e

theorem run_bytesW {P : Program} (src dst e : TypeId) (hs : P.underlying src = some .string) (hd : P.underlying dst = some (.slice e)) (he : P.underlying e = some (.int .u8)) (s : ByteArray) (w : World) :
    (convert src dst (.string s)).run P w = .ok (.slice (some ⟨w.heap.size, 0, none⟩) s.size (bytesC s e w)) (bytesW s e w) := run_bytes_of_string (P := P) w src dst e s hs hd he

theorem bytesW_below (s : ByteArray) (e : TypeId) (w : World) : Below w.heap.size w (bytesW s e w) := ((Below.refl _ w).drew).alloc (Nat.le_refl _) _
theorem bytesW_size (s : ByteArray) (e : TypeId) (w : World) : w.heap.size < (bytesW s e w).heap.size := by unfold bytesW; simp
theorem bytesW_src (s : ByteArray) (e : TypeId) (w : World) : Src (bytesW s e w) w.heap.size s := fun j h => by
  have := World.cell?_alloc_mark w.drew (bytesRow s (grownCap w s.size 0 e)) e ((bytesRow s (grownCap w s.size 0 e)).size, (bytesRow s (grownCap w s.size 0 e)).size + 1) j
  rw [bytesRow_at s _ j h] at this
  exact this
theorem bytesW_free (s : ByteArray) (e : TypeId) (w : World) : ∀ j, j < s.size → (bytesW s e w).frozen? ⟨w.heap.size, j, none⟩ = false := fun j h => by
  have := World.frozen?_alloc_mark w.drew (bytesRow s (grownCap w s.size 0 e)) e (bytesRow s (grownCap w s.size 0 e)).size ((bytesRow s (grownCap w s.size 0 e)).size + 1) j
  have h3 : s.size ≤ (bytesRow s (grownCap w s.size 0 e)).size := by
    simp [bytesRow]
  refine Eq.trans this ?_
  simp; omega
end Go.Proofs.YtamjpchpbceelaaDoor
