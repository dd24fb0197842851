/- Laws and small words of my own, over any program: bytes of a string, plain facts on lists. No condition. -/
import Derived.WalkKit
import Derived.WalkSpells
import Derived.WalkLawsBesides
import Derived.Lib.Hide
namespace Go.Proofs.Ytiakmaleiholnaa
open Go.RowKit

theorem bat_get (s : ByteArray) (k : Nat) (h : k < s.size) : s.data.toList[k]? = some s[k] := by
  have h' : k < s.data.size := h
  rw [Array.getElem?_toList, Array.getElem?_eq_getElem h']; rfl

theorem drop_cons_at (s : ByteArray) (k : Nat) (h : k < s.size) : s.data.toList.drop k = s[k] :: s.data.toList.drop (k + 1) := by
  have h' : k < s.data.toList.length := by simpa using h
  rw [List.drop_eq_getElem_cons h']
  congr 1

theorem drop_all (s : ByteArray) (k : Nat) (h : ¬ k < s.size) : s.data.toList.drop k = [] := by
  have h2 : s.data.toList.length = s.size := by simp
  exact List.drop_of_length_le (by omega)

theorem len_toList (s : ByteArray) : s.data.toList.length = s.size := by simp

theorem empty_of_size (s : ByteArray) (h : s.size = 0) : s = ByteArray.empty := by
  cases s with
  | mk d =>
    have h' : d.size = 0 := h
    have : d = #[] := by simpa using h'
    subst this; rfl

/-- the conversion of a string to bytes: a new block, whose first cells are the bytes. -/
theorem wpList_bytes {P : Program} (w : World) {ops : Array Oper} {rest : List Oper} {o : Oper} {a : Act} {Q : Exit → Act → World → Prop}
    (hg : o.guard = none) (x : Operand) (src dst e : TypeId) (hop : o.op = Op.convert src dst x)
    (hs : P.underlying src = some .string) (hd : P.underlying dst = some (.slice e)) (he : P.underlying e = some (.int .u8)) (s : ByteArray) (hx : a.eval x = .string s)
    (hK : ∀ cap w', s.size ≤ cap → (∀ j (_ : j < s.size), w'.cell? ⟨w.heap.size, j, none⟩ = some (.int .u8 (s[j].toNat : Int))) → Below w.heap.size w w' → w.heap.size < w'.heap.size →
      (∀ j, j < s.size → w'.frozen? ⟨w.heap.size, j, none⟩ = false) →
      wpList P ops Q rest (a.put o.dst (.slice (some ⟨w.heap.size, 0, none⟩) s.size cap)) w') :
    wpList P ops Q (o :: rest) a w := by
  refine wpList_plain hg fun K hK' => ?_
  have hrun := run_bytes_of_string (P := P) w src dst e s hs hd he
  unfold Oper.wp
  have hb : Below w.heap.size w (w.drew.alloc (.cells (bytesRow s (grownCap w s.size 0 e)) e ((bytesRow s (grownCap w s.size 0 e)).size, (bytesRow s (grownCap w s.size 0 e)).size + 1))) :=
    ((Below.refl _ w).drew).alloc (Nat.le_refl _) _
  have hcell : ∀ j (h : j < s.size), (w.drew.alloc (.cells (bytesRow s (grownCap w s.size 0 e)) e ((bytesRow s (grownCap w s.size 0 e)).size, (bytesRow s (grownCap w s.size 0 e)).size + 1))).cell? ⟨w.heap.size, j, none⟩ = some (.int .u8 (s[j].toNat : Int)) := fun j h => by
    have := World.cell?_alloc_mark w.drew (bytesRow s (grownCap w s.size 0 e)) e ((bytesRow s (grownCap w s.size 0 e)).size, (bytesRow s (grownCap w s.size 0 e)).size + 1) j
    rw [bytesRow_at s _ j h] at this
    exact this
  have hfr : ∀ j, j < s.size → (w.drew.alloc (.cells (bytesRow s (grownCap w s.size 0 e)) e ((bytesRow s (grownCap w s.size 0 e)).size, (bytesRow s (grownCap w s.size 0 e)).size + 1))).frozen? ⟨w.heap.size, j, none⟩ = false := fun j h => by
    have := World.frozen?_alloc_mark w.drew (bytesRow s (grownCap w s.size 0 e)) e (bytesRow s (grownCap w s.size 0 e)).size ((bytesRow s (grownCap w s.size 0 e)).size + 1) j
    have h3 : s.size ≤ (bytesRow s (grownCap w s.size 0 e)).size := by
      simp [bytesRow]
    refine Eq.trans this ?_
    simp; omega
  have hk := hK (grownCap w s.size 0 e) _ (grownCap_ge _ _ _ _) hcell hb (by simp) hfr
  simp [execOp, hop, hx, hrun, Result.andThen]
  exact hK' _ _ hk

end Go.Proofs.Ytiakmaleiholnaa
