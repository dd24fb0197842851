/- vocab: a text's words between blanks, in plain Lean. No condition. -/
import Derived.Test.YtgechifbbhipaaaDoorGrQ
set_option linter.unusedVariables false
set_option linter.unusedSimpArgs false
namespace Go.Proofs.YtgechifbbhipaaaDoor
open Go.RowKit

/-- the texts between blanks -/
def spW : List UInt8 → List (List UInt8)
  | [] => [[]]
  | c :: l => if c = 32 then [] :: spW l else match spW l with
    | [] => [[c]]
    | w :: ws => (c :: w) :: ws
theorem spW_blank (p l : List UInt8) (h : ∀ c ∈ p, c ≠ 32) : spW (p ++ 32 :: l) = p :: spW l := by
  induction p with
  | nil => simp [spW]
  | cons c p ih =>
    have hc : c ≠ 32 := h c (by simp)
    rw [List.cons_append, spW, if_neg hc, ih (fun d hd => h d (by simp [hd]))]
theorem spW_end (p : List UInt8) (h : ∀ c ∈ p, c ≠ 32) : spW p = [p] := by
  induction p with
  | nil => rfl
  | cons c p ih =>
    have hc : c ≠ 32 := h c (by simp)
    rw [spW, if_neg hc, ih (fun d hd => h d (by simp [hd]))]
theorem spW_len (l : List UInt8) : (spW l).length ≤ l.length + 1 := by
  induction l with
  | nil => simp [spW]
  | cons c l ih =>
    rw [spW]
    split
    · simp; omega
    · split
      · simp
      · rename_i h; rw [h] at ih; simp at ih ⊢; omega

theorem ext_mkB (s : ByteArray) (f i : Nat) (_ : i ≤ s.size) : mkB ((s.data.toList.drop f).take (i - f)) = s.extract f i := by
  apply Go.WideShapes.bytes_inj
  simp [mkB, ByteArray.data_extract, List.take_drop]

def wds (s : ByteArray) : List ByteArray := (spW s.data.toList).map mkB
theorem wds_len (s : ByteArray) : (wds s).length ≤ s.size + 1 := by
  have := spW_len s.data.toList
  rw [len_toList] at this
  unfold wds; rw [List.length_map]; exact this

/-- at byte i, the word that stands there beginning at f, the words 'pre' ahead of it -/
structure VR (s : ByteArray) (f i : Nat) (pre : List ByteArray) : Prop where
  le : f ≤ i
  top : i ≤ s.size
  eq : pre ++ (spW (s.data.toList.drop f)).map mkB = wds s
  nb : ∀ j (h : j < s.size), f ≤ j → j < i → s[j] ≠ 32

theorem VR.start (s : ByteArray) : VR s 0 0 [] := ⟨Nat.le_refl _, Nat.zero_le _, rfl, fun j _ _ h => absurd h (Nat.not_lt_zero _)⟩
theorem VR.step {s : ByteArray} {f i : Nat} {pre : List ByteArray} (h : VR s f i pre) (hi : i < s.size) (hc : s[i] ≠ 32) : VR s f (i + 1) pre :=
  ⟨by have := h.le; omega, by omega, h.eq, fun j hj h1 h2 => by
    by_cases e : j = i
    · subst e; exact hc
    · exact h.nb j hj h1 (by omega)⟩
theorem VR.word {s : ByteArray} {f i : Nat} {pre : List ByteArray} (h : VR s f i pre) : ∀ c ∈ (s.data.toList.drop f).take (i - f), c ≠ 32 := by
  intro c hc
  obtain ⟨j, hj, rfl⟩ := List.getElem_of_mem hc
  have := h.top
  have := h.le
  simp only [List.length_take, List.length_drop, len_toList] at hj
  have hs : f + j < s.size := by omega
  have e : ((s.data.toList.drop f).take (i - f))[j] = s[f + j] := by
    rw [List.getElem_take, List.getElem_drop]; rfl
  rw [e]
  exact h.nb _ hs (by omega) (by omega)
theorem VR.split {s : ByteArray} {f i : Nat} {pre : List ByteArray} (h : VR s f i pre) (hi : i < s.size) (hc : s[i] = 32) : s.data.toList.drop f = (s.data.toList.drop f).take (i - f) ++ 32 :: s.data.toList.drop (i + 1) := by
  have := h.le
  have e := List.take_append_drop (i - f) (s.data.toList.drop f)
  rw [List.drop_drop, show f + (i - f) = i from by omega, drop_cons_at s i hi, hc] at e
  exact e.symm
theorem VR.blank {s : ByteArray} {f i : Nat} {pre : List ByteArray} (h : VR s f i pre) (hi : i < s.size) (hc : s[i] = 32) : VR s (i + 1) (i + 1) (pre ++ [s.extract f i]) := by
  have hw := h.word
  have he := h.eq
  rw [h.split hi hc, spW_blank _ _ hw, List.map_cons, ext_mkB s f i h.top] at he
  exact ⟨Nat.le_refl _, hi, by rw [← he]; simp, fun j _ h1 h2 => by omega⟩
theorem VR.fin {s : ByteArray} {f : Nat} {pre : List ByteArray} (h : VR s f s.size pre) : pre ++ [s.extract f s.size] = wds s := by
  have hw := h.word
  have he := h.eq
  have ht : (s.data.toList.drop f).take (s.size - f) = s.data.toList.drop f := List.take_of_length_le (by rw [List.length_drop, len_toList]; exact Nat.le_refl _)
  rw [ht] at hw
  rw [spW_end _ hw] at he
  have hx := ext_mkB s f s.size (Nat.le_refl _)
  rw [ht] at hx
  rw [← he, ← hx]; rfl
theorem VR.pre {s : ByteArray} {f i : Nat} {pre : List ByteArray} (h : VR s f i pre) : pre <+: wds s := ⟨_, h.eq⟩
theorem VR.mem {s : ByteArray} {f i : Nat} {pre : List ByteArray} (h : VR s f i pre) (hb : i = s.size ∨ ∃ hi : i < s.size, s[i] = 32) : pre ++ [s.extract f i] <+: wds s := by
  rcases hb with rfl | ⟨hi, hc⟩
  · exact ⟨[], by rw [List.append_nil]; exact h.fin⟩
  · exact (h.blank hi hc).pre
/-- no word is empty, and each byte is a blank or no blank of any kind, and below 128 -/
def okB (c : UInt8) : Bool := c.toNat < 128 && (c == 32 || !(c == 9 || c == 10 || c == 11 || c == 12 || c == 13))
def okT (s : ByteArray) : Prop := (∀ x ∈ wds s, x.size ≠ 0) ∧ ∀ j (h : j < s.size), okB s[j] = true
theorem VR.pos {s : ByteArray} {f i : Nat} {pre : List ByteArray} (h : VR s f i pre) (hok : okT s) (hb : i = s.size ∨ ∃ hi : i < s.size, s[i] = 32) : f < i := by
  have hm : s.extract f i ∈ wds s := (h.mem hb).subset (by simp)
  have := hok.1 _ hm
  have h1 := h.le
  have h2 := h.top
  rw [ByteArray.size_extract] at this
  omega
end Go.Proofs.YtgechifbbhipaaaDoor
