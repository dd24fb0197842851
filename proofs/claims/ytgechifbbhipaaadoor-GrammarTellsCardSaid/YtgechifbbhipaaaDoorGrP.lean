/- grammar in plain words: rules as lines, found by their heads; texts at a byte. No condition. -/
import Derived.Test.YtgechifbbhipaaaDoorKit2
import Derived.Lib.IndexMore
import Derived.Lib.IndexLaws
set_option linter.unusedVariables false
set_option linter.unusedSimpArgs false
namespace Go.Proofs.YtgechifbbhipaaaDoor
open Go.RowKit Go.Lib

def textOf (ls : List (List UInt8)) : List UInt8 := ls.flatMap fun l => 10 :: l
theorem textOf_cons (l : List UInt8) (ls : List (List UInt8)) : textOf (l :: ls) = 10 :: (l ++ textOf ls) := by simp [textOf]
/-- the rule of a head: what stands behind it on its line -/
def findR (h : List UInt8) : List (List UInt8) → Option (List UInt8)
  | [] => none
  | l :: ls => if l = h then some [] else if (h ++ [32]) <+: l then some (l.drop (h.length + 1)) else findR h ls
/-- the search in the whole text -/
def searchR : Nat → List UInt8 → List UInt8 → Option (List UInt8)
  | 0, _, _ => none
  | n + 1, rest, head =>
    if index rest head < 0 then none else
    match rest.drop ((index rest head).toNat + head.length) with
    | [] => some []
    | c :: t => if c = 10 then some [] else if c = 32 then some (cut t [10]).1 else searchR n (c :: t) head

theorem isPre {a b : List UInt8} : a.isPrefixOf b = true ↔ a <+: b := List.isPrefixOf_iff_prefix
theorem pre_line {h l : List UInt8} {ls : List (List UInt8)} (hh : 10 ∉ h) (hp : h <+: l ++ textOf ls) : h <+: l := by
  rcases Nat.lt_or_ge l.length h.length with hlt | hge
  · exfalso
    obtain ⟨r, hr⟩ := hp
    cases ls with
    | nil =>
      have := congrArg List.length hr
      simp [textOf] at this; omega
    | cons l2 ls =>
      rw [textOf_cons] at hr
      have h1 : (h ++ r)[l.length]? = some 10 := by rw [hr, List.getElem?_append_right (Nat.le_refl _)]; simp
      rw [List.getElem?_append_left hlt] at h1
      exact hh (List.mem_of_getElem? h1)
  · exact List.prefix_of_prefix_length_le hp (List.prefix_append _ _) hge
theorem index_lines_none {t h : List UInt8} (ht : 10 ∉ t) : index t (10 :: h) = -1 := by
  refine index_none fun j hj => ?_
  cases e : occAt t (10 :: h) j with
  | false => rfl
  | true => exact absurd (List.mem_of_getElem? (occAt_head rfl e)) ht
theorem noOcc_tail {t h r : List UInt8} (ht : 10 ∉ t) : NoOcc (t ++ r) (10 :: h) t.length := fun j hj => by
  cases e : occAt (t ++ r) (10 :: h) j with
  | false => rfl
  | true =>
    have := occAt_head rfl e
    rw [List.getElem?_append_left hj] at this
    exact absurd (List.mem_of_getElem? this) ht
theorem occ_line {t h r : List UInt8} : occAt (t ++ 10 :: r) (10 :: h) t.length = h.isPrefixOf r := by
  unfold occAt
  rw [List.drop_left]
  simp [List.isPrefixOf]
theorem cut_line {t : List UInt8} {ls : List (List UInt8)} (ht : 10 ∉ t) : (cut (t ++ textOf ls) [10]).1 = t := by
  unfold cut
  cases ls with
  | nil =>
    have : index (t ++ textOf []) [10] = -1 := by simpa [textOf] using index_lines_none (h := []) ht
    rw [this]; simp [textOf]
  | cons l ls =>
    have : index (t ++ textOf (l :: ls)) [10] = t.length := by
      rw [textOf_cons]
      exact index_first (by simp) (by rw [occ_line]; rfl) (noOcc_tail ht)
    rw [this, if_pos (by omega)]
    simp

theorem search_shift {s h : List UInt8} {i : Nat} (hn : NoOcc s (10 :: h) i) (hi : i ≤ s.length) (n : Nat) : searchR n s (10 :: h) = searchR n (s.drop i) (10 :: h) := by
  cases n with
  | zero => rfl
  | succ n =>
    have hd := index_drop hn hi
    rw [searchR, searchR]
    by_cases h1 : index (s.drop i) (10 :: h) = -1
    · rw [h1] at hd
      have hd : index s (10 :: h) = -1 := hd
      rw [hd, h1]; rfl
    · have hg := index_ge (s.drop i) (10 :: h)
      have hd : index s (10 :: h) = index (s.drop i) (10 :: h) + i := by rw [hd, if_neg (by simpa using h1)]
      rw [hd, if_neg (by omega), if_neg (by omega), List.drop_drop]
      rw [show (index (s.drop i) (10 :: h) + i).toNat + (10 :: h).length = i + ((index (s.drop i) (10 :: h)).toNat + (10 :: h).length) from by omega]
theorem search_eq {h : List UInt8} (hh : 10 ∉ h) : ∀ (ls : List (List UInt8)) (t : List UInt8) (n : Nat), ls.length < n → 10 ∉ t → (∀ l ∈ ls, 10 ∉ l) → searchR n (t ++ textOf ls) (10 :: h) = findR h ls
  | [], t, n, hn, ht, _ => by
    cases n with
    | zero => simp at hn
    | succ n =>
      have : index (t ++ textOf []) (10 :: h) = -1 := by simpa [textOf] using index_lines_none (h := h) ht
      rw [searchR, this, if_pos (by omega)]; rfl
  | l :: ls, t, n, hn, ht, hl => by
    have hl1 := hl l List.mem_cons_self
    have hl2 : ∀ x ∈ ls, 10 ∉ x := fun x hx => hl x (List.mem_cons_of_mem _ hx)
    have hn' : ls.length + 1 < n := by simpa using hn
    rw [textOf_cons]
    by_cases hp : h <+: l
    · obtain ⟨r, rfl⟩ := hp
      have hi : index (t ++ 10 :: (h ++ r ++ textOf ls)) (10 :: h) = t.length :=
        index_first (by simp) (by rw [occ_line, isPre]; exact ⟨r ++ textOf ls, by simp⟩) (noOcc_tail ht)
      obtain ⟨n, rfl⟩ : ∃ k, n = k + 1 := ⟨n - 1, by omega⟩
      rw [searchR, hi, if_neg (by omega)]
      have hdr : (t ++ 10 :: (h ++ r ++ textOf ls)).drop ((t.length : Int).toNat + (10 :: h).length) = r ++ textOf ls := by
        rw [show (t.length : Int).toNat + (10 :: h).length = (t ++ 10 :: h).length from by simp]
        rw [show t ++ 10 :: (h ++ r ++ textOf ls) = (t ++ 10 :: h) ++ (r ++ textOf ls) from by simp]
        rw [List.drop_left]
      rw [hdr, findR]
      cases r with
      | nil =>
        rw [if_pos (by simp)]
        cases ls with
        | nil => rfl
        | cons l2 ls => rw [textOf_cons]; simp
      | cons c t2 =>
        have hc : c ≠ 10 := fun e => hl1 (by rw [e]; simp)
        have ht2 : 10 ∉ t2 := fun e => hl1 (by simp [e])
        rw [if_neg (by simp)]
        rw [List.cons_append]
        simp only []
        rw [if_neg hc]
        by_cases h32 : c = 32
        · subst h32
          rw [if_pos rfl, if_pos ⟨t2, by simp⟩, cut_line ht2]
          rw [show h ++ 32 :: t2 = (h ++ [32]) ++ t2 from by simp, show h.length + 1 = (h ++ [32]).length from by simp, List.drop_left]
        · rw [if_neg h32, if_neg (by
            rintro ⟨q, hq⟩
            rw [List.append_assoc] at hq
            have := List.append_cancel_left hq
            simp at this
            exact h32 this.1.symm)]
          rw [show c :: (t2 ++ textOf ls) = (c :: t2) ++ textOf ls from rfl]
          exact search_eq hh ls (c :: t2) n (by omega) (by simp [Ne.symm hc, ht2]) hl2
    · have hno : NoOcc (t ++ 10 :: (l ++ textOf ls)) (10 :: h) (t.length + 1) := (noOcc_tail ht).succ (by
        rw [occ_line]
        cases e : h.isPrefixOf (l ++ textOf ls) with
        | false => rfl
        | true => exact absurd (pre_line hh (isPre.1 e)) hp)
      rw [search_shift hno (by simp)]
      rw [show (t ++ 10 :: (l ++ textOf ls)).drop (t.length + 1) = l ++ textOf ls from by
        rw [show t ++ 10 :: (l ++ textOf ls) = (t ++ [10]) ++ (l ++ textOf ls) from by simp, show t.length + 1 = (t ++ [10]).length from by simp, List.drop_left]]
      rw [findR, if_neg (fun e => hp ⟨[], by rw [e]; simp⟩), if_neg (fun e => hp (List.IsPrefix.trans ⟨[32], rfl⟩ e))]
      exact search_eq hh ls l n (by omega) hl1 hl2

/-- a text at a byte -/
def cutB (c : UInt8) : List UInt8 → List (List UInt8)
  | [] => [[]]
  | a :: l => if a = c then [] :: cutB c l else match cutB c l with
    | [] => [[a]]
    | p :: ps => (a :: p) :: ps
theorem cutB_ne (c : UInt8) (l : List UInt8) : cutB c l ≠ [] := by
  cases l with
  | nil => simp [cutB]
  | cons a l => rw [cutB]; split; simp; split <;> simp
theorem cutB_free {c : UInt8} {p : List UInt8} (h : c ∉ p) : cutB c p = [p] := by
  induction p with
  | nil => rfl
  | cons a l ih =>
    have h1 : a ≠ c := fun e => h (by rw [e]; simp)
    rw [cutB, if_neg h1, ih (fun e => h (List.mem_cons_of_mem _ e))]
theorem cutB_at {c : UInt8} {p q : List UInt8} (h : c ∉ p) : cutB c (p ++ c :: q) = p :: cutB c q := by
  induction p with
  | nil => simp [cutB]
  | cons a l ih =>
    have h1 : a ≠ c := fun e => h (by rw [e]; simp)
    rw [List.cons_append, cutB, if_neg h1, ih (fun e => h (List.mem_cons_of_mem _ e))]
theorem cutB_mem {c : UInt8} (l : List UInt8) : ∀ p ∈ cutB c l, c ∉ p := by
  induction l with
  | nil => simp [cutB]
  | cons a l ih =>
    rw [cutB]
    split
    · intro p hp
      rcases List.mem_cons.1 hp with rfl | hp
      · simp
      · exact ih p hp
    · rename_i ha
      split
      · intro p hp; simp at hp; subst hp; simpa using Ne.symm ha
      · rename_i p ps he
        intro q hq
        rcases List.mem_cons.1 hq with rfl | hq
        · have := ih p (by rw [he]; simp)
          simp [Ne.symm ha, this]
        · exact ih q (by rw [he]; simp [hq])
/-- put together again -/
def joinB (c : UInt8) : List (List UInt8) → List UInt8
  | [] => []
  | [p] => p
  | p :: q :: ps => p ++ c :: joinB c (q :: ps)
theorem join_cut (c : UInt8) (l : List UInt8) : joinB c (cutB c l) = l := by
  induction l with
  | nil => rfl
  | cons a l ih =>
    rw [cutB]
    split
    · rename_i h
      subst h
      cases e : cutB a l with
      | nil => exact absurd e (cutB_ne a l)
      | cons p ps => rw [joinB, ← e, ih]; rfl
    · cases e : cutB c l with
      | nil => exact absurd e (cutB_ne c l)
      | cons p ps =>
        rw [e] at ih
        cases ps with
        | nil => simp [joinB] at ih ⊢; exact ih
        | cons q qs => simp [joinB] at ih ⊢; exact ih
end Go.Proofs.YtgechifbbhipaaaDoor
