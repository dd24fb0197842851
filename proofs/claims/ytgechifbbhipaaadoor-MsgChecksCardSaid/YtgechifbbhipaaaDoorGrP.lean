/- grammar in plain words: rules as lines, found by their heads; texts at a byte. No condition. -/
import Derived.Test.YtgechifbbhipaaaDoorKit
import Derived.Lib.IndexMore
import Derived.Lib.IndexLaws
import Derived.Test.YtgechifbbhipaaaDoorMkS
import Derived.Test.YtgechifbbhipaaaDoorTrZ
set_option linter.unusedVariables false
set_option linter.unusedSimpArgs false
namespace Go.Proofs.YtgechifbbhipaaaDoor
open Go.RowKit Go.Lib

def textOf (ls : List (List UInt8)) : List UInt8 := ls.flatMap fun l => 10 :: l
theorem textOf_cons (l : List UInt8) (ls : List (List UInt8)) : textOf (l :: ls) = 10 :: (l ++ textOf ls) := by simp [textOf]
/-- the rule of a head: what stands behind it on its line -/
def findR (h : List UInt8) : List (List UInt8) → Option (List UInt8)
  | [] => none
  | l :: ls => if l = h then some [] else if (h ++ [32]) <+: l then some (l.drop (h.length + 1)) else findR h ls
/-- the search in the whole text -/
def searchR : Nat → List UInt8 → List UInt8 → Option (List UInt8)
  | 0, _, _ => none
  | n + 1, rest, head =>
    if index rest head < 0 then none else
    match rest.drop ((index rest head).toNat + head.length) with
    | [] => some []
    | c :: t => if c = 10 then some [] else if c = 32 then some (cut t [10]).1 else searchR n (c :: t) head

theorem isPre {a b : List UInt8} : a.isPrefixOf b = true ↔ a <+: b := List.isPrefixOf_iff_prefix
theorem pre_line {h l : List UInt8} {ls : List (List UInt8)} (hh : 10 ∉ h) (hp : h <+: l ++ textOf ls) : h <+: l := by
  rcases Nat.lt_or_ge l.length h.length with hlt | hge
  · exfalso
    obtain ⟨r, hr⟩ := hp
    cases ls with
    | nil =>
      have := congrArg List.length hr
      simp [textOf] at this; omega
    | cons l2 ls =>
      rw [textOf_cons] at hr
      have h1 : (h ++ r)[l.length]? = some 10 := by rw [hr, List.getElem?_append_right (Nat.le_refl _)]; simp
      rw [List.getElem?_append_left hlt] at h1
      exact hh (List.mem_of_getElem? h1)
  · exact List.prefix_of_prefix_length_le hp (List.prefix_append _ _) hge
theorem index_lines_none {t h : List UInt8} (ht : 10 ∉ t) : index t (10 :: h) = -1 := by
  refine index_none fun j hj => ?_
  cases e : occAt t (10 :: h) j with
  | false => rfl
  | true => exact absurd (List.mem_of_getElem? (occAt_head rfl e)) ht
theorem noOcc_tail {t h r : List UInt8} (ht : 10 ∉ t) : NoOcc (t ++ r) (10 :: h) t.length := fun j hj => by
  cases e : occAt (t ++ r) (10 :: h) j with
  | false => rfl
  | true =>
    have := occAt_head rfl e
    rw [List.getElem?_append_left hj] at this
    exact absurd (List.mem_of_getElem? this) ht
theorem occ_line {t h r : List UInt8} : occAt (t ++ 10 :: r) (10 :: h) t.length = h.isPrefixOf r := by
  unfold occAt
  rw [List.drop_left]
  simp [List.isPrefixOf]
theorem cut_line {t : List UInt8} {ls : List (List UInt8)} (ht : 10 ∉ t) : (cut (t ++ textOf ls) [10]).1 = t := by
  unfold cut
  cases ls with
  | nil =>
    have : index (t ++ textOf []) [10] = -1 := by simpa [textOf] using index_lines_none (h := []) ht
    rw [this]; simp [textOf]
  | cons l ls =>
    have : index (t ++ textOf (l :: ls)) [10] = t.length := by
      rw [textOf_cons]
      exact index_first (by simp) (by rw [occ_line]; rfl) (noOcc_tail ht)
    rw [this, if_pos (by omega)]
    simp

theorem search_shift {s h : List UInt8} {i : Nat} (hn : NoOcc s (10 :: h) i) (hi : i ≤ s.length) (n : Nat) : searchR n s (10 :: h) = searchR n (s.drop i) (10 :: h) := by
  cases n with
  | zero => rfl
  | succ n =>
    have hd := index_drop hn hi
    rw [searchR, searchR]
    by_cases h1 : index (s.drop i) (10 :: h) = -1
    · rw [h1] at hd
      have hd : index s (10 :: h) = -1 := hd
      rw [hd, h1]; rfl
    · have hg := index_ge (s.drop i) (10 :: h)
      have hd : index s (10 :: h) = index (s.drop i) (10 :: h) + i := by rw [hd, if_neg (by simpa using h1)]
      rw [hd, if_neg (by omega), if_neg (by omega), List.drop_drop]
      rw [show (index (s.drop i) (10 :: h) + i).toNat + (10 :: h).length = i + ((index (s.drop i) (10 :: h)).toNat + (10 :: h).length) from by omega]
theorem search_eq {h : List UInt8} (hh : 10 ∉ h) : ∀ (ls : List (List UInt8)) (t : List UInt8) (n : Nat), ls.length < n → 10 ∉ t → (∀ l ∈ ls, 10 ∉ l) → searchR n (t ++ textOf ls) (10 :: h) = findR h ls
  | [], t, n, hn, ht, _ => by
    cases n with
    | zero => simp at hn
    | succ n =>
      have : index (t ++ textOf []) (10 :: h) = -1 := by simpa [textOf] using index_lines_none (h := h) ht
      rw [searchR, this, if_pos (by omega)]; rfl
  | l :: ls, t, n, hn, ht, hl => by
    have hl1 := hl l List.mem_cons_self
    have hl2 : ∀ x ∈ ls, 10 ∉ x := fun x hx => hl x (List.mem_cons_of_mem _ hx)
    have hn' : ls.length + 1 < n := by simpa using hn
    rw [textOf_cons]
    by_cases hp : h <+: l
    · obtain ⟨r, rfl⟩ := hp
      have hi : index (t ++ 10 :: (h ++ r ++ textOf ls)) (10 :: h) = t.length :=
        index_first (by simp) (by rw [occ_line, isPre]; exact ⟨r ++ textOf ls, by simp⟩) (noOcc_tail ht)
      obtain ⟨n, rfl⟩ : ∃ k, n = k + 1 := ⟨n - 1, by omega⟩
      rw [searchR, hi, if_neg (by omega)]
      have hdr : (t ++ 10 :: (h ++ r ++ textOf ls)).drop ((t.length : Int).toNat + (10 :: h).length) = r ++ textOf ls := by
        rw [show (t.length : Int).toNat + (10 :: h).length = (t ++ 10 :: h).length from by simp]
        rw [show t ++ 10 :: (h ++ r ++ textOf ls) = (t ++ 10 :: h) ++ (r ++ textOf ls) from by simp]
        rw [List.drop_left]
      rw [hdr, findR]
      cases r with
      | nil =>
        rw [if_pos (by simp)]
        cases ls with
        | nil => rfl
        | cons l2 ls => rw [textOf_cons]; simp
      | cons c t2 =>
        have hc : c ≠ 10 := fun e => hl1 (by rw [e]; simp)
        have ht2 : 10 ∉ t2 := fun e => hl1 (by simp [e])
        rw [if_neg (by simp)]
        rw [List.cons_append]
        simp only []
        rw [if_neg hc]
        by_cases h32 : c = 32
        · subst h32
          rw [if_pos rfl, if_pos ⟨t2, by simp⟩, cut_line ht2]
          rw [show h ++ 32 :: t2 = (h ++ [32]) ++ t2 from by simp, show h.length + 1 = (h ++ [32]).length from by simp, List.drop_left]
        · rw [if_neg h32, if_neg (by
            rintro ⟨q, hq⟩
            rw [List.append_assoc] at hq
            have := List.append_cancel_left hq
            simp at this
            exact h32 this.1.symm)]
          rw [show c :: (t2 ++ textOf ls) = (c :: t2) ++ textOf ls from rfl]
          exact search_eq hh ls (c :: t2) n (by omega) (by simp [Ne.symm hc, ht2]) hl2
    · have hno : NoOcc (t ++ 10 :: (l ++ textOf ls)) (10 :: h) (t.length + 1) := (noOcc_tail ht).succ (by
        rw [occ_line]
        cases e : h.isPrefixOf (l ++ textOf ls) with
        | false => rfl
        | true => exact absurd (pre_line hh (isPre.1 e)) hp)
      rw [search_shift hno (by simp)]
      rw [show (t ++ 10 :: (l ++ textOf ls)).drop (t.length + 1) = l ++ textOf ls from by
        rw [show t ++ 10 :: (l ++ textOf ls) = (t ++ [10]) ++ (l ++ textOf ls) from by simp, show t.length + 1 = (t ++ [10]).length from by simp, List.drop_left]]
      rw [findR, if_neg (fun e => hp ⟨[], by rw [e]; simp⟩), if_neg (fun e => hp (List.IsPrefix.trans ⟨[32], rfl⟩ e))]
      exact search_eq hh ls l n (by omega) hl1 hl2

/-- a text at a byte -/
def cutB (c : UInt8) : List UInt8 → List (List UInt8)
  | [] => [[]]
  | a :: l => if a = c then [] :: cutB c l else match cutB c l with
    | [] => [[a]]
    | p :: ps => (a :: p) :: ps
theorem cutB_ne (c : UInt8) (l : List UInt8) : cutB c l ≠ [] := by
  cases l with
  | nil => simp [cutB]
  | cons a l => rw [cutB]; split; simp; split <;> simp
theorem cutB_free {c : UInt8} {p : List UInt8} (h : c ∉ p) : cutB c p = [p] := by
  induction p with
  | nil => rfl
  | cons a l ih =>
    have h1 : a ≠ c := fun e => h (by rw [e]; simp)
    rw [cutB, if_neg h1, ih (fun e => h (List.mem_cons_of_mem _ e))]
theorem cutB_at {c : UInt8} {p q : List UInt8} (h : c ∉ p) : cutB c (p ++ c :: q) = p :: cutB c q := by
  induction p with
  | nil => simp [cutB]
  | cons a l ih =>
    have h1 : a ≠ c := fun e => h (by rw [e]; simp)
    rw [List.cons_append, cutB, if_neg h1, ih (fun e => h (List.mem_cons_of_mem _ e))]
theorem cutB_mem {c : UInt8} (l : List UInt8) : ∀ p ∈ cutB c l, c ∉ p := by
  induction l with
  | nil => simp [cutB]
  | cons a l ih =>
    rw [cutB]
    split
    · intro p hp
      rcases List.mem_cons.1 hp with rfl | hp
      · simp
      · exact ih p hp
    · rename_i ha
      split
      · intro p hp; simp at hp; subst hp; simpa using Ne.symm ha
      · rename_i p ps he
        intro q hq
        rcases List.mem_cons.1 hq with rfl | hq
        · have := ih p (by rw [he]; simp)
          simp [Ne.symm ha, this]
        · exact ih q (by rw [he]; simp [hq])
/-- put together again -/
def joinB (c : UInt8) : List (List UInt8) → List UInt8
  | [] => []
  | [p] => p
  | p :: q :: ps => p ++ c :: joinB c (q :: ps)
theorem join_cut (c : UInt8) (l : List UInt8) : joinB c (cutB c l) = l := by
  induction l with
  | nil => rfl
  | cons a l ih =>
    rw [cutB]
    split
    · rename_i h
      subst h
      cases e : cutB a l with
      | nil => exact absurd e (cutB_ne a l)
      | cons p ps => rw [joinB, ← e, ih]; rfl
    · cases e : cutB c l with
      | nil => exact absurd e (cutB_ne c l)
      | cons p ps =>
        rw [e] at ih
        cases ps with
        | nil => simp [joinB] at ih ⊢; exact ih
        | cons q qs => simp [joinB] at ih ⊢; exact ih
end Go.Proofs.YtgechifbbhipaaaDoor

/- grammar in plain words: the rules' lines (read off the program's own code), names looked up, kids held against words. No condition. -/
set_option linter.unusedVariables false
set_option linter.unusedSimpArgs false
namespace Go.Proofs.YtgechifbbhipaaaDoor
open Go.RowKit Go.Lib

/-- the program's rules: a line's end ahead of each line -/
noncomputable def rulesP : ByteArray := (((Tryd.f28.body.map strsOf).getD []).find? fun s => decide (1000 ≤ s.size)).getD ByteArray.empty
/-- the reference's: between the lines -/
noncomputable def rulesQ : ByteArray := ⟨(rulesP.data.toList.drop 1).toArray⟩
theorem rulesP_eq : rulesP.data.toList = 10 :: rulesQ.data.toList := by
  have h : (rulesP.data.toList == 10 :: rulesQ.data.toList) = true := by kernel_rfl
  exact eq_of_beq h
theorem rulesQ_size : rulesQ.size = 1606 := by
  have h : (rulesQ.data.toList.length == 1606) = true := by kernel_rfl
  rw [← len_toList]; exact eq_of_beq h
theorem rulesP_size : rulesP.size = 1607 := by rw [← len_toList, rulesP_eq, List.length_cons, len_toList, rulesQ_size]
theorem lit_p (a b : List UInt8) (h : ((List.append a b) == rulesP.data.toList) = true) : (ByteArray.mk (List.append a b).toArray) = rulesP := by
  refine Go.WideShapes.bytes_inj ?_
  show List.append a b = _
  exact eq_of_beq h
theorem lit_q (a b : List UInt8) (h : ((List.append a b) == rulesQ.data.toList) = true) : (ByteArray.mk (List.append a b).toArray) = rulesQ := by
  refine Go.WideShapes.bytes_inj ?_
  show List.append a b = _
  exact eq_of_beq h

theorem textOf_cut (l : List UInt8) : textOf (cutB 10 l) = 10 :: l := by
  induction l with
  | nil => rfl
  | cons a l ih =>
    rw [cutB]
    split
    · rename_i h
      subst h
      rw [textOf_cons, ih]; rfl
    · cases e : cutB 10 l with
      | nil => exact absurd e (cutB_ne 10 l)
      | cons p ps =>
        rw [e, textOf_cons] at ih
        simp only []
        rw [textOf_cons]
        simp at ih ⊢
        exact ih
noncomputable def ruleLs : List (List UInt8) := cutB 10 rulesQ.data.toList
theorem rulesP_text : rulesP.data.toList = textOf ruleLs := by rw [rulesP_eq, ruleLs, textOf_cut]
theorem ruleLs_free : ∀ l ∈ ruleLs, 10 ∉ l := cutB_mem _
theorem ruleLs_len : ruleLs.length ≤ 100 := of_decide_eq_true (by kernel_rfl)

def mkB (l : List UInt8) : ByteArray := ⟨l.toArray⟩
theorem mkB_list (l : List UInt8) : (mkB l).data.toList = l := rfl
theorem mkB_of (s : ByteArray) : mkB s.data.toList = s := rfl
theorem mkB_size (l : List UInt8) : (mkB l).size = l.length := by rw [← len_toList]; rfl
def okWord (w : List UInt8) : Bool := !w.isEmpty && w.all fun c => decide (c.toNat < 128) && (c != 10 && c != 32) && (c != 9 && c != 11 && c != 12 && c != 13)
/-- a line: a page's digit, a name, words -/
def okLine (l : List UInt8) : Bool := match cutB 32 l with
  | [d] :: nm :: ws => (d == 48 || d == 49 || d == 50) && nameB (mkB nm) && ws.all okWord
  | _ => false
theorem ruleLs_ok : ruleLs.all okLine = true := by kernel_rfl

/-- a line by its head -/
def findL (h : List UInt8) : List (List UInt8) → List UInt8
  | [] => []
  | l :: ls => if l = h ∨ (h ++ [32]) <+: l then l else findL h ls
theorem find_both (h : List UInt8) (ls : List (List UInt8)) : (findR h ls = none ∧ findL h ls = []) ∨ (findR h ls = some [] ∧ findL h ls = h ∧ h ∈ ls) ∨ (∃ r, findR h ls = some r ∧ findL h ls = h ++ 32 :: r ∧ (h ++ 32 :: r) ∈ ls) := by
  induction ls with
  | nil => exact .inl ⟨rfl, rfl⟩
  | cons l ls ih =>
    rw [findR, findL]
    by_cases h1 : l = h
    · subst h1; rw [if_pos rfl, if_pos (.inl rfl)]; exact .inr (.inl ⟨rfl, rfl, by simp⟩)
    · rw [if_neg h1]
      by_cases h2 : (h ++ [32]) <+: l
      · rw [if_pos h2, if_pos (.inr h2)]
        obtain ⟨r, rfl⟩ := h2
        refine .inr (.inr ⟨r, ?_, by simp, by simp⟩)
        rw [show h.length + 1 = (h ++ [32]).length from by simp, List.drop_left]
      · rw [if_neg h2, if_neg (by rintro (h | h); exact h1 h; exact h2 h)]
        rcases ih with ⟨a, b⟩ | ⟨a, b, c⟩ | ⟨r, a, b, c⟩
        · exact .inl ⟨a, b⟩
        · exact .inr (.inl ⟨a, b, List.mem_cons_of_mem _ c⟩)
        · exact .inr (.inr ⟨r, a, b, List.mem_cons_of_mem _ c⟩)

def digL (pg : Int) : List UInt8 := if pg = 0 then [48] else if pg = 1 then [49] else if pg = 2 then [50] else [63]
theorem digL_free (pg : Int) (c : UInt8) (h : c = 10 ∨ c = 32) : c ∉ digL pg := by
  unfold digL
  rcases h with rfl | rfl <;> (repeat' split) <;> simp
/-- the head of a line -/
def hdL (pg : Int) (nm : List UInt8) : List UInt8 := digL pg ++ 32 :: nm
/-- a name's rule -/
noncomputable def ruleF (pg : Int) (nm : List UInt8) : Option (List UInt8) := findR (hdL pg nm) ruleLs
noncomputable def lineF (pg : Int) (nm : List UInt8) : List UInt8 := findL (hdL pg nm) ruleLs
/-- a rule's words -/
def wordsR (r : List UInt8) : List (List UInt8) := if r = [] then [] else cutB 32 r
theorem cut_hd (pg : Int) (nm r : List UInt8) (hn : 32 ∉ nm) : cutB 32 (hdL pg nm ++ 32 :: r) = digL pg :: nm :: cutB 32 r := by
  unfold hdL
  rw [List.append_assoc, List.cons_append, cutB_at (digL_free pg 32 (.inr rfl)), cutB_at hn]
theorem cut_hd0 (pg : Int) (nm : List UInt8) (hn : 32 ∉ nm) : cutB 32 (hdL pg nm) = [digL pg, nm] := by
  unfold hdL
  rw [cutB_at (digL_free pg 32 (.inr rfl)), cutB_free hn]
theorem okLine_words {pg : Int} {nm r : List UInt8} (hn : 32 ∉ nm) (h : hdL pg nm ++ 32 :: r ∈ ruleLs) : r ≠ [] ∧ ∀ x ∈ cutB 32 r, okWord x = true := by
  have h1 := List.all_eq_true.1 ruleLs_ok _ h
  unfold okLine at h1
  rw [cut_hd pg nm r hn] at h1
  split at h1
  · rename_i d nm2 ws he
    injection he with he1 he2
    injection he2 with he2 he3
    simp only [Bool.and_eq_true] at h1
    have h2 : ∀ x ∈ cutB 32 r, okWord x = true := by rw [he3]; exact List.all_eq_true.1 h1.2
    refine ⟨fun e => ?_, h2⟩
    have := h2 [] (by rw [e]; simp [cutB])
    simp [okWord] at this
  · cases h1
/-- what is known of a name's line -/
theorem line_cases (pg : Int) (nm : List UInt8) (hn : 32 ∉ nm) : (ruleF pg nm = none ∧ lineF pg nm = []) ∨
    (ruleF pg nm = some [] ∧ lineF pg nm = hdL pg nm ∧ cutB 32 (lineF pg nm) = digL pg :: nm :: wordsR []) ∨
    (∃ r, r ≠ [] ∧ ruleF pg nm = some r ∧ lineF pg nm = hdL pg nm ++ 32 :: r ∧ cutB 32 (lineF pg nm) = digL pg :: nm :: wordsR r ∧ ∀ x ∈ wordsR r, okWord x = true) := by
  rcases find_both (hdL pg nm) ruleLs with ⟨a, b⟩ | ⟨a, b, c⟩ | ⟨r, a, b, c⟩
  · exact .inl ⟨a, b⟩
  · refine .inr (.inl ⟨a, b, ?_⟩)
    rw [show lineF pg nm = hdL pg nm from b, cut_hd0 pg nm hn]; rfl
  · obtain ⟨h1, h2⟩ := okLine_words hn c
    refine .inr (.inr ⟨r, h1, a, b, ?_, ?_⟩)
    · rw [show lineF pg nm = hdL pg nm ++ 32 :: r from b, cut_hd pg nm r hn]
      unfold wordsR; rw [if_neg h1]
    · unfold wordsR; rw [if_neg h1]; exact h2
theorem nameB_free {nm : ByteArray} (h : nameB nm = true) (c : UInt8) (hc : namB c.toNat = false) : c ∉ nm.data.toList := by
  intro hm
  unfold nameB at h
  simp only [Bool.and_eq_true] at h
  have h1 := h.2.2.2
  have h2 : badN nm = true := by
    unfold badN
    rw [List.any_eq_true]
    exact ⟨c, hm, by rw [hc]; rfl⟩
  rw [h2] at h1
  cases h1

/-- is an element one of a word's, of a page's rule? -/
def takes1 (pg : Int) (n : List UInt8) (p : Int) (nm : List UInt8) : Bool :=
  if 1 < n.length ∧ n[1]? = some 46 then decide (p = ((((n[0]?.getD 0).toNat : Int) - 48) % 256)) && decide (nm = n.drop 2)
  else decide (p = pg) && decide (nm = n)
def takesV (pg : Int) (names : List UInt8) (p : Int) (nm : List UInt8) : Bool := (cutB 124 names).any fun n => takes1 pg n p nm
def takesB (pg : Int) (names : List UInt8) (k : Tr) : Bool := takesV pg names k.page k.name.data.toList
def markB (c : UInt8) : Bool := c == 63 || c == 42 || c == 43
def namesW (w : List UInt8) : List UInt8 := if markB (w.getLast?.getD 0) then w.dropLast else w
def textW : List UInt8 := [84, 69, 88, 84]
/-- the kids that a word takes -/
def takeW (pg : Int) (w : List UInt8) (ks : List Tr) : Nat :=
  if w.getLast? = some 42 ∨ w.getLast? = some 43 then (ks.takeWhile (takesB pg (namesW w))).length
  else match ks with
    | [] => 0
    | k :: _ => if takesB pg (namesW w) k then 1 else 0
/-- kids held against words -/
def fitsW (pg : Int) : List (List UInt8) → List Tr → Bool
  | [], ks => ks.isEmpty
  | w :: ws, ks =>
    if w = textW then fitsW pg ws ks
    else if takeW pg w ks = 0 ∧ w.getLast? ≠ some 63 ∧ w.getLast? ≠ some 42 then false
    else fitsW pg ws (ks.drop (takeW pg w ks))
end Go.Proofs.YtgechifbbhipaaaDoor

/- grammar: a page's digit, both; the reference's cut. No condition but sizes. -/
set_option linter.unusedVariables false
set_option linter.unusedSimpArgs false
namespace Go.Proofs.YtgechifbbhipaaaDoor
open Go.RowKit

def digS (pg : Int) : ByteArray := mkB (digL pg)
theorem lit_row1 (w : World) (c : Int) : (w.alloc (.cells #[.int .u8 c] 5)).ownsRow w.heap.size 5 1 (.slice (some ⟨w.heap.size, 0, none⟩) 1 1) 1 (([c] : List Int).map (Value.int .u8)) := by
  have := World.ownsRow_lit (base := w.heap.size) (e := 5) (size := 1) w #[.int .u8 c] 1 (Nat.le_refl _) (by decide) (by simp)
  simpa using this
set_option maxRecDepth 100000 in
theorem digit_any (pg : Int) (w : World) : Calls Tryd.prog 86 #[.int .i64 pg] w fun e w' => e = .returned (.string (digS pg)) ∧ Below w.heap.size w w' := by
  by_cases h : pg < 0 ∨ 2 < pg
  · have hD : digS pg = ⟨#[63]⟩ := by unfold digS digL; rw [if_neg (by omega), if_neg (by omega), if_neg (by omega)]; rfl
    rw [hD]
    by_cases h1 : pg < 0
    · go_enter Tryd.func86, Tryd.ntmps86
      go_wp2
      go_ret
      exact ⟨rfl, Below.refl _ _⟩
    · have h2 : 2 < pg := by omega
      go_enter Tryd.func86, Tryd.ntmps86
      go_wp2
      go_ret
      exact ⟨rfl, Below.refl _ _⟩
  · have hp : pg = 0 ∨ pg = 1 ∨ pg = 2 := by omega
    clear h
    rcases hp with rfl | rfl | rfl
    · go_enter Tryd.func86, Tryd.ntmps86
      go_wp2_with (with_reducible refine wpList_str _ rfl _ 136 9 5 rfl Tryd.underlying136 Tryd.underlying9 Tryd.underlying5 w.heap.size _ _ _ [48] rfl (lit_row1 w 48) ?_)
      go_ret
      exact ⟨rfl, (Below.refl _ _).alloc (Nat.le_refl _) _⟩
    · go_enter Tryd.func86, Tryd.ntmps86
      go_wp2_with (with_reducible refine wpList_str _ rfl _ 136 9 5 rfl Tryd.underlying136 Tryd.underlying9 Tryd.underlying5 w.heap.size _ _ _ [49] rfl (lit_row1 w 49) ?_)
      go_ret
      exact ⟨rfl, (Below.refl _ _).alloc (Nat.le_refl _) _⟩
    · go_enter Tryd.func86, Tryd.ntmps86
      go_wp2_with (with_reducible refine wpList_str _ rfl _ 136 9 5 rfl Tryd.underlying136 Tryd.underlying9 Tryd.underlying5 w.heap.size _ _ _ [50] rfl (lit_row1 w 50) ?_)
      go_ret
      exact ⟨rfl, (Below.refl _ _).alloc (Nat.le_refl _) _⟩
set_option maxRecDepth 100000 in
theorem refDigit_any (pg : Int) (w : World) : Calls Tryd.prog 94 #[.int .i64 pg] w fun e w' => e = .returned (.string (digS pg)) ∧ w = w' := by
  by_cases h0 : pg = 0
  · subst h0
    go_enter Tryd.func94, Tryd.ntmps94
    go_wp2
    go_ret
    exact ⟨rfl, rfl⟩
  · by_cases h1 : pg = 1
    · subst h1
      go_enter Tryd.func94, Tryd.ntmps94
      go_wp2
      go_ret
      exact ⟨rfl, rfl⟩
    · by_cases h2 : pg = 2
      · subst h2
        go_enter Tryd.func94, Tryd.ntmps94
        go_wp2
        go_ret
        exact ⟨rfl, rfl⟩
      · have hD : digS pg = ⟨#[63]⟩ := by unfold digS digL; rw [if_neg h0, if_neg h1, if_neg h2]; rfl
        rw [hD]
        have e0 : (pg == 0) = false := by simpa using h0
        have e1 : (pg == 1) = false := by simpa using h1
        have e2 : (pg == 2) = false := by simpa using h2
        go_enter Tryd.func94, Tryd.ntmps94
        go_wp2
        go_ret
        exact ⟨rfl, rfl⟩

/-- texts as cells -/
def strVs (L : List (List UInt8)) : List Value := L.map fun p => .string (mkB p)
theorem cutB_len (c : UInt8) (l : List UInt8) : (cutB c l).length ≤ l.length + 1 := by
  induction l with
  | nil => simp [cutB]
  | cons a l ih =>
    rw [cutB]
    split
    · simp; omega
    · split
      · simp
      · rename_i h; rw [h] at ih; simp at ih ⊢; omega
/-- at byte i, the piece that stands there beginning at f, the pieces 'pre' ahead of it -/
def CutR (c : UInt8) (s : ByteArray) (L : List (List UInt8)) (f i : Nat) (pre : List (List UInt8)) : Prop :=
  (f ≤ i ∧ i ≤ s.size ∧ pre ++ cutB c (s.data.toList.drop f) = L ∧ c ∉ (s.data.toList.drop f).take (i - f)) ∨ (i = s.size + 1 ∧ f ≤ s.size + 1 ∧ pre = L)
theorem CutR.start (c : UInt8) (s : ByteArray) : CutR c s (cutB c s.data.toList) 0 0 [] := .inl ⟨Nat.le_refl _, Nat.zero_le _, rfl, by simp⟩
theorem drop_take_step (s : ByteArray) {f i : Nat} (hf : f ≤ i) (hi : i < s.size) : (s.data.toList.drop f).take (i + 1 - f) = (s.data.toList.drop f).take (i - f) ++ [s[i]] := by
  rw [show i + 1 - f = (i - f) + 1 from by omega, List.take_succ_eq_append_getElem (by rw [List.length_drop, len_toList]; omega)]
  congr 2
  rw [List.getElem_drop]
  simp only [show f + (i - f) = i from by omega]
  rfl
theorem CutR.step {c : UInt8} {s : ByteArray} {L : List (List UInt8)} {f i : Nat} {pre : List (List UInt8)} (h : CutR c s L f i pre) (hi : i < s.size) (hc : s[i] ≠ c) : CutR c s L f (i + 1) pre := by
  rcases h with ⟨h1, h2, h3, h4⟩ | ⟨h1, _⟩
  · refine .inl ⟨by omega, hi, h3, ?_⟩
    rw [drop_take_step s h1 hi]
    simp only [List.mem_append, List.mem_singleton, not_or]
    exact ⟨h4, Ne.symm hc⟩
  · omega
theorem CutR.hit {c : UInt8} {s : ByteArray} {L : List (List UInt8)} {f i : Nat} {pre : List (List UInt8)} (h : CutR c s L f i pre) (hi : i < s.size) (hc : s[i] = c) : CutR c s L (i + 1) (i + 1) (pre ++ [(s.data.toList.drop f).take (i - f)]) := by
  rcases h with ⟨h1, h2, h3, h4⟩ | ⟨h1, _⟩
  · refine .inl ⟨Nat.le_refl _, hi, ?_, by simp⟩
    have e : s.data.toList.drop f = (s.data.toList.drop f).take (i - f) ++ c :: s.data.toList.drop (i + 1) := by
      have e1 := (List.take_append_drop (i - f) (s.data.toList.drop f)).symm
      rw [List.drop_drop, show f + (i - f) = i from by omega, drop_cons_at s i hi, hc] at e1
      exact e1
    rw [e, cutB_at h4] at h3
    rw [← h3]; simp
  · omega
theorem CutR.last {c : UInt8} {s : ByteArray} {L : List (List UInt8)} {f : Nat} {pre : List (List UInt8)} (h : CutR c s L f s.size pre) : CutR c s L (s.size + 1) (s.size + 1) (pre ++ [(s.data.toList.drop f).take (s.size - f)]) := by
  rcases h with ⟨h1, h2, h3, h4⟩ | ⟨h1, _⟩
  · have e : (s.data.toList.drop f).take (s.size - f) = s.data.toList.drop f := List.take_of_length_le (by rw [List.length_drop, len_toList]; exact Nat.le_refl _)
    rw [e] at h4 ⊢
    rw [cutB_free h4] at h3
    exact .inr ⟨rfl, Nat.le_refl _, h3⟩
  · omega
theorem ext_piece (s : ByteArray) (f i : Nat) : s.extract f i = mkB ((s.data.toList.drop f).take (i - f)) := by
  apply Go.WideShapes.bytes_inj
  simp [mkB, ByteArray.data_extract, List.take_drop, List.extract]

set_option maxRecDepth 100000 in
set_option maxHeartbeats 4000000 in
theorem cut_any (s : ByteArray) (c : UInt8) (w : World) (hs : s.size ≤ 1000000) :
    Calls Tryd.prog 93 #[.string s, .int .u8 (c.toNat : Int)] w fun e w' => ∃ a cp, e = .returned (.slice a (cutB c s.data.toList).length cp) ∧ w'.ownsRow w.heap.size 9 1 (.slice a (cutB c s.data.toList).length cp) (cutB c s.data.toList).length (strVs (cutB c s.data.toList)) ∧ Below w.heap.size w w' := by
  have HLen := Lib.hid (cutB_len c s.data.toList)
  have HSt := Lib.hid (CutR.start c s)
  obtain ⟨L, hL⟩ : ∃ L, cutB c s.data.toList = L := ⟨_, rfl⟩
  rw [hL] at HLen HSt ⊢
  clear hL
  have hLl : L.length ≤ s.size + 1 := by have := HLen.out; rwa [len_toList] at this
  clear HLen
  go_enter Tryd.func93, Tryd.ntmps93
  go_wp2_with fail
  go_loopw [5, 6, 7] (fun lv fv iv wr => ∃ (f i : Nat) (pre : List (List UInt8)) (a : Option Addr) (cp : Nat), fv = .int .i64 (f : Int) ∧ iv = .int .i64 (i : Int) ∧ lv = .slice a pre.length cp ∧ Hid (CutR c s L f i pre) ∧ Hid (pre.length ≤ i) ∧ Hid (wr.ownsRow w.heap.size 9 1 (.slice a pre.length cp) pre.length (strVs pre)) ∧ Hid (Below w.heap.size w wr)) (fun _ _ iv _ => s.size + 2 - (intOf iv).toNat)
  case atStart => exact ⟨0, 0, [], none, 0, rfl, rfl, rfl, HSt.out, Nat.le_refl _, World.ownsRow_nil _ _ _ _, Below.refl _ _⟩
  case round =>
    obtain ⟨f, i, pre, a, cp, rfl, rfl, rfl, HR, HP, HO, HB⟩ := hrel
    clear HSt
    have hil : i ≤ s.size + 1 ∧ f ≤ s.size + 1 := by
      rcases HR.out with ⟨h1, h2, _⟩ | ⟨h1, h2, _⟩ <;> omega
    by_cases hle : i ≤ s.size
    · have j1 : (i : Int) ≤ (s.size : Int) := by omega
      have hfi : f ≤ i := by
        rcases HR.out with ⟨h1, h2, _⟩ | ⟨h1, h2, _⟩ <;> omega
      have k0 : (0 : Int) ≤ (f : Int) := by omega
      have k1 : (f : Int) ≤ (i : Int) := by omega
      have HW1 : Hid (wrap64 ((i : Int) + 1) = (i : Int) + 1) := by unfold Hid wrap64; omega
      have HMs : Hid (s.size + 2 - (intOf (.int .i64 ((i : Int) + 1))).toNat < s.size + 2 - (intOf (.int .i64 (i : Int))).toNat) := by unfold Hid; simp [intOf]; omega
      have g1 : pre.length + 1 ≤ maxLen := by have := HP.out; simp [maxLen]; omega
      have g2 : (pre.length + 1) * 16 ≤ 140737488355328 := by have := HP.out; omega
      have hsz := HB.out.size
      have HX := Lib.hid (ext_piece s f i)
      have HL1 : Hid (∀ p : List UInt8, (pre ++ [p]).length = pre.length + 1 ∧ strVs (pre ++ [p]) = strVs pre ++ [.string (mkB p)]) := fun p => ⟨by simp, by simp [strVs]⟩
      by_cases hlt : i < s.size
      · have j2 : ((i : Int) == (s.size : Int)) = false := by rw [beq_eq_false_iff_ne]; omega
        have j3 : (i == s.size) = false := by rw [beq_eq_false_iff_ne]; omega
        have hat := run_at9 s i hlt
        have HSt := Lib.hid (fun h => HR.out.step hlt h)
        have HHt := Lib.hid (fun h => HR.out.hit hlt h)
        by_cases hc : s[i] = c
        · have j4 : ((s[i].toNat : Int) == (c.toNat : Int)) = true := by rw [hc]; simp
          have HR2 := Lib.hid (HHt.out hc)
          clear HSt HHt HR hc hil hle hLl
          generalize s[i] = ch at *
          generalize hpp : List.take (i - f) (List.drop f s.data.toList) = pp at *
          clear hpp
          obtain ⟨PB, hPB⟩ : ∃ PB, s.extract f i = PB := ⟨_, rfl⟩
          have HPB : Hid (PB = mkB pp) := by unfold Hid; rw [← hPB]; exact HX.out
          have hsl := hPB
          go_wp2_with (at_builtin; go_must (refine wpList_app1 _ _ rfl _ _ 81 9 _ _ S27 rfl w.heap.size _ _ _ rfl rfl rfl HO.out g1 g2 hsz ?_); intro a' c' w4 hown4 hgr4 _ hb4; have HO4 := Lib.hid hown4; have HB4 := Lib.hid hb4; clear hown4 hb4 hgr4)
          have hw1 := HW1.out
          go_roundw
          case rel => exact ⟨i + 1, i + 1, pre ++ [pp], a', c', by go_num, by go_num, by rw [(HL1.out pp).1], HR2.out, by unfold Hid; rw [(HL1.out pp).1]; have := HP.out; omega, by unfold Hid; rw [(HL1.out pp).1, (HL1.out pp).2, ← HPB.out]; exact HO4.out, HB.out.trans HB4.out⟩
          case measure => first | exact HMs.out | (rw [hw1]; exact HMs.out)
        · have j4 : ((s[i].toNat : Int) == (c.toNat : Int)) = false := by
            rw [beq_eq_false_iff_ne]
            intro h
            exact hc (UInt8.toNat_inj.1 (by omega))
          have HR2 := Lib.hid (HSt.out hc)
          clear HSt HHt HR hc hil hle hLl
          generalize s[i] = ch at *
          go_wp2_with fail
          have hw1 := HW1.out
          go_roundw
          case rel => exact ⟨f, i + 1, pre, a, cp, rfl, by go_num, rfl, HR2.out, by unfold Hid; have := HP.out; omega, HO.out, HB.out⟩
          case measure => first | exact HMs.out | (rw [hw1]; exact HMs.out)
      · obtain rfl : i = s.size := by omega
        have j2 : ((s.size : Int) == (s.size : Int)) = true := by simp
        have j3 : (s.size == s.size) = true := by simp
        have HR2 := Lib.hid HR.out.last
        clear HR hil hle hLl hlt
        generalize hpp : List.take (s.size - f) (List.drop f s.data.toList) = pp at *
        clear hpp
        obtain ⟨PB, hPB⟩ : ∃ PB, s.extract f s.size = PB := ⟨_, rfl⟩
        have HPB : Hid (PB = mkB pp) := by unfold Hid; rw [← hPB]; exact HX.out
        go_wp2_with (at_builtin; go_must (refine wpList_app1 _ _ rfl _ _ 81 9 _ _ S27 rfl w.heap.size _ _ _ rfl rfl rfl HO.out g1 g2 hsz ?_); intro a' c' w4 hown4 hgr4 _ hb4; have HO4 := Lib.hid hown4; have HB4 := Lib.hid hb4; clear hown4 hb4 hgr4)
        have hw1 := HW1.out
        go_roundw
        case rel => exact ⟨s.size + 1, s.size + 1, pre ++ [pp], a', c', by go_num, by go_num, by rw [(HL1.out pp).1], HR2.out, by unfold Hid; rw [(HL1.out pp).1]; have := HP.out; omega, by unfold Hid; rw [(HL1.out pp).1, (HL1.out pp).2, ← HPB.out]; exact HO4.out, HB.out.trans HB4.out⟩
        case measure => first | exact HMs.out | (rw [hw1]; exact HMs.out)
    · have j1 : ¬ (i : Int) ≤ (s.size : Int) := by omega
      have hpl : pre = L := by
        rcases HR.out with ⟨h1, h2, _⟩ | ⟨h1, h2, h3⟩
        · omega
        · exact h3
      subst hpl
      go_wp2_with fail
      go_ret
      exact ⟨a, cp, rfl, HO.out, HB.out⟩
end Go.Proofs.YtgechifbbhipaaaDoor

/- grammar: the reference's line of a name, and its words. No condition but the name's size. -/
set_option linter.unusedVariables false
set_option linter.unusedSimpArgs false
namespace Go.Proofs.YtgechifbbhipaaaDoor
open Go.RowKit

theorem byte_eq {c : UInt8} {k : Int} (d : UInt8) (hd : (d.toNat : Int) = k) (h : (c.toNat : Int) = k) : c = d := UInt8.toNat_inj.1 (by omega)
theorem str_beq {a b : ByteArray} (h : a = b) : (a.toList == b.toList) = true := by rw [h]; simp
theorem str_bne {a b : ByteArray} (h : a ≠ b) : (a.toList == b.toList) = false := by
  cases e : (a.toList == b.toList) with
  | false => rfl
  | true =>
    rw [ByteArray.toList_eq, ByteArray.toList_eq, beq_iff_eq] at e
    exact absurd (Go.WideShapes.bytes_inj e) h
/-- is a line a head's? -/
def HitB (h l : ByteArray) : Prop := l = h ∨ (h.data.toList ++ [32]) <+: l.data.toList
/-- at byte i, the line that stands there beginning at f; what is still to be found -/
def LnR (Q h : ByteArray) (R : List UInt8) (f i : Nat) : Prop :=
  (f ≤ i ∧ i ≤ Q.size ∧ findL h.data.toList (cutB 10 (Q.data.toList.drop f)) = R ∧ 10 ∉ (Q.data.toList.drop f).take (i - f)) ∨ (i = Q.size + 1 ∧ f ≤ Q.size + 1 ∧ R = [])
theorem LnR.step {Q h : ByteArray} {R : List UInt8} {f i : Nat} (k : LnR Q h R f i) (hi : i < Q.size) (hc : Q[i] ≠ 10) : LnR Q h R f (i + 1) := by
  rcases k with ⟨h1, h2, h3, h4⟩ | ⟨h1, _⟩
  · refine .inl ⟨by omega, hi, h3, ?_⟩
    rw [drop_take_step Q h1 hi]
    simp only [List.mem_append, List.mem_singleton, not_or]
    exact ⟨h4, Ne.symm hc⟩
  · omega
/-- the line between f and i is the first that is left -/
theorem LnR.split {Q h : ByteArray} {R : List UInt8} {f i : Nat} (k : LnR Q h R f i) (hi : i < Q.size) (hc : Q[i] = 10) :
    cutB 10 (Q.data.toList.drop f) = (Q.extract f i).data.toList :: cutB 10 (Q.data.toList.drop (i + 1)) ∧ findL h.data.toList (cutB 10 (Q.data.toList.drop f)) = R := by
  rcases k with ⟨h1, h2, h3, h4⟩ | ⟨h1, _⟩
  · refine ⟨?_, h3⟩
    have e : Q.data.toList.drop f = (Q.data.toList.drop f).take (i - f) ++ 10 :: Q.data.toList.drop (i + 1) := by
      have e1 := (List.take_append_drop (i - f) (Q.data.toList.drop f)).symm
      rw [List.drop_drop, show f + (i - f) = i from by omega, drop_cons_at Q i hi, hc] at e1
      exact e1
    rw [ext_piece, mkB_list]
    conv => lhs; rw [e]
    rw [cutB_at h4]
  · omega
theorem LnR.splitE {Q h : ByteArray} {R : List UInt8} {f : Nat} (k : LnR Q h R f Q.size) :
    cutB 10 (Q.data.toList.drop f) = [(Q.extract f Q.size).data.toList] ∧ findL h.data.toList (cutB 10 (Q.data.toList.drop f)) = R := by
  rcases k with ⟨h1, h2, h3, h4⟩ | ⟨h1, _⟩
  · refine ⟨?_, h3⟩
    have e : (Q.data.toList.drop f).take (Q.size - f) = Q.data.toList.drop f := List.take_of_length_le (by rw [List.length_drop, len_toList]; exact Nat.le_refl _)
    rw [ext_piece, mkB_list, e]
    rw [e] at h4
    rw [cutB_free h4]
  · omega
theorem hit_list {h l : ByteArray} : (l.data.toList = h.data.toList ∨ (h.data.toList ++ [32]) <+: l.data.toList) ↔ HitB h l := by
  unfold HitB
  exact ⟨fun k => k.imp (fun e => Go.WideShapes.bytes_inj e) id, fun k => k.imp (fun e => by rw [e]) id⟩
/-- a hit -/
theorem found {h : ByteArray} {R : List UInt8} {l : ByteArray} {ls : List (List UInt8)} (e : findL h.data.toList (l.data.toList :: ls) = R) (k : HitB h l) : R = l.data.toList := by
  rw [findL, if_pos (hit_list.2 k)] at e
  exact e.symm
theorem passed {h : ByteArray} {R : List UInt8} {l : ByteArray} {ls : List (List UInt8)} (e : findL h.data.toList (l.data.toList :: ls) = R) (k : ¬ HitB h l) : findL h.data.toList ls = R := by
  rw [findL, if_neg (fun q => k (hit_list.1 q))] at e
  exact e
/-- the ways in which a line is a head's, or not -/
theorem hit_ways (h l : ByteArray) : (HitB h l ∧ ((l.size = h.size ∧ l = h) ∨ (h.size < l.size ∧ l.extract 0 h.size = h ∧ ∃ k : h.size < l.size, l[h.size] = 32))) ∨
    (¬ HitB h l ∧ ((l.size = h.size ∧ l ≠ h) ∨ l.size < h.size ∨ (h.size < l.size ∧ l.extract 0 h.size ≠ h) ∨ (h.size < l.size ∧ l.extract 0 h.size = h ∧ ∃ k : h.size < l.size, l[h.size] ≠ 32))) := by
  have hlp : (h.data.toList ++ [32]) <+: l.data.toList ↔ ∃ k : h.size < l.size, l.extract 0 h.size = h ∧ l[h.size] = 32 := by
    constructor
    · rintro ⟨r, hr⟩
      have hl := congrArg List.length hr
      simp only [List.length_append, List.length_singleton, len_toList] at hl
      have k : h.size < l.size := by omega
      refine ⟨k, ?_, ?_⟩
      · apply Go.WideShapes.bytes_inj
        rw [ByteArray.data_extract, Array.toList_extract, List.extract, List.drop_zero, Nat.sub_zero, ← hr, List.append_assoc, ← len_toList h, List.take_left]
      · have h2 : l.data.toList[h.size]? = some l[h.size] := bat_get l h.size k
        rw [← hr, List.append_assoc, List.getElem?_append_right (by rw [len_toList]; exact Nat.le_refl _), len_toList, Nat.sub_self] at h2
        simpa using h2.symm
    · rintro ⟨k, h1, h2⟩
      refine ⟨l.data.toList.drop (h.size + 1), ?_⟩
      have e1 : l.data.toList.take h.size = h.data.toList := by
        have := congrArg (fun b : ByteArray => b.data.toList) h1
        simpa [ByteArray.data_extract, List.extract] using this
      have e2 := (List.take_append_drop h.size l.data.toList)
      rw [drop_cons_at l h.size k, e1, h2] at e2
      rw [List.append_assoc]; exact e2
  by_cases h1 : l.size = h.size
  · by_cases h2 : l = h
    · exact .inl ⟨.inl h2, .inl ⟨h1, h2⟩⟩
    · refine .inr ⟨?_, .inl ⟨h1, h2⟩⟩
      rintro (k | k)
      · exact h2 k
      · obtain ⟨k2, _⟩ := hlp.1 k; omega
  · have hne : l ≠ h := fun e => h1 (by rw [e])
    by_cases h3 : l.size < h.size
    · refine .inr ⟨?_, .inr (.inl h3)⟩
      rintro (k | k)
      · exact hne k
      · obtain ⟨k2, _⟩ := hlp.1 k; omega
    · have h4 : h.size < l.size := by omega
      by_cases h5 : l.extract 0 h.size = h
      · by_cases h6 : l[h.size] = 32
        · exact .inl ⟨.inr (hlp.2 ⟨h4, h5, h6⟩), .inr ⟨h4, h5, h4, h6⟩⟩
        · refine .inr ⟨?_, .inr (.inr (.inr ⟨h4, h5, h4, h6⟩))⟩
          rintro (k | k)
          · exact hne k
          · obtain ⟨k2, _, k3⟩ := hlp.1 k; exact h6 k3
      · refine .inr ⟨?_, .inr (.inr (.inl ⟨h4, h5⟩))⟩
        rintro (k | k)
        · exact hne k
        · obtain ⟨k2, k3, _⟩ := hlp.1 k; exact h5 k3

set_option maxRecDepth 100000 in
set_option maxHeartbeats 8000000 in
theorem line_any (pg : Int) (nm : ByteArray) (w : World) (hn : nm.size ≤ 1000) :
    Calls Tryd.prog 139 #[.int .i64 pg, .string nm] w fun e w' => e = .returned (.string (mkB (lineF pg nm.data.toList))) ∧ w = w' := by
  have cD := Lib.hid (fun w => refDigit_any pg w)
  have hds : (digS pg).size = 1 := by unfold digS; rw [mkB_size]; unfold digL; (repeat' split) <;> rfl
  have HHd : Hid (((digS pg ++ ⟨#[32]⟩) ++ nm).data.toList = hdL pg nm.data.toList) := by
    unfold Hid hdL; simp [ByteArray.data_append, digS, mkB]
  have hhs : ((digS pg ++ ⟨#[32]⟩) ++ nm).size ≤ 1002 := by
    rw [ByteArray.size_append, ByteArray.size_append, hds]; show 1 + 1 + nm.size ≤ 1002; omega
  obtain ⟨R, hR⟩ : ∃ R, lineF pg nm.data.toList = R := ⟨_, rfl⟩
  rw [hR]
  have HR0 : Hid (findL ((digS pg ++ ⟨#[32]⟩) ++ nm).data.toList (cutB 10 (rulesQ.data.toList.drop 0)) = R) := by
    unfold Hid; rw [HHd.out, List.drop_zero]; exact hR
  clear hR HHd
  generalize digS pg = D at *
  have hcat1 : ∀ w, (Op.stringOp .add D ⟨#[32]⟩).run Tryd.prog w = .ok (.string (D ++ ⟨#[32]⟩)) w := fun w => Go.run_string_add_sum w _ _ (by rw [hds]; show 1 + 1 ≤ _; omega)
  have hcat2 : ∀ w, (Op.stringOp .add (D ++ ⟨#[32]⟩) nm).run Tryd.prog w = .ok (.string ((D ++ ⟨#[32]⟩) ++ nm)) w := fun w => Go.run_string_add_sum w _ _ (by rw [ByteArray.size_append, hds]; show 1 + 1 + nm.size ≤ _; omega)
  generalize hH : (D ++ ⟨#[32]⟩) ++ nm = H at *
  clear hds hH
  have hq : rulesQ.size = 1606 := rulesQ_size
  have HLn := Lib.hid (fun (f i : Nat) (k : LnR rulesQ H R f i) => k)
  have HStep : Hid (∀ f i, LnR rulesQ H R f i → ∀ (hi : i < rulesQ.size), rulesQ[i] ≠ 10 → LnR rulesQ H R f (i + 1)) := fun f i k hi hc => k.step hi hc
  have HSpl : Hid (∀ f i, LnR rulesQ H R f i → (i = rulesQ.size ∨ ∃ hi : i < rulesQ.size, rulesQ[i] = 10) → (HitB H (rulesQ.extract f i) → R = (rulesQ.extract f i).data.toList) ∧ (¬ HitB H (rulesQ.extract f i) → LnR rulesQ H R (i + 1) (i + 1))) := fun f i k hi => by
    rcases hi with rfl | ⟨hi, hc⟩
    · obtain ⟨e1, e2⟩ := k.splitE
      rw [e1] at e2
      exact ⟨fun q => found e2 q, fun q => .inr ⟨rfl, Nat.le_refl _, (passed e2 q).symm⟩⟩
    · obtain ⟨e1, e2⟩ := k.split hi hc
      rw [e1] at e2
      exact ⟨fun q => found e2 q, fun q => .inl ⟨Nat.le_refl _, hi, passed e2 q, by simp⟩⟩
  have HEnd : Hid (∀ f i, LnR rulesQ H R f i → ¬ i ≤ rulesQ.size → R = []) := fun f i k hi => by
    rcases k with ⟨h1, h2, _⟩ | ⟨h1, h2, h3⟩
    · omega
    · exact h3
  have HOrd : Hid (∀ f i, LnR rulesQ H R f i → i ≤ rulesQ.size + 1 ∧ f ≤ rulesQ.size + 1 ∧ (i ≤ rulesQ.size → f ≤ i)) := fun f i k => by
    rcases k with ⟨h1, h2, _⟩ | ⟨h1, h2, _⟩ <;> exact ⟨by omega, by omega, by omega⟩
  have HAt : Hid (∀ i (h : i < rulesQ.size), ∀ w, (Instr.index 9 (.string rulesQ) (.int .i64 (i : Int))).run Tryd.prog w = .ok (.int .u8 (rulesQ[i].toNat : Int)) w) := fun i h => run_at9 rulesQ i h
  have HSt0 : Hid (LnR rulesQ H R 0 0) := .inl ⟨Nat.le_refl _, Nat.zero_le _, HR0.out, by simp⟩
  clear HR0 HLn
  go_enter Tryd.func139, Tryd.ntmps139
  rw [lit_q]
  rotate_left
  · kernel_rfl
  generalize rulesQ = Q at *
  go_wp2_with (go_at_call 94; refine (cD.out _).mono ?_; rintro e w1 ⟨rfl, rfl⟩)
  clear hcat1 hcat2 cD
  go_loop [6, 7] (fun fv iv => ∃ (f i : Nat), fv = .int .i64 (f : Int) ∧ iv = .int .i64 (i : Int) ∧ Hid (LnR Q H R f i)) (fun _ iv => 1608 - (intOf iv).toNat)
  case atStart => exact ⟨0, 0, rfl, rfl, HSt0.out⟩
  case round =>
    obtain ⟨f, i, rfl, rfl, HR⟩ := hrel
    clear HSt0
    obtain ⟨o1, o2, o3⟩ := HOrd.out f i HR.out
    by_cases hle : i ≤ Q.size
    · have hfi := o3 hle
      have HSp := Lib.hid (HSpl.out f i HR.out)
      have HSt := Lib.hid (HStep.out f i HR.out)
      have hi6 : i ≤ 1606 := by omega
      have j1 : (i : Int) ≤ 1606 := by omega
      have k0 : (0 : Int) ≤ (f : Int) := by omega
      have k1 : (f : Int) ≤ (i : Int) := by omega
      have HW1 : Hid (wrap64 ((i : Int) + 1) = (i : Int) + 1) := by unfold Hid wrap64; omega
      have HMs : Hid (1608 - (intOf (.int .i64 ((i : Int) + 1))).toNat < 1608 - (intOf (.int .i64 (i : Int))).toNat) := by unfold Hid; simp [intOf]; omega
      by_cases hlt : i < Q.size
      · have j2 : (i : Int) < 1606 := by omega
        have hat := HAt.out i hlt
        by_cases hc : Q[i] = 10
        · have j4 : ((Q[i].toNat : Int) != 10) = false := by rw [hc]; rfl
          have j5 : ((Q[i].toNat : Int) == 10) = true := by rw [hc]; rfl
          have HS2 := Lib.hid (HSp.out (.inr ⟨hlt, hc⟩))
          clear HSp HSt HR hc hle o1 o2 o3 HStep HSpl HOrd HEnd HAt
          generalize Q[i] = ch0 at *
          clear hlt
          generalize hPB : Q.extract f i = PB at *
          rcases hit_ways H PB with ⟨hh, ⟨q1, q2⟩ | ⟨q1, q2, q3, q4⟩⟩ | ⟨hh, ⟨q1, q2⟩ | q1 | ⟨q1, q2⟩ | ⟨q1, q2, q3, q4⟩⟩
          · have HF := Lib.hid (HS2.out.1 hh)
            clear HS2 hh
            have t1 : ((PB.size : Int) == (H.size : Int)) = true := by first | (rw [beq_iff_eq]; omega) | (rw [beq_eq_false_iff_ne]; omega)
            have t2 : (PB.size == H.size) = true := by first | (rw [beq_iff_eq]; omega) | (rw [beq_eq_false_iff_ne]; omega)
            have t3 := str_beq q2
            clear q1 q2
            go_wp2_with fail
            go_ret
            exact ⟨ret_bytes' (by rw [HF.out]; exact (mkB_of PB).symm), rfl⟩
          · have HF := Lib.hid (HS2.out.1 hh)
            clear HS2 hh
            have t1 : ((PB.size : Int) == (H.size : Int)) = false := by first | (rw [beq_iff_eq]; omega) | (rw [beq_eq_false_iff_ne]; omega)
            have t2 : (PB.size == H.size) = false := by first | (rw [beq_iff_eq]; omega) | (rw [beq_eq_false_iff_ne]; omega)
            have t4 : (H.size : Int) < (PB.size : Int) := by omega
            have t5 : (0 : Int) ≤ (H.size : Int) := by omega
            have t6 : (H.size : Int) ≤ (PB.size : Int) := by omega
            have t3 := str_beq q2
            have t7 := run_at9 PB H.size q3
            have t8 : ((PB[H.size].toNat : Int) == 32) = true := by rw [q4]; rfl
            generalize PB[H.size] = ch at *
            clear q1 q2 q3 q4
            go_wp2_with fail
            go_ret
            exact ⟨ret_bytes' (by rw [HF.out]; exact (mkB_of PB).symm), rfl⟩
          · have HF := Lib.hid (HS2.out.2 hh)
            clear HS2 hh
            have t1 : ((PB.size : Int) == (H.size : Int)) = true := by first | (rw [beq_iff_eq]; omega) | (rw [beq_eq_false_iff_ne]; omega)
            have t2 : (PB.size == H.size) = true := by first | (rw [beq_iff_eq]; omega) | (rw [beq_eq_false_iff_ne]; omega)
            have t3 := str_bne q2
            have t4 : ¬ (H.size : Int) < (PB.size : Int) := by omega
            clear q1 q2
            have hw1 := HW1.out
            go_wp2_with fail
            go_round
            case rel => exact ⟨i + 1, i + 1, by go_num, by go_num, HF.out⟩
            case measure => first | exact HMs.out | (rw [hw1]; exact HMs.out)
          · have HF := Lib.hid (HS2.out.2 hh)
            clear HS2 hh
            have t1 : ((PB.size : Int) == (H.size : Int)) = false := by first | (rw [beq_iff_eq]; omega) | (rw [beq_eq_false_iff_ne]; omega)
            have t2 : (PB.size == H.size) = false := by first | (rw [beq_iff_eq]; omega) | (rw [beq_eq_false_iff_ne]; omega)
            have t4 : ¬ (H.size : Int) < (PB.size : Int) := by omega
            clear q1
            have hw1 := HW1.out
            go_wp2_with fail
            go_round
            case rel => exact ⟨i + 1, i + 1, by go_num, by go_num, HF.out⟩
            case measure => first | exact HMs.out | (rw [hw1]; exact HMs.out)
          · have HF := Lib.hid (HS2.out.2 hh)
            clear HS2 hh
            have t1 : ((PB.size : Int) == (H.size : Int)) = false := by first | (rw [beq_iff_eq]; omega) | (rw [beq_eq_false_iff_ne]; omega)
            have t2 : (PB.size == H.size) = false := by first | (rw [beq_iff_eq]; omega) | (rw [beq_eq_false_iff_ne]; omega)
            have t4 : (H.size : Int) < (PB.size : Int) := by omega
            have t5 : (0 : Int) ≤ (H.size : Int) := by omega
            have t6 : (H.size : Int) ≤ (PB.size : Int) := by omega
            have t3 := str_bne q2
            clear q1 q2
            have hw1 := HW1.out
            go_wp2_with fail
            go_round
            case rel => exact ⟨i + 1, i + 1, by go_num, by go_num, HF.out⟩
            case measure => first | exact HMs.out | (rw [hw1]; exact HMs.out)
          · have HF := Lib.hid (HS2.out.2 hh)
            clear HS2 hh
            have t1 : ((PB.size : Int) == (H.size : Int)) = false := by first | (rw [beq_iff_eq]; omega) | (rw [beq_eq_false_iff_ne]; omega)
            have t2 : (PB.size == H.size) = false := by first | (rw [beq_iff_eq]; omega) | (rw [beq_eq_false_iff_ne]; omega)
            have t4 : (H.size : Int) < (PB.size : Int) := by omega
            have t5 : (0 : Int) ≤ (H.size : Int) := by omega
            have t6 : (H.size : Int) ≤ (PB.size : Int) := by omega
            have t3 := str_beq q2
            have t7 := run_at9 PB H.size q3
            have t8 : ((PB[H.size].toNat : Int) == 32) = false := by rw [beq_eq_false_iff_ne]; intro e; exact q4 (byte_eq 32 rfl e)
            generalize PB[H.size] = ch at *
            clear q1 q2 q3 q4
            have hw1 := HW1.out
            go_wp2_with fail
            go_round
            case rel => exact ⟨i + 1, i + 1, by go_num, by go_num, HF.out⟩
            case measure => first | exact HMs.out | (rw [hw1]; exact HMs.out)
        · have j4 : ((Q[i].toNat : Int) != 10) = true := by rw [bne_iff_ne]; intro e; exact hc (byte_eq 10 rfl e)
          have j5 : ((Q[i].toNat : Int) == 10) = false := by rw [beq_eq_false_iff_ne]; intro e; exact hc (byte_eq 10 rfl e)
          have HF := Lib.hid (HSt.out hlt hc)
          clear HSp HSt HR hc hle o1 o2 o3 HStep HSpl HOrd HEnd HAt
          generalize Q[i] = ch0 at *
          clear hlt
          have hw1 := HW1.out
          go_wp2_with fail
          go_round
          case rel => exact ⟨f, i + 1, rfl, by go_num, HF.out⟩
          case measure => first | exact HMs.out | (rw [hw1]; exact HMs.out)
      · have j2 : ¬ (i : Int) < 1606 := by omega
        have HS2 := Lib.hid (HSp.out (.inl (by omega)))
        clear HSp HSt HR hle hlt o1 o2 o3 HStep HSpl HOrd HEnd HAt
        generalize hPB : Q.extract f i = PB at *
        rcases hit_ways H PB with ⟨hh, ⟨q1, q2⟩ | ⟨q1, q2, q3, q4⟩⟩ | ⟨hh, ⟨q1, q2⟩ | q1 | ⟨q1, q2⟩ | ⟨q1, q2, q3, q4⟩⟩
        · have HF := Lib.hid (HS2.out.1 hh)
          clear HS2 hh
          have t1 : ((PB.size : Int) == (H.size : Int)) = true := by first | (rw [beq_iff_eq]; omega) | (rw [beq_eq_false_iff_ne]; omega)
          have t2 : (PB.size == H.size) = true := by first | (rw [beq_iff_eq]; omega) | (rw [beq_eq_false_iff_ne]; omega)
          have t3 := str_beq q2
          clear q1 q2
          go_wp2_with fail
          go_ret
          exact ⟨ret_bytes' (by rw [HF.out]; exact (mkB_of PB).symm), rfl⟩
        · have HF := Lib.hid (HS2.out.1 hh)
          clear HS2 hh
          have t1 : ((PB.size : Int) == (H.size : Int)) = false := by first | (rw [beq_iff_eq]; omega) | (rw [beq_eq_false_iff_ne]; omega)
          have t2 : (PB.size == H.size) = false := by first | (rw [beq_iff_eq]; omega) | (rw [beq_eq_false_iff_ne]; omega)
          have t4 : (H.size : Int) < (PB.size : Int) := by omega
          have t5 : (0 : Int) ≤ (H.size : Int) := by omega
          have t6 : (H.size : Int) ≤ (PB.size : Int) := by omega
          have t3 := str_beq q2
          have t7 := run_at9 PB H.size q3
          have t8 : ((PB[H.size].toNat : Int) == 32) = true := by rw [q4]; rfl
          generalize PB[H.size] = ch at *
          clear q1 q2 q3 q4
          go_wp2_with fail
          go_ret
          exact ⟨ret_bytes' (by rw [HF.out]; exact (mkB_of PB).symm), rfl⟩
        · have HF := Lib.hid (HS2.out.2 hh)
          clear HS2 hh
          have t1 : ((PB.size : Int) == (H.size : Int)) = true := by first | (rw [beq_iff_eq]; omega) | (rw [beq_eq_false_iff_ne]; omega)
          have t2 : (PB.size == H.size) = true := by first | (rw [beq_iff_eq]; omega) | (rw [beq_eq_false_iff_ne]; omega)
          have t3 := str_bne q2
          have t4 : ¬ (H.size : Int) < (PB.size : Int) := by omega
          clear q1 q2
          have hw1 := HW1.out
          go_wp2_with fail
          go_round
          case rel => exact ⟨i + 1, i + 1, by go_num, by go_num, HF.out⟩
          case measure => first | exact HMs.out | (rw [hw1]; exact HMs.out)
        · have HF := Lib.hid (HS2.out.2 hh)
          clear HS2 hh
          have t1 : ((PB.size : Int) == (H.size : Int)) = false := by first | (rw [beq_iff_eq]; omega) | (rw [beq_eq_false_iff_ne]; omega)
          have t2 : (PB.size == H.size) = false := by first | (rw [beq_iff_eq]; omega) | (rw [beq_eq_false_iff_ne]; omega)
          have t4 : ¬ (H.size : Int) < (PB.size : Int) := by omega
          clear q1
          have hw1 := HW1.out
          go_wp2_with fail
          go_round
          case rel => exact ⟨i + 1, i + 1, by go_num, by go_num, HF.out⟩
          case measure => first | exact HMs.out | (rw [hw1]; exact HMs.out)
        · have HF := Lib.hid (HS2.out.2 hh)
          clear HS2 hh
          have t1 : ((PB.size : Int) == (H.size : Int)) = false := by first | (rw [beq_iff_eq]; omega) | (rw [beq_eq_false_iff_ne]; omega)
          have t2 : (PB.size == H.size) = false := by first | (rw [beq_iff_eq]; omega) | (rw [beq_eq_false_iff_ne]; omega)
          have t4 : (H.size : Int) < (PB.size : Int) := by omega
          have t5 : (0 : Int) ≤ (H.size : Int) := by omega
          have t6 : (H.size : Int) ≤ (PB.size : Int) := by omega
          have t3 := str_bne q2
          clear q1 q2
          have hw1 := HW1.out
          go_wp2_with fail
          go_round
          case rel => exact ⟨i + 1, i + 1, by go_num, by go_num, HF.out⟩
          case measure => first | exact HMs.out | (rw [hw1]; exact HMs.out)
        · have HF := Lib.hid (HS2.out.2 hh)
          clear HS2 hh
          have t1 : ((PB.size : Int) == (H.size : Int)) = false := by first | (rw [beq_iff_eq]; omega) | (rw [beq_eq_false_iff_ne]; omega)
          have t2 : (PB.size == H.size) = false := by first | (rw [beq_iff_eq]; omega) | (rw [beq_eq_false_iff_ne]; omega)
          have t4 : (H.size : Int) < (PB.size : Int) := by omega
          have t5 : (0 : Int) ≤ (H.size : Int) := by omega
          have t6 : (H.size : Int) ≤ (PB.size : Int) := by omega
          have t3 := str_beq q2
          have t7 := run_at9 PB H.size q3
          have t8 : ((PB[H.size].toNat : Int) == 32) = false := by rw [beq_eq_false_iff_ne]; intro e; exact q4 (byte_eq 32 rfl e)
          generalize PB[H.size] = ch at *
          clear q1 q2 q3 q4
          have hw1 := HW1.out
          go_wp2_with fail
          go_round
          case rel => exact ⟨i + 1, i + 1, by go_num, by go_num, HF.out⟩
          case measure => first | exact HMs.out | (rw [hw1]; exact HMs.out)
    · have j1 : ¬ (i : Int) ≤ 1606 := by omega
      have hR := HEnd.out f i HR.out hle
      subst hR
      go_wp2_with fail
      go_ret
      exact ⟨rfl, rfl⟩

theorem extract_tail {X : World} {B n : Nat} {a : Option Addr} {c : Nat} {L : List (List UInt8)} (h : X.ownsRow B 9 1 (.slice a n c) n (strVs L)) (hl : L.length = n) : ∀ i (hi : i < L.length), ∃ g, a = some ⟨g, 0, none⟩ ∧ B ≤ g ∧ g < X.heap.size ∧ X.cell? ⟨g, i, none⟩ = some (.string (mkB L[i])) := fun i hi => by
  rcases h.2 with ⟨_, h0⟩ | ⟨g, cap, cur, hv, hg, hh, _⟩
  · omega
  · simp only [Value.slice.injEq] at hv
    obtain ⟨rfl, _, rfl⟩ := hv
    refine ⟨g, rfl, hg, (Array.getElem?_eq_some_iff.1 hh).1, ?_⟩
    have := h.cells (g := g) rfl i (.string (mkB L[i])) (by unfold strVs; rw [List.getElem?_map, List.getElem?_eq_getElem hi]; rfl)
    rw [show (⟨g, 0, none⟩ : Addr).add i = ⟨g, i, none⟩ from by unfold Addr.add; split <;> simp_all] at this
    exact this
/-- a slice that reads as texts, in a block of which P holds -/
def WRow (X : World) (P : Nat → Prop) (v : Value) (ws : List (List UInt8)) : Prop := ∃ a n c, v = .slice a n c ∧ n = ws.length ∧ ∀ i (hi : i < ws.length), ∃ g o, a = some ⟨g, o, none⟩ ∧ P g ∧ X.cell? ⟨g, o + i, none⟩ = some (.string (mkB ws[i]))
end Go.Proofs.YtgechifbbhipaaaDoor
