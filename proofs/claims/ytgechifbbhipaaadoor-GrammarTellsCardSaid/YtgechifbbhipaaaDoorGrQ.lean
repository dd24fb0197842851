/- grammar in plain words: the rules' lines (read off the program's own code), names looked up, kids held against words. No condition. -/
import Derived.Test.YtgechifbbhipaaaDoorGrP
import Derived.Test.YtgechifbbhipaaaDoorMkS
import Derived.Test.YtgechifbbhipaaaDoorTrR
set_option linter.unusedVariables false
set_option linter.unusedSimpArgs false
namespace Go.Proofs.YtgechifbbhipaaaDoor
open Go.RowKit Go.Lib

/-- the program's rules: a line's end ahead of each line -/
noncomputable def rulesP : ByteArray := (((Tryd.f28.body.map strsOf).getD []).find? fun s => decide (1000 ≤ s.size)).getD ByteArray.empty
/-- the reference's: between the lines -/
noncomputable def rulesQ : ByteArray := ⟨(rulesP.data.toList.drop 1).toArray⟩
theorem rulesP_eq : rulesP.data.toList = 10 :: rulesQ.data.toList := by
  have h : (rulesP.data.toList == 10 :: rulesQ.data.toList) = true := by kernel_rfl
  exact eq_of_beq h
theorem rulesQ_size : rulesQ.size = 1606 := by
  have h : (rulesQ.data.toList.length == 1606) = true := by kernel_rfl
  rw [← len_toList]; exact eq_of_beq h
theorem rulesP_size : rulesP.size = 1607 := by rw [← len_toList, rulesP_eq, List.length_cons, len_toList, rulesQ_size]
theorem lit_p (a b : List UInt8) (h : ((List.append a b) == rulesP.data.toList) = true) : (ByteArray.mk (List.append a b).toArray) = rulesP := by
  refine Go.WideShapes.bytes_inj ?_
  show List.append a b = _
  exact eq_of_beq h
theorem lit_q (a b : List UInt8) (h : ((List.append a b) == rulesQ.data.toList) = true) : (ByteArray.mk (List.append a b).toArray) = rulesQ := by
  refine Go.WideShapes.bytes_inj ?_
  show List.append a b = _
  exact eq_of_beq h

theorem textOf_cut (l : List UInt8) : textOf (cutB 10 l) = 10 :: l := by
  induction l with
  | nil => rfl
  | cons a l ih =>
    rw [cutB]
    split
    · rename_i h
      subst h
      rw [textOf_cons, ih]; rfl
    · cases e : cutB 10 l with
      | nil => exact absurd e (cutB_ne 10 l)
      | cons p ps =>
        rw [e, textOf_cons] at ih
        simp only []
        rw [textOf_cons]
        simp at ih ⊢
        exact ih
noncomputable def ruleLs : List (List UInt8) := cutB 10 rulesQ.data.toList
theorem rulesP_text : rulesP.data.toList = textOf ruleLs := by rw [rulesP_eq, ruleLs, textOf_cut]
theorem ruleLs_free : ∀ l ∈ ruleLs, 10 ∉ l := cutB_mem _
theorem ruleLs_len : ruleLs.length ≤ 100 := of_decide_eq_true (by kernel_rfl)

def mkB (l : List UInt8) : ByteArray := ⟨l.toArray⟩
theorem mkB_list (l : List UInt8) : (mkB l).data.toList = l := rfl
theorem mkB_of (s : ByteArray) : mkB s.data.toList = s := rfl
theorem mkB_size (l : List UInt8) : (mkB l).size = l.length := by rw [← len_toList]; rfl
def okWord (w : List UInt8) : Bool := !w.isEmpty && w.all fun c => decide (c.toNat < 128) && (c != 10 && c != 32) && (c != 9 && c != 11 && c != 12 && c != 13)
/-- a line: a page's digit, a name, words -/
def okLine (l : List UInt8) : Bool := match cutB 32 l with
  | [d] :: nm :: ws => (d == 48 || d == 49 || d == 50) && nameB (mkB nm) && ws.all okWord
  | _ => false
theorem ruleLs_ok : ruleLs.all okLine = true := by kernel_rfl

/-- a line by its head -/
def findL (h : List UInt8) : List (List UInt8) → List UInt8
  | [] => []
  | l :: ls => if l = h ∨ (h ++ [32]) <+: l then l else findL h ls
theorem find_both (h : List UInt8) (ls : List (List UInt8)) : (findR h ls = none ∧ findL h ls = []) ∨ (findR h ls = some [] ∧ findL h ls = h ∧ h ∈ ls) ∨ (∃ r, findR h ls = some r ∧ findL h ls = h ++ 32 :: r ∧ (h ++ 32 :: r) ∈ ls) := by
  induction ls with
  | nil => exact .inl ⟨rfl, rfl⟩
  | cons l ls ih =>
    rw [findR, findL]
    by_cases h1 : l = h
    · subst h1; rw [if_pos rfl, if_pos (.inl rfl)]; exact .inr (.inl ⟨rfl, rfl, by simp⟩)
    · rw [if_neg h1]
      by_cases h2 : (h ++ [32]) <+: l
      · rw [if_pos h2, if_pos (.inr h2)]
        obtain ⟨r, rfl⟩ := h2
        refine .inr (.inr ⟨r, ?_, by simp, by simp⟩)
        rw [show h.length + 1 = (h ++ [32]).length from by simp, List.drop_left]
      · rw [if_neg h2, if_neg (by rintro (h | h); exact h1 h; exact h2 h)]
        rcases ih with ⟨a, b⟩ | ⟨a, b, c⟩ | ⟨r, a, b, c⟩
        · exact .inl ⟨a, b⟩
        · exact .inr (.inl ⟨a, b, List.mem_cons_of_mem _ c⟩)
        · exact .inr (.inr ⟨r, a, b, List.mem_cons_of_mem _ c⟩)

def digL (pg : Int) : List UInt8 := if pg = 0 then [48] else if pg = 1 then [49] else if pg = 2 then [50] else [63]
theorem digL_free (pg : Int) (c : UInt8) (h : c = 10 ∨ c = 32) : c ∉ digL pg := by
  unfold digL
  rcases h with rfl | rfl <;> (repeat' split) <;> simp
/-- the head of a line -/
def hdL (pg : Int) (nm : List UInt8) : List UInt8 := digL pg ++ 32 :: nm
/-- a name's rule -/
noncomputable def ruleF (pg : Int) (nm : List UInt8) : Option (List UInt8) := findR (hdL pg nm) ruleLs
noncomputable def lineF (pg : Int) (nm : List UInt8) : List UInt8 := findL (hdL pg nm) ruleLs
/-- a rule's words -/
def wordsR (r : List UInt8) : List (List UInt8) := if r = [] then [] else cutB 32 r
theorem cut_hd (pg : Int) (nm r : List UInt8) (hn : 32 ∉ nm) : cutB 32 (hdL pg nm ++ 32 :: r) = digL pg :: nm :: cutB 32 r := by
  unfold hdL
  rw [List.append_assoc, List.cons_append, cutB_at (digL_free pg 32 (.inr rfl)), cutB_at hn]
theorem cut_hd0 (pg : Int) (nm : List UInt8) (hn : 32 ∉ nm) : cutB 32 (hdL pg nm) = [digL pg, nm] := by
  unfold hdL
  rw [cutB_at (digL_free pg 32 (.inr rfl)), cutB_free hn]
theorem okLine_words {pg : Int} {nm r : List UInt8} (hn : 32 ∉ nm) (h : hdL pg nm ++ 32 :: r ∈ ruleLs) : r ≠ [] ∧ ∀ x ∈ cutB 32 r, okWord x = true := by
  have h1 := List.all_eq_true.1 ruleLs_ok _ h
  unfold okLine at h1
  rw [cut_hd pg nm r hn] at h1
  split at h1
  · rename_i d nm2 ws he
    injection he with he1 he2
    injection he2 with he2 he3
    simp only [Bool.and_eq_true] at h1
    have h2 : ∀ x ∈ cutB 32 r, okWord x = true := by rw [he3]; exact List.all_eq_true.1 h1.2
    refine ⟨fun e => ?_, h2⟩
    have := h2 [] (by rw [e]; simp [cutB])
    simp [okWord] at this
  · cases h1
/-- what is known of a name's line -/
theorem line_cases (pg : Int) (nm : List UInt8) (hn : 32 ∉ nm) : (ruleF pg nm = none ∧ lineF pg nm = []) ∨
    (ruleF pg nm = some [] ∧ lineF pg nm = hdL pg nm ∧ cutB 32 (lineF pg nm) = digL pg :: nm :: wordsR []) ∨
    (∃ r, r ≠ [] ∧ ruleF pg nm = some r ∧ lineF pg nm = hdL pg nm ++ 32 :: r ∧ cutB 32 (lineF pg nm) = digL pg :: nm :: wordsR r ∧ ∀ x ∈ wordsR r, okWord x = true) := by
  rcases find_both (hdL pg nm) ruleLs with ⟨a, b⟩ | ⟨a, b, c⟩ | ⟨r, a, b, c⟩
  · exact .inl ⟨a, b⟩
  · refine .inr (.inl ⟨a, b, ?_⟩)
    rw [show lineF pg nm = hdL pg nm from b, cut_hd0 pg nm hn]; rfl
  · obtain ⟨h1, h2⟩ := okLine_words hn c
    refine .inr (.inr ⟨r, h1, a, b, ?_, ?_⟩)
    · rw [show lineF pg nm = hdL pg nm ++ 32 :: r from b, cut_hd pg nm r hn]
      unfold wordsR; rw [if_neg h1]
    · unfold wordsR; rw [if_neg h1]; exact h2
theorem nameB_free {nm : ByteArray} (h : nameB nm = true) (c : UInt8) (hc : namB c.toNat = false) : c ∉ nm.data.toList := by
  intro hm
  unfold nameB at h
  simp only [Bool.and_eq_true] at h
  have h1 := h.2.2.2
  have h2 : badN nm = true := by
    unfold badN
    rw [List.any_eq_true]
    exact ⟨c, hm, by rw [hc]; rfl⟩
  rw [h2] at h1
  cases h1

/-- is an element one of a word's, of a page's rule? -/
def takes1 (pg : Int) (n : List UInt8) (p : Int) (nm : List UInt8) : Bool :=
  if 1 < n.length ∧ n[1]? = some 46 then decide (p = ((((n[0]?.getD 0).toNat : Int) - 48) % 256)) && decide (nm = n.drop 2)
  else decide (p = pg) && decide (nm = n)
def takesV (pg : Int) (names : List UInt8) (p : Int) (nm : List UInt8) : Bool := (cutB 124 names).any fun n => takes1 pg n p nm
def takesB (pg : Int) (names : List UInt8) (k : Tr) : Bool := takesV pg names k.page k.name.data.toList
def markB (c : UInt8) : Bool := c == 63 || c == 42 || c == 43
def namesW (w : List UInt8) : List UInt8 := if markB (w.getLast?.getD 0) then w.dropLast else w
def textW : List UInt8 := [84, 69, 88, 84]
/-- the kids that a word takes -/
def takeW (pg : Int) (w : List UInt8) (ks : List Tr) : Nat :=
  if w.getLast? = some 42 ∨ w.getLast? = some 43 then (ks.takeWhile (takesB pg (namesW w))).length
  else match ks with
    | [] => 0
    | k :: _ => if takesB pg (namesW w) k then 1 else 0
/-- kids held against words -/
def fitsW (pg : Int) : List (List UInt8) → List Tr → Bool
  | [], ks => ks.isEmpty
  | w :: ws, ks =>
    if w = textW then fitsW pg ws ks
    else if takeW pg w ks = 0 ∧ w.getLast? ≠ some 63 ∧ w.getLast? ≠ some 42 then false
    else fitsW pg ws (ks.drop (takeW pg w ks))
end Go.Proofs.YtgechifbbhipaaaDoor
