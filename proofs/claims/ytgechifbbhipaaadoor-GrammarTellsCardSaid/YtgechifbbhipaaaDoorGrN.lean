/- grammar, in plain Lean: what is right is made of what is right, and fits its rule. No condition. -/
import Derived.Test.YtgechifbbhipaaaDoorGrH
set_option linter.unusedVariables false
set_option linter.unusedSimpArgs false
namespace Go.Proofs.YtgechifbbhipaaaDoor
open Go.RowKit

theorem chkL_zero : ∀ (l : List Tr) (n : Nat), (chkL l n).2 = 0 → ∀ x ∈ l, chkR1 x = 0 := by
  intro l
  induction l with
  | nil => intro _ _ x hx; cases hx
  | cons y l ih =>
    intro n h
    rw [chkL] at h
    by_cases hy : chkR1 y = 0
    · rw [if_pos hy] at h
      intro x hx
      rcases List.mem_cons.1 hx with rfl | hx
      · exact hy
      · exact ih _ h x hx
    · rw [if_neg hy] at h; dsimp only at h; exact absurd h hy
theorem chkG_zero {e : Tr} (h : (chkG e).2 = 0) : chkA e = 0 ∧ ∀ x ∈ (preT 20 1 e).map (·.2), chkR1 x = 0 := by
  unfold chkG at h
  by_cases h0 : chkA e = 0
  · rw [if_pos h0] at h; exact ⟨h0, chkL_zero ((preT 20 1 e).map (·.2)) 0 h⟩
  · rw [if_neg h0] at h; dsimp only at h; exact absurd h h0
theorem chkG_of {e : Tr} (h0 : chkA e = 0) (h : ∀ x ∈ (preT 20 1 e).map (·.2), chkR1 x = 0) : (chkG e).2 = 0 := by
  unfold chkG; rw [if_pos h0, chkL_ok _ h]
theorem preL_memG {m d : Nat} : ∀ {ks : List Tr} {k : Tr}, k ∈ ks → ∀ p ∈ preT m d k, p ∈ preL m d ks := by
  intro ks
  induction ks with
  | nil => intro k h; cases h
  | cons y l ih =>
    intro k h p hp
    rw [preL]
    rcases List.mem_cons.1 h with rfl | h
    · exact List.mem_append_left _ hp
    · exact List.mem_append_right _ (ih h p hp)
theorem chkG_kid {e k : Tr} (hk : k ∈ e.kids) (h : (chkG e).2 = 0) : (chkG k).2 = 0 := by
  obtain ⟨h1, h2⟩ := chkG_zero h
  have h3 : chkA k = 0 := Classical.byContradiction fun h4 => chkA_kid hk h4 h1
  refine chkG_of h3 fun x hx => h2 x ?_
  obtain ⟨p, hp, rfl⟩ := List.mem_map.1 hx
  have hd := (chkA_zero h1).1
  have hkt := hT_kid hk
  rw [preT_full (m := 20) (m' := 19) 1 k (by omega) (by omega)] at hp
  rw [preT_in (by omega), List.map_cons]
  refine List.mem_cons_of_mem _ (List.mem_map.2 ⟨(p.1 + 1, p.2), preL_memG hk _ ?_, rfl⟩)
  rw [preT_shift 19 1 k]
  exact List.mem_map.2 ⟨p, hp, rfl⟩
theorem chkG_self {e : Tr} (h : (chkG e).2 = 0) : ∃ r, ruleF e.page e.name.data.toList = some r ∧ fitsW e.page (wordsR r) e.kids = true ∧ chkA e = 0 ∧ 0 ≤ e.page ∧ e.page ≤ 2 ∧ nameB e.name = true ∧ e.kids.length ≤ 200 := by
  obtain ⟨h1, h2⟩ := chkG_zero h
  have hm : e ∈ (preT 20 1 e).map (·.2) := by rw [preT_in (by omega), List.map_cons]; exact List.mem_cons_self
  have h3 := h2 e hm
  obtain ⟨g1, g2, g3, _, g4, _⟩ := chkA_mem h1 hm
  unfold chkR1 at h3
  cases hr : ruleF e.page e.name.data.toList with
  | none => rw [hr] at h3; simp at h3
  | some r =>
    rw [hr] at h3
    simp only [] at h3
    refine ⟨r, rfl, ?_, h1, g1, g2, g3, g4⟩
    split at h3
    · omega
    · split at h3
      · omega
      · rename_i h5; simpa using h5

/-- a line's head, and what stands behind its second blank -/
def hd1 (l : List UInt8) : List UInt8 := (Lib.cut l [32]).1
def rs1 (l : List UInt8) : List UInt8 := (Lib.cut (Lib.cut l [32]).2.1 [32]).2.1
/-- does a line hold this page's rule? -/
def hitB (pg : Int) (r : List UInt8) (l : List UInt8) : Bool := decide (hd1 l = digL pg) && decide (rs1 l = r)
def okRl (l : List UInt8) : Bool := (wordsR (rs1 l)).all okWord && decide ((rs1 l).length ≤ 1000)
theorem ruleLs_rl : ruleLs.all okRl = true := by kernel_rfl
/-- the program's Fits -/
noncomputable def fitsP (pg : Int) (r : List UInt8) (ks : List Tr) : Bool := ruleLs.any (hitB pg r) && fitsW pg (wordsR r) ks
theorem hit_facts {pg : Int} {r l : List UInt8} (hl : l ∈ ruleLs) (h : hitB pg r l = true) : (∀ x ∈ wordsR r, okWord x = true) ∧ r.length ≤ 1000 := by
  have h1 := List.all_eq_true.1 ruleLs_rl l hl
  unfold hitB at h
  unfold okRl at h1
  simp only [Bool.and_eq_true, decide_eq_true_eq] at h h1
  rw [h.2] at h1
  exact ⟨List.all_eq_true.1 h1.1, h1.2⟩
theorem cut_free {t : List UInt8} (h : 32 ∉ t) : Lib.cut t [32] = (t, [], false) := by
  have : Lib.index t [32] = -1 := by
    refine Lib.index_none fun j hj => ?_
    cases e : Lib.occAt t [32] j with
    | false => rfl
    | true => exact absurd (List.mem_of_getElem? (Lib.occAt_head rfl e)) h
  unfold Lib.cut
  rw [this]
  simp
theorem cut_32 {t r : List UInt8} (h : 32 ∉ t) : Lib.cut (t ++ 32 :: r) [32] = (t, r, true) := by
  have : Lib.index (t ++ 32 :: r) [32] = t.length := by
    refine Lib.index_first (by simp) ?_ ?_
    · unfold Lib.occAt; rw [List.drop_left]; simp [List.isPrefixOf]
    · intro j hj
      cases e : Lib.occAt (t ++ 32 :: r) [32] j with
      | false => rfl
      | true =>
        have := Lib.occAt_head rfl e
        rw [List.getElem?_append_left hj] at this
        exact absurd (List.mem_of_getElem? this) h
  unfold Lib.cut
  rw [this, if_pos (by omega)]
  simp
theorem hit_rule {pg : Int} {nm r : List UInt8} (hn : 32 ∉ nm) (h : ruleF pg nm = some r) : ∃ l ∈ ruleLs, hitB pg r l = true := by
  have hd := digL_free pg 32 (.inr rfl)
  rcases find_both (hdL pg nm) ruleLs with ⟨a, b⟩ | ⟨a, b, c⟩ | ⟨q, a, b, c⟩
  · rw [show ruleF pg nm = findR (hdL pg nm) ruleLs from rfl, a] at h; cases h
  · rw [show ruleF pg nm = findR (hdL pg nm) ruleLs from rfl, a] at h
    obtain rfl : ([] : List UInt8) = r := Option.some.inj h
    refine ⟨_, c, ?_⟩
    unfold hitB hd1 rs1 hdL
    rw [cut_32 hd, cut_free hn]
    simp
  · rw [show ruleF pg nm = findR (hdL pg nm) ruleLs from rfl, a] at h
    obtain rfl : q = r := Option.some.inj h
    refine ⟨_, c, ?_⟩
    unfold hitB hd1 rs1 hdL
    rw [List.append_assoc, List.cons_append, cut_32 hd, cut_32 hn]
    simp
theorem fitsP_self {e : Tr} (h : (chkG e).2 = 0) : ∃ r, ruleF e.page e.name.data.toList = some r ∧ fitsP e.page r e.kids = true ∧ chkA e = 0 := by
  obtain ⟨r, h1, h2, h3, _, _, h4, _⟩ := chkG_self h
  obtain ⟨l, hl, h5⟩ := hit_rule (nameB_free h4 32 (by decide)) h1
  refine ⟨r, h1, ?_, h3⟩
  unfold fitsP
  rw [h2, List.any_eq_true.2 ⟨l, hl, h5⟩]; rfl

/-- lines of a text -/
theorem index10_none {t : List UInt8} (h : 10 ∉ t) : Lib.index t [10] = -1 := index_lines_none (h := []) h
theorem index10_at {t r : List UInt8} (h : 10 ∉ t) : Lib.index (t ++ 10 :: r) [10] = t.length := Lib.index_first (by simp) (by rw [occ_line]; rfl) (noOcc_tail h)
theorem lines_split (T : List UInt8) : (10 ∉ T ∧ cutB 10 T = [T]) ∨ (∃ t r, 10 ∉ t ∧ T = t ++ 10 :: r ∧ cutB 10 T = t :: cutB 10 r) := by
  by_cases h : 10 ∈ T
  · obtain ⟨t, r, rfl, ht⟩ := List.eq_append_cons_of_mem h
    exact .inr ⟨t, r, ht, rfl, cutB_at ht⟩
  · exact .inl ⟨h, cutB_free h⟩
end Go.Proofs.YtgechifbbhipaaaDoor
