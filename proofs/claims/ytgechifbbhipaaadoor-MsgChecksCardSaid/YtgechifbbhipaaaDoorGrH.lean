/- grammar, in plain Lean: what is wrong with an element by its rule; a rule's words as the program meets them. No condition. -/
import Derived.Test.YtgechifbbhipaaaDoorVcP
import Derived.Test.YtgechifbbhipaaaDoorGrF
import Derived.Test.YtgechifbbhipaaaDoorGrT
set_option linter.unusedVariables false
set_option linter.unusedSimpArgs false
namespace Go.Proofs.YtgechifbbhipaaaDoor
open Go.RowKit

theorem spW_cut (l : List UInt8) : spW l = cutB 32 l := by
  induction l with
  | nil => rfl
  | cons c l ih =>
    rw [spW, cutB, ih]
    cases cutB 32 l <;> rfl
theorem wdsE_words (r : List UInt8) : ((wdsE (mkB r)).map fun b => b.data.toList) = wordsR r := by
  unfold wdsE wordsR wds
  rw [mkB_size, mkB_list, spW_cut]
  by_cases h : r = []
  · subst h; simp
  · have h2 : ¬ r.length = 0 := fun e => h (List.eq_nil_of_length_eq_zero e)
    rw [if_neg h, if_neg h2, List.map_map]
    have e : ((fun b : ByteArray => b.data.toList) ∘ mkB) = id := by funext x; rfl
    rw [e, List.map_id]
theorem cutB_cover (c : UInt8) (l : List UInt8) : ∀ x ∈ l, x = c ∨ ∃ p ∈ cutB c l, x ∈ p := by
  induction l with
  | nil => intro x hx; cases hx
  | cons a l ih =>
    intro x hx
    rw [cutB]
    split
    · rename_i h
      rcases List.mem_cons.1 hx with rfl | hx
      · exact .inl h
      · rcases ih x hx with h2 | ⟨p, hp, h2⟩
        · exact .inl h2
        · exact .inr ⟨p, List.mem_cons_of_mem _ hp, h2⟩
    · split
      · rename_i he; exact absurd he (cutB_ne c l)
      · rename_i p ps he
        rcases List.mem_cons.1 hx with rfl | hx
        · exact .inr ⟨_, List.mem_cons_self, List.mem_cons_self⟩
        · rcases ih x hx with h2 | ⟨q, hq, h2⟩
          · exact .inl h2
          · rw [he] at hq
            rcases List.mem_cons.1 hq with rfl | hq
            · exact .inr ⟨_, List.mem_cons_self, List.mem_cons_of_mem _ h2⟩
            · exact .inr ⟨q, List.mem_cons_of_mem _ hq, h2⟩
theorem okB_word {x : List UInt8} (h : okWord x = true) : ∀ c ∈ x, okB c = true := by
  intro c hc
  unfold okWord at h
  simp only [Bool.and_eq_true] at h
  have h2 := List.all_eq_true.1 h.2 c hc
  simp only [Bool.and_eq_true, bne_iff_ne, ne_eq, decide_eq_true_eq] at h2
  unfold okB
  obtain ⟨h3, ⟨h4, h5⟩, h6, h7, h8, h9⟩ : c.toNat < 128 ∧ (c ≠ 10 ∧ c ≠ 32) ∧ c ≠ 9 ∧ c ≠ 11 ∧ c ≠ 12 ∧ c ≠ 13 := by
    refine ⟨?_, ⟨?_, ?_⟩, ?_, ?_, ?_, ?_⟩ <;> simp_all
  simp [h3, h4, h5, h6, h7, h8, h9]
theorem okT_rule {r : List UInt8} (h : ∀ x ∈ wordsR r, okWord x = true) : (mkB r).size ≠ 0 → okT (mkB r) := by
  intro hz
  have hr : r ≠ [] := fun e => hz (by rw [e]; rfl)
  have hw : wordsR r = cutB 32 r := by unfold wordsR; rw [if_neg hr]
  rw [hw] at h
  refine ⟨fun x hx => ?_, fun j hj => ?_⟩
  · unfold wds at hx
    rw [mkB_list, spW_cut] at hx
    obtain ⟨y, hy, rfl⟩ := List.mem_map.1 hx
    rw [mkB_size]
    intro e
    have := h y hy
    rw [List.eq_nil_of_length_eq_zero e] at this
    simp [okWord] at this
  · have hm : (mkB r)[j] ∈ r := by
      have := bat_get (mkB r) j hj
      rw [mkB_list] at this
      exact List.mem_of_getElem? this
    rcases cutB_cover 32 r _ hm with h2 | ⟨p, hp, h2⟩
    · rw [h2]; decide
    · exact okB_word (h p hp) _ h2
/-- whether a line's words hold a text is told by its rule's head -/
def textLine (l : List UInt8) : Bool := decide (l.length ≤ 1000) && (((cutB 32 l).drop 2).contains textW == textW.isPrefixOf (joinB 32 ((cutB 32 l).drop 2)))
theorem ruleLs_text : ruleLs.all textLine = true := by kernel_rfl
theorem rule_facts {pg : Int} {nm : List UInt8} (hn : 32 ∉ nm) {r : List UInt8} (h : ruleF pg nm = some r) :
    (∀ x ∈ wordsR r, okWord x = true) ∧ r.length ≤ 1000 ∧ (wordsR r).contains textW = textW.isPrefixOf r := by
  rcases find_both (hdL pg nm) ruleLs with ⟨a, b⟩ | ⟨a, b, c⟩ | ⟨q, a, b, c⟩
  · rw [show ruleF pg nm = findR (hdL pg nm) ruleLs from rfl, a] at h; cases h
  · rw [show ruleF pg nm = findR (hdL pg nm) ruleLs from rfl, a] at h
    obtain rfl : ([] : List UInt8) = r := Option.some.inj h
    refine ⟨fun x hx => ?_, by simp, rfl⟩
    unfold wordsR at hx; simp at hx
  · rw [show ruleF pg nm = findR (hdL pg nm) ruleLs from rfl, a] at h
    obtain rfl : q = r := Option.some.inj h
    obtain ⟨h1, h2⟩ := okLine_words hn c
    have h3 := List.all_eq_true.1 ruleLs_text _ c
    unfold textLine at h3
    rw [cut_hd pg nm q hn] at h3
    simp only [List.drop_succ_cons, List.drop_zero, Bool.and_eq_true, decide_eq_true_eq, beq_iff_eq] at h3
    rw [join_cut] at h3
    have hw : wordsR q = cutB 32 q := by unfold wordsR; rw [if_neg h1]
    rw [hw]
    refine ⟨h2, ?_, h3.2⟩
    have := h3.1
    simp at this; omega

/-- what is wrong with an element by its rule -/
noncomputable def chkR1 (x : Tr) : Int :=
  match ruleF x.page x.name.data.toList with
  | none => 14
  | some r => if x.text.size ≠ 0 ∧ (wordsR r).contains textW = false then 3 else if fitsW x.page (wordsR r) x.kids = false then 15 else 0
/-- the first that is wrong, and its number -/
noncomputable def chkL : List Tr → Nat → Nat × Int
  | [], _ => (0, 0)
  | x :: l, n => if chkR1 x = 0 then chkL l (n + 1) else (n + 1, chkR1 x)
theorem chkL_ok {n : Nat} : ∀ (l : List Tr), (∀ x ∈ l, chkR1 x = 0) → chkL l n = (0, 0) := by
  intro l
  induction l generalizing n with
  | nil => intro _; rfl
  | cons x l ih => intro h; rw [chkL, if_pos (h x (by simp)), ih (fun y hy => h y (by simp [hy]))]
theorem chkL_at {n : Nat} : ∀ (pre : List Tr) (x : Tr) (post : List Tr), (∀ y ∈ pre, chkR1 y = 0) → chkR1 x ≠ 0 → chkL (pre ++ x :: post) n = (n + pre.length + 1, chkR1 x) := by
  intro pre
  induction pre generalizing n with
  | nil => intro x post _ h; rw [List.nil_append, chkL, if_neg h]; rfl
  | cons y pre ih =>
    intro x post h1 h2
    rw [List.cons_append, chkL, if_pos (h1 y (by simp)), ih x post (fun z hz => h1 z (by simp [hz])) h2]
    simp; omega
/-- an element, and all within it -/
noncomputable def chkG (e : Tr) : Nat × Int := if chkA e = 0 then chkL ((preT 20 1 e).map (·.2)) 0 else (0, chkA e)

/-- what is known of an element that is right, and of all within it -/
theorem firstC_all : ∀ (L : List (Nat × Tr)), firstC L = 0 → ∀ p ∈ L, chkT p.2 = 0 := by
  intro L
  induction L with
  | nil => intro _ p hp; cases hp
  | cons q l ih =>
    intro h p hp
    rw [firstC] at h
    by_cases hq : chkT q.2 = 0
    · rw [if_pos hq] at h
      rcases List.mem_cons.1 hp with rfl | hp
      · exact hq
      · exact ih h p hp
    · rw [if_neg hq] at h; exact absurd h hq
theorem chkV_name {p : Int} {nm tx : ByteArray} {o : Bool} {n : Nat} (h : chkV p nm tx o n = 0) : 0 ≤ p ∧ p ≤ 2 ∧ nameB nm = true ∧ nm.size ≤ 32 ∧ n ≤ 200 ∧ tx.size ≤ 4000 := by
  unfold chkV at h
  by_cases h1 : p < 0 ∨ 3 ≤ p
  · rw [if_pos h1] at h; omega
  rw [if_neg h1] at h
  by_cases h2 : nameB nm = false
  · rw [if_pos h2] at h; omega
  rw [if_neg h2] at h
  by_cases h3 : 200 < n
  · rw [if_pos h3] at h; omega
  rw [if_neg h3] at h
  by_cases h4 : 0 < n ∧ tx.size ≠ 0
  · rw [if_pos h4] at h; omega
  rw [if_neg h4] at h
  by_cases h5 : 4000 < tx.size
  · rw [if_pos h5] at h; omega
  have h6 : nameB nm = true := by simpa using h2
  have h7 : nm.size ≤ 32 := by
    unfold nameB at h6
    simp only [Bool.and_eq_true, decide_eq_true_eq] at h6
    exact h6.2.1
  exact ⟨by omega, by omega, h6, h7, by omega, by omega⟩
theorem chkA_zero {e : Tr} (h : chkA e = 0) : hT e ≤ 12 ∧ (preT 5000 1 e).length ≤ 2000 ∧ firstC (preT 13 1 e) = 0 := by
  have h1 : ¬ 12 < deepC ((preT 13 1 e).take 5000) := fun k => by unfold chkA at h; rw [if_pos k] at h; cases h
  have h2 : ¬ 2000 < wgt e := fun k => by unfold chkA at h; rw [if_neg h1, if_pos k] at h; cases h
  obtain ⟨g1, g2, g3⟩ := chkA_plain h1 h2
  exact ⟨g1, g3, by rw [← chkA_of g1 g3]; exact h⟩
theorem chkA_mem {e : Tr} (h : chkA e = 0) {x : Tr} (hx : x ∈ (preT 20 1 e).map (·.2)) : 0 ≤ x.page ∧ x.page ≤ 2 ∧ nameB x.name = true ∧ x.name.size ≤ 32 ∧ x.kids.length ≤ 200 ∧ x.text.size ≤ 4000 := by
  obtain ⟨g1, g2, g3⟩ := chkA_zero h
  obtain ⟨p, hp, rfl⟩ := List.mem_map.1 hx
  rw [preT_full (m := 20) (m' := 13) 1 e (by omega) (by omega)] at hp
  exact chkV_name (firstC_all _ g3 p hp)
theorem chkA_len {e : Tr} (h : chkA e = 0) : (preT 20 1 e).length ≤ 2000 := by
  obtain ⟨g1, g2, g3⟩ := chkA_zero h
  rw [preT_full (m := 20) (m' := 5000) 1 e (by omega) (by omega)]
  exact g2
end Go.Proofs.YtgechifbbhipaaaDoor

/- grammar, in plain Lean: what is right is made of what is right, and fits its rule. No condition. -/
set_option linter.unusedVariables false
set_option linter.unusedSimpArgs false
namespace Go.Proofs.YtgechifbbhipaaaDoor
open Go.RowKit

theorem chkL_zero : ∀ (l : List Tr) (n : Nat), (chkL l n).2 = 0 → ∀ x ∈ l, chkR1 x = 0 := by
  intro l
  induction l with
  | nil => intro _ _ x hx; cases hx
  | cons y l ih =>
    intro n h
    rw [chkL] at h
    by_cases hy : chkR1 y = 0
    · rw [if_pos hy] at h
      intro x hx
      rcases List.mem_cons.1 hx with rfl | hx
      · exact hy
      · exact ih _ h x hx
    · rw [if_neg hy] at h; dsimp only at h; exact absurd h hy
theorem chkG_zero {e : Tr} (h : (chkG e).2 = 0) : chkA e = 0 ∧ ∀ x ∈ (preT 20 1 e).map (·.2), chkR1 x = 0 := by
  unfold chkG at h
  by_cases h0 : chkA e = 0
  · rw [if_pos h0] at h; exact ⟨h0, chkL_zero ((preT 20 1 e).map (·.2)) 0 h⟩
  · rw [if_neg h0] at h; dsimp only at h; exact absurd h h0
theorem chkG_of {e : Tr} (h0 : chkA e = 0) (h : ∀ x ∈ (preT 20 1 e).map (·.2), chkR1 x = 0) : (chkG e).2 = 0 := by
  unfold chkG; rw [if_pos h0, chkL_ok _ h]
theorem preL_memG {m d : Nat} : ∀ {ks : List Tr} {k : Tr}, k ∈ ks → ∀ p ∈ preT m d k, p ∈ preL m d ks := by
  intro ks
  induction ks with
  | nil => intro k h; cases h
  | cons y l ih =>
    intro k h p hp
    rw [preL]
    rcases List.mem_cons.1 h with rfl | h
    · exact List.mem_append_left _ hp
    · exact List.mem_append_right _ (ih h p hp)
theorem chkG_kid {e k : Tr} (hk : k ∈ e.kids) (h : (chkG e).2 = 0) : (chkG k).2 = 0 := by
  obtain ⟨h1, h2⟩ := chkG_zero h
  have h3 : chkA k = 0 := Classical.byContradiction fun h4 => chkA_kid hk h4 h1
  refine chkG_of h3 fun x hx => h2 x ?_
  obtain ⟨p, hp, rfl⟩ := List.mem_map.1 hx
  have hd := (chkA_zero h1).1
  have hkt := hT_kid hk
  rw [preT_full (m := 20) (m' := 19) 1 k (by omega) (by omega)] at hp
  rw [preT_in (by omega), List.map_cons]
  refine List.mem_cons_of_mem _ (List.mem_map.2 ⟨(p.1 + 1, p.2), preL_memG hk _ ?_, rfl⟩)
  rw [preT_shift 19 1 k]
  exact List.mem_map.2 ⟨p, hp, rfl⟩
theorem chkG_self {e : Tr} (h : (chkG e).2 = 0) : ∃ r, ruleF e.page e.name.data.toList = some r ∧ fitsW e.page (wordsR r) e.kids = true ∧ chkA e = 0 ∧ 0 ≤ e.page ∧ e.page ≤ 2 ∧ nameB e.name = true ∧ e.kids.length ≤ 200 := by
  obtain ⟨h1, h2⟩ := chkG_zero h
  have hm : e ∈ (preT 20 1 e).map (·.2) := by rw [preT_in (by omega), List.map_cons]; exact List.mem_cons_self
  have h3 := h2 e hm
  obtain ⟨g1, g2, g3, _, g4, _⟩ := chkA_mem h1 hm
  unfold chkR1 at h3
  cases hr : ruleF e.page e.name.data.toList with
  | none => rw [hr] at h3; simp at h3
  | some r =>
    rw [hr] at h3
    simp only [] at h3
    refine ⟨r, rfl, ?_, h1, g1, g2, g3, g4⟩
    split at h3
    · omega
    · split at h3
      · omega
      · rename_i h5; simpa using h5

/-- a line's head, and what stands behind its second blank -/
def hd1 (l : List UInt8) : List UInt8 := (Lib.cut l [32]).1
def rs1 (l : List UInt8) : List UInt8 := (Lib.cut (Lib.cut l [32]).2.1 [32]).2.1
/-- does a line hold this page's rule? -/
def hitB (pg : Int) (r : List UInt8) (l : List UInt8) : Bool := decide (hd1 l = digL pg) && decide (rs1 l = r)
def okRl (l : List UInt8) : Bool := (wordsR (rs1 l)).all okWord && decide ((rs1 l).length ≤ 1000)
theorem ruleLs_rl : ruleLs.all okRl = true := by kernel_rfl
/-- the program's Fits -/
noncomputable def fitsP (pg : Int) (r : List UInt8) (ks : List Tr) : Bool := ruleLs.any (hitB pg r) && fitsW pg (wordsR r) ks
theorem hit_facts {pg : Int} {r l : List UInt8} (hl : l ∈ ruleLs) (h : hitB pg r l = true) : (∀ x ∈ wordsR r, okWord x = true) ∧ r.length ≤ 1000 := by
  have h1 := List.all_eq_true.1 ruleLs_rl l hl
  unfold hitB at h
  unfold okRl at h1
  simp only [Bool.and_eq_true, decide_eq_true_eq] at h h1
  rw [h.2] at h1
  exact ⟨List.all_eq_true.1 h1.1, h1.2⟩
theorem cut_free {t : List UInt8} (h : 32 ∉ t) : Lib.cut t [32] = (t, [], false) := by
  have : Lib.index t [32] = -1 := by
    refine Lib.index_none fun j hj => ?_
    cases e : Lib.occAt t [32] j with
    | false => rfl
    | true => exact absurd (List.mem_of_getElem? (Lib.occAt_head rfl e)) h
  unfold Lib.cut
  rw [this]
  simp
theorem cut_32 {t r : List UInt8} (h : 32 ∉ t) : Lib.cut (t ++ 32 :: r) [32] = (t, r, true) := by
  have : Lib.index (t ++ 32 :: r) [32] = t.length := by
    refine Lib.index_first (by simp) ?_ ?_
    · unfold Lib.occAt; rw [List.drop_left]; simp [List.isPrefixOf]
    · intro j hj
      cases e : Lib.occAt (t ++ 32 :: r) [32] j with
      | false => rfl
      | true =>
        have := Lib.occAt_head rfl e
        rw [List.getElem?_append_left hj] at this
        exact absurd (List.mem_of_getElem? this) h
  unfold Lib.cut
  rw [this, if_pos (by omega)]
  simp
theorem hit_rule {pg : Int} {nm r : List UInt8} (hn : 32 ∉ nm) (h : ruleF pg nm = some r) : ∃ l ∈ ruleLs, hitB pg r l = true := by
  have hd := digL_free pg 32 (.inr rfl)
  rcases find_both (hdL pg nm) ruleLs with ⟨a, b⟩ | ⟨a, b, c⟩ | ⟨q, a, b, c⟩
  · rw [show ruleF pg nm = findR (hdL pg nm) ruleLs from rfl, a] at h; cases h
  · rw [show ruleF pg nm = findR (hdL pg nm) ruleLs from rfl, a] at h
    obtain rfl : ([] : List UInt8) = r := Option.some.inj h
    refine ⟨_, c, ?_⟩
    unfold hitB hd1 rs1 hdL
    rw [cut_32 hd, cut_free hn]
    simp
  · rw [show ruleF pg nm = findR (hdL pg nm) ruleLs from rfl, a] at h
    obtain rfl : q = r := Option.some.inj h
    refine ⟨_, c, ?_⟩
    unfold hitB hd1 rs1 hdL
    rw [List.append_assoc, List.cons_append, cut_32 hd, cut_32 hn]
    simp
theorem fitsP_self {e : Tr} (h : (chkG e).2 = 0) : ∃ r, ruleF e.page e.name.data.toList = some r ∧ fitsP e.page r e.kids = true ∧ chkA e = 0 := by
  obtain ⟨r, h1, h2, h3, _, _, h4, _⟩ := chkG_self h
  obtain ⟨l, hl, h5⟩ := hit_rule (nameB_free h4 32 (by decide)) h1
  refine ⟨r, h1, ?_, h3⟩
  unfold fitsP
  rw [h2, List.any_eq_true.2 ⟨l, hl, h5⟩]; rfl

/-- lines of a text -/
theorem index10_none {t : List UInt8} (h : 10 ∉ t) : Lib.index t [10] = -1 := index_lines_none (h := []) h
theorem index10_at {t r : List UInt8} (h : 10 ∉ t) : Lib.index (t ++ 10 :: r) [10] = t.length := Lib.index_first (by simp) (by rw [occ_line]; rfl) (noOcc_tail h)
theorem lines_split (T : List UInt8) : (10 ∉ T ∧ cutB 10 T = [T]) ∨ (∃ t r, 10 ∉ t ∧ T = t ++ 10 :: r ∧ cutB 10 T = t :: cutB 10 r) := by
  by_cases h : 10 ∈ T
  · obtain ⟨t, r, rfl, ht⟩ := List.eq_append_cons_of_mem h
    exact .inr ⟨t, r, ht, rfl, cutB_at ht⟩
  · exact .inl ⟨h, cutB_free h⟩
end Go.Proofs.YtgechifbbhipaaaDoor
