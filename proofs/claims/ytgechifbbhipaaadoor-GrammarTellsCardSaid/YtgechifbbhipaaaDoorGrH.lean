/- grammar, in plain Lean: what is wrong with an element by its rule; a rule's words as the program meets them. No condition. -/
import Derived.Test.YtgechifbbhipaaaDoorVcF
import Derived.Test.YtgechifbbhipaaaDoorGrF
import Derived.Test.YtgechifbbhipaaaDoorGrR
set_option linter.unusedVariables false
set_option linter.unusedSimpArgs false
namespace Go.Proofs.YtgechifbbhipaaaDoor
open Go.RowKit

theorem spW_cut (l : List UInt8) : spW l = cutB 32 l := by
  induction l with
  | nil => rfl
  | cons c l ih =>
    rw [spW, cutB, ih]
    cases cutB 32 l <;> rfl
theorem wdsE_words (r : List UInt8) : ((wdsE (mkB r)).map fun b => b.data.toList) = wordsR r := by
  unfold wdsE wordsR wds
  rw [mkB_size, mkB_list, spW_cut]
  by_cases h : r = []
  · subst h; simp
  · have h2 : ¬ r.length = 0 := fun e => h (List.eq_nil_of_length_eq_zero e)
    rw [if_neg h, if_neg h2, List.map_map]
    have e : ((fun b : ByteArray => b.data.toList) ∘ mkB) = id := by funext x; rfl
    rw [e, List.map_id]
theorem cutB_cover (c : UInt8) (l : List UInt8) : ∀ x ∈ l, x = c ∨ ∃ p ∈ cutB c l, x ∈ p := by
  induction l with
  | nil => intro x hx; cases hx
  | cons a l ih =>
    intro x hx
    rw [cutB]
    split
    · rename_i h
      rcases List.mem_cons.1 hx with rfl | hx
      · exact .inl h
      · rcases ih x hx with h2 | ⟨p, hp, h2⟩
        · exact .inl h2
        · exact .inr ⟨p, List.mem_cons_of_mem _ hp, h2⟩
    · split
      · rename_i he; exact absurd he (cutB_ne c l)
      · rename_i p ps he
        rcases List.mem_cons.1 hx with rfl | hx
        · exact .inr ⟨_, List.mem_cons_self, List.mem_cons_self⟩
        · rcases ih x hx with h2 | ⟨q, hq, h2⟩
          · exact .inl h2
          · rw [he] at hq
            rcases List.mem_cons.1 hq with rfl | hq
            · exact .inr ⟨_, List.mem_cons_self, List.mem_cons_of_mem _ h2⟩
            · exact .inr ⟨q, List.mem_cons_of_mem _ hq, h2⟩
theorem okB_word {x : List UInt8} (h : okWord x = true) : ∀ c ∈ x, okB c = true := by
  intro c hc
  unfold okWord at h
  simp only [Bool.and_eq_true] at h
  have h2 := List.all_eq_true.1 h.2 c hc
  simp only [Bool.and_eq_true, bne_iff_ne, ne_eq, decide_eq_true_eq] at h2
  unfold okB
  obtain ⟨h3, ⟨h4, h5⟩, h6, h7, h8, h9⟩ : c.toNat < 128 ∧ (c ≠ 10 ∧ c ≠ 32) ∧ c ≠ 9 ∧ c ≠ 11 ∧ c ≠ 12 ∧ c ≠ 13 := by
    refine ⟨?_, ⟨?_, ?_⟩, ?_, ?_, ?_, ?_⟩ <;> simp_all
  simp [h3, h4, h5, h6, h7, h8, h9]
theorem okT_rule {r : List UInt8} (h : ∀ x ∈ wordsR r, okWord x = true) : (mkB r).size ≠ 0 → okT (mkB r) := by
  intro hz
  have hr : r ≠ [] := fun e => hz (by rw [e]; rfl)
  have hw : wordsR r = cutB 32 r := by unfold wordsR; rw [if_neg hr]
  rw [hw] at h
  refine ⟨fun x hx => ?_, fun j hj => ?_⟩
  · unfold wds at hx
    rw [mkB_list, spW_cut] at hx
    obtain ⟨y, hy, rfl⟩ := List.mem_map.1 hx
    rw [mkB_size]
    intro e
    have := h y hy
    rw [List.eq_nil_of_length_eq_zero e] at this
    simp [okWord] at this
  · have hm : (mkB r)[j] ∈ r := by
      have := bat_get (mkB r) j hj
      rw [mkB_list] at this
      exact List.mem_of_getElem? this
    rcases cutB_cover 32 r _ hm with h2 | ⟨p, hp, h2⟩
    · rw [h2]; decide
    · exact okB_word (h p hp) _ h2
/-- whether a line's words hold a text is told by its rule's head -/
def textLine (l : List UInt8) : Bool := decide (l.length ≤ 1000) && (((cutB 32 l).drop 2).contains textW == textW.isPrefixOf (joinB 32 ((cutB 32 l).drop 2)))
theorem ruleLs_text : ruleLs.all textLine = true := by kernel_rfl
theorem rule_facts {pg : Int} {nm : List UInt8} (hn : 32 ∉ nm) {r : List UInt8} (h : ruleF pg nm = some r) :
    (∀ x ∈ wordsR r, okWord x = true) ∧ r.length ≤ 1000 ∧ (wordsR r).contains textW = textW.isPrefixOf r := by
  rcases find_both (hdL pg nm) ruleLs with ⟨a, b⟩ | ⟨a, b, c⟩ | ⟨q, a, b, c⟩
  · rw [show ruleF pg nm = findR (hdL pg nm) ruleLs from rfl, a] at h; cases h
  · rw [show ruleF pg nm = findR (hdL pg nm) ruleLs from rfl, a] at h
    obtain rfl : ([] : List UInt8) = r := Option.some.inj h
    refine ⟨fun x hx => ?_, by simp, rfl⟩
    unfold wordsR at hx; simp at hx
  · rw [show ruleF pg nm = findR (hdL pg nm) ruleLs from rfl, a] at h
    obtain rfl : q = r := Option.some.inj h
    obtain ⟨h1, h2⟩ := okLine_words hn c
    have h3 := List.all_eq_true.1 ruleLs_text _ c
    unfold textLine at h3
    rw [cut_hd pg nm q hn] at h3
    simp only [List.drop_succ_cons, List.drop_zero, Bool.and_eq_true, decide_eq_true_eq, beq_iff_eq] at h3
    rw [join_cut] at h3
    have hw : wordsR q = cutB 32 q := by unfold wordsR; rw [if_neg h1]
    rw [hw]
    refine ⟨h2, ?_, h3.2⟩
    have := h3.1
    simp at this; omega

/-- what is wrong with an element by its rule -/
noncomputable def chkR1 (x : Tr) : Int :=
  match ruleF x.page x.name.data.toList with
  | none => 14
  | some r => if x.text.size ≠ 0 ∧ (wordsR r).contains textW = false then 3 else if fitsW x.page (wordsR r) x.kids = false then 15 else 0
/-- the first that is wrong, and its number -/
noncomputable def chkL : List Tr → Nat → Nat × Int
  | [], _ => (0, 0)
  | x :: l, n => if chkR1 x = 0 then chkL l (n + 1) else (n + 1, chkR1 x)
theorem chkL_ok {n : Nat} : ∀ (l : List Tr), (∀ x ∈ l, chkR1 x = 0) → chkL l n = (0, 0) := by
  intro l
  induction l generalizing n with
  | nil => intro _; rfl
  | cons x l ih => intro h; rw [chkL, if_pos (h x (by simp)), ih (fun y hy => h y (by simp [hy]))]
theorem chkL_at {n : Nat} : ∀ (pre : List Tr) (x : Tr) (post : List Tr), (∀ y ∈ pre, chkR1 y = 0) → chkR1 x ≠ 0 → chkL (pre ++ x :: post) n = (n + pre.length + 1, chkR1 x) := by
  intro pre
  induction pre generalizing n with
  | nil => intro x post _ h; rw [List.nil_append, chkL, if_neg h]; rfl
  | cons y pre ih =>
    intro x post h1 h2
    rw [List.cons_append, chkL, if_pos (h1 y (by simp)), ih x post (fun z hz => h1 z (by simp [hz])) h2]
    simp; omega
/-- an element, and all within it -/
noncomputable def chkG (e : Tr) : Nat × Int := if chkA e = 0 then chkL ((preT 20 1 e).map (·.2)) 0 else (0, chkA e)

/-- what is known of an element that is right, and of all within it -/
theorem firstC_all : ∀ (L : List (Nat × Tr)), firstC L = 0 → ∀ p ∈ L, chkT p.2 = 0 := by
  intro L
  induction L with
  | nil => intro _ p hp; cases hp
  | cons q l ih =>
    intro h p hp
    rw [firstC] at h
    by_cases hq : chkT q.2 = 0
    · rw [if_pos hq] at h
      rcases List.mem_cons.1 hp with rfl | hp
      · exact hq
      · exact ih h p hp
    · rw [if_neg hq] at h; exact absurd h hq
theorem chkV_name {p : Int} {nm tx : ByteArray} {o : Bool} {n : Nat} (h : chkV p nm tx o n = 0) : 0 ≤ p ∧ p ≤ 2 ∧ nameB nm = true ∧ nm.size ≤ 32 ∧ n ≤ 200 ∧ tx.size ≤ 4000 := by
  unfold chkV at h
  by_cases h1 : p < 0 ∨ 3 ≤ p
  · rw [if_pos h1] at h; omega
  rw [if_neg h1] at h
  by_cases h2 : nameB nm = false
  · rw [if_pos h2] at h; omega
  rw [if_neg h2] at h
  by_cases h3 : 200 < n
  · rw [if_pos h3] at h; omega
  rw [if_neg h3] at h
  by_cases h4 : 0 < n ∧ tx.size ≠ 0
  · rw [if_pos h4] at h; omega
  rw [if_neg h4] at h
  by_cases h5 : 4000 < tx.size
  · rw [if_pos h5] at h; omega
  have h6 : nameB nm = true := by simpa using h2
  have h7 : nm.size ≤ 32 := by
    unfold nameB at h6
    simp only [Bool.and_eq_true, decide_eq_true_eq] at h6
    exact h6.2.1
  exact ⟨by omega, by omega, h6, h7, by omega, by omega⟩
theorem chkA_zero {e : Tr} (h : chkA e = 0) : hT e ≤ 12 ∧ (preT 5000 1 e).length ≤ 2000 ∧ firstC (preT 13 1 e) = 0 := by
  have h1 : ¬ 12 < deepC ((preT 13 1 e).take 5000) := fun k => by unfold chkA at h; rw [if_pos k] at h; cases h
  have h2 : ¬ 2000 < wgt e := fun k => by unfold chkA at h; rw [if_neg h1, if_pos k] at h; cases h
  obtain ⟨g1, g2, g3⟩ := chkA_plain h1 h2
  exact ⟨g1, g3, by rw [← chkA_of g1 g3]; exact h⟩
theorem chkA_mem {e : Tr} (h : chkA e = 0) {x : Tr} (hx : x ∈ (preT 20 1 e).map (·.2)) : 0 ≤ x.page ∧ x.page ≤ 2 ∧ nameB x.name = true ∧ x.name.size ≤ 32 ∧ x.kids.length ≤ 200 ∧ x.text.size ≤ 4000 := by
  obtain ⟨g1, g2, g3⟩ := chkA_zero h
  obtain ⟨p, hp, rfl⟩ := List.mem_map.1 hx
  rw [preT_full (m := 20) (m' := 13) 1 e (by omega) (by omega)] at hp
  exact chkV_name (firstC_all _ g3 p hp)
theorem chkA_len {e : Tr} (h : chkA e = 0) : (preT 20 1 e).length ≤ 2000 := by
  obtain ⟨g1, g2, g3⟩ := chkA_zero h
  rw [preT_full (m := 20) (m' := 5000) 1 e (by omega) (by omega)]
  exact g2
end Go.Proofs.YtgechifbbhipaaaDoor
