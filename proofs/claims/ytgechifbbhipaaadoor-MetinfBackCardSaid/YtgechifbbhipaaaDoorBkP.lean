/- metinf, in plain Lean: what may be said is what its element says; what an element says has that element again. No program is walked here. -/
import Derived.Test.YtgechifbbhipaaaDoorMeP
import Derived.Test.YtgechifbbhipaaaDoorMeD
import Derived.Test.YtgechifbbhipaaaDoorFigP
import Derived.Lib.ValidLaws
set_option linter.unusedVariables false
set_option linter.unusedSimpArgs false
namespace Go.Proofs.YtgechifbbhipaaaDoor
open Go.RowKit

def wFormat : List UInt8 := [49, 46, 70, 111, 114, 109, 97, 116, 63]
def wType : List UInt8 := [49, 46, 84, 121, 112, 101, 63]
def wSize : List UInt8 := [49, 46, 83, 105, 122, 101, 63]
def wAnchor : List UInt8 := [49, 46, 65, 110, 99, 104, 111, 114, 63]
def wVersion : List UInt8 := [49, 46, 86, 101, 114, 115, 105, 111, 110, 63]
def wNonce : List UInt8 := [49, 46, 78, 101, 120, 116, 78, 111, 110, 99, 101, 63]
def wMaxMsg : List UInt8 := [49, 46, 77, 97, 120, 77, 115, 103, 83, 105, 122, 101, 63]
def wMaxObj : List UInt8 := [49, 46, 77, 97, 120, 79, 98, 106, 83, 105, 122, 101, 63]
def wLast : List UInt8 := [76, 97, 115, 116, 63]
def wNext : List UInt8 := [78, 101, 120, 116]
def metaWs : List (List UInt8) := [wFormat, wType, wSize, wAnchor, wVersion, wNonce, wMaxMsg, wMaxObj]
def leafNs : List ByteArray := [nFormat, nType, nSize, nVersion, nNextNonce, nMaxMsgSize, nMaxObjSize, nLast, nNext]
theorem meta_rule : (ruleF 0 metaN.data.toList).map wordsR = some metaWs := by kernel_rfl
theorem anchor_rule : (ruleF 1 nAnchor.data.toList).map wordsR = some [wLast, wNext] := by kernel_rfl
theorem leaf_rules : leafNs.all (fun nm => decide ((ruleF 1 nm.data.toList).map wordsR = some [textW])) = true := by kernel_rfl
theorem leaf_rule {nm : ByteArray} (h : nm ∈ leafNs) : (ruleF 1 nm.data.toList).map wordsR = some [textW] := of_decide_eq_true (List.all_eq_true.1 leaf_rules nm h)
theorem leaf_names : leafNs.all nameB = true := by kernel_rfl

theorem takes1_iff {pg p : Int} {n nm : List UInt8} : takes1 pg n p nm = true ↔ (p, nm) = candW pg n := by
  unfold takes1 candW
  split <;> simp [Prod.ext_iff]
/-- a word, and the one name that it takes -/
def WordIs (pg : Int) (w : List UInt8) (nm : ByteArray) : Prop := w ≠ textW ∧ (w.getLast? = some 63 ∨ (w.getLast? ≠ some 63 ∧ w.getLast? ≠ some 42 ∧ w.getLast? ≠ some 43)) ∧ ∀ k : Tr, takesB pg (namesW w) k = true ↔ (k.page = 1 ∧ k.name = nm)
theorem wordIs {pg : Int} {w x : List UInt8} {nm : ByteArray} (h1 : w ≠ textW) (h2 : w.getLast? = some 63 ∨ (w.getLast? ≠ some 63 ∧ w.getLast? ≠ some 42 ∧ w.getLast? ≠ some 43)) (hc : cutB 124 (namesW w) = [x]) (hx : candW pg x = (1, nm.data.toList)) : WordIs pg w nm := by
  refine ⟨h1, h2, fun k => ?_⟩
  unfold takesB takesV
  rw [hc]
  simp only [List.any_cons, List.any_nil, Bool.or_false]
  rw [takes1_iff, hx, Prod.mk.injEq]
  exact ⟨fun ⟨a, b⟩ => ⟨a, Go.WideShapes.bytes_inj b⟩, fun ⟨a, b⟩ => ⟨a, by rw [b]⟩⟩
theorem wFormat_is : WordIs 0 wFormat nFormat := wordIs (x := [49, 46, 70, 111, 114, 109, 97, 116]) (by decide) (.inl (by decide)) (by decide) (by decide)
theorem wType_is : WordIs 0 wType nType := wordIs (x := [49, 46, 84, 121, 112, 101]) (by decide) (.inl (by decide)) (by decide) (by decide)
theorem wSize_is : WordIs 0 wSize nSize := wordIs (x := [49, 46, 83, 105, 122, 101]) (by decide) (.inl (by decide)) (by decide) (by decide)
theorem wAnchor_is : WordIs 0 wAnchor nAnchor := wordIs (x := [49, 46, 65, 110, 99, 104, 111, 114]) (by decide) (.inl (by decide)) (by decide) (by decide)
theorem wVersion_is : WordIs 0 wVersion nVersion := wordIs (x := [49, 46, 86, 101, 114, 115, 105, 111, 110]) (by decide) (.inl (by decide)) (by decide) (by decide)
theorem wNonce_is : WordIs 0 wNonce nNextNonce := wordIs (x := [49, 46, 78, 101, 120, 116, 78, 111, 110, 99, 101]) (by decide) (.inl (by decide)) (by decide) (by decide)
theorem wMaxMsg_is : WordIs 0 wMaxMsg nMaxMsgSize := wordIs (x := [49, 46, 77, 97, 120, 77, 115, 103, 83, 105, 122, 101]) (by decide) (.inl (by decide)) (by decide) (by decide)
theorem wMaxObj_is : WordIs 0 wMaxObj nMaxObjSize := wordIs (x := [49, 46, 77, 97, 120, 79, 98, 106, 83, 105, 122, 101]) (by decide) (.inl (by decide)) (by decide) (by decide)
theorem wLast_is : WordIs 1 wLast nLast := wordIs (x := [76, 97, 115, 116]) (by decide) (.inl (by decide)) (by decide) (by decide)
theorem wNext_is : WordIs 1 wNext nNext := wordIs (x := [78, 101, 120, 116]) (by decide) (.inr (by decide)) (by decide) (by decide)

theorem fits_step {pg : Int} {w : List UInt8} {nm : ByteArray} {ws : List (List UInt8)} {ks : List Tr} (hw : WordIs pg w nm) (hq : w.getLast? = some 63) (h : fitsW pg (w :: ws) ks = true) :
    (∃ k ks', ks = k :: ks' ∧ (k.page = 1 ∧ k.name = nm) ∧ fitsW pg ws ks' = true) ∨ fitsW pg ws ks = true := by
  rw [fitsW, if_neg hw.1, if_neg (by rintro ⟨_, h2, _⟩; exact h2 hq)] at h
  unfold takeW at h
  rw [if_neg (by rw [hq]; decide)] at h
  match ks with
  | [] => exact .inr h
  | k :: ks' =>
    by_cases hk : takesB pg (namesW w) k = true
    · simp only [hk, if_true] at h
      exact .inl ⟨k, ks', rfl, (hw.2.2 k).1 hk, h⟩
    · simp only [hk, if_false] at h
      exact .inr h
theorem fits_must {pg : Int} {w : List UInt8} {nm : ByteArray} {ws : List (List UInt8)} {ks : List Tr} (hw : WordIs pg w nm) (hq : w.getLast? ≠ some 63) (h : fitsW pg (w :: ws) ks = true) :
    ∃ k ks', ks = k :: ks' ∧ (k.page = 1 ∧ k.name = nm) ∧ fitsW pg ws ks' = true := by
  obtain ⟨h1, h2, h3⟩ := hw
  obtain ⟨q1, q2, q3⟩ := h2.resolve_left hq
  rw [fitsW, if_neg h1] at h
  unfold takeW at h
  have hno : ¬ (w.getLast? = some 42 ∨ w.getLast? = some 43) := fun e => e.elim q2 q3
  rw [if_neg hno] at h
  match ks with
  | [] => rw [if_pos ⟨rfl, q1, q2⟩] at h; cases h
  | k :: ks' =>
    by_cases hk : takesB pg (namesW w) k = true
    · simp only [hk, if_true] at h
      rw [if_neg (by rintro ⟨e, _⟩; cases e)] at h
      exact ⟨k, ks', rfl, (h3 k).1 hk, h⟩
    · simp only [hk, if_false] at h
      rw [if_pos ⟨rfl, q1, q2⟩] at h; cases h
theorem fits_put {pg : Int} {w : List UInt8} {nm : ByteArray} {ws : List (List UInt8)} {k : Tr} {ks : List Tr} (hw : WordIs pg w nm) (hp : k.page = 1) (hn : k.name = nm) (h : fitsW pg ws ks = true) : fitsW pg (w :: ws) (k :: ks) = true := by
  have hk := (hw.2.2 k).2 ⟨hp, hn⟩
  have ht : takeW pg w (k :: ks) = 1 := by
    unfold takeW
    have hno : ¬ (w.getLast? = some 42 ∨ w.getLast? = some 43) := by
      rcases hw.2.1 with e | ⟨_, e2, e3⟩
      · rw [e]; decide
      · exact fun e => e.elim e2 e3
    rw [if_neg hno]
    simp only [hk, if_true]
  rw [fitsW, if_neg hw.1, ht, if_neg (by rintro ⟨e, _⟩; cases e)]
  exact h
theorem fits_skip {pg : Int} {w : List UInt8} {nm : ByteArray} {ws : List (List UInt8)} {ks : List Tr} (hw : WordIs pg w nm) (hq : w.getLast? = some 63) (hk : ∀ k ∈ ks, k.name ≠ nm) (h : fitsW pg ws ks = true) : fitsW pg (w :: ws) ks = true := by
  have ht : takeW pg w ks = 0 := by
    unfold takeW
    rw [if_neg (by rw [hq]; decide)]
    match ks with
    | [] => rfl
    | k :: ks' =>
      have hk2 : ¬ takesB pg (namesW w) k = true := fun e => hk k List.mem_cons_self ((hw.2.2 k).1 e).2
      simp only [hk2, if_false]
      rfl
  rw [fitsW, if_neg hw.1, ht, if_neg (by rintro ⟨_, h2, _⟩; exact h2 hq)]
  exact h

/-! ### what an element says has that element again -/
def GoodK (k : Tr) : Prop := ((chkG k).2 = 0 ∧ badE k = false) ∧ ∀ q ∈ k.kids, (chkG q).2 = 0 ∧ badE q = false
theorem size0 {t : ByteArray} (h : t.size = 0) : t = ⟨#[]⟩ := empty_of_size t h
theorem leaf_is {k : Tr} {nm : ByteArray} (h : (chkG k).2 = 0 ∧ badE k = false) (hp : k.page = 1) (hn : k.name = nm) (hl : nm ∈ leafNs) : k = .mk 1 nm k.text false [] ∧ k.text.size ≠ 0 := by
  obtain ⟨r, h1, h2, _⟩ := chkG_self h.1
  have hr := leaf_rule hl
  rw [hp, hn] at h1
  rw [h1] at hr
  have hr2 : wordsR r = [textW] := by simpa using hr
  rw [hr2, fitsW, if_pos rfl, fitsW, List.isEmpty_iff] at h2
  have hb := h.2
  unfold badE at hb
  rw [h2, Bool.or_eq_false_iff] at hb
  obtain ⟨hb1, hb2⟩ := hb
  have hb3 : k.text.size ≠ 0 := fun e => by
    rw [decide_eq_true e] at hb2
    exact absurd hb2 (by decide)
  clear hb2 h hr hr2 h1
  obtain ⟨p, n, t, o, ks⟩ := k
  simp only [Tr.page, Tr.name, Tr.text, Tr.opq, Tr.kids] at hb1 hb3 hp hn h2 ⊢
  subst hp hn h2 hb1
  exact ⟨rfl, hb3⟩
theorem say_one {nm t : ByteArray} (h : t.size ≠ 0) : sayL nm t = [.mk 1 nm t false []] := if_neg h
theorem say_none {nm t : ByteArray} (h : t.size = 0) : sayL nm t = [] := if_pos h
theorem read_say {w : List UInt8} {nm : ByteArray} (hw : WordIs 0 w nm) (hq : w.getLast? = some 63) (hl : nm ∈ leafNs) (set : MetV → ByteArray → MetV) (htake : ∀ m tx ks, takeV m nm tx ks = (set m tx, 0)) {ws : List (List UInt8)} {ks : List Tr} {m n : MetV} (hset : set m ⟨#[]⟩ = m)
    (h : fitsW 0 (w :: ws) ks = true) (hf : foldV m ks = (n, 0)) (hg : ∀ k ∈ ks, GoodK k) :
    ∃ t ks', ks = sayL nm t ++ ks' ∧ fitsW 0 ws ks' = true ∧ foldV (set m t) ks' = (n, 0) ∧ ∀ k ∈ ks', GoodK k := by
  rcases fits_step hw hq h with ⟨k, ks', rfl, ⟨hp, hn⟩, h2⟩ | h2
  · obtain ⟨h3, h4⟩ := leaf_is (hg k List.mem_cons_self).1 hp hn hl
    refine ⟨k.text, ks', ?_, h2, ?_, fun x hx => hg x (List.mem_cons_of_mem _ hx)⟩
    · rw [say_one h4]
      exact congrArg (· :: ks') h3
    · rw [foldV] at hf
      unfold takeK at hf
      rw [hn, htake, if_pos rfl] at hf
      exact hf
  · exact ⟨⟨#[]⟩, ks, by rw [say_none rfl]; rfl, h2, by rw [hset]; exact hf, hg⟩
theorem read_num {w : List UInt8} {nm : ByteArray} (hw : WordIs 0 w nm) (hq : w.getLast? = some 63) (hl : nm ∈ leafNs) (set : MetV → Int → MetV) (htake : ∀ m tx ks, takeV m nm tx ks = (set m (cntV tx).1, (cntV tx).2)) {ws : List (List UInt8)} {ks : List Tr} {m n : MetV} (hset : set m 0 = m)
    (h : fitsW 0 (w :: ws) ks = true) (hf : foldV m ks = (n, 0)) (hg : ∀ k ∈ ks, GoodK k) :
    ∃ t ks', ks = numL nm t ++ ks' ∧ fitsW 0 ws ks' = true ∧ foldV (set m t) ks' = (n, 0) ∧ ∀ k ∈ ks', GoodK k := by
  rcases fits_step hw hq h with ⟨k, ks', rfl, ⟨hp, hn⟩, h2⟩ | h2
  · obtain ⟨h3, h4⟩ := leaf_is (hg k List.mem_cons_self).1 hp hn hl
    rw [foldV] at hf
    unfold takeK at hf
    rw [hn, htake] at hf
    by_cases hc : (cntV k.text).2 = 0
    · rw [if_pos hc] at hf
      refine ⟨(cntV k.text).1, ks', ?_, h2, hf, fun x hx => hg x (List.mem_cons_of_mem _ hx)⟩
      unfold cntV at hc ⊢
      simp only at hc ⊢
      split at hc
      · exact absurd hc (by decide)
      · rename_i hz
        have hr : rdS k.text = ((rdS k.text).1, 0) := Prod.ext rfl hc
        have hn0 : (rdS k.text).1 ≠ 0 := fun e => hz ⟨hc, e⟩
        unfold numL numT
        rw [if_neg hn0, text_read hr]
        exact congrArg (· :: ks') h3
    · rw [if_neg hc] at hf
      exact absurd (congrArg Prod.snd hf) hc
  · exact ⟨0, ks, rfl, h2, by rw [hset]; exact hf, hg⟩
def ancL (la ne : ByteArray) : List Tr := if ne.size = 0 then [] else [anchorT la ne]
theorem flK_say {key nm t : ByteArray} {l : List Tr} (h : nm ≠ key) : flK key (sayL nm t ++ l) = flK key l := by
  unfold flK sayL
  split
  · rfl
  · rw [List.singleton_append, List.filter_cons_of_neg]
    show ¬ decide (nm = key) = true
    rw [decide_eq_true_eq]; exact h
theorem textK_of {key t : ByteArray} {k : Tr} {l : List Tr} {ks : List Tr} (h : flK key ks = k :: l) (ht : k.text = t) : (textK ks key).1 = t := by unfold textK; rw [h]; exact ht
theorem text_last (la ne : ByteArray) : (textK (sayL nLast la ++ [.mk 1 nNext ne false []]) nLast).1 = la := by
  by_cases h : la.size = 0
  · rw [say_none h]
    have hf : flK nLast ([] ++ [.mk 1 nNext ne false []]) = [] := by
      unfold flK
      rw [List.nil_append, List.filter_cons_of_neg (by rw [decide_eq_true_eq]; show ¬ nNext = nLast; decide)]; rfl
    unfold textK
    rw [hf]
    exact (size0 h).symm
  · rw [say_one h]
    refine textK_of (k := .mk 1 nLast la false []) (l := flK nLast [.mk 1 nNext ne false []]) ?_ rfl
    unfold flK
    rw [List.singleton_append, List.filter_cons_of_pos (by simp [Tr.name])]
theorem text_next (la ne : ByteArray) : (textK (sayL nLast la ++ [.mk 1 nNext ne false []]) nNext).1 = ne := by
  refine textK_of (k := .mk 1 nNext ne false []) (l := []) ?_ rfl
  rw [flK_say (by decide)]
  unfold flK
  rw [List.filter_cons_of_pos (by simp [Tr.name])]; rfl
theorem take_anchor (m : MetV) (la ne tx : ByteArray) : takeV m nAnchor tx (sayL nLast la ++ [.mk 1 nNext ne false []]) = ({ m with la := la, ne := ne }, 0) := by
  unfold takeV
  rw [if_neg (by decide), if_neg (by decide), if_neg (by decide), if_pos rfl, text_last, text_next]
theorem anchor_is {k : Tr} (h : GoodK k) (hp : k.page = 1) (hn : k.name = nAnchor) : ∃ la ne, k = anchorT la ne ∧ ne.size ≠ 0 := by
  obtain ⟨r, h1, h2, h3, _⟩ := chkG_self h.1.1
  have hr := anchor_rule
  rw [hp, hn] at h1
  rw [h1] at hr
  have hr2 : wordsR r = [wLast, wNext] := by simpa using hr
  have hR := (chkG_zero h.1.1).2 k (by rw [preT_in (by omega)]; simp)
  unfold chkR1 at hR
  rw [hp, hn, h1] at hR
  simp only [hr2] at hR
  rw [hr2, hp] at h2
  have ht : k.text.size = 0 := by
    refine Decidable.byContradiction fun e => ?_
    rw [if_pos ⟨e, by decide⟩] at hR
    exact absurd hR (by decide)
  have ho : k.opq = false := by
    have hb := h.1.2
    unfold badE at hb
    simp at hb
    exact hb.1
  have hke : ∀ ks, k.kids = ks → k = .mk 1 nAnchor ByteArray.empty false ks := by
    intro ks hks
    obtain ⟨p, n, t, o, kk⟩ := k
    simp only [Tr.page, Tr.name, Tr.text, Tr.opq, Tr.kids] at *
    subst hp hn ho hks
    rw [size0 ht]; rfl
  have hnext : ∀ ks, (∀ q ∈ ks, (chkG q).2 = 0 ∧ badE q = false) → fitsW 1 [wNext] ks = true → ∃ ne, ks = [.mk 1 nNext ne false []] ∧ ne.size ≠ 0 := by
    intro ks hg hf
    obtain ⟨q, qs, rfl, ⟨q1, q2⟩, q3⟩ := fits_must wNext_is (by decide) hf
    rw [fitsW, List.isEmpty_iff] at q3
    subst q3
    obtain ⟨h4, h5⟩ := leaf_is (hg q List.mem_cons_self) q1 q2 (by unfold leafNs; simp)
    exact ⟨q.text, by rw [← h4], h5⟩
  have hkk := h.2
  rcases fits_step wLast_is (by decide) h2 with ⟨q, qs, hks, ⟨q1, q2⟩, q3⟩ | q3
  · rw [hks] at hkk
    obtain ⟨h4, h5⟩ := leaf_is (hkk q List.mem_cons_self) q1 q2 (by unfold leafNs; simp)
    obtain ⟨ne, h6, h7⟩ := hnext qs (fun x hx => hkk x (List.mem_cons_of_mem _ hx)) q3
    refine ⟨q.text, ne, ?_, h7⟩
    rw [hke _ hks, anchorT, say_one h5, h6, ← h4]; rfl
  · obtain ⟨ne, h6, h7⟩ := hnext _ hkk q3
    exact ⟨⟨#[]⟩, ne, by rw [hke _ h6, anchorT, say_none rfl]; rfl, h7⟩
theorem read_anchor {ws : List (List UInt8)} {ks : List Tr} {m n : MetV} (hset : { m with la := ⟨#[]⟩, ne := ⟨#[]⟩ } = m)
    (h : fitsW 0 (wAnchor :: ws) ks = true) (hf : foldV m ks = (n, 0)) (hg : ∀ k ∈ ks, GoodK k) :
    ∃ la ne ks', ks = ancL la ne ++ ks' ∧ fitsW 0 ws ks' = true ∧ foldV { m with la := la, ne := ne } ks' = (n, 0) ∧ ∀ k ∈ ks', GoodK k := by
  rcases fits_step wAnchor_is (by decide) h with ⟨k, ks', rfl, ⟨hp, hn⟩, h2⟩ | h2
  · obtain ⟨la, ne, rfl, h3⟩ := anchor_is (hg k List.mem_cons_self) hp hn
    refine ⟨la, ne, ks', ?_, h2, ?_, fun x hx => hg x (List.mem_cons_of_mem _ hx)⟩
    · unfold ancL; rw [if_neg h3]; rfl
    · rw [foldV] at hf
      have ht : takeK m (anchorT la ne) = ({ m with la := la, ne := ne }, 0) := take_anchor m la ne ByteArray.empty
      rw [ht, if_pos rfl] at hf
      exact hf
  · exact ⟨⟨#[]⟩, ⟨#[]⟩, ks, rfl, h2, by rw [hset]; exact hf, hg⟩
theorem take_fo (m : MetV) (tx : ByteArray) (ks : List Tr) : takeV m nFormat tx ks = ({ m with fo := tx }, 0) := by unfold takeV; rw [if_pos rfl]
theorem take_ty (m : MetV) (tx : ByteArray) (ks : List Tr) : takeV m nType tx ks = ({ m with ty := tx }, 0) := by unfold takeV; rw [if_neg (by decide), if_pos rfl]
theorem take_sz (m : MetV) (tx : ByteArray) (ks : List Tr) : takeV m nSize tx ks = ({ m with sz := (cntV tx).1 }, (cntV tx).2) := by unfold takeV; rw [if_neg (by decide), if_neg (by decide), if_neg (by decide), if_neg (by decide), if_pos rfl]
theorem take_ve (m : MetV) (tx : ByteArray) (ks : List Tr) : takeV m nVersion tx ks = ({ m with ve := (cntV tx).1 }, (cntV tx).2) := by unfold takeV; rw [if_neg (by decide), if_neg (by decide), if_neg (by decide), if_neg (by decide), if_neg (by decide), if_pos rfl]
theorem take_no (m : MetV) (tx : ByteArray) (ks : List Tr) : takeV m nNextNonce tx ks = ({ m with no := tx }, 0) := by unfold takeV; rw [if_neg (by decide), if_neg (by decide), if_pos rfl]
theorem take_mm (m : MetV) (tx : ByteArray) (ks : List Tr) : takeV m nMaxMsgSize tx ks = ({ m with mm := (cntV tx).1 }, (cntV tx).2) := by unfold takeV; rw [if_neg (by decide), if_neg (by decide), if_neg (by decide), if_neg (by decide), if_neg (by decide), if_neg (by decide), if_pos rfl]
theorem take_mo (m : MetV) (tx : ByteArray) (ks : List Tr) : takeV m nMaxObjSize tx ks = ({ m with mo := (cntV tx).1 }, (cntV tx).2) := by unfold takeV; rw [if_neg (by decide), if_neg (by decide), if_neg (by decide), if_neg (by decide), if_neg (by decide), if_neg (by decide), if_neg (by decide), if_pos rfl]
def saidR (m : MetV) : List Tr := sayL nFormat m.fo ++ (sayL nType m.ty ++ (numL nSize m.sz ++ (ancL m.la m.ne ++ (numL nVersion m.ve ++ (sayL nNextNonce m.no ++ (numL nMaxMsgSize m.mm ++ (numL nMaxObjSize m.mo ++ [])))))))
theorem said_eq (m : MetV) : saidL m.fo m.ty m.sz m.ve m.la m.ne m.no m.mm m.mo = saidR m := by
  unfold saidL saidR ancL
  simp only [List.append_assoc, List.append_nil]
def elemV (m : MetV) : Tr := elemM m.fo m.ty m.sz m.ve m.la m.ne m.no m.mm m.mo
theorem read_all {ks : List Tr} {n : MetV} (h : fitsW 0 metaWs ks = true) (hf : foldV met0 ks = (n, 0)) (hg : ∀ k ∈ ks, GoodK k) : ks = saidR n := by
  unfold metaWs at h
  obtain ⟨fo, k1, e1, p1, f1, g1⟩ := read_say wFormat_is (by decide) (by unfold leafNs; simp) (fun m x => { m with fo := x }) take_fo rfl h hf hg
  obtain ⟨ty, k2, e2, p2, f2, g2⟩ := read_say wType_is (by decide) (by unfold leafNs; simp) (fun m x => { m with ty := x }) take_ty rfl p1 f1 g1
  obtain ⟨sz, k3, e3, p3, f3, g3⟩ := read_num wSize_is (by decide) (by unfold leafNs; simp) (fun m x => { m with sz := x }) take_sz rfl p2 f2 g2
  obtain ⟨la, ne, k4, e4, p4, f4, g4⟩ := read_anchor rfl p3 f3 g3
  obtain ⟨ve, k5, e5, p5, f5, g5⟩ := read_num wVersion_is (by decide) (by unfold leafNs; simp) (fun m x => { m with ve := x }) take_ve rfl p4 f4 g4
  obtain ⟨no, k6, e6, p6, f6, g6⟩ := read_say wNonce_is (by decide) (by unfold leafNs; simp) (fun m x => { m with no := x }) take_no rfl p5 f5 g5
  obtain ⟨mm, k7, e7, p7, f7, g7⟩ := read_num wMaxMsg_is (by decide) (by unfold leafNs; simp) (fun m x => { m with mm := x }) take_mm rfl p6 f6 g6
  obtain ⟨mo, k8, e8, p8, f8, g8⟩ := read_num wMaxObj_is (by decide) (by unfold leafNs; simp) (fun m x => { m with mo := x }) take_mo rfl p7 f7 g7
  rw [fitsW, List.isEmpty_iff] at p8
  subst p8
  rw [foldV] at f8
  injection f8 with f8 _
  subst f8
  rw [e1, e2, e3, e4, e5, e6, e7, e8]
  rfl
theorem back_elem {e : Tr} {n : MetV} (h : ofV e = (n, 0)) : elemV n = e := by
  by_cases hpn : e.page ≠ 0 ∨ e.name ≠ metaN
  · exfalso
    have hV : ofV e = (met0, 5) := by unfold ofV; rw [if_pos hpn]
    rw [hV] at h; have h5 : (5 : Int) = 0 := congrArg Prod.snd h; exact absurd h5 (by decide)
  · have hp : e.page = 0 := Decidable.byContradiction fun k => hpn (.inl k)
    have hn : e.name = metaN := Decidable.byContradiction fun k => hpn (.inr k)
    by_cases hg : (chkG e).2 = 0
    · unfold ofV at h
      rw [if_neg hpn, if_neg (fun k => k hg)] at h
      split at h
      · have h5 : (3 : Int) = 0 := congrArg Prod.snd h; exact absurd h5 (by decide)
      · rename_i hb
        have hbad : ∀ p ∈ preL 20 2 e.kids, badE p.2 = false := by
          intro p hp'
          rw [preT_in (by omega)] at hb
          have := List.any_eq_false.1 (Bool.not_eq_true _ ▸ hb) p (by simpa using hp')
          simpa using this
        have hGood : ∀ k ∈ e.kids, GoodK k := by
          intro k hk
          have hk1 : (2, k) ∈ preT 20 2 k := by rw [preT_in (by omega)]; exact List.mem_cons_self
          refine ⟨⟨chkG_kid hk hg, hbad _ (preL_mem hk _ hk1)⟩, fun q hq => ⟨chkG_kid hq (chkG_kid hk hg), ?_⟩⟩
          have hq1 : (3, q) ∈ preT 20 2 k := by
            rw [preT_in (by omega)]
            exact List.mem_cons_of_mem _ (preL_mem hq _ (by rw [preT_in (by omega)]; exact List.mem_cons_self))
          exact hbad _ (preL_mem hk _ hq1)
        obtain ⟨r, h1, h2, h3, _⟩ := chkG_self hg
        have hr := meta_rule
        rw [hp, hn] at h1
        rw [h1] at hr
        have hr2 : wordsR r = metaWs := by simpa using hr
        have hR := (chkG_zero hg).2 e (by rw [preT_in (by omega)]; simp)
        unfold chkR1 at hR
        rw [hp, hn, h1] at hR
        simp only [hr2] at hR
        rw [hr2, hp] at h2
        have ht : e.text.size = 0 := by
          refine Decidable.byContradiction fun x => ?_
          rw [if_pos ⟨x, by decide⟩] at hR
          exact absurd hR (by decide)
        have ho : e.opq = false := by
          obtain ⟨_, _, hc⟩ := chkA_zero h3
          have hc2 := firstC_all _ hc (1, e) (by rw [preT_in (by omega)]; exact List.mem_cons_self)
          unfold chkT chkV at hc2
          cases hoq : e.opq with
          | false => rfl
          | true =>
            rw [hoq] at hc2
            simp only at hc2
            repeat (split at hc2; · exact absurd hc2 (by decide))
            rename_i hx
            exact absurd (.inl ⟨trivial, ht⟩) hx
        have hfold : (foldV met0 e.kids).2 = 0 ∧ chkMV (foldV met0 e.kids).1 = 0 ∧ (foldV met0 e.kids).1 = n := by
          unfold sayV at h
          split at h
          · rename_i hz
            refine ⟨hz, ?_⟩
            unfold endV at h
            split at h
            · rename_i hc; exact ⟨hc, congrArg Prod.fst h⟩
            · rename_i hc; exact absurd (congrArg Prod.snd h) hc
          · rename_i hz; exact absurd (congrArg Prod.snd h) hz
        obtain ⟨f1, f2, f3⟩ := hfold
        have hf : foldV met0 e.kids = (n, 0) := Prod.ext f3 f1
        have hks := read_all h2 hf hGood
        rw [f3] at f2
        unfold elemV elemM
        unfold chkMV at f2
        rw [if_pos f2, said_eq, ← hks]
        obtain ⟨p, nn, t, o, kk⟩ := e
        simp only [Tr.page, Tr.name, Tr.text, Tr.opq, Tr.kids] at *
        subst hp hn ho
        rw [size0 ht]; rfl
    · exfalso
      have hV : ofV e = (met0, (chkG e).2) := by unfold ofV; rw [if_neg hpn, if_pos hg]
      rw [hV] at h
      exact hg (congrArg Prod.snd h)

/-! ### what may be said is what its element says -/
def NamesIn (S : List ByteArray) (ks : List Tr) : Prop := ∀ k ∈ ks, k.name ∈ S
theorem names_say {nm t : ByteArray} {S : List ByteArray} {ks : List Tr} (h : NamesIn S ks) : NamesIn (nm :: S) (sayL nm t ++ ks) := by
  intro k hk
  rcases List.mem_append.1 hk with hk | hk
  · unfold sayL at hk
    split at hk
    · cases hk
    · rw [List.mem_singleton.1 hk]; exact List.mem_cons_self
  · exact List.mem_cons_of_mem _ (h k hk)
theorem names_num {nm : ByteArray} {n : Int} {S : List ByteArray} {ks : List Tr} (h : NamesIn S ks) : NamesIn (nm :: S) (numL nm n ++ ks) := by
  intro k hk
  rcases List.mem_append.1 hk with hk | hk
  · unfold numL at hk
    split at hk
    · cases hk
    · rw [List.mem_singleton.1 hk]; exact List.mem_cons_self
  · exact List.mem_cons_of_mem _ (h k hk)
theorem names_anc {la ne : ByteArray} {S : List ByteArray} {ks : List Tr} (h : NamesIn S ks) : NamesIn (nAnchor :: S) (ancL la ne ++ ks) := by
  intro k hk
  rcases List.mem_append.1 hk with hk | hk
  · unfold ancL at hk
    split at hk
    · cases hk
    · rw [List.mem_singleton.1 hk]; exact List.mem_cons_self
  · exact List.mem_cons_of_mem _ (h k hk)
theorem NamesIn.no {nm : ByteArray} {S : List ByteArray} {ks : List Tr} (h : NamesIn S ks) (hn : nm ∉ S) : ∀ k ∈ ks, k.name ≠ nm := fun k hk e => hn (e ▸ h k hk)
/-- kids that fit, and say what they should -/
def SaysTo (ws : List (List UInt8)) (S : List ByteArray) (ks : List Tr) (m n : MetV) : Prop := fitsW 0 ws ks = true ∧ NamesIn S ks ∧ foldV m ks = (n, 0)
theorem put_say {w : List UInt8} {nm : ByteArray} (hw : WordIs 0 w nm) (hq : w.getLast? = some 63) (set : MetV → ByteArray → MetV) (htake : ∀ m tx ks, takeV m nm tx ks = (set m tx, 0)) {ws : List (List UInt8)} {S : List ByteArray} {ks : List Tr} {m n : MetV} {t : ByteArray} (hset : set m ⟨#[]⟩ = m) (hn : nm ∉ S)
    (h : SaysTo ws S ks (set m t) n) : SaysTo (w :: ws) (nm :: S) (sayL nm t ++ ks) m n := by
  obtain ⟨h1, h2, h3⟩ := h
  refine ⟨?_, names_say h2, ?_⟩
  · by_cases ht : t.size = 0
    · rw [say_none ht]; exact fits_skip hw hq (h2.no hn) h1
    · rw [say_one ht]; exact fits_put hw rfl rfl h1
  · by_cases ht : t.size = 0
    · rw [say_none ht]; rw [size0 ht, hset] at h3; exact h3
    · rw [say_one ht, List.singleton_append, foldV]
      have hk : takeK m (.mk 1 nm t false []) = (set m t, 0) := htake m t []
      rw [hk, if_pos rfl]; exact h3
theorem put_num {w : List UInt8} {nm : ByteArray} (hw : WordIs 0 w nm) (hq : w.getLast? = some 63) (set : MetV → Int → MetV) (htake : ∀ m tx ks, takeV m nm tx ks = (set m (cntV tx).1, (cntV tx).2)) {ws : List (List UInt8)} {S : List ByteArray} {ks : List Tr} {m n : MetV} {t : Int} (hset : set m 0 = m) (hn : nm ∉ S) (h0 : 0 ≤ t) (h9 : t ≤ 268435456)
    (h : SaysTo ws S ks (set m t) n) : SaysTo (w :: ws) (nm :: S) (numL nm t ++ ks) m n := by
  obtain ⟨h1, h2, h3⟩ := h
  refine ⟨?_, names_num h2, ?_⟩
  · unfold numL
    by_cases ht : t = 0
    · rw [if_pos ht]; exact fits_skip hw hq (h2.no hn) h1
    · rw [if_neg ht]; exact fits_put hw rfl rfl h1
  · unfold numL
    by_cases ht : t = 0
    · rw [if_pos ht]; rw [ht, hset] at h3; exact h3
    · rw [if_neg ht, List.singleton_append, foldV]
      have hr : rdS (numT t) = (t, 0) := by
        have h5 := read_text t (by omega) (by omega)
        rw [if_pos ⟨h0, h9⟩] at h5; exact h5
      have hc : cntV (numT t) = (t, 0) := by unfold cntV; rw [hr]; simp [ht]
      have hk : takeK m (.mk 1 nm (numT t) false []) = (set m t, 0) := by
        refine (htake m (numT t) []).trans ?_
        rw [hc]
      rw [hk, if_pos rfl]; exact h3
theorem put_anc {ws : List (List UInt8)} {S : List ByteArray} {ks : List Tr} {m n : MetV} {la ne : ByteArray} (hset : { m with la := ⟨#[]⟩, ne := ⟨#[]⟩ } = m) (hn : nAnchor ∉ S) (hl : la.size ≠ 0 → ne.size ≠ 0)
    (h : SaysTo ws S ks { m with la := la, ne := ne } n) : SaysTo (wAnchor :: ws) (nAnchor :: S) (ancL la ne ++ ks) m n := by
  obtain ⟨h1, h2, h3⟩ := h
  refine ⟨?_, names_anc h2, ?_⟩
  · unfold ancL
    by_cases ht : ne.size = 0
    · rw [if_pos ht]; exact fits_skip wAnchor_is (by decide) (h2.no hn) h1
    · rw [if_neg ht]; exact fits_put wAnchor_is rfl rfl h1
  · unfold ancL
    by_cases ht : ne.size = 0
    · have h0 : la.size = 0 := Decidable.byContradiction fun e => hl e ht
      rw [if_pos ht]; rw [size0 ht, size0 h0, hset] at h3; exact h3
    · rw [if_neg ht, List.singleton_append, foldV]
      have hk : takeK m (anchorT la ne) = ({ m with la := la, ne := ne }, 0) := take_anchor m la ne ByteArray.empty
      rw [hk, if_pos rfl]; exact h3
/-- what may be said: every text is shown, every number is a count -/
structure MayV (m : MetV) : Prop where
  fo : m.fo.size ≤ 200 ∧ shownB m.fo = true
  ty : m.ty.size ≤ 200 ∧ shownB m.ty = true
  no : m.no.size ≤ 200 ∧ shownB m.no = true
  la : m.la.size ≤ 200 ∧ shownB m.la = true
  ne : m.ne.size ≤ 200 ∧ shownB m.ne = true
  sz : 0 ≤ m.sz ∧ m.sz ≤ 268435456
  ve : 0 ≤ m.ve ∧ m.ve ≤ 268435456
  mm : 0 ≤ m.mm ∧ m.mm ≤ 268435456
  mo : 0 ≤ m.mo ∧ m.mo ≤ 268435456
  st : m.la.size ≠ 0 → m.ne.size ≠ 0
theorem may_text {s : ByteArray} (h1 : longB s = false) (h2 : badL s = false) : s.size ≤ 200 ∧ shownB s = true := by
  rw [badL_eq s h1] at h2
  unfold longB at h1
  rw [decide_eq_false_iff_not] at h1
  unfold hidB at h2
  refine ⟨by omega, ?_⟩
  simpa using h2
theorem may_num {n : Int} (h : badC n = false) : 0 ≤ n ∧ n ≤ 268435456 := by
  unfold badC at h
  simp at h
  omega
theorem may_of {m : MetV} (h : chkMV m = 0) : MayV m := by
  unfold chkMV chkM at h
  split at h
  · exact absurd h (by decide)
  · rename_i h1
    split at h
    · exact absurd h (by decide)
    · rename_i h2
      split at h
      · exact absurd h (by decide)
      · rename_i h3
        split at h
        · exact absurd h (by decide)
        · rename_i h4
          simp only [List.any_cons, List.any_nil, Bool.or_false, Bool.or_eq_true, not_or, Bool.not_eq_true] at h1 h2 h3
          obtain ⟨a1, a2, a3, a4, a5⟩ := h1
          obtain ⟨b1, b2, b3, b4, b5⟩ := h2
          obtain ⟨c1, c2, c3, c4⟩ := h3
          exact ⟨may_text a1 b1, may_text a2 b2, may_text a3 b3, may_text a4 b4, may_text a5 b5, may_num c1, may_num c2, may_num c3, may_num c4, fun e e2 => h4 ⟨e, e2⟩⟩
theorem says_all {m : MetV} (h : MayV m) : SaysTo metaWs [nFormat, nType, nSize, nAnchor, nVersion, nNextNonce, nMaxMsgSize, nMaxObjSize] (saidR m) met0 m := by
  obtain ⟨fo, ty, sz, ve, la, ne, no, mm, mo⟩ := m
  unfold metaWs saidR
  refine put_say wFormat_is (by decide) (fun m x => { m with fo := x }) take_fo rfl (by simp only [List.mem_cons, List.not_mem_nil, or_false]; decide) ?_
  refine put_say wType_is (by decide) (fun m x => { m with ty := x }) take_ty rfl (by simp only [List.mem_cons, List.not_mem_nil, or_false]; decide) ?_
  refine put_num wSize_is (by decide) (fun m x => { m with sz := x }) take_sz rfl (by simp only [List.mem_cons, List.not_mem_nil, or_false]; decide) h.sz.1 h.sz.2 ?_
  refine put_anc rfl (by simp only [List.mem_cons, List.not_mem_nil, or_false]; decide) h.st ?_
  refine put_num wVersion_is (by decide) (fun m x => { m with ve := x }) take_ve rfl (by simp only [List.mem_cons, List.not_mem_nil, or_false]; decide) h.ve.1 h.ve.2 ?_
  refine put_say wNonce_is (by decide) (fun m x => { m with no := x }) take_no rfl (by simp only [List.mem_cons, List.not_mem_nil, or_false]; decide) ?_
  refine put_num wMaxMsg_is (by decide) (fun m x => { m with mm := x }) take_mm rfl (by simp only [List.mem_cons, List.not_mem_nil, or_false]; decide) h.mm.1 h.mm.2 ?_
  refine put_num wMaxObj_is (by decide) (fun m x => { m with mo := x }) take_mo rfl (by simp only [List.mem_cons, List.not_mem_nil, or_false]; decide) h.mo.1 h.mo.2 ?_
  exact ⟨rfl, fun k hk => (List.not_mem_nil hk).elim, rfl⟩

/-- an element that is right in itself -/
def RightE (x : Tr) : Prop := chkT x = 0 ∧ chkR1 x = 0 ∧ badE x = false
theorem leafName {nm : ByteArray} (h : nm ∈ leafNs) : nameB nm = true := List.all_eq_true.1 leaf_names nm h
theorem right_leaf {nm t : ByteArray} (hl : nm ∈ leafNs) (h0 : t.size ≠ 0) (h1 : t.size ≤ 4000) (h2 : shownB t = true) : RightE (.mk 1 nm t false []) := by
  refine ⟨?_, ?_, ?_⟩
  · unfold chkT chkV
    simp only [Tr.page, Tr.name, Tr.text, Tr.opq, Tr.kids, List.length_nil]
    rw [if_neg (by decide), if_neg (by rw [leafName hl]; decide), if_neg (by decide), if_neg (by rintro ⟨e, _⟩; cases e), if_neg (by omega), if_neg]
    rintro (⟨e, _⟩ | ⟨_, e⟩)
    · cases e
    · rw [h2] at e; cases e
  · have hr := leaf_rule hl
    obtain ⟨r, h3, h4⟩ := Option.map_eq_some_iff.1 hr
    unfold chkR1
    simp only [Tr.page, Tr.name, Tr.text, Tr.kids]
    rw [h3]
    simp only [h4]
    rw [if_neg (by rintro ⟨_, e⟩; revert e; decide), if_neg (by decide)]
  · unfold badE
    simp [Tr.opq, Tr.text, Tr.kids, h0]
theorem right_anchor {la ne : ByteArray} : RightE (anchorT la ne) := by
  have hk : (sayL nLast la ++ [Tr.mk 1 nNext ne false []]).length ≤ 2 ∧ 0 < (sayL nLast la ++ [Tr.mk 1 nNext ne false []]).length := by
    unfold sayL; split <;> simp
  refine ⟨?_, ?_, ?_⟩
  · unfold chkT chkV anchorT
    simp only [Tr.page, Tr.name, Tr.text, Tr.opq, Tr.kids]
    have hn : nameB nAnchor = true := by kernel_rfl
    have hs : shownB ByteArray.empty = true := by kernel_rfl
    rw [if_neg (by decide), if_neg (by rw [hn]; decide), if_neg (by omega), if_neg (by rintro ⟨_, e⟩; exact e rfl), if_neg (by decide), if_neg]
    rintro (⟨e, _⟩ | ⟨_, e⟩)
    · cases e
    · rw [hs] at e; cases e
  · obtain ⟨r, h3, h4⟩ := Option.map_eq_some_iff.1 anchor_rule
    unfold chkR1 anchorT
    simp only [Tr.page, Tr.name, Tr.text, Tr.kids]
    rw [h3]
    simp only [h4]
    have hf0 : fitsW 1 [wNext] [.mk 1 nNext ne false []] = true := fits_put wNext_is rfl rfl rfl
    have hf : fitsW 1 [wLast, wNext] (sayL nLast la ++ [.mk 1 nNext ne false []]) = true := by
      by_cases hl : la.size = 0
      · rw [say_none hl]
        refine fits_skip wLast_is (by decide) (fun k hk => ?_) hf0
        rw [List.nil_append, List.mem_singleton] at hk
        rw [hk]; show nNext ≠ nLast; decide
      · rw [say_one hl]; exact fits_put wLast_is rfl rfl hf0
    rw [if_neg (by rintro ⟨e, _⟩; exact e rfl), hf]
    rfl
  · unfold badE anchorT
    simp only [Tr.opq, Tr.text, Tr.kids]
    have h2 : ¬ (sayL nLast la ++ [Tr.mk 1 nNext ne false []]).length = 0 := by omega
    simp [h2]
theorem num_shown {n : Int} (h0 : 0 ≤ n) : shownB (numT n) = true := by
  have hd := text_dec h0
  unfold shownB
  rw [← valid_eq]
  have h1 : Lib.validD (numT n).data.toList = true := by
    rw [Lib.validD_ascii (numT n).data.toList.length _ (fun b hb => by have := hd b (List.mem_of_mem_take hb); omega), List.drop_length]
    exact Lib.validD_nil
  have h2 : badS (numT n) = false := by
    unfold badS
    rw [List.any_eq_false]
    intro c hc
    have := hd c hc
    unfold shoB
    have h3 : ¬ c.toNat < 32 := by omega
    simp [h3]
  rw [h1, h2]; rfl
theorem num_small {n : Int} (h9 : n ≤ 268435456) (h0 : 0 ≤ n) : (numT n).size ≤ 21 ∧ (numT n).size ≠ 0 := by
  unfold numT
  rw [strOfNums_size]
  exact ⟨textL_len n, fun e => textL_ne n (List.eq_nil_of_length_eq_zero e)⟩
/-- a kid that is a leaf, or the anchor -/
def KidOk (x : Tr) : Prop := RightE x ∧ (x.kids = [] ∨ (hT x ≤ 2 ∧ x.kids.length ≤ 2 ∧ ∀ q ∈ x.kids, RightE q ∧ q.kids = []))
theorem kid_say {nm t : ByteArray} (hl : nm ∈ leafNs) (h : t.size ≤ 200 ∧ shownB t = true) : ∀ k ∈ sayL nm t, KidOk k := by
  intro k hk
  by_cases ht : t.size = 0
  · rw [say_none ht] at hk; cases hk
  · rw [say_one ht, List.mem_singleton] at hk
    subst hk
    exact ⟨right_leaf hl ht (by omega) h.2, .inl rfl⟩
theorem kid_num {nm : ByteArray} {n : Int} (hl : nm ∈ leafNs) (h : 0 ≤ n ∧ n ≤ 268435456) : ∀ k ∈ numL nm n, KidOk k := by
  intro k hk
  unfold numL at hk
  split at hk
  · cases hk
  · rw [List.mem_singleton] at hk
    subst hk
    obtain ⟨h1, h2⟩ := num_small h.2 h.1
    exact ⟨right_leaf hl h2 (by omega) (num_shown h.1), .inl rfl⟩
theorem kid_anc {la ne : ByteArray} (h1 : la.size ≤ 200 ∧ shownB la = true) (h2 : ne.size ≤ 200 ∧ shownB ne = true) : ∀ k ∈ ancL la ne, KidOk k := by
  intro k hk
  unfold ancL at hk
  split at hk
  · cases hk
  · rename_i hne
    rw [List.mem_singleton] at hk
    subst hk
    have hq : ∀ q ∈ (anchorT la ne).kids, RightE q ∧ q.kids = [] := by
      intro q hq
      have hq2 : q ∈ sayL nLast la ++ [.mk 1 nNext ne false []] := hq
      rcases List.mem_append.1 hq2 with h | h
      · by_cases ht : la.size = 0
        · rw [say_none ht] at h; cases h
        · rw [say_one ht, List.mem_singleton] at h
          subst h
          exact ⟨right_leaf (by unfold leafNs; simp) ht (by omega) h1.2, rfl⟩
      · rw [List.mem_singleton] at h
        subst h
        exact ⟨right_leaf (by unfold leafNs; simp) hne (by omega) h2.2, rfl⟩
    have hlen : (anchorT la ne).kids.length ≤ 2 := by
      show (sayL nLast la ++ [Tr.mk 1 nNext ne false []]).length ≤ 2
      unfold sayL; split <;> simp
    refine ⟨right_anchor, .inr ⟨?_, hlen, hq⟩⟩
    have hh : hL (anchorT la ne).kids ≤ 1 := hL_le _ (fun q hq' => by
      obtain ⟨_, h5⟩ := hq q hq'
      obtain ⟨p, n, t, o, ks⟩ := q
      simp only [Tr.kids] at h5
      subst h5
      rw [hT, hL]; decide)
    show hT (.mk 1 nAnchor ByteArray.empty false (sayL nLast la ++ [.mk 1 nNext ne false []])) ≤ 2
    rw [hT]
    exact Nat.succ_le_succ hh
theorem KidOk.height {k : Tr} (h : KidOk k) : hT k ≤ 2 := by
  rcases h.2 with h | h
  · obtain ⟨p, n, t, o, ks⟩ := k
    simp only [Tr.kids] at h
    subst h
    rw [hT, hL]; decide
  · exact h.1
theorem preT_one {m d : Nat} {q : Tr} (h : q.kids = []) : ∀ p ∈ preT m d q, p.2 = q := by
  intro p hp
  by_cases hd : m < d
  · rw [preT_deep hd] at hp; cases hp
  · rw [preT_in hd, h] at hp
    rw [preL] at hp
    rw [List.mem_singleton.1 hp]
theorem KidOk.all {k : Tr} (h : KidOk k) (m d : Nat) : ∀ p ∈ preT m d k, RightE p.2 := by
  intro p hp
  rcases h.2 with h2 | ⟨_, _, h2⟩
  · rw [preT_one h2 p hp]; exact h.1
  · by_cases hd : m < d
    · rw [preT_deep hd] at hp; cases hp
    · rw [preT_in hd] at hp
      rcases List.mem_cons.1 hp with rfl | hp
      · exact h.1
      · obtain ⟨q, hq, hp2⟩ := preL_of hp
        obtain ⟨h3, h4⟩ := h2 q hq
        rw [preT_one h4 p hp2]; exact h3
theorem preT_one_len {m d : Nat} {q : Tr} (h : q.kids = []) : (preT m d q).length ≤ 1 := by
  by_cases hd : m < d
  · rw [preT_deep hd]; exact Nat.zero_le _
  · rw [preT_in hd, h, preL]; exact Nat.le_refl _
theorem KidOk.len {k : Tr} (h : KidOk k) (m d : Nat) : (preT m d k).length ≤ 3 := by
  rcases h.2 with h2 | ⟨_, h1, h2⟩
  · exact Nat.le_trans (preT_one_len h2) (by decide)
  · by_cases hd : m < d
    · rw [preT_deep hd]; exact Nat.zero_le _
    · rw [preT_in hd, List.length_cons]
      have := preL_most (g := 1) (m := m) (d := d + 1) k.kids (fun q hq => preT_one_len (h2 q hq).2)
      omega
theorem said_kids {m : MetV} (h : MayV m) : ∀ k ∈ saidR m, KidOk k := by
  intro k hk
  unfold saidR at hk
  simp only [List.mem_append] at hk
  rcases hk with hk | hk | hk | hk | hk | hk | hk | hk | hk
  · exact kid_say (by unfold leafNs; simp) h.fo k hk
  · exact kid_say (by unfold leafNs; simp) h.ty k hk
  · exact kid_num (by unfold leafNs; simp) h.sz k hk
  · exact kid_anc h.la h.ne k hk
  · exact kid_num (by unfold leafNs; simp) h.ve k hk
  · exact kid_say (by unfold leafNs; simp) h.no k hk
  · exact kid_num (by unfold leafNs; simp) h.mm k hk
  · exact kid_num (by unfold leafNs; simp) h.mo k hk
  · cases hk
theorem said_len (m : MetV) : (saidR m).length ≤ 8 := by
  have h1 : ∀ nm t, (sayL nm t).length ≤ 1 := fun nm t => by unfold sayL; split <;> simp
  have h2 : ∀ nm n, (numL nm n).length ≤ 1 := fun nm n => by unfold numL; split <;> simp
  have h3 : (ancL m.la m.ne).length ≤ 1 := by unfold ancL; split <;> simp
  have a1 := h1 nFormat m.fo
  have a2 := h1 nType m.ty
  have a3 := h2 nSize m.sz
  have a4 := h2 nVersion m.ve
  have a5 := h1 nNextNonce m.no
  have a6 := h2 nMaxMsgSize m.mm
  have a7 := h2 nMaxObjSize m.mo
  unfold saidR
  simp only [List.length_append, List.length_nil]
  omega
theorem firstC_none : ∀ (L : List (Nat × Tr)), (∀ p ∈ L, chkT p.2 = 0) → firstC L = 0 := by
  intro L
  induction L with
  | nil => intro _; rfl
  | cons p l ih => intro h; rw [firstC, if_pos (h p List.mem_cons_self)]; exact ih (fun q hq => h q (List.mem_cons_of_mem _ hq))
theorem elem_says {m : MetV} (h : chkMV m = 0) : ofV (elemV m) = (m, 0) := by
  have hM := may_of h
  have hS := says_all hM
  have hK := said_kids hM
  have hE : elemV m = .mk 0 metaN ByteArray.empty false (saidR m) := by
    unfold elemV elemM
    unfold chkMV at h
    rw [if_pos h, said_eq]; rfl
  rw [hE]
  have hlen := said_len m
  have hpre : ∀ n d, ∀ p ∈ preL n d (saidR m), RightE p.2 := fun n d p hp => by
    obtain ⟨k, hk, hp2⟩ := preL_of hp
    exact (hK k hk).all n d p hp2
  have ht : chkT (.mk 0 metaN ByteArray.empty false (saidR m)) = 0 := by
    unfold chkT chkV
    simp only [Tr.page, Tr.name, Tr.text, Tr.opq, Tr.kids]
    have hn : nameB metaN = true := by kernel_rfl
    have hs : shownB ByteArray.empty = true := by kernel_rfl
    rw [if_neg (by decide), if_neg (by rw [hn]; decide), if_neg (by omega), if_neg (by rintro ⟨_, e⟩; exact e rfl), if_neg (by decide), if_neg]
    rintro (⟨e, _⟩ | ⟨_, e⟩)
    · cases e
    · rw [hs] at e; cases e
  have hR : chkR1 (.mk 0 metaN ByteArray.empty false (saidR m)) = 0 := by
    obtain ⟨r, h3, h4⟩ := Option.map_eq_some_iff.1 meta_rule
    unfold chkR1
    simp only [Tr.page, Tr.name, Tr.text, Tr.kids]
    rw [h3]
    simp only [h4]
    rw [if_neg (by rintro ⟨e, _⟩; exact e rfl), hS.1]
    rfl
  have hA : chkA (.mk 0 metaN ByteArray.empty false (saidR m)) = 0 := by
    have hh : hL (saidR m) ≤ 2 := hL_le _ (fun k hk => (hK k hk).height)
    rw [chkA_of (by rw [hT]; omega) (by
      rw [preT_in (by omega), List.length_cons]
      have := preL_most (g := 3) (m := 5000) (d := 2) (saidR m) (fun k hk => (hK k hk).len _ _)
      show (preL 5000 2 (saidR m)).length + 1 ≤ 2000
      omega)]
    refine firstC_none _ (fun p hp => ?_)
    rw [preT_in (by omega)] at hp
    rcases List.mem_cons.1 hp with rfl | hp
    · exact ht
    · exact (hpre _ _ p hp).1
  have hG : (chkG (.mk 0 metaN ByteArray.empty false (saidR m))).2 = 0 := by
    refine chkG_of hA (fun x hx => ?_)
    obtain ⟨p, hp, rfl⟩ := List.mem_map.1 hx
    rw [preT_in (by omega)] at hp
    rcases List.mem_cons.1 hp with rfl | hp
    · exact hR
    · exact (hpre _ _ p hp).2.1
  unfold ofV
  rw [if_neg (by rintro (e | e) <;> exact e rfl), if_neg (fun e => e hG), if_neg]
  · unfold sayV
    show (if (foldV met0 (saidR m)).2 = 0 then endV (foldV met0 (saidR m)).1 else _) = _
    rw [hS.2.2, if_pos rfl]
    unfold endV
    rw [if_pos h]
  · rw [Bool.not_eq_true, List.any_eq_false]
    intro p hp
    rw [preT_in (by omega)] at hp
    have hp2 : p ∈ preL 20 2 (saidR m) := hp
    rw [(hpre _ _ p hp2).2.2]
    simp
end Go.Proofs.YtgechifbbhipaaaDoor
