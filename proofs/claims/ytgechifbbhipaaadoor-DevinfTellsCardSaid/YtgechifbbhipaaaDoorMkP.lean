/- markup in plain words: texts as they stand between marks; an element's document, and how long it is. No condition. -/
import Derived.Test.YtgechifbbhipaaaDoorTrZ
import Derived.Test.YtgechifbbhipaaaDoorEncP
set_option linter.unusedVariables false
set_option linter.unusedSimpArgs false
namespace Go.Proofs.YtgechifbbhipaaaDoor
open Go.RowKit

/-- a byte as it stands -/
def escC (c : UInt8) : List UInt8 := if c = 38 then [38, 97, 109, 112, 59] else if c = 60 then [38, 108, 116, 59] else if c = 62 then [38, 103, 116, 59] else [c]
def esc (l : List UInt8) : List UInt8 := l.flatMap escC
theorem escC_len (c : UInt8) : 1 ≤ (escC c).length ∧ (escC c).length ≤ 5 := by unfold escC; (repeat' split) <;> simp
theorem esc_snoc (l : List UInt8) (c : UInt8) : esc (l ++ [c]) = esc l ++ escC c := by simp [esc]
theorem esc_len (l : List UInt8) : l.length ≤ (esc l).length ∧ (esc l).length ≤ 5 * l.length := by
  induction l with
  | nil => simp [esc]
  | cons a l ih =>
    have := escC_len a
    have e : esc (a :: l) = escC a ++ esc l := by simp [esc]
    rw [e, List.length_append, List.length_cons]; omega
theorem encS_len : ∀ l : List UInt8, l.length ≤ (encS l).length ∧ (encS l).length ≤ 4 * l.length
  | [] => by simp [encS]
  | [a] => by simp [encS, enc3]
  | [a, b] => by simp [encS, enc3]
  | a :: b :: c :: l => by
    have := encS_len l
    rw [encS, List.length_append]
    simp [enc3]; omega

/-- an element's text as it stands -/
def txL (o : Bool) (tx : ByteArray) : List UInt8 := if o then u8s (encS tx.data.toList) else esc tx.data.toList
theorem txL_len (o : Bool) (tx : ByteArray) : tx.size ≤ (txL o tx).length ∧ (txL o tx).length ≤ 5 * tx.size := by
  have h0 := len_toList tx
  unfold txL
  cases o
  · have := esc_len tx.data.toList; simp; omega
  · have := encS_len tx.data.toList; simp [u8s]; omega
def sXm : List UInt8 := [32, 120, 109, 108, 110, 115, 61, 34]
def sEnc : List UInt8 := [32, 101, 110, 99, 61, 34, 98, 54, 52, 34]

section
variable (sp : Int → List UInt8)
/-- the first mark of an element, up to its end -/
def headL (pg p : Int) (nm : ByteArray) (o : Bool) : List UInt8 := ([60] ++ nm.data.toList) ++ ((if p ≠ pg then sXm ++ sp p ++ [34] else []) ++ (if o then sEnc else []))
def tailL (nm : ByteArray) : List UInt8 := [60, 47] ++ nm.data.toList ++ [62]
mutual
/-- an element's document, within one of a page -/
def docT (pg : Int) : Tr → List UInt8
  | .mk p nm tx o ks => headL sp pg p nm o ++ (if txL o tx = [] ∧ ks = [] then [47, 62] else ([62] ++ txL o tx) ++ (docL p ks ++ tailL nm))
def docL (p : Int) : List Tr → List UInt8
  | [] => []
  | k :: ks => docT p k ++ docL p ks
end
theorem docT_of (pg : Int) (e : Tr) : docT sp pg e = headL sp pg e.page e.name e.opq ++ (if txL e.opq e.text = [] ∧ e.kids = [] then [47, 62] else ([62] ++ txL e.opq e.text) ++ (docL sp e.page e.kids ++ tailL e.name)) := by
  cases e; rw [docT]; rfl
theorem docL_snoc (p : Int) (a : List Tr) (k : Tr) : docL sp p (a ++ [k]) = docL sp p a ++ docT sp p k := by
  induction a with
  | nil => simp [docL]
  | cons x l ih => rw [List.cons_append, docL, docL, ih, List.append_assoc]
end

mutual
/-- how many elements there are -/
def cT : Tr → Nat
  | .mk _ _ _ _ ks => 1 + cL ks
def cL : List Tr → Nat
  | [] => 0
  | k :: ks => cT k + cL ks
end
theorem cT_of (e : Tr) : cT e = 1 + cL e.kids := by cases e; rw [cT]; rfl
theorem cL_snoc (a : List Tr) (k : Tr) : cL (a ++ [k]) = cL a + cT k := by
  induction a with
  | nil => simp [cL]
  | cons x l ih => rw [List.cons_append, cL, cL, ih, Nat.add_assoc]
theorem cL_take (ks : List Tr) (i : Nat) (h : i < ks.length) : cL (ks.take (i + 1)) = cL (ks.take i) + cT ks[i] := by
  rw [List.take_succ_eq_append_getElem h, cL_snoc]
theorem cL_le (ks : List Tr) (i : Nat) : cL (ks.take i) ≤ cL ks := by
  induction ks generalizing i with
  | nil => simp
  | cons k l ih =>
    cases i with
    | zero => simp [cL]
    | succ i => rw [List.take_succ_cons, cL, cL]; have := ih i; omega
mutual
theorem cT_pre (m : Nat) : ∀ (d : Nat) (e : Tr), d + hT e ≤ m + 1 → (preT m d e).length = cT e
  | d, .mk p n t o ks => fun h => by
    rw [hT] at h
    rw [preT, if_neg (by omega), List.length_cons, cT, cL_pre m (d + 1) ks (by omega), Nat.add_comm]
theorem cL_pre (m : Nat) : ∀ (d : Nat) (ks : List Tr), d + hL ks ≤ m + 1 → (preL m d ks).length = cL ks
  | _, [] => fun _ => by rw [preL, cL]; rfl
  | d, k :: ks => fun h => by
    rw [hL] at h
    rw [preL, List.length_append, cL, cT_pre m d k (by omega), cL_pre m d ks (by omega)]
end

/-- what an element that is right is like -/
theorem chkA_right {e : Tr} (h : chkA e = 0) : hT e ≤ 12 ∧ cT e ≤ 2000 ∧ (0 ≤ e.page ∧ e.page ≤ 2) ∧ nameB e.name = true ∧ e.name.size ≤ 32 ∧ e.kids.length ≤ 200 ∧ e.text.size ≤ 4000 ∧ (0 < e.kids.length → e.text.size = 0) ∧ (e.opq = true → e.text.size ≠ 0) ∧ (e.opq = false → shownB e.text = true) ∧ ∀ k ∈ e.kids, chkA k = 0 := by
  have h1 : ¬ 12 < deepC ((preT 13 1 e).take 5000) := fun h' => by unfold chkA at h; rw [if_pos h'] at h; cases h
  have h2 : ¬ 2000 < wgt e := fun h' => by unfold chkA at h; rw [if_neg h1, if_pos h'] at h; cases h
  obtain ⟨g1, g2, g3⟩ := chkA_plain h1 h2
  have g4 : firstC (preT 13 1 e) = 0 := by rw [← chkA_of g1 g3]; exact h
  have g5 : chkT e = 0 := by
    rw [firstC_zero] at g4
    exact g4 (1, e) (by rw [preT_in (by omega)]; exact List.mem_cons_self)
  rw [cT_pre 5000 1 e (by omega)] at g3
  unfold chkT chkV at g5
  split at g5
  · cases g5
  rename_i a1
  split at g5
  · cases g5
  rename_i a2
  split at g5
  · cases g5
  rename_i a3
  split at g5
  · cases g5
  rename_i a4
  split at g5
  · cases g5
  rename_i a5
  split at g5
  · cases g5
  rename_i a6
  have a2' : nameB e.name = true := by simpa using a2
  have a7 : e.name.size ≤ 32 := by
    have := a2'
    unfold nameB at this
    simp only [Bool.and_eq_true, decide_eq_true_eq] at this
    exact this.2.1
  refine ⟨g1, g3, by omega, a2', a7, by omega, by omega, fun h' => ?_, fun h' h'' => a6 (.inl ⟨h', h''⟩), fun h' => ?_, fun k hk => Classical.byContradiction fun h' => chkA_kid hk h' h⟩
  · exact Classical.byContradiction fun h'' => a4 ⟨h', h''⟩
  · cases hs : shownB e.text with
    | true => rfl
    | false => exact absurd (.inr ⟨h', hs⟩) a6

theorem headL_len (sp : Int → List UInt8) (hsp : ∀ p, (sp p).length ≤ 40) (pg p : Int) (nm : ByteArray) (o : Bool) : (headL sp pg p nm o).length ≤ nm.size + 60 := by
  have := hsp p
  have := len_toList nm
  unfold headL
  split <;> split <;> simp [sXm, sEnc] <;> omega
theorem docL_bound (sp : Int → List UInt8) (p : Int) (ks : List Tr) (h : ∀ k ∈ ks, (docT sp p k).length ≤ 21000 * cT k) : (docL sp p ks).length ≤ 21000 * cL ks := by
  induction ks with
  | nil => simp [docL]
  | cons k l ih =>
    rw [docL, cL, List.length_append, Nat.mul_add]
    have h1 := h k List.mem_cons_self
    have h2 := ih fun x hx => h x (List.mem_cons_of_mem _ hx)
    omega
theorem docT_bound (sp : Int → List UInt8) (hsp : ∀ p, (sp p).length ≤ 40) : ∀ (n : Nat) (e : Tr), hT e ≤ n → chkA e = 0 → ∀ pg, (docT sp pg e).length ≤ 21000 * cT e := by
  intro n
  induction n with
  | zero => intro e he; cases e; rw [hT] at he; omega
  | succ n ih =>
    intro e he h pg
    obtain ⟨_, _, _, _, h5, _, h7, _, _, _, h11⟩ := chkA_right h
    have hk := docL_bound sp e.page e.kids fun k hk => ih k (Nat.le_of_lt_succ (Nat.lt_of_lt_of_le (hT_kid hk) he)) (h11 k hk) e.page
    have h1 := headL_len sp hsp pg e.page e.name e.opq
    have h2 := (txL_len e.opq e.text).2
    have h3 := len_toList e.name
    rw [docT_of, cT_of, Nat.mul_add, List.length_append]
    split
    · simp; omega
    · simp [tailL]; omega
theorem docL_len (sp : Int → List UInt8) (hsp : ∀ p, (sp p).length ≤ 40) (p : Int) (ks : List Tr) (h : ∀ k ∈ ks, chkA k = 0) : (docL sp p ks).length ≤ 21000 * cL ks :=
  docL_bound sp p ks fun k hk => docT_bound sp hsp (hT k) k (Nat.le_refl _) (h k hk) p
end Go.Proofs.YtgechifbbhipaaaDoor
