/- sixbit: what is written is read back, with or without line ends. Plain lists, no program in sight. -/
import Derived.Test.YtiakmaleiholnaaDecS
namespace Go.Proofs.Ytiakmaleiholnaa
open Go.RowKit

def ltr (m : Nat) : UInt8 := UInt8.ofNat (let64 m).toNat
theorem ltr_ok (m : Nat) (h : m < 64) : wsB (ltr m).toNat = false ∧ ¬ (ltr m).toNat = 61 ∧ wv (ltr m) = m := by
  have key : ∀ k : Fin 64, wsB (ltr k.val).toNat = false ∧ ¬ (ltr k.val).toNat = 61 ∧ wv (ltr k.val) = k.val := by decide +kernel
  exact key ⟨m, h⟩
theorem prun_ltr (w n : Nat) (o : Bool) (out : List Int) (m : Nat) (h : m < 64) (cs : List UInt8) :
    prun w n 0 o out (ltr m :: cs) = if n + 1 < 4 then prun (64 * w + m) (n + 1) 0 o out cs else prun 0 0 0 o (out ++ dnew (64 * w + m) 0) cs := by
  obtain ⟨h1, h2, h3⟩ := ltr_ok m h
  have h4 : wn (ltr m) = m := by unfold wn; rw [h3]; rfl
  rw [prun_cons, if_neg (by rw [h1]; simp), if_neg (by rw [h3]; omega), if_neg (by omega), if_neg (by omega)]
  simp only [if_neg h2, h4]
  split
  · rfl
  · simp [Nat.mod_one]
theorem prun_gap (w n g : Nat) (o : Bool) (out : List Int) (c : UInt8) (hc : c.toNat = 61) (hn : 2 ≤ n) (cs : List UInt8) :
    prun w n g o out (c :: cs) = if n + 1 < 4 then prun (64 * w + 0) (n + 1) (g + 1) o out cs else prun 0 0 (g + 1) (o || decide ((64 * w + 0) % 2 ^ (8 * (g + 1)) ≠ 0)) (out ++ dnew (64 * w + 0) (g + 1)) cs := by
  rw [prun_cons, if_neg (by rw [hc]; decide), if_neg (by omega), if_neg (by omega), if_neg (by omega)]
  simp only [if_pos hc]

def ints (l : List UInt8) : List Int := l.map fun c => (c.toNat : Int)
def encU (l : List UInt8) : List UInt8 := u8s (encS l)

theorem encU4 (a b c : UInt8) (l : List UInt8) : encU (a :: b :: c :: l) = ltr (a.toNat / 4) :: ltr (a.toNat % 4 * 16 + b.toNat / 16) :: ltr (b.toNat % 16 * 4 + c.toNat / 64) :: ltr (c.toNat % 64) :: encU l := by
  simp [encU, encS, enc3, u8s, ltr]

theorem prun_enc : ∀ (k : Nat) (l : List UInt8) (out : List Int), l.length ≤ k → prun 0 0 0 false out (encU l) = (out ++ ints l, 0) := by
  intro k
  induction k with
  | zero =>
    intro l out hl
    obtain rfl : l = [] := List.eq_nil_of_length_eq_zero (by omega)
    simp [encU, encS, u8s, ints, prun]
  | succ k ih =>
    intro l out hl
    match l, hl with
    | [], _ => simp [encU, encS, u8s, ints, prun]
    | [a], _ =>
      have ha : a.toNat < 256 := UInt8.toNat_lt _
      have e : encU [a] = ltr (a.toNat / 4) :: ltr (a.toNat % 4 * 16) :: 61 :: 61 :: [] := by simp [encU, encS, enc3, u8s, ltr]
      rw [e, prun_ltr _ _ _ _ _ (by omega), if_pos (by omega), prun_ltr _ _ _ _ _ (by omega), if_pos (by omega), prun_gap _ _ _ _ _ _ rfl (by omega), if_pos (by omega), prun_gap _ _ _ _ _ _ rfl (by omega), if_neg (by omega)]
      have hd := dn2 (a.toNat / 4) (a.toNat % 4 * 16) (64 * (64 * (64 * (64 * 0 + a.toNat / 4) + a.toNat % 4 * 16) + 0) + 0) (by omega) (by omega) (by omega)
      have hz : decide ((64 * (64 * (64 * (64 * 0 + a.toNat / 4) + a.toNat % 4 * 16) + 0) + 0) % 2 ^ (8 * (0 + 1 + 1)) ≠ 0) = false := by simp; omega
      rw [hz, hd.1, prun]
      rw [if_neg (by omega), if_neg (by simp)]
      congr 2
      simp [ints]; omega
    | [a, b], _ =>
      have ha : a.toNat < 256 := UInt8.toNat_lt _
      have hb : b.toNat < 256 := UInt8.toNat_lt _
      have e : encU [a, b] = ltr (a.toNat / 4) :: ltr (a.toNat % 4 * 16 + b.toNat / 16) :: ltr (b.toNat % 16 * 4) :: 61 :: [] := by simp [encU, encS, enc3, u8s, ltr]
      rw [e, prun_ltr _ _ _ _ _ (by omega), if_pos (by omega), prun_ltr _ _ _ _ _ (by omega), if_pos (by omega), prun_ltr _ _ _ _ _ (by omega), if_pos (by omega), prun_gap _ _ _ _ _ _ rfl (by omega), if_neg (by omega)]
      have hd := dn1 (a.toNat / 4) (a.toNat % 4 * 16 + b.toNat / 16) (b.toNat % 16 * 4) (64 * (64 * (64 * (64 * 0 + a.toNat / 4) + (a.toNat % 4 * 16 + b.toNat / 16)) + b.toNat % 16 * 4) + 0) (by omega) (by omega) (by omega) (by omega)
      have hz : decide ((64 * (64 * (64 * (64 * 0 + a.toNat / 4) + (a.toNat % 4 * 16 + b.toNat / 16)) + b.toNat % 16 * 4) + 0) % 2 ^ (8 * (0 + 1)) ≠ 0) = false := by simp; omega
      rw [hz, hd.1, prun]
      rw [if_neg (by omega), if_neg (by simp)]
      congr 2
      simp [ints]; omega
    | a :: b :: c :: l, hl =>
      have ha : a.toNat < 256 := UInt8.toNat_lt _
      have hb : b.toNat < 256 := UInt8.toNat_lt _
      have hc : c.toNat < 256 := UInt8.toNat_lt _
      rw [encU4, prun_ltr _ _ _ _ _ (by omega), if_pos (by omega), prun_ltr _ _ _ _ _ (by omega), if_pos (by omega), prun_ltr _ _ _ _ _ (by omega), if_pos (by omega), prun_ltr _ _ _ _ _ (by omega), if_neg (by omega)]
      have hd := dn0 (a.toNat / 4) (a.toNat % 4 * 16 + b.toNat / 16) (b.toNat % 16 * 4 + c.toNat / 64) (c.toNat % 64) (64 * (64 * (64 * (64 * 0 + a.toNat / 4) + (a.toNat % 4 * 16 + b.toNat / 16)) + (b.toNat % 16 * 4 + c.toNat / 64)) + c.toNat % 64) (by omega) (by omega) (by omega) (by omega) (by omega)
      rw [hd, ih l _ (by simp at hl; omega), List.append_assoc]
      congr 2
      simp [ints]; omega

theorem prun_filter : ∀ (l : List UInt8) (w n g : Nat) (o : Bool) (out : List Int), prun w n g o out l = prun w n g o out (l.filter fun c => !wsB c.toNat) := by
  intro l
  induction l with
  | nil => intros; rfl
  | cons c l ih =>
    intro w n g o out
    by_cases h : wsB c.toNat = true
    · rw [prun_cons, if_pos h, List.filter_cons_of_neg (by rw [h]; simp)]; exact ih w n g o out
    · rw [List.filter_cons_of_pos (by simpa using h), prun_cons, prun_cons]
      simp only [← ih]

theorem encU_ok : ∀ (k : Nat) (l : List UInt8), l.length ≤ k → ∀ c ∈ encU l, wsB c.toNat = false := by
  intro k
  induction k with
  | zero =>
    intro l hl
    obtain rfl : l = [] := List.eq_nil_of_length_eq_zero (by omega)
    intro c hc; simp [encU, encS, u8s] at hc
  | succ k ih =>
    intro l hl
    match l, hl with
    | [], _ => intro c hc; simp [encU, encS, u8s] at hc
    | [a], _ =>
      have ha : a.toNat < 256 := UInt8.toNat_lt _
      have e : encU [a] = ltr (a.toNat / 4) :: ltr (a.toNat % 4 * 16) :: 61 :: 61 :: [] := by simp [encU, encS, enc3, u8s, ltr]
      rw [e]
      intro c hc
      simp only [List.mem_cons, List.not_mem_nil, or_false] at hc
      rcases hc with rfl | rfl | rfl | rfl
      · exact (ltr_ok _ (by omega)).1
      · exact (ltr_ok _ (by omega)).1
      · decide
      · decide
    | [a, b], _ =>
      have ha : a.toNat < 256 := UInt8.toNat_lt _
      have hb : b.toNat < 256 := UInt8.toNat_lt _
      have e : encU [a, b] = ltr (a.toNat / 4) :: ltr (a.toNat % 4 * 16 + b.toNat / 16) :: ltr (b.toNat % 16 * 4) :: 61 :: [] := by simp [encU, encS, enc3, u8s, ltr]
      rw [e]
      intro c hc
      simp only [List.mem_cons, List.not_mem_nil, or_false] at hc
      rcases hc with rfl | rfl | rfl | rfl
      · exact (ltr_ok _ (by omega)).1
      · exact (ltr_ok _ (by omega)).1
      · exact (ltr_ok _ (by omega)).1
      · decide
    | a :: b :: c :: l, hl =>
      have ha : a.toNat < 256 := UInt8.toNat_lt _
      have hb : b.toNat < 256 := UInt8.toNat_lt _
      have hc : c.toNat < 256 := UInt8.toNat_lt _
      rw [encU4]
      intro x hx
      simp only [List.mem_cons] at hx
      rcases hx with rfl | rfl | rfl | rfl | hx
      · exact (ltr_ok _ (by omega)).1
      · exact (ltr_ok _ (by omega)).1
      · exact (ltr_ok _ (by omega)).1
      · exact (ltr_ok _ (by omega)).1
      · exact ih l (by simp at hl; omega) x hx

theorem encS_len : ∀ (k : Nat) (l : List UInt8), l.length ≤ k → (encS l).length = (l.length + 2) / 3 * 4 := by
  intro k
  induction k with
  | zero =>
    intro l hl
    obtain rfl : l = [] := List.eq_nil_of_length_eq_zero (by omega)
    simp [encS]
  | succ k ih =>
    intro l hl
    match l, hl with
    | [], _ => simp [encS]
    | [a], _ => simp [encS, enc3]
    | [a, b], _ => simp [encS, enc3]
    | a :: b :: c :: l, hl =>
      have := ih l (by simp at hl; omega)
      simp only [encS, List.length_append, this, enc3, List.length_cons, List.length_nil]; omega

/-- lines, each with its end -/
def jn (ps : List ByteArray) : List UInt8 := ps.flatMap fun p => p.data.toList ++ [13, 10]
theorem jn_filter (ps : List ByteArray) : (jn ps).filter (fun c => !wsB c.toNat) = (ps.flatMap fun p => p.data.toList).filter fun c => !wsB c.toNat := by
  induction ps with
  | nil => rfl
  | cons p ps ih =>
    have e1 : jn (p :: ps) = p.data.toList ++ ([13, 10] ++ jn ps) := by simp [jn]
    have e2 : ([13, 10] : List UInt8).filter (fun c => !wsB c.toNat) = [] := by decide
    rw [e1, List.filter_append, List.filter_append, e2, List.nil_append, ih, List.flatMap_cons, List.filter_append]

theorem chk_glue (w : Nat) (hw : 1 ≤ w) (f : Nat) (b : ByteArray) (h : b.size ≤ f) : ((chk w b).flatMap fun p => p.data.toList) = b.data.toList := by
  induction f generalizing b with
  | zero => rw [chk_nil (by omega), empty_of_size b (by omega)]; rfl
  | succ f ih =>
    by_cases h0 : b.size = 0
    · rw [chk_nil h0, empty_of_size b h0]; rfl
    · rw [chk_cons hw h0, List.flatMap_cons, ih _ (by rw [ext_size]; omega), extract_list, extract_list]
      have hl := len_toList b
      rw [Nat.sub_zero, List.drop_zero, List.take_of_length_le (l := b.data.toList.drop (min w b.size)) (by simp), List.take_append_drop]
end Go.Proofs.Ytiakmaleiholnaa
