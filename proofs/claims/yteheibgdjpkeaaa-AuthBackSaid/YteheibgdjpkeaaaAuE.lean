/- auth: letters are as good as bytes; a text before the first colon is known; the plain law of AuthBack. No condition. -/
import Derived.Test.YteheibgdjpkeaaaAuB
namespace Go.Proofs.Yteheibgdjpkeaaa
open Go.RowKit

def d64 (x : Int) : Nat := if 65 ≤ x ∧ x ≤ 90 then (x - 65).toNat else if 97 ≤ x ∧ x ≤ 122 then (x - 71).toNat else if 48 ≤ x ∧ x ≤ 57 then (x + 4).toNat else if x = 43 then 62 else 63
theorem d64_let (n : Nat) (h : n < 64) : d64 (let64 n) = n := by
  have key : ∀ n : Fin 64, d64 (let64 n.val) = n.val := by decide +kernel
  exact key ⟨n, h⟩
theorem let64_gap (n : Nat) (h : n < 64) : let64 n ≠ 61 := by
  have key : ∀ n : Fin 64, let64 n.val ≠ 61 := by decide +kernel
  exact key ⟨n, h⟩
/-- bytes of letters -/
def decN : List Int → List Nat
  | x :: y :: z :: t :: r => (if z = 61 then [d64 x * 4 + d64 y / 16] else if t = 61 then [d64 x * 4 + d64 y / 16, d64 y % 16 * 16 + d64 z / 4] else [d64 x * 4 + d64 y / 16, d64 y % 16 * 16 + d64 z / 4, d64 z % 4 * 64 + d64 t]) ++ decN r
  | _ => []
theorem dec_enc (f : Nat) (l : List UInt8) (h : l.length ≤ f) : decN (encS l) = l.map (·.toNat) := by
  induction f generalizing l with
  | zero => obtain rfl : l = [] := List.eq_nil_of_length_eq_zero (by omega); rfl
  | succ f ih =>
    match l, h with
    | [], _ => rfl
    | [a], _ =>
      have ha : a.toNat < 256 := UInt8.toNat_lt _
      rw [encS, enc3, decN, if_pos rfl, d64_let _ (by omega), d64_let _ (by omega)]
      simp [decN]; omega
    | [a, b], _ =>
      have ha : a.toNat < 256 := UInt8.toNat_lt _
      have hb : b.toNat < 256 := UInt8.toNat_lt _
      rw [encS, enc3, decN, if_neg (let64_gap _ (by omega)), if_pos rfl, d64_let _ (by omega), d64_let _ (by omega), d64_let _ (by omega)]
      simp [decN]; omega
    | a :: b :: c :: l, h =>
      have ha : a.toNat < 256 := UInt8.toNat_lt _
      have hb : b.toNat < 256 := UInt8.toNat_lt _
      have hc : c.toNat < 256 := UInt8.toNat_lt _
      rw [encS, enc3]
      show decN (_ :: _ :: _ :: _ :: encS l) = _
      rw [decN, if_neg (let64_gap _ (by omega)), if_neg (let64_gap _ (by omega)), d64_let _ (by omega), d64_let _ (by omega), d64_let _ (by omega), d64_let _ (by omega), ih l (by simp at h; omega)]
      simp; omega
theorem u8_list {l m : List UInt8} (h : l.map (·.toNat) = m.map (·.toNat)) : l = m := by
  induction l generalizing m with
  | nil => cases m with
    | nil => rfl
    | cons a m => simp at h
  | cons a l ih => cases m with
    | nil => simp at h
    | cons b m =>
      simp only [List.map_cons, List.cons.injEq] at h
      rw [UInt8.toNat_inj.1 h.1, ih h.2]
theorem encS_inj {l m : List UInt8} (h : encS l = encS m) : l = m := by
  apply u8_list
  rw [← dec_enc _ l (Nat.le_refl _), ← dec_enc _ m (Nat.le_refl _), h]
theorem encS_bd (l : List UInt8) : ∀ x ∈ encS l, 0 ≤ x ∧ x < 256 := by
  have h := chk_encS _ (mkS l) (Nat.le_refl _)
  rw [mkS_list] at h
  rw [← h]
  exact encL_bd _
theorem strOfNums_inj {l m : List Int} (hl : ∀ x ∈ l, 0 ≤ x ∧ x < 256) (hm : ∀ x ∈ m, 0 ≤ x ∧ x < 256) (h : strOfNums l = strOfNums m) : l = m := by
  have h2 : u8s l = u8s m := by
    have := congrArg (fun b : ByteArray => b.data.toList) h
    simpa [strOfNums, u8s] using this
  clear h
  induction l generalizing m with
  | nil => cases m with
    | nil => rfl
    | cons a m => simp [u8s] at h2
  | cons a l ih => cases m with
    | nil => simp [u8s] at h2
    | cons b m =>
      simp only [u8s, List.map_cons, List.cons.injEq] at h2
      obtain ⟨a0, a1⟩ := hl a (by simp)
      obtain ⟨b0, b1⟩ := hm b (by simp)
      have e := congrArg UInt8.toNat h2.1
      simp at e
      rw [show a = b from by omega, ih (fun x hx => hl x (by simp [hx])) (fun x hx => hm x (by simp [hx])) h2.2]
theorem encB_inj {a b : ByteArray} (h : encB a = encB b) : a = b :=
  bytes_ext (encS_inj (strOfNums_inj (encS_bd _) (encS_bd _) h))

theorem colon_inj {l m r s : List UInt8} (hl : l.any (fun c => c.toNat == 58) = false) (hm : m.any (fun c => c.toNat == 58) = false) (h : l ++ 58 :: r = m ++ 58 :: s) : l = m ∧ r = s := by
  induction l generalizing m with
  | nil => cases m with
    | nil => simp at h; exact ⟨rfl, h⟩
    | cons b m => simp at h; rw [← h.1] at hm; simp at hm
  | cons a l ih => cases m with
    | nil => simp at h; rw [h.1] at hl; simp at hl
    | cons b m =>
      simp only [List.cons_append, List.cons.injEq] at h
      rw [List.any_cons, Bool.or_eq_false_iff] at hl hm
      obtain ⟨e1, e2⟩ := ih hl.2 hm.2 h.2
      exact ⟨by rw [h.1, e1], e2⟩
theorem known_inj {u p u' p' : ByteArray} (hu : hasC u = false) (hu' : hasC u' = false) (h : known u p = known u' p') : u = u' ∧ p = p' := by
  have h2 : u.data.toList ++ 58 :: p.data.toList = u'.data.toList ++ 58 :: p'.data.toList := by
    have := congrArg (fun b : ByteArray => b.data.toList) h
    simpa [known, colon] using this
  obtain ⟨e1, e2⟩ := colon_inj hu hu' h2
  exact ⟨bytes_ext e1, bytes_ext e2⟩

theorem kind_typ (k : Int) (h1 : 1 ≤ k) (h3 : k ≤ 3) : kindN (typ k) = k := by
  rcases (by omega : k = 1 ∨ k = 2 ∨ k = 3) with rfl | rfl | rfl <;> decide +kernel
theorem credE_range {k : Int} {u p n : ByteArray} (h : credE k u p n = 0) : 1 ≤ k ∧ k ≤ 3 ∧ chkE u p = 0 ∧ (¬ 60 < n.size ∧ okB 33 n = true) := by
  rcases cred_steps k u p n with ⟨h1, he⟩ | ⟨h1, h2, h3, he⟩ | ⟨h1, h2, h3, h4, he⟩ | ⟨h1, h2, h3, h4, h5, he⟩ | ⟨h1, h2, h3, h4, h5, he⟩
  · omega
  · omega
  · omega
  · omega
  · exact ⟨h1, h2, h3, h4, h5⟩
theorem credE_zero {k : Int} {u p n : ByteArray} (h1 : 1 ≤ k) (h2 : k ≤ 3) (h3 : chkE u p = 0) (h4 : ¬ 60 < n.size) (h5 : okB 33 n = true) : credE k u p n = 0 := by
  unfold credE; rw [if_neg (by omega), if_neg (by omega), if_neg (by simp [h3]), if_neg h4, if_neg (by simp [h5])]
/-- credentials hold for whom they were made -/
theorem holds_self {k : Int} {u p n b : ByteArray} (h : credE k u p n = 0) : holdsC (credT k u p n) (credD k u p n b) u p n b = true := by
  obtain ⟨h1, h3, _⟩ := credE_range h
  have hT := (cred_some (b := b) h).1
  have hk : kindN (credT k u p n) = k := by rw [hT]; exact kind_typ k h1 h3
  unfold holdsC
  rw [hk, decide_eq_true h, decide_eq_true rfl]; rfl
theorem chk_colon {u p : ByteArray} (h : chkE u p = 0) : hasC u = false := by
  rcases chk_steps u p with ⟨h1, he⟩ | ⟨h1, h2, he⟩ | ⟨h1, h2, h3, he⟩ | ⟨h1, h2, h3, h4, he⟩ | ⟨h1, h2, h3, h4, h5, he⟩ | ⟨h1, h2, h3, h4, h5, h6, he⟩ | ⟨h1, h2, h3, h4, h5, h6, he⟩
  · omega
  · omega
  · omega
  · omega
  · omega
  · omega
  · exact h4
/-- may a nonce be? -/
def nonceOk (n : ByteArray) : Bool := decide (credE 1 sa se n = 0)
theorem chk_sa : chkE sa se = 0 := by decide +kernel
theorem nonceOk_iff (n : ByteArray) : nonceOk n = true ↔ (¬ 60 < n.size ∧ okB 33 n = true) := by
  unfold nonceOk
  rw [decide_eq_true_iff]
  exact ⟨fun h => (credE_range h).2.2.2, fun h => credE_zero (by decide) (by decide) chk_sa h.1 h.2⟩
/-- credentials of Basic hold for whom they were made, and nobody else -/
theorem holds_other {u p n b u' p' n' b' : ByteArray} (h : credE 1 u p n = 0) :
    holdsC (credT 1 u p n) (credD 1 u p n b) u' p' n' b' = (decide (u = u') && (decide (p = p') && nonceOk n')) := by
  obtain ⟨_, _, hc, _⟩ := credE_range h
  obtain ⟨hT, hD⟩ := cred_some (b := b) h
  have hk : kindN (credT 1 u p n) = 1 := by rw [hT]; exact kind_typ 1 (by decide) (by decide)
  unfold holdsC
  rw [hk]
  by_cases hE : credE 1 u' p' n' = 0
  · obtain ⟨_, _, hc', hn⟩ := credE_range hE
    obtain ⟨hT', hD'⟩ := cred_some (b := b') hE
    rw [decide_eq_true hE, hT', hD', hT, hD, (nonceOk_iff n').2 hn, Bool.and_true, Bool.true_and]
    by_cases hu : u = u'
    · by_cases hp : p = p'
      · subst hu hp
        rw [decide_eq_true rfl, decide_eq_true rfl, decide_eq_true]; rfl
        rfl
      · rw [decide_eq_false hp, Bool.and_false]
        apply decide_eq_false
        intro e
        have e2 : encB (known u' p') = encB (known u p) := (Prod.mk.inj e).2
        exact hp (known_inj (chk_colon hc) (chk_colon hc') (encB_inj e2).symm).2
    · rw [decide_eq_false hu, Bool.false_and]
      apply decide_eq_false
      intro e
      have e2 : encB (known u' p') = encB (known u p) := (Prod.mk.inj e).2
      exact hu (known_inj (chk_colon hc) (chk_colon hc') (encB_inj e2).symm).1
  · rw [decide_eq_false hE, Bool.false_and]
    by_cases hu : u = u'
    · by_cases hp : p = p'
      · subst hu hp
        cases hn : nonceOk n' with
        | false => simp
        | true =>
          obtain ⟨h4, h5⟩ := (nonceOk_iff n').1 hn
          exact absurd (credE_zero (by decide) (by decide) hc h4 h5) hE
      · rw [decide_eq_false hp]; simp
    · rw [decide_eq_false hu]; rfl
end Go.Proofs.Yteheibgdjpkeaaa
