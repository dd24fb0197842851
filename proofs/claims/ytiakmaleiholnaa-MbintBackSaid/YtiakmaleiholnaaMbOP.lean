/- MbintOrder: the plain law. No condition. -/
import Derived.Test.YtiakmaleiholnaaMbO
namespace Go.Proofs.Ytiakmaleiholnaa
open Go.RowKit

theorem strOfNums_list (l : List Int) : (strOfNums l).toList = u8s l := by
  rw [ByteArray.toList_eq]; simp [strOfNums, u8s]

theorem mbw_len (n : Nat) (h : n < 4294967296) : (n < 128 ∧ (mbw n).length = 1) ∨ (128 ≤ n ∧ n < 16384 ∧ (mbw n).length = 2) ∨ (16384 ≤ n ∧ n < 2097152 ∧ (mbw n).length = 3) ∨ (2097152 ≤ n ∧ n < 268435456 ∧ (mbw n).length = 4) ∨ (268435456 ≤ n ∧ (mbw n).length = 5) := by
  by_cases c1 : n < 128
  · exact .inl ⟨c1, by rw [mbw1 c1]; rfl⟩
  by_cases c2 : n < 16384
  · exact .inr (.inl ⟨by omega, c2, by rw [mbw2 (by omega) c2]; rfl⟩)
  by_cases c3 : n < 2097152
  · exact .inr (.inr (.inl ⟨by omega, c3, by rw [mbw3 (by omega) c3]; rfl⟩))
  by_cases c4 : n < 268435456
  · exact .inr (.inr (.inr (.inl ⟨by omega, c4, by rw [mbw4 (by omega) c4]; rfl⟩)))
  · exact .inr (.inr (.inr (.inr ⟨by omega, by rw [mbw5 (by omega) h]; rfl⟩)))

theorem less_dec {l m : List UInt8} {p : Prop} [Decidable p] (h : l.map UInt8.toNat < m.map UInt8.toNat ↔ p) : Op.bytesLess l m = decide p := by
  rw [less_of, Bool.eq_iff_iff]; simp only [decide_eq_true_eq]; exact h

theorem chain0 (a b : Nat) (Q : Prop) : (a + 128 < b + 128 ∨ a + 128 = b + 128 ∧ Q) ↔ (a < b ∨ a = b ∧ Q) := by
  have e1 : a + 128 < b + 128 ↔ a < b := by omega
  have e2 : a + 128 = b + 128 ↔ a = b := by omega
  rw [e1, e2]
theorem chain1 (a b d e x y : Nat) (R : Prop) (hx : 128 * a + d = x) (hy : 128 * b + e = y) (hd : d < 128) (he : e < 128) : (a < b ∨ a = b ∧ (d < e ∨ d = e ∧ R)) ↔ (x < y ∨ x = y ∧ R) := by
  have e1 : x < y ↔ (a < b ∨ a = b ∧ d < e) := by omega
  have e2 : x = y ↔ (a = b ∧ d = e) := by omega
  rw [e1, e2]
  constructor
  · rintro (h | ⟨h, h2 | ⟨h2, h3⟩⟩)
    · exact .inl (.inl h)
    · exact .inl (.inr ⟨h, h2⟩)
    · exact .inr ⟨⟨h, h2⟩, h3⟩
  · rintro ((h | ⟨h, h2⟩) | ⟨⟨h, h2⟩, h3⟩)
    · exact .inl h
    · exact .inr ⟨h, .inl h2⟩
    · exact .inr ⟨h, .inr ⟨h2, h3⟩⟩
theorem chainE (a b : Nat) : (a < b ∨ a = b ∧ False) ↔ a < b := by simp

theorem less2 (n m : Nat) (hn : n < 16384) (hm : m < 16384) (h1 : 128 ≤ n) (h2 : 128 ≤ m) : (u8s (mbw n)).map UInt8.toNat < (u8s (mbw m)).map UInt8.toNat ↔ n < m := by
  rw [mbw2 h1 hn, mbw2 h2 hm]
  simp only [u8s, List.map_cons, List.map_nil]
  rw [u8n (n / 128 + 128) (by omega), u8n (n % 128) (by omega), u8n (m / 128 + 128) (by omega), u8n (m % 128) (by omega)]
  simp only [List.cons_lt_cons_iff, List.not_lt_nil]
  rw [chain0, chain1 _ _ _ _ n m _ (by omega) (by omega) (by omega) (by omega), chainE]
theorem less3 (n m : Nat) (hn : n < 2097152) (hm : m < 2097152) (h1 : 16384 ≤ n) (h2 : 16384 ≤ m) : (u8s (mbw n)).map UInt8.toNat < (u8s (mbw m)).map UInt8.toNat ↔ n < m := by
  rw [mbw3 h1 hn, mbw3 h2 hm]
  simp only [u8s, List.map_cons, List.map_nil]
  rw [u8n (n / 16384 + 128) (by omega), u8n (n / 128 % 128 + 128) (by omega), u8n (n % 128) (by omega), u8n (m / 16384 + 128) (by omega), u8n (m / 128 % 128 + 128) (by omega), u8n (m % 128) (by omega)]
  simp only [List.cons_lt_cons_iff, List.not_lt_nil]
  rw [chain0, chain0, chain1 _ _ _ _ (n / 128) (m / 128) _ (by omega) (by omega) (by omega) (by omega), chain1 _ _ _ _ n m _ (by omega) (by omega) (by omega) (by omega), chainE]
theorem less4 (n m : Nat) (hn : n < 268435456) (hm : m < 268435456) (h1 : 2097152 ≤ n) (h2 : 2097152 ≤ m) : (u8s (mbw n)).map UInt8.toNat < (u8s (mbw m)).map UInt8.toNat ↔ n < m := by
  rw [mbw4 h1 hn, mbw4 h2 hm]
  simp only [u8s, List.map_cons, List.map_nil]
  rw [u8n (n / 2097152 + 128) (by omega), u8n (n / 16384 % 128 + 128) (by omega), u8n (n / 128 % 128 + 128) (by omega), u8n (n % 128) (by omega), u8n (m / 2097152 + 128) (by omega), u8n (m / 16384 % 128 + 128) (by omega), u8n (m / 128 % 128 + 128) (by omega), u8n (m % 128) (by omega)]
  simp only [List.cons_lt_cons_iff, List.not_lt_nil]
  rw [chain0, chain0, chain0, chain1 _ _ _ _ (n / 16384) (m / 16384) _ (by omega) (by omega) (by omega) (by omega), chain1 _ _ _ _ (n / 128) (m / 128) _ (by omega) (by omega) (by omega) (by omega), chain1 _ _ _ _ n m _ (by omega) (by omega) (by omega) (by omega), chainE]
theorem less5 (n m : Nat) (hn : n < 4294967296) (hm : m < 4294967296) (h1 : 268435456 ≤ n) (h2 : 268435456 ≤ m) : (u8s (mbw n)).map UInt8.toNat < (u8s (mbw m)).map UInt8.toNat ↔ n < m := by
  rw [mbw5 h1 hn, mbw5 h2 hm]
  simp only [u8s, List.map_cons, List.map_nil]
  rw [u8n (n / 268435456 + 128) (by omega), u8n (n / 2097152 % 128 + 128) (by omega), u8n (n / 16384 % 128 + 128) (by omega), u8n (n / 128 % 128 + 128) (by omega), u8n (n % 128) (by omega), u8n (m / 268435456 + 128) (by omega), u8n (m / 2097152 % 128 + 128) (by omega), u8n (m / 16384 % 128 + 128) (by omega), u8n (m / 128 % 128 + 128) (by omega), u8n (m % 128) (by omega)]
  simp only [List.cons_lt_cons_iff, List.not_lt_nil]
  rw [chain0, chain0, chain0, chain0, chain1 _ _ _ _ (n / 2097152) (m / 2097152) _ (by omega) (by omega) (by omega) (by omega), chain1 _ _ _ _ (n / 16384) (m / 16384) _ (by omega) (by omega) (by omega) (by omega), chain1 _ _ _ _ (n / 128) (m / 128) _ (by omega) (by omega) (by omega) (by omega), chain1 _ _ _ _ n m _ (by omega) (by omega) (by omega) (by omega), chainE]

theorem mb_order (n m : Nat) (hn : n < 4294967296) (hm : m < 4294967296) :
    ((mbw n).length < (mbw m).length ∧ n < m) ∨ ((mbw m).length < (mbw n).length ∧ m < n) ∨ ((mbw n).length = (mbw m).length ∧ Op.bytesLess (strOfNums (mbw n)).toList (strOfNums (mbw m)).toList = decide (n < m)) := by
  rcases Nat.lt_trichotomy (mbw n).length (mbw m).length with h | h | h
  · refine .inl ⟨h, ?_⟩
    have := mbw_len n hn; have := mbw_len m hm; omega
  · refine .inr (.inr ⟨h, ?_⟩)
    rw [strOfNums_list, strOfNums_list]
    apply less_dec
    rcases mbw_len n hn with h1 | h1 | h1 | h1 | h1 <;> rcases mbw_len m hm with h2 | h2 | h2 | h2 | h2 <;> first | (exfalso; omega) | skip
    · rw [mbw1 h1.1, mbw1 h2.1]
      simp only [u8s, List.map_cons, List.map_nil]
      rw [u8n n (by omega), u8n m (by omega)]
      simp only [List.cons_lt_cons_iff, List.not_lt_nil]
      rw [chainE]
    · exact less2 n m h1.2.1 h2.2.1 h1.1 h2.1
    · exact less3 n m h1.2.1 h2.2.1 h1.1 h2.1
    · exact less4 n m h1.2.1 h2.2.1 h1.1 h2.1
    · exact less5 n m hn hm h1.1 h2.1
  · refine .inr (.inl ⟨h, ?_⟩)
    have := mbw_len n hn; have := mbw_len m hm; omega
end Go.Proofs.Ytiakmaleiholnaa
