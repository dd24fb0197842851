/- Numbers in bytes of seven bits: the plain laws. No condition. -/
import Derived.Test.YtiakmaleiholnaaMbw
import Derived.Test.YtiakmaleiholnaaRdrO
namespace Go.Proofs.Ytiakmaleiholnaa
open Go.RowKit

theorem mbw1 {n : Nat} (h : n < 128) : mbw n = [(n : Int)] := by
  have h1 : n / 128 = 0 := by omega
  have h2 : n % 128 = n := by omega
  simp [mbw, mw7, h1, h2]
theorem mbw2 {n : Nat} (h : 128 ≤ n) (h' : n < 16384) : mbw n = [((n / 128 + 128 : Nat) : Int), ((n % 128 : Nat) : Int)] := by
  have h1 : ¬ n / 128 = 0 := by omega
  have h2 : n / 128 / 128 = 0 := by omega
  have h3 : n / 128 % 128 = n / 128 := by omega
  simp [mbw, mw7, h1, h2, h3]
theorem mbw3 {n : Nat} (h : 16384 ≤ n) (h' : n < 2097152) : mbw n = [((n / 16384 + 128 : Nat) : Int), ((n / 128 % 128 + 128 : Nat) : Int), ((n % 128 : Nat) : Int)] := by
  have h1 : ¬ n / 128 = 0 := by omega
  have h2 : ¬ n / 128 / 128 = 0 := by omega
  have h3 : n / 128 / 128 / 128 = 0 := by omega
  have h4 : n / 128 / 128 % 128 = n / 16384 := by omega
  simp only [mbw, mw7, if_neg h1, if_neg h2, if_pos h3, h4]
  simp
theorem mbw4 {n : Nat} (h : 2097152 ≤ n) (h' : n < 268435456) : mbw n = [((n / 2097152 + 128 : Nat) : Int), ((n / 16384 % 128 + 128 : Nat) : Int), ((n / 128 % 128 + 128 : Nat) : Int), ((n % 128 : Nat) : Int)] := by
  have h1 : ¬ n / 128 = 0 := by omega
  have h2 : ¬ n / 128 / 128 = 0 := by omega
  have h3 : ¬ n / 128 / 128 / 128 = 0 := by omega
  have h4 : n / 128 / 128 / 128 / 128 = 0 := by omega
  have h5 : n / 128 / 128 % 128 = n / 16384 % 128 := by omega
  have h6 : n / 128 / 128 / 128 % 128 = n / 2097152 := by omega
  simp only [mbw, mw7, if_neg h1, if_neg h2, if_neg h3, if_pos h4, h5, h6]
  simp
theorem mbw5 {n : Nat} (h : 268435456 ≤ n) (h' : n < 4294967296) : mbw n = [((n / 268435456 + 128 : Nat) : Int), ((n / 2097152 % 128 + 128 : Nat) : Int), ((n / 16384 % 128 + 128 : Nat) : Int), ((n / 128 % 128 + 128 : Nat) : Int), ((n % 128 : Nat) : Int)] := by
  have h1 : ¬ n / 128 = 0 := by omega
  have h2 : ¬ n / 128 / 128 = 0 := by omega
  have h3 : ¬ n / 128 / 128 / 128 = 0 := by omega
  have h4 : ¬ n / 128 / 128 / 128 / 128 = 0 := by omega
  have h4' : n / 128 / 128 / 128 / 128 / 128 = 0 := by omega
  have h5 : n / 128 / 128 % 128 = n / 16384 % 128 := by omega
  have h6 : n / 128 / 128 / 128 % 128 = n / 2097152 % 128 := by omega
  have h7 : n / 128 / 128 / 128 / 128 % 128 = n / 268435456 := by omega
  simp only [mbw, mw7, if_neg h1, if_neg h2, if_neg h3, if_neg h4, if_pos h4', h5, h6, h7]
  simp

/-- the bytes of a list of numbers -/
def u8s (l : List Int) : List UInt8 := l.map fun n => UInt8.ofNat n.toNat
theorem u8n (n : Nat) (h : n < 256) : (UInt8.ofNat ((n : Int)).toNat).toNat = n := by simp; omega

/-- what is written is read, with whatever stands behind -/
theorem svn_mbw (n : Nat) (hn : n < 4294967296) (l : List UInt8) : svn 0 0 (u8s (mbw n) ++ l) = (n, (mbw n).length, 0) := by
  by_cases c1 : n < 128
  · rw [mbw1 c1]
    simp only [u8s, List.map_cons, List.map_nil, List.cons_append, List.nil_append, List.length_cons, List.length_nil]
    rw [svn_end (by intro _; rw [u8n n (by omega)]; omega) (by rw [u8n n (by omega)]; omega) (by rw [u8n n (by omega)]; omega), u8n n (by omega)]
    exact Prod.ext (by show (_ : Nat) = _; omega) rfl
  by_cases c2 : n < 16384
  · rw [mbw2 (by omega) c2]
    simp only [u8s, List.map_cons, List.map_nil, List.cons_append, List.nil_append, List.length_cons, List.length_nil]
    have e1 := u8n (n / 128 + 128) (by omega)
    have e2 := u8n (n % 128) (by omega)
    rw [svn_more (by rw [e1]; omega) (by rw [e1]; omega) (by rw [e1]; omega), svn_end (by omega) (by rw [e1, e2]; omega) (by rw [e2]; omega), e1, e2]
    exact Prod.ext (by show (_ : Nat) = _; omega) rfl
  by_cases c3 : n < 2097152
  · rw [mbw3 (by omega) c3]
    simp only [u8s, List.map_cons, List.map_nil, List.cons_append, List.nil_append, List.length_cons, List.length_nil]
    have e1 := u8n (n / 16384 + 128) (by omega)
    have e2 := u8n (n / 128 % 128 + 128) (by omega)
    have e3 := u8n (n % 128) (by omega)
    rw [svn_more (by rw [e1]; omega) (by rw [e1]; omega) (by rw [e1]; omega), svn_more (by omega) (by rw [e1, e2]; omega) (by rw [e2]; omega), svn_end (by omega) (by rw [e1, e2, e3]; omega) (by rw [e3]; omega), e1, e2, e3]
    exact Prod.ext (by show (_ : Nat) = _; omega) rfl
  by_cases c4 : n < 268435456
  · rw [mbw4 (by omega) c4]
    simp only [u8s, List.map_cons, List.map_nil, List.cons_append, List.nil_append, List.length_cons, List.length_nil]
    have e1 := u8n (n / 2097152 + 128) (by omega)
    have e2 := u8n (n / 16384 % 128 + 128) (by omega)
    have e3 := u8n (n / 128 % 128 + 128) (by omega)
    have e4 := u8n (n % 128) (by omega)
    rw [svn_more (by rw [e1]; omega) (by rw [e1]; omega) (by rw [e1]; omega), svn_more (by omega) (by rw [e1, e2]; omega) (by rw [e2]; omega), svn_more (by omega) (by rw [e1, e2, e3]; omega) (by rw [e3]; omega),
      svn_end (by omega) (by rw [e1, e2, e3, e4]; omega) (by rw [e4]; omega), e1, e2, e3, e4]
    exact Prod.ext (by show (_ : Nat) = _; omega) rfl
  · rw [mbw5 (by omega) hn]
    simp only [u8s, List.map_cons, List.map_nil, List.cons_append, List.nil_append, List.length_cons, List.length_nil]
    have e1 := u8n (n / 268435456 + 128) (by omega)
    have e2 := u8n (n / 2097152 % 128 + 128) (by omega)
    have e3 := u8n (n / 16384 % 128 + 128) (by omega)
    have e4 := u8n (n / 128 % 128 + 128) (by omega)
    have e5 := u8n (n % 128) (by omega)
    rw [svn_more (by rw [e1]; omega) (by rw [e1]; omega) (by rw [e1]; omega), svn_more (by omega) (by rw [e1, e2]; omega) (by rw [e2]; omega), svn_more (by omega) (by rw [e1, e2, e3]; omega) (by rw [e3]; omega),
      svn_more (by omega) (by rw [e1, e2, e3, e4]; omega) (by rw [e4]; omega), svn_end (by omega) (by rw [e1, e2, e3, e4, e5]; omega) (by rw [e5]; omega), e1, e2, e3, e4, e5]
    exact Prod.ext (by show (_ : Nat) = _; omega) rfl

theorem u8_back (c : UInt8) (n : Nat) (h : n = c.toNat) : UInt8.ofNat ((n : Int)).toNat = c := by subst h; simp

/-- one round of svn -/
theorem svn_inv {a k : Nat} {l : List UInt8} {v j : Nat} (h : svn a k l = (v, j, 0)) :
    ∃ c cs, l = c :: cs ∧ (k = 0 → c.toNat ≠ 128) ∧ 128 * a + c.toNat % 128 ≤ 4294967295 ∧ ((c.toNat < 128 ∧ v = 128 * a + c.toNat % 128 ∧ j = k + 1) ∨ (128 ≤ c.toNat ∧ svn (128 * a + c.toNat % 128) (k + 1) cs = (v, j, 0))) := by
  cases l with
  | nil => simp [svn] at h
  | cons c cs =>
    rw [svn] at h
    split at h
    · simp at h
    · rename_i h1
      split at h
      · simp at h
      · rename_i h2
        split at h
        · rename_i h3
          simp only [Prod.mk.injEq] at h
          exact ⟨c, cs, rfl, fun hk hc => h1 ⟨hk, hc⟩, by omega, .inl ⟨h3, h.1.symm, h.2.1.symm⟩⟩
        · exact ⟨c, cs, rfl, fun hk hc => h1 ⟨hk, hc⟩, by omega, .inr ⟨by omega, h⟩⟩

/-- what is read has the bytes that it would be written with -/
theorem svn_take {l : List UInt8} {v j : Nat} (h : svn 0 0 l = (v, j, 0)) : l.take j = u8s (mbw v) ∧ v < 4294967296 ∧ j ≤ l.length := by
  obtain ⟨c0, l0, rfl, z0, b0, ⟨t0, rfl, rfl⟩ | ⟨t0, h⟩⟩ := svn_inv h
  · have e : 128 * 0 + c0.toNat % 128 = c0.toNat := by omega
    rw [e, mbw1 (by omega)]
    exact ⟨by simp [u8s], by omega, by simp⟩
  have z0 := z0 rfl
  have q0 := c0.toNat_lt
  obtain ⟨c1, l1, rfl, -, b1, ⟨t1, rfl, rfl⟩ | ⟨t1, h⟩⟩ := svn_inv h
  · rw [mbw2 (by omega) (by omega)]
    refine ⟨?_, by omega, by simp⟩
    simp only [u8s, List.map_cons, List.map_nil]
    rw [u8_back c0 _ (by omega), u8_back c1 _ (by omega)]; rfl
  have q1 := c1.toNat_lt
  obtain ⟨c2, l2, rfl, -, b2, ⟨t2, rfl, rfl⟩ | ⟨t2, h⟩⟩ := svn_inv h
  · rw [mbw3 (by omega) (by omega)]
    refine ⟨?_, by omega, by simp⟩
    simp only [u8s, List.map_cons, List.map_nil]
    rw [u8_back c0 _ (by omega), u8_back c1 _ (by omega), u8_back c2 _ (by omega)]; rfl
  have q2 := c2.toNat_lt
  obtain ⟨c3, l3, rfl, -, b3, ⟨t3, rfl, rfl⟩ | ⟨t3, h⟩⟩ := svn_inv h
  · rw [mbw4 (by omega) (by omega)]
    refine ⟨?_, by omega, by simp⟩
    simp only [u8s, List.map_cons, List.map_nil]
    rw [u8_back c0 _ (by omega), u8_back c1 _ (by omega), u8_back c2 _ (by omega), u8_back c3 _ (by omega)]; rfl
  have q3 := c3.toNat_lt
  obtain ⟨c4, l4, rfl, -, b4, ⟨t4, rfl, rfl⟩ | ⟨t4, h⟩⟩ := svn_inv h
  · rw [mbw5 (by omega) (by omega)]
    refine ⟨?_, by omega, by simp⟩
    simp only [u8s, List.map_cons, List.map_nil]
    rw [u8_back c0 _ (by omega), u8_back c1 _ (by omega), u8_back c2 _ (by omega), u8_back c3 _ (by omega), u8_back c4 _ (by omega)]; rfl
  obtain ⟨c5, l5, rfl, -, b5, _⟩ := svn_inv h
  omega
end Go.Proofs.Ytiakmaleiholnaa
