/- charset: what is encoded is decoded, in plain Lean. No condition. -/
import Derived.Test.YtcpmgnejbfnnjaaDoorChD
namespace Go.Proofs.YtcpmgnejbfnnjaaDoor
open Go.RowKit

/-- a letter below 256 in UTF-8 -/
def enB (c : Nat) : List UInt8 := if c < 128 then [UInt8.ofNat c] else [UInt8.ofNat (192 + c / 64), UInt8.ofNat (128 + c % 64)]
theorem enB_eq (c : Nat) (hc : c < 256) : Lib.encodeRune (c : Int) = enB c := by
  unfold enB Lib.encodeRune
  by_cases h : c < 128
  · rw [if_pos h, Lib.encodeRuneZ_one (by omega) (by omega)]; simp
  · rw [if_neg h, Lib.encodeRuneZ_two (by omega) (by omega)]
    simp only [List.map_cons, List.map_nil]
    rw [show (192 + (c : Int) / 64).toNat = 192 + c / 64 from by omega, show (128 + (c : Int) % 64).toNat = 128 + c % 64 from by omega]
theorem enB_len (c : Nat) : (enB c).length = if c < 128 then 1 else 2 := by unfold enB; split <;> rfl
theorem gb_mk (L : List UInt8) (i : Nat) (h : i < L.length) : gb (mkT L) i = (L[i]).toNat := by
  have hs : i < (mkT L).size := by simpa [mkT, ByteArray.size] using h
  rw [← gb_eq (mkT L) i hs]; rfl
theorem mkT_size (L : List UInt8) : (mkT L).size = L.length := by simp [mkT, ByteArray.size]
theorem decL_cons (c : UInt8) (l : List UInt8) : decL (c :: l) = enB c.toNat ++ decL l := by
  rw [← enB_eq c.toNat (UInt8.toNat_lt _)]; simp [decL]
theorem oneV_enc (c : Nat) (hc : c < 256) (l : List UInt8) : oneV (mkT (enB c ++ l)) = (c, (enB c).length) := by
  have hz : (mkT (enB c ++ l)).size ≠ 0 := by rw [mkT_size, List.length_append, enB_len]; split <;> omega
  rw [oneV_eq _ hz]
  by_cases h : c < 128
  · have e : enB c = [UInt8.ofNat c] := by unfold enB; rw [if_pos h]
    have g0 : gb (mkT (enB c ++ l)) 0 = c := by
      rw [gb_mk _ 0 (by rw [e]; simp)]
      simp only [e, List.cons_append, List.getElem_cons_zero]
      simp; omega
    rw [g0]
    unfold oneN
    rw [if_pos h, e]; rfl
  · have e : enB c = [UInt8.ofNat (192 + c / 64), UInt8.ofNat (128 + c % 64)] := by unfold enB; rw [if_neg h]
    have g0 : gb (mkT (enB c ++ l)) 0 = 192 + c / 64 := by
      rw [gb_mk _ 0 (by rw [e]; simp)]
      simp only [e, List.cons_append, List.getElem_cons_zero]
      simp; omega
    have g1 : gb (mkT (enB c ++ l)) 1 = 128 + c % 64 := by
      rw [gb_mk _ 1 (by rw [e]; simp)]
      simp only [e, List.cons_append, List.getElem_cons_succ, List.getElem_cons_zero]
      simp; omega
    have hn : 2 ≤ (mkT (enB c ++ l)).size := by rw [mkT_size, List.length_append, e]; simp
    rw [g0, g1]
    unfold oneN
    rw [if_neg (by omega), if_pos (by omega), if_pos ⟨hn, by omega, by omega⟩, e]
    have ha : (192 + c / 64) % 32 = c / 64 := by omega
    have hb : (128 + c % 64) % 64 = c % 64 := by omega
    rw [ha, hb]
    exact Prod.ext (show 64 * (c / 64) + c % 64 = c by omega) rfl
theorem tl_mk (a b : List UInt8) : tl (mkT (a ++ b)) a.length = mkT b := by
  apply Go.WideShapes.bytes_inj
  rw [tl_list]; simp [mkT]
theorem ltS_dec (l : List UInt8) : ltS (mkT (decL l)) = (l.map UInt8.toNat, true) := by
  induction l with
  | nil => exact ltS_nil _ (by simp [decL, mkT, ByteArray.size])
  | cons c l ih =>
    rw [decL_cons]
    have hc := UInt8.toNat_lt c
    have ho := oneV_enc c.toNat hc (decL l)
    have hz : (mkT (enB c.toNat ++ decL l)).size ≠ 0 := by rw [mkT_size, List.length_append, enB_len]; split <;> omega
    have hb : (oneV (mkT (enB c.toNat ++ decL l))).2 ≠ 0 := by rw [ho, enB_len]; split <;> simp
    rw [ltS_more _ hz hb, ho]
    simp only [tl_mk, ih, List.map_cons]
theorem take_two (r : ByteArray) (h : 2 ≤ r.size) : r.data.toList.take 2 = [UInt8.ofNat (gb r 0), UInt8.ofNat (gb r 1)] := by
  rw [← gb_eq r 0 (by omega), ← gb_eq r 1 (by omega)]
  have h0 := drop_cons_at r 0 (by omega)
  have h1 := drop_cons_at r 1 (by omega)
  rw [List.drop_zero] at h0
  rw [h0, h1]
  simp
theorem take_one (r : ByteArray) (h : 1 ≤ r.size) : r.data.toList.take 1 = [UInt8.ofNat (gb r 0)] := by
  rw [← gb_eq r 0 (by omega)]
  have h0 := drop_cons_at r 0 (by omega)
  rw [List.drop_zero] at h0
  rw [h0]
  simp
theorem one_small (r : ByteArray) (h : r.size ≠ 0) (h2 : (oneV r).2 ≠ 0) (h3 : (oneV r).1 ≤ 255) : enB (oneV r).1 = r.data.toList.take (oneV r).2 := by
  rw [oneV_eq r h] at *
  have g0 := gb_lt r 0
  have g1 := gb_lt r 1
  have g2 := gb_lt r 2
  have g3 := gb_lt r 3
  have t1 := take_one r (by omega)
  have t2 := take_two r
  generalize gb r 0 = b0 at *
  generalize gb r 1 = b1 at *
  generalize gb r 2 = b2 at *
  generalize gb r 3 = b3 at *
  by_cases c0 : b0 < 128
  · have e : oneN r.size b0 b1 b2 b3 = (b0, 1) := by unfold oneN; rw [if_pos c0]
    rw [e, t1]
    unfold enB; rw [if_pos c0]
  · by_cases c1 : 192 ≤ b0 ∧ b0 < 224
    · by_cases d1 : 2 ≤ r.size ∧ b1 / 64 = 2 ∧ 128 ≤ 64 * (b0 % 32) + b1 % 64
      · have e : oneN r.size b0 b1 b2 b3 = (64 * (b0 % 32) + b1 % 64, 2) := by unfold oneN; rw [if_neg c0, if_pos c1, if_pos d1]
        rw [e] at h3 ⊢
        simp only at h3
        rw [t2 d1.1]
        unfold enB
        simp only
        rw [if_neg (by omega)]
        rw [show 192 + (64 * (b0 % 32) + b1 % 64) / 64 = b0 from by omega, show 128 + (64 * (b0 % 32) + b1 % 64) % 64 = b1 from by omega]
      · have e : oneN r.size b0 b1 b2 b3 = (0, 0) := by unfold oneN; rw [if_neg c0, if_pos c1, if_neg d1]
        rw [e] at h2; exact absurd rfl h2
    · exfalso
      unfold oneN at h2 h3
      rw [if_neg c0, if_neg c1] at h2 h3
      revert h2 h3
      repeat' split
      all_goals (intro h2 h3; simp only [] at h2 h3; first | exact h2 rfl | omega)
theorem lt_back (f : Nat) : ∀ r : ByteArray, r.size ≤ f → (ltS r).2 = true → (∀ x ∈ (ltS r).1, x ≤ 255) → decL ((ltS r).1.map UInt8.ofNat) = r.data.toList := by
  induction f with
  | zero =>
    intro r hr _ _
    have h : r.size = 0 := by omega
    rw [ltS_nil r h]
    exact (List.eq_nil_of_length_eq_zero (by rw [len_toList]; exact h)).symm
  | succ f ih =>
    intro r hr hv hx
    by_cases h : r.size = 0
    · rw [ltS_nil r h]
      exact (List.eq_nil_of_length_eq_zero (by rw [len_toList]; exact h)).symm
    · by_cases h2 : (oneV r).2 = 0
      · rw [ltS_bad r h h2] at hv; simp at hv
      · rw [ltS_more r h h2] at hv hx ⊢
        have h3 : (oneV r).1 ≤ 255 := hx _ (by simp)
        have e1 := one_small r h h2 h3
        have e2 := ih (tl r (oneV r).2) (by rw [tl_size]; omega) hv (fun x hm => hx x (by simp [hm]))
        rw [List.map_cons, decL_cons, e2, tl_list]
        have e3 : (UInt8.ofNat (oneV r).1).toNat = (oneV r).1 := by simp; omega
        rw [e3, e1, List.take_append_drop]

theorem mostN_k {k : Int} (h : k = 1 ∨ k = 2) : mostN k ≤ 255 ∧ 0 ≤ mostN k := by
  rcases h with rfl | rfl <;> exact ⟨by decide, by decide⟩
/-- what is encoded is decoded -/
theorem enc_dec (k : Int) (s : ByteArray) (h : (encV k s).2 = 0) : decV k (encV k s).1 = (s, 0) := by
  unfold encV at h ⊢
  by_cases h1 : k < 1 ∨ 3 < k
  · rw [if_pos h1] at h; simp at h
  rw [if_neg h1] at h ⊢
  by_cases hv : (ltS s).2 = false
  · rw [if_pos hv] at h; simp at h
  have hv' : (ltS s).2 = true := by simpa using hv
  rw [if_neg hv] at h ⊢
  by_cases h3 : k = 3
  · rw [if_pos h3]
    unfold decV
    rw [if_neg h1, if_pos h3, if_pos hv']
  rw [if_neg h3] at h ⊢
  by_cases hm : ∀ x ∈ (ltS s).1, (x : Int) ≤ mostN k
  · rw [if_pos hm]
    have hk := mostN_k (k := k) (by omega)
    have hx : ∀ x ∈ (ltS s).1, x ≤ 255 := fun x hx => by have := hm x hx; omega
    have hb := lt_back s.size s (Nat.le_refl _) hv' hx
    have hfit : fitK (mostN k) (mkT ((ltS s).1.map UInt8.ofNat)) (mkT ((ltS s).1.map UInt8.ofNat)).size := by
      intro i hi _
      have hi2 : i < (ltS s).1.length := by rw [mkT_size, List.length_map] at hi; exact hi
      rw [gb_eq _ i hi, gb_mk _ i (by rw [List.length_map]; exact hi2), List.getElem_map]
      have h8 := hx _ (List.getElem_mem hi2)
      have h9 := hm _ (List.getElem_mem hi2)
      have : (UInt8.ofNat ((ltS s).1[i])).toNat = (ltS s).1[i] := by simp; omega
      rw [this]; exact h9
    unfold decV
    simp only
    rw [if_neg h1, if_neg h3, if_pos hfit]
    rw [show (mkT ((ltS s).1.map UInt8.ofNat)).data.toList = (ltS s).1.map UInt8.ofNat from by simp [mkT], hb]
    exact congrArg (·, (0 : Int)) (back s)
  · rw [if_neg hm] at h; simp at h
/-- what is decoded is encoded again -/
theorem dec_enc (k : Int) (s : ByteArray) (h : (decV k s).2 = 0) : encV k (decV k s).1 = (s, 0) ∧ (ltS (decV k s).1).2 = true := by
  unfold decV at h ⊢
  by_cases h1 : k < 1 ∨ 3 < k
  · rw [if_pos h1] at h; simp at h
  rw [if_neg h1] at h ⊢
  by_cases h3 : k = 3
  · rw [if_pos h3] at h ⊢
    by_cases hv : (ltS s).2 = true
    · rw [if_pos hv]
      refine ⟨?_, hv⟩
      unfold encV
      rw [if_neg h1, if_neg (by rw [hv]; simp), if_pos h3]
    · rw [if_neg hv] at h; simp at h
  rw [if_neg h3] at h ⊢
  by_cases hf : fitK (mostN k) s s.size
  · rw [if_pos hf]
    have hl := ltS_dec s.data.toList
    refine ⟨?_, by rw [hl]⟩
    unfold encV
    simp only
    rw [if_neg h1, hl]
    simp only [Bool.true_eq_false, if_false, h3]
    rw [if_pos]
    · rw [List.map_map]
      have : (UInt8.ofNat ∘ UInt8.toNat) = id := by funext c; simp
      rw [this, List.map_id]
      exact congrArg (·, (0 : Int)) (back s)
    · intro x hx
      obtain ⟨c, hc, rfl⟩ := List.mem_map.1 hx
      obtain ⟨i, hi, rfl⟩ := List.getElem_of_mem hc
      rw [len_toList] at hi
      exact hf i hi hi
  · rw [if_neg hf] at h; simp at h
end Go.Proofs.YtcpmgnejbfnnjaaDoor
