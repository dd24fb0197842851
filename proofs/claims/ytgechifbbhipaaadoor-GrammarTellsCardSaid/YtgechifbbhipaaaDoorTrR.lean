/- tree in plain words: what is made of right ones is right. No condition. -/
import Derived.Test.YtgechifbbhipaaaDoorTrQ
set_option linter.unusedVariables false
set_option linter.unusedSimpArgs false
namespace Go.Proofs.YtgechifbbhipaaaDoor
open Go.RowKit

mutual
theorem preT_shift (m : Nat) : ∀ (d : Nat) (e : Tr), preT (m + 1) (d + 1) e = (preT m d e).map fun p => (p.1 + 1, p.2)
  | d, .mk p n t o ks => by
    rw [preT, preT]
    by_cases h : m < d
    · rw [if_pos h, if_pos (by omega)]; rfl
    · rw [if_neg h, if_neg (by omega), List.map_cons, preL_shift m (d + 1) ks]
theorem preL_shift (m : Nat) : ∀ (d : Nat) (ks : List Tr), preL (m + 1) (d + 1) ks = (preL m d ks).map fun p => (p.1 + 1, p.2)
  | _, [] => by rw [preL, preL]; rfl
  | d, k :: ks => by rw [preL, preL, List.map_append, preT_shift m d k, preL_shift m d ks]
end
mutual
theorem preT_full {m m' : Nat} : ∀ (d : Nat) (e : Tr), d + hT e ≤ m + 1 → d + hT e ≤ m' + 1 → preT m d e = preT m' d e
  | d, .mk p n t o ks => fun h1 h2 => by
    rw [hT] at h1 h2
    rw [preT, preT, if_neg (by omega), if_neg (by omega), preL_full (m := m) (m' := m') (d + 1) ks (by omega) (by omega)]
theorem preL_full {m m' : Nat} : ∀ (d : Nat) (ks : List Tr), d + hL ks ≤ m + 1 → d + hL ks ≤ m' + 1 → preL m d ks = preL m' d ks
  | _, [] => fun _ _ => by rw [preL, preL]
  | d, k :: ks => fun h1 h2 => by
    rw [hL] at h1 h2
    rw [preL, preL, preT_full (m := m) (m' := m') d k (by omega) (by omega), preL_full (m := m) (m' := m') d ks (by omega) (by omega)]
end
mutual
theorem deep_hT {m : Nat} : ∀ (d : Nat) (e : Tr), d ≤ m + 1 → (∀ p ∈ preT (m + 1) d e, p.1 ≤ m) → d + hT e ≤ m + 1
  | d, .mk p n t o ks => fun h1 h2 => by
    rw [preT, if_neg (by omega)] at h2
    have h3 : d ≤ m := h2 _ (List.mem_cons_self)
    have h4 := deep_hL (d + 1) ks (by omega) (fun q hq => h2 q (List.mem_cons_of_mem _ hq))
    rw [hT]; omega
theorem deep_hL {m : Nat} : ∀ (d : Nat) (ks : List Tr), d ≤ m + 1 → (∀ p ∈ preL (m + 1) d ks, p.1 ≤ m) → d + hL ks ≤ m + 1
  | _, [] => fun h1 _ => by rw [hL]; omega
  | d, k :: ks => fun h1 h2 => by
    rw [preL] at h2
    have h3 := deep_hT d k h1 (fun q hq => h2 q (List.mem_append_left _ hq))
    have h4 := deep_hL d ks h1 (fun q hq => h2 q (List.mem_append_right _ hq))
    rw [hL]; omega
end
mutual
theorem preT_len {m m' : Nat} (hm : m ≤ m') : ∀ (d : Nat) (e : Tr), (preT m d e).length ≤ (preT m' d e).length
  | d, .mk p n t o ks => by
    rw [preT, preT]
    by_cases h : m < d
    · rw [if_pos h]; exact Nat.zero_le _
    · rw [if_neg h, if_neg (by omega), List.length_cons, List.length_cons]
      exact Nat.succ_le_succ (preL_len hm (d + 1) ks)
theorem preL_len {m m' : Nat} (hm : m ≤ m') : ∀ (d : Nat) (ks : List Tr), (preL m d ks).length ≤ (preL m' d ks).length
  | _, [] => by rw [preL]; exact Nat.zero_le _
  | d, k :: ks => by
    rw [preL, preL, List.length_append, List.length_append]
    exact Nat.add_le_add (preT_len hm d k) (preL_len hm d ks)
end
mutual
theorem preT_le (m : Nat) : ∀ (d : Nat) (e : Tr), ∀ p ∈ preT m d e, p.1 ≤ m
  | d, .mk p n t o ks => fun q hq => by
    rw [preT] at hq
    by_cases h : m < d
    · rw [if_pos h] at hq; cases hq
    · rw [if_neg h] at hq
      rcases List.mem_cons.1 hq with rfl | hq
      · exact Nat.le_of_not_lt h
      · exact preL_le m (d + 1) ks q hq
theorem preL_le (m : Nat) : ∀ (d : Nat) (ks : List Tr), ∀ p ∈ preL m d ks, p.1 ≤ m
  | _, [] => fun q hq => by rw [preL] at hq; cases hq
  | d, k :: ks => fun q hq => by
    rw [preL] at hq
    rcases List.mem_append.1 hq with hq | hq
    · exact preT_le m d k q hq
    · exact preL_le m d ks q hq
end
theorem preL_mem {m d : Nat} {ks : List Tr} {k : Tr} (hk : k ∈ ks) : ∀ p ∈ preT m d k, p ∈ preL m d ks := by
  induction ks with
  | nil => cases hk
  | cons x l ih =>
    intro p hp
    rw [preL]
    rcases List.mem_cons.1 hk with rfl | h
    · exact List.mem_append_left _ hp
    · exact List.mem_append_right _ (ih h p hp)
theorem preL_of {m d : Nat} {ks : List Tr} {p : Nat × Tr} (h : p ∈ preL m d ks) : ∃ k ∈ ks, p ∈ preT m d k := by
  induction ks with
  | nil => rw [preL] at h; cases h
  | cons x l ih =>
    rw [preL] at h
    rcases List.mem_append.1 h with h | h
    · exact ⟨x, List.mem_cons_self, h⟩
    · obtain ⟨k, h1, h2⟩ := ih h
      exact ⟨k, List.mem_cons_of_mem _ h1, h2⟩
theorem preL_lenk {m d : Nat} {ks : List Tr} {k : Tr} (hk : k ∈ ks) : (preT m d k).length ≤ (preL m d ks).length := by
  induction ks with
  | nil => cases hk
  | cons x l ih =>
    rw [preL, List.length_append]
    rcases List.mem_cons.1 hk with rfl | h
    · omega
    · have := ih h; omega
theorem firstC_zero {L : List (Nat × Tr)} : firstC L = 0 ↔ ∀ p ∈ L, chkT p.2 = 0 := by
  induction L with
  | nil => simp [firstC]
  | cons x l ih =>
    rw [firstC]
    by_cases h : chkT x.2 = 0
    · rw [if_pos h, ih]; simp [h]
    · rw [if_neg h]; simp [h]
theorem deepC_all {L : List (Nat × Tr)} (h : ¬ 12 < deepC L) : ∀ p ∈ L, p.1 ≤ 12 := ((deepC_le L 0).1 (by unfold deepC at h; omega)).2

/-- an element that is neither too deep nor too heavy: its elements, all told -/
theorem chkA_plain {e : Tr} (h1 : ¬ 12 < deepC ((preT 13 1 e).take 5000)) (h2 : ¬ 2000 < wgt e) : hT e ≤ 12 ∧ (preT 13 1 e).take 5000 = preT 13 1 e ∧ (preT 5000 1 e).length ≤ 2000 := by
  have h3 : (preT 5000 1 e).length ≤ 2000 := by unfold wgt at h2; omega
  have h4 := preT_len (show 13 ≤ 5000 by omega) 1 e
  have h5 : (preT 13 1 e).take 5000 = preT 13 1 e := List.take_of_length_le (by omega)
  rw [h5] at h1
  have := deep_hT (m := 12) 1 e (by omega) (deepC_all h1)
  exact ⟨by omega, h5, h3⟩
theorem chkA_of {e : Tr} (h1 : hT e ≤ 12) (h2 : (preT 5000 1 e).length ≤ 2000) : chkA e = firstC (preT 13 1 e) := by
  have h5 : (preT 13 1 e).take 5000 = preT 13 1 e := List.take_of_length_le (by have := preT_len (show 13 ≤ 5000 by omega) 1 e; omega)
  unfold chkA
  rw [h5]
  have hd : ¬ 12 < deepC (preT 13 1 e) := by
    have h6 : ∀ p ∈ preT 13 1 e, p.1 ≤ 12 := by
      rw [preT_full (m := 13) (m' := 12) 1 e (by omega) (by omega)]
      exact preT_le 12 1 e
    have := (deepC_le (preT 13 1 e) 0).2 ⟨by omega, h6⟩
    unfold deepC; omega
  rw [if_neg hd, if_neg (by unfold wgt; omega)]

/-- a kid that is wrong makes the whole wrong -/
theorem chkA_kid {e k : Tr} (hk : k ∈ e.kids) (h : chkA k ≠ 0) : chkA e ≠ 0 := by
  intro h0
  have h1 : ¬ 12 < deepC ((preT 13 1 e).take 5000) := fun h => by unfold chkA at h0; rw [if_pos h] at h0; cases h0
  have h2 : ¬ 2000 < wgt e := fun h => by unfold chkA at h0; rw [if_neg h1, if_pos h] at h0; cases h0
  obtain ⟨g1, g2, g3⟩ := chkA_plain h1 h2
  have g4 : firstC (preT 13 1 e) = 0 := by rw [← chkA_of g1 g3]; exact h0
  have hkt := hT_kid hk
  have e1 : preT 5000 1 e = (1, e) :: preL 5000 2 e.kids := preT_in (by omega)
  have e2 : preT 13 1 e = (1, e) :: preL 13 2 e.kids := preT_in (by omega)
  have l1 : (preT 5000 2 k).length ≤ 2000 := by
    have := preL_lenk (m := 5000) (d := 2) hk
    rw [e1, List.length_cons] at g3; omega
  have l2 : (preT 5000 1 k).length ≤ 2000 := by
    rw [preT_shift 4999 1 k, List.length_map] at l1
    rw [preT_full (m := 5000) (m' := 4999) 1 k (by omega) (by omega)]; exact l1
  rw [chkA_of (by omega) l2] at h
  apply h
  rw [firstC_zero] at g4 ⊢
  intro p hp
  rw [preT_full (m := 13) (m' := 12) 1 k (by omega) (by omega)] at hp
  have h5 : (p.1 + 1, p.2) ∈ preT 13 2 k := by
    rw [preT_shift 12 1 k]; exact List.mem_map.2 ⟨p, hp, rfl⟩
  exact g4 (p.1 + 1, p.2) (by rw [e2]; exact List.mem_cons_of_mem _ (preL_mem hk _ h5))

theorem shown_nil : shownB ByteArray.empty = true := by
  have h1 : badS ByteArray.empty = false := rfl
  have h2 : (ltS ByteArray.empty).2 = true := by rw [ltS_nil ByteArray.empty rfl]
  simp [shownB, h1, h2]
/-- what is made of right ones -/
theorem chkA_node {p : Int} {nm : ByteArray} {ks : List Tr} (h : ∀ k ∈ ks, chkA k = 0) : chkA (.mk p nm ByteArray.empty false ks) = 0 ∨ chkA (.mk p nm ByteArray.empty false ks) = 9 ∨ chkA (.mk p nm ByteArray.empty false ks) = 4 ∨ chkA (.mk p nm ByteArray.empty false ks) = 5 ∨ chkA (.mk p nm ByteArray.empty false ks) = 14 := by
  have hks : (Tr.mk p nm ByteArray.empty false ks).kids = ks := rfl
  have hE : chkT (.mk p nm ByteArray.empty false ks) = chkV p nm ByteArray.empty false ks.length := rfl
  generalize he : Tr.mk p nm ByteArray.empty false ks = e at *
  by_cases h1 : 12 < deepC ((preT 13 1 e).take 5000)
  · right; left; unfold chkA; rw [if_pos h1]
  by_cases h2 : 2000 < wgt e
  · right; right; left; unfold chkA; rw [if_neg h1, if_pos h2]
  obtain ⟨g1, g2, g3⟩ := chkA_plain h1 h2
  rw [chkA_of g1 g3, preT_in (by omega), firstC]
  have hc : chkT e = 0 ∨ chkT e = 4 ∨ chkT e = 5 ∨ chkT e = 14 := by
    rw [hE]; unfold chkV
    have hz : ByteArray.empty.size = 0 := rfl
    rw [shown_nil, hz]
    split
    · exact .inr (.inr (.inl rfl))
    split
    · exact .inr (.inr (.inr rfl))
    split
    · exact .inr (.inl rfl)
    simp
  by_cases h0 : chkT e = 0
  · rw [if_pos h0]
    left
    rw [firstC_zero]
    intro q hq
    obtain ⟨k, hk, hq2⟩ := preL_of hq
    have hkt := hT_kid hk
    have h3 := h k (by rw [← hks]; exact hk)
    have e1 : preT 5000 1 e = (1, e) :: preL 5000 2 e.kids := preT_in (by omega)
    have l1 : (preT 5000 2 k).length ≤ 2000 := by
      have := preL_lenk (m := 5000) (d := 2) hk
      rw [e1, List.length_cons] at g3; omega
    have l2 : (preT 5000 1 k).length ≤ 2000 := by
      rw [preT_shift 4999 1 k, List.length_map] at l1
      rw [preT_full (m := 5000) (m' := 4999) 1 k (by omega) (by omega)]; exact l1
    rw [chkA_of (by omega) l2, firstC_zero, preT_full (m := 13) (m' := 12) 1 k (by omega) (by omega)] at h3
    rw [preT_shift 12 1 k] at hq2
    obtain ⟨p2, hp2, rfl⟩ := List.mem_map.1 hq2
    exact h3 p2 hp2
  · rw [if_neg h0]
    rcases hc with hc | hc | hc | hc
    · exact absurd hc h0
    · exact .inr (.inr (.inl hc))
    · exact .inr (.inr (.inr (.inl hc)))
    · exact .inr (.inr (.inr (.inr hc)))
end Go.Proofs.YtgechifbbhipaaaDoor
