/- parts: the plain laws: what is joined is parted, what is parted is joined; and the reference's Split. No condition but sizes. -/
import Derived.Test.YtcpmgnejbfnnjaaPtK
namespace Go.Proofs.Ytcpmgnejbfnnjaa
open Go.RowKit

theorem escL_cons (c : UInt8) (s : List UInt8) : escL (c :: s) = escC c ++ escL s := rfl
theorem nx_esc_rest (x rest : List UInt8) (hr : rest = [] ∨ ∃ r, rest = 59 :: r) : nxL (escL x ++ rest) = (x, (escL x).length, true) := by
  induction x with
  | nil =>
    rcases hr with rfl | ⟨r, rfl⟩
    · simp [escL, nx_nil]
    · simp [escL, nx_sep]
  | cons c x ih =>
    have e : escL (c :: x) = escC c ++ escL x := rfl
    rw [e, List.append_assoc]
    cases hs : spc c with
    | true =>
      have e2 : escC c = [92, c] := by unfold escC; rw [if_pos hs]
      rw [e2]
      show nxL (92 :: c :: (escL x ++ rest)) = _
      rw [nx_esc c _ hs, ih]
      simp
    | false =>
      have e2 : escC c = [c] := by unfold escC; rw [if_neg (by simp [hs])]
      have h1 : c ≠ 59 := fun e => by rw [e] at hs; cases hs
      have h2 : c ≠ 92 := fun e => by rw [e] at hs; cases hs
      rw [e2]
      show nxL (c :: (escL x ++ rest)) = _
      rw [nx_byte c _ h1 h2, ih]
      simp
theorem split_join (l : List (List UInt8)) (i : Nat) (h : l ≠ []) : spL i (jnL l) = (l, -1) := by
  induction l generalizing i with
  | nil => exact absurd rfl h
  | cons x l ih =>
    cases l with
    | nil =>
      have hn := nx_esc_rest x [] (.inl rfl)
      rw [List.append_nil] at hn
      show spL i (escL x) = _
      rw [sp_end (by rw [hn]) (by rw [hn]; simp), hn]
    | cons y l =>
      have hn := nx_esc_rest x (59 :: jnL (y :: l)) (.inr ⟨_, rfl⟩)
      show spL i (escL x ++ 59 :: jnL (y :: l)) = _
      have hd : (escL x ++ 59 :: jnL (y :: l)).drop ((escL x).length + 1) = jnL (y :: l) := by
        rw [← List.drop_drop, List.drop_left]; rfl
      rw [sp_more (by rw [hn]) (by rw [hn, List.drop_left]; simp), hn]
      simp only [hd]
      rw [ih _ (by simp)]
theorem nx_back (f : Nat) (l : List UInt8) (h : l.length ≤ f) (hb : (nxL l).2.2 = true) : escL (nxL l).1 ++ l.drop ((nxL l).2.1) = l ∧ (l.drop ((nxL l).2.1) = [] ∨ ∃ r, l.drop ((nxL l).2.1) = 59 :: r) := by
  induction f generalizing l with
  | zero => obtain rfl : l = [] := List.eq_nil_of_length_eq_zero (by omega); rw [nx_nil]; simp [escL]
  | succ f ih =>
    match l, h, hb with
    | [], _, _ => rw [nx_nil]; simp [escL]
    | c :: r, h, hb =>
      by_cases h1 : c = 59
      · subst h1; rw [nx_sep]; simp [escL]
      · by_cases h2 : c = 92
        · subst h2
          match r, h, hb with
          | [], _, hb => rw [nx_bad1] at hb; cases hb
          | d :: r, h, hb =>
            cases hd : spc d
            · rw [nx_bad2 d r hd] at hb; cases hb
            · rw [nx_esc d r hd] at hb ⊢
              obtain ⟨e1, e2⟩ := ih r (by simp at h; omega) hb
              have e : escL (d :: (nxL r).1) = [92, d] ++ escL (nxL r).1 := by
                rw [escL_cons, show escC d = [92, d] from by unfold escC; rw [if_pos hd]]
              refine ⟨?_, e2⟩
              show escL (d :: (nxL r).1) ++ r.drop ((nxL r).2.1) = _
              rw [e, List.append_assoc, e1]; rfl
        · rw [nx_byte c r h1 h2] at hb ⊢
          obtain ⟨e1, e2⟩ := ih r (by simp at h; omega) hb
          have hs : spc c = false := by unfold spc; simp [h1, h2]
          have e : escL (c :: (nxL r).1) = [c] ++ escL (nxL r).1 := by
            rw [escL_cons, show escC c = [c] from by unfold escC; rw [if_neg (by simp [hs])]]
          refine ⟨?_, e2⟩
          show escL (c :: (nxL r).1) ++ r.drop ((nxL r).2.1) = _
          rw [e, List.append_assoc, e1]; rfl
theorem sp_ne (i : Nat) (l : List UInt8) (h : (spL i l).2 = -1) : (spL i l).1 ≠ [] := by
  cases h1 : (nxL l).2.2
  · rw [sp_bad h1] at h; simp at h; omega
  · by_cases h2 : l.drop ((nxL l).2.1) = []
    · rw [sp_end h1 h2]; simp
    · rw [sp_more h1 h2]; simp
theorem join_split (f i : Nat) (l : List UInt8) (hf : l.length ≤ f) (h : (spL i l).2 = -1) : jnL (spL i l).1 = l := by
  induction f generalizing i l with
  | zero =>
    obtain rfl : l = [] := List.eq_nil_of_length_eq_zero (by omega)
    rw [sp_end (by rw [nx_nil]) (by simp), nx_nil]
    simp [jnL, escL]
  | succ f ih =>
    cases h1 : (nxL l).2.2
    · rw [sp_bad h1] at h; simp at h; omega
    · obtain ⟨e1, e2⟩ := nx_back _ l (Nat.le_refl _) h1
      by_cases h2 : l.drop ((nxL l).2.1) = []
      · rw [sp_end h1 h2]
        rw [h2, List.append_nil] at e1
        exact e1
      · rw [sp_more h1 h2] at h ⊢
        rcases e2 with e2 | ⟨r, e2⟩
        · exact absurd e2 h2
        · have hr : l.drop ((nxL l).2.1 + 1) = r := by rw [← List.drop_drop, e2]; rfl
          have hlen : r.length < l.length := by
            have := congrArg List.length e2
            rw [List.length_drop, List.length_cons] at this; omega
          simp only [hr] at h ⊢
          have e3 := ih (i + (nxL l).2.1 + 1) r (by omega) h
          have e4 := sp_ne _ _ h
          obtain ⟨y, m, hm⟩ := List.exists_cons_of_ne_nil e4
          rw [hm] at e3 ⊢
          show escL (nxL l).1 ++ 59 :: jnL (y :: m) = l
          rw [e3, ← e2]; exact e1
theorem sp_sum (f i : Nat) (l : List UInt8) (hf : l.length ≤ f) : (((spL i l).1).map (·.length)).sum ≤ l.length := by
  induction f generalizing i l with
  | zero =>
    obtain rfl : l = [] := List.eq_nil_of_length_eq_zero (by omega)
    rw [sp_end (by rw [nx_nil]) (by simp), nx_nil]; simp
  | succ f ih =>
    cases h1 : (nxL l).2.2
    · rw [sp_bad h1]; simp
    · have hl := nx_le _ l (Nat.le_refl _)
      have hb := nx_back _ l (Nat.le_refl _) h1
      have h3 : (nxL l).1.length ≤ (nxL l).2.1 := by
        have e1 := congrArg List.length hb.1
        have e2 : (nxL l).1.length ≤ (escL (nxL l).1).length := by
          generalize (nxL l).1 = y
          induction y with
          | nil => simp
          | cons c y ihy =>
            have e : escL (c :: y) = escC c ++ escL y := rfl
            have : 1 ≤ (escC c).length := by unfold escC; split <;> simp
            rw [e, List.length_append, List.length_cons]; omega
        rw [List.length_append, List.length_drop] at e1
        omega
      by_cases h2 : l.drop ((nxL l).2.1) = []
      · rw [sp_end h1 h2]; simp; omega
      · rw [sp_more h1 h2]
        have h4 : (nxL l).2.1 < l.length := by
          rcases Nat.lt_or_ge (nxL l).2.1 l.length with h | h
          · exact h
          · exact absurd (List.drop_of_length_le h) h2
        have := ih (i + (nxL l).2.1 + 1) (l.drop ((nxL l).2.1 + 1)) (by rw [List.length_drop]; omega)
        rw [List.length_drop] at this
        rw [List.map_cons, List.sum_cons]; omega

theorem mkT_list (l : List UInt8) : (mkT l).data.toList = l := by simp [mkT]
theorem mkT_self (s : ByteArray) : mkT s.data.toList = s := by cases s; simp [mkT]
theorem lts_mkT (l : List (List UInt8)) : lts (l.map mkT) = l := by
  unfold lts; rw [List.map_map]
  conv => rhs; rw [← List.map_id l]
  exact List.map_congr_left fun x _ => mkT_list x
theorem map_lts (l : List ByteArray) : (lts l).map mkT = l := by
  unfold lts; rw [List.map_map]
  conv => rhs; rw [← List.map_id l]
  exact List.map_congr_left fun x _ => mkT_self x
theorem parts_join (l : List ByteArray) (h : l ≠ []) : PartsOf (mkT (jnL (lts l))) = l ∧ WrongAt (mkT (jnL (lts l))) = -1 := by
  unfold PartsOf WrongAt
  rw [mkT_list, split_join _ _ (by unfold lts; simpa using h)]
  exact ⟨map_lts l, rfl⟩
theorem join_parts (s : ByteArray) (h : WrongAt s = -1) : mkT (jnL (lts (PartsOf s))) = s := by
  unfold PartsOf
  rw [lts_mkT, join_split _ 0 s.data.toList (Nat.le_refl _) h, mkT_self]
theorem mkT_size (l : List UInt8) : (mkT l).size = l.length := by simp [mkT, ByteArray.size]
theorem parts_sum (s : ByteArray) : ((PartsOf s).map (·.size)).sum ≤ s.size := by
  have := sp_sum _ 0 s.data.toList (Nat.le_refl _)
  rw [len_toList] at this
  unfold PartsOf
  rw [List.map_map]
  have e : ((spL 0 s.data.toList).1.map ((·.size) ∘ mkT)) = (spL 0 s.data.toList).1.map (·.length) := List.map_congr_left fun x _ => mkT_size x
  rw [e]; exact this
theorem jnL_len (l : List ByteArray) : (jnL (lts l)).length ≤ 2 * (l.map (·.size)).sum + l.length := by
  have := jnK_len l l.length (Nat.le_refl _)
  have e : szs l l.length = (l.map (·.size)).sum := by unfold szs; rw [List.take_length]
  rw [e] at this
  unfold jnK at this
  rwa [List.take_length] at this

set_option maxRecDepth 100000 in
theorem refSplit_any (s : ByteArray) (hs : s.size ≤ 1000000) (w : World) : Calls Try.prog 27 #[.string s] w (SplitP s w) := by
  have c1 := Lib.hid (some_any s hs w)
  rcases wrong_lt s with hw | ⟨hw0, hw1⟩
  · have HW := Lib.hid hw
    clear hw
    go_enter Try.func27, Try.ntmps27
    go_wp2_with fail
    refine c1.out.mono ?_
    rintro e w1 ⟨a, c, rfl, hown, hb⟩
    rw [HW.out]
    have HO := Lib.hid hown
    go_wp2_with fail
    go_ret3
    exact .inr ⟨HW.out, a, c, rfl, HO.out, hb⟩
  · have HW := Lib.hid hw0
    have hw0' : decide (0 ≤ WrongAt s) = true := by simpa using hw0
    generalize hq : WrongAt s = q at *
    have HQ := Lib.hid hq
    clear hq
    go_enter Try.func27, Try.ntmps27
    go_wp2_with fail
    refine c1.out.mono ?_
    rintro e w1 ⟨a, c, rfl, hown, hb⟩
    rw [HQ.out]
    clear hown
    go_wp2_with fail
    go_ret3
    exact .inl ⟨by rw [HQ.out]; exact HW.out, by rw [HQ.out]; rfl, hb⟩
end Go.Proofs.Ytcpmgnejbfnnjaa
