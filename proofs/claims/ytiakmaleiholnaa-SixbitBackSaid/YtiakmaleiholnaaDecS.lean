/- sixbit.Decode: the program's machine answers as the reference. Plain lists, no program in sight. -/
import Derived.Test.YtiakmaleiholnaaDecP
namespace Go.Proofs.Ytiakmaleiholnaa
open Go.RowKit

theorem prun_cons (w n g : Nat) (o : Bool) (out : List Int) (c : UInt8) (cs : List UInt8) :
    prun w n g o out (c :: cs) = if wsB c.toNat = true then prun w n g o out cs
      else if wv c < 0 ∧ c.toNat ≠ 61 then ([], 3)
      else if 0 < g ∧ n = 0 then ([], 6)
      else if (c.toNat = 61 ∧ n < 2) ∨ (c.toNat ≠ 61 ∧ 0 < g) then ([], 3)
      else if n + 1 < 4 then prun (64 * w + (if c.toNat = 61 then 0 else wn c)) (n + 1) (if c.toNat = 61 then g + 1 else g) o out cs
      else prun 0 0 (if c.toNat = 61 then g + 1 else g) (o || decide ((64 * w + (if c.toNat = 61 then 0 else wn c)) % 2 ^ (8 * (if c.toNat = 61 then g + 1 else g)) ≠ 0))
        (out ++ dnew (64 * w + (if c.toNat = 61 then 0 else wn c)) (if c.toNat = 61 then g + 1 else g)) cs := by
  rw [prun]; rfl

def wnum (P : List UInt8) : Nat := P.foldl (fun w c => 64 * w + wn c) 0
theorem wnum_snoc (P : List UInt8) (c : UInt8) : wnum (P ++ [c]) = 64 * wnum P + wn c := by simp [wnum]
def cst (l : List Nat) : List Int := l.map (fun x : Nat => (x : Int))
theorem cst_app (l m : List Nat) : cst (l ++ m) = cst l ++ cst m := by simp [cst]
def anyB (l : List Nat) : Bool := l.any (fun b => decide (b ≠ 0))

/-- no gap yet -/
def SA (t : List UInt8) (w n g : Nat) (o : Bool) (out : List Int) : Prop :=
  ∃ (Q P : List UInt8) (k : Nat), t = Q ++ P ∧ Q.length = 4 * k ∧ (∀ x ∈ Q, ¬ x.toNat = 61) ∧ (∀ x ∈ P, ¬ x.toNat = 61) ∧ P.length = n ∧ n < 4 ∧ g = 0 ∧ o = false ∧ w = wnum P ∧ out = cst (grp (tbits Q))
/-- one gap of two -/
def SB (t : List UInt8) (w n g : Nat) (o : Bool) (out : List Int) : Prop :=
  ∃ (Q : List UInt8) (a b e : UInt8) (k : Nat), t = Q ++ [a, b, e] ∧ Q.length = 4 * k ∧ (∀ x ∈ Q, ¬ x.toNat = 61) ∧ ¬ a.toNat = 61 ∧ ¬ b.toNat = 61 ∧ e.toNat = 61 ∧ n = 3 ∧ g = 1 ∧ o = false ∧ w = 64 * (64 * wn a + wn b) + 0 ∧ out = cst (grp (tbits Q))
/-- the end -/
def SC (t : List UInt8) (n g : Nat) (o : Bool) (out : List Int) : Prop :=
  t.length % 4 = 0 ∧ t.getLast? = some 61 ∧ n = 0 ∧ 0 < g ∧ o = anyB (lft (tbits t)) ∧ out = cst (grp (tbits t))

theorem c61 (c : UInt8) (h : c.toNat = 61) : c = 61 := UInt8.toNat_inj.1 (by rw [h]; rfl)
theorem last_ne (t : List UInt8) (h : ∀ x ∈ t, ¬ x.toNat = 61) : ¬ t.getLast? = some 61 := fun e => h 61 (List.mem_of_getLast? e) rfl

theorem tb4 (Q : List UInt8) (h : ∀ x ∈ Q, ¬ x.toNat = 61) (k : Nat) (hk : Q.length = 4 * k) : (tbits Q).length = 8 * (3 * k) := by rw [tbits_len8 Q h, hk]; omega

theorem rt_some (t : List UInt8) (c : UInt8) (cs : List UInt8) (e : Int) (hws : ¬ wsB c.toNat = true) (h : rstep t c = some e) : rtake t (c :: cs) = ([], e) := by
  rw [rtake, if_neg hws, h]
theorem rt_none (t : List UInt8) (c : UInt8) (cs : List UInt8) (hws : ¬ wsB c.toNat = true) (h : rstep t c = none) : rtake t (c :: cs) = rtake (t ++ [c]) cs := by
  rw [rtake, if_neg hws, h]
theorem sim : ∀ (l : List UInt8) (t : List UInt8) (w n g : Nat) (o : Bool) (out : List Int), (SA t w n g o out ∨ SB t w n g o out ∨ SC t n g o out) → prun w n g o out l = rtake t l := by
  intro l
  induction l with
  | nil =>
    intro t w n g o out h
    rw [prun, rtake, rfin]
    rcases h with ⟨Q, P, k, rfl, hk, hQ, hP, hn, hn4, rfl, rfl, rfl, rfl⟩ | ⟨Q, a, b, e, k, rfl, hk, hQ, ha, hb, he, rfl, rfl, rfl, rfl, rfl⟩ | ⟨h4, hl, rfl, hg, rfl, rfl⟩
    · by_cases h0 : n = 0
      · obtain rfl : P = [] := List.eq_nil_of_length_eq_zero (by omega)
        rw [if_neg (by omega), if_neg (by simp), if_neg (by simp; omega)]
        rw [List.append_nil]
        have h1 := grp_app [] (3 * k) (tbits Q) (tb4 Q hQ k hk)
        rw [List.append_nil] at h1
        rw [h1.2, lft_end [] (by simp)]
        rfl
      · rw [if_pos h0, if_pos (by simp; omega)]
    · rw [if_pos (by omega), if_pos (by simp; omega)]
    · rw [if_neg (by omega)]
      cases hh : anyB (lft (tbits t)) with
      | true => unfold anyB at hh; rw [if_pos rfl, if_neg (by omega), if_pos hh]
      | false =>
        unfold anyB at hh
        rw [if_neg (by simp), if_neg (by omega), if_neg (by rw [hh]; simp)]
        rfl
  | cons c cs ih =>
    intro t w n g o out h
    by_cases hws : wsB c.toNat = true
    · rw [prun_cons, rtake, if_pos hws, if_pos hws]; exact ih t w n g o out h
    by_cases hbad : wv c < 0 ∧ c.toNat ≠ 61
    · rw [prun_cons, if_neg hws, if_pos hbad, rt_some t c cs 3 hws (by unfold rstep; rw [if_pos hbad])]
    have hp := prun_cons w n g o out c cs
    rw [if_neg hws, if_neg hbad] at hp
    rw [hp]
    clear hp
    rcases h with ⟨Q, P, k, rfl, hk, hQ, hP, hn, hn4, rfl, rfl, rfl, rfl⟩ | ⟨Q, a, b, e, k, rfl, hk, hQ, ha, hb, he, rfl, rfl, rfl, rfl, rfl⟩ | ⟨h4, hl, rfl, hg, rfl, rfl⟩
    · have ht4 : (Q ++ P).length % 4 = n := by simp; omega
      have hla : ¬ (Q ++ P).getLast? = some 61 := last_ne _ (fun x hx => by rcases List.mem_append.1 hx with h | h; exact hQ x h; exact hP x h)
      rw [if_neg (by omega)]
      by_cases he : c.toNat = 61
      · by_cases hn2 : n < 2
        · rw [if_pos (.inl ⟨he, hn2⟩), rt_some _ c cs 3 hws (by unfold rstep; rw [if_neg hbad, if_neg (fun h => hla h.2.2), if_pos ⟨he, by omega⟩])]
        · rw [if_neg (by omega), rt_none _ c cs hws (by unfold rstep; rw [if_neg hbad, if_neg (fun h => hla h.2.2), if_neg (by omega), if_neg (fun h => h.1 he)])]
          simp only [if_pos he]
          by_cases hn3 : n + 1 < 4
          · rw [if_pos hn3]
            match P, hn with
            | [a, b], hn =>
              exact ih _ _ _ _ _ _ (.inr (.inl ⟨Q, a, b, c, k, by simp, hk, hQ, hP a (by simp), hP b (by simp), he, by omega, rfl, rfl, by simp [wnum], rfl⟩))
            | [], hn => simp at hn; omega
            | [_], hn => simp at hn; omega
            | _ :: _ :: _ :: _, hn => simp at hn; omega
          · rw [if_neg hn3]
            match P, hn with
            | [a, b, d], hn =>
              have h1 := dn1 (wn a) (wn b) (wn d) (64 * wnum [a, b, d] + 0) (wn_lt a) (wn_lt b) (wn_lt d) (by simp [wnum])
              have e1 : tbits (Q ++ [a, b, d] ++ [c]) = tbits Q ++ (bits6 (wn a) ++ (bits6 (wn b) ++ (bits6 (wn d) ++ []))) := by
                rw [List.append_assoc, tbits_app Q _ hQ]
                show tbits Q ++ tbits (a :: b :: d :: c :: []) = _
                rw [tbits_cons a _ (hP a (by simp)), tbits_cons b _ (hP b (by simp)), tbits_cons d _ (hP d (by simp)), tbits_gap c _ he]; rfl
              have h2 := grp_app (bits6 (wn a) ++ (bits6 (wn b) ++ (bits6 (wn d) ++ []))) (3 * k) (tbits Q) (tb4 Q hQ k hk)
              have h3 := trip (wn a) (wn b) (wn d) (wn_lt a) (wn_lt b) (wn_lt d)
              refine ih _ _ _ _ _ _ (.inr (.inr ⟨by simp; omega, by simp [c61 c he], rfl, by omega, ?_, ?_⟩))
              · rw [e1, h2.2, h3.2, h1.2]; rfl
              · rw [e1, h2.1, h3.1, h1.1, cst_app]; rfl
            | [], hn => simp at hn; omega
            | [_], hn => simp at hn; omega
            | [_, _], hn => simp at hn; omega
            | _ :: _ :: _ :: _ :: _, hn => simp at hn; omega
      · rw [if_neg (by omega), rt_none _ c cs hws (by unfold rstep; rw [if_neg hbad, if_neg (fun h => hla h.2.2), if_neg (fun h => he h.1), if_neg (fun h => hla h.2.2)])]
        simp only [if_neg he]
        by_cases hn3 : n + 1 < 4
        · rw [if_pos hn3]
          exact ih _ _ _ _ _ _ (.inl ⟨Q, P ++ [c], k, by simp, hk, hQ, fun x hx => by rcases List.mem_append.1 hx with h | h; exact hP x h; rw [List.mem_singleton.1 h]; exact he, by simp; omega, hn3, rfl, rfl, by rw [wnum_snoc], rfl⟩)
        · rw [if_neg hn3]
          match P, hn with
          | [a, b, d], hn =>
            have h1 := dn0 (wn a) (wn b) (wn d) (wn c) (64 * wnum [a, b, d] + wn c) (wn_lt a) (wn_lt b) (wn_lt d) (wn_lt c) (by simp [wnum])
            have hall : ∀ x ∈ Q ++ [a, b, d] ++ [c], ¬ x.toNat = 61 := fun x hx => by
              rcases List.mem_append.1 hx with h | h
              · rcases List.mem_append.1 h with h | h
                · exact hQ x h
                · exact hP x h
              · rw [List.mem_singleton.1 h]; exact he
            have e1 : tbits (Q ++ [a, b, d] ++ [c]) = tbits Q ++ (bits6 (wn a) ++ (bits6 (wn b) ++ (bits6 (wn d) ++ (bits6 (wn c) ++ [])))) := by
              rw [List.append_assoc, tbits_app Q _ hQ]
              show tbits Q ++ tbits (a :: b :: d :: c :: []) = _
              rw [tbits_cons a _ (hP a (by simp)), tbits_cons b _ (hP b (by simp)), tbits_cons d _ (hP d (by simp)), tbits_cons c _ he]; rfl
            have h2 := grp_app (bits6 (wn a) ++ (bits6 (wn b) ++ (bits6 (wn d) ++ (bits6 (wn c) ++ [])))) (3 * k) (tbits Q) (tb4 Q hQ k hk)
            have h3 := quad (wn a) (wn b) (wn d) (wn c) (wn_lt a) (wn_lt b) (wn_lt d) (wn_lt c)
            refine ih _ _ _ _ _ _ (.inl ⟨Q ++ [a, b, d] ++ [c], [], k + 1, by simp, by simp; omega, hall, by simp, rfl, by omega, rfl, by simp [Nat.mod_one], rfl, ?_⟩)
            rw [e1, h2.1, h3, h1, cst_app]; rfl
          | [], hn => simp at hn; omega
          | [_], hn => simp at hn; omega
          | [_, _], hn => simp at hn; omega
          | _ :: _ :: _ :: _ :: _, hn => simp at hn; omega
    · have ht4 : (Q ++ [a, b, e]).length % 4 = 3 := by simp; omega
      have hla : (Q ++ [a, b, e]).getLast? = some 61 := by simp [c61 e he]
      rw [if_neg (by omega)]
      by_cases hc : c.toNat = 61
      · rw [if_neg (by omega), rt_none _ c cs hws (by unfold rstep; rw [if_neg hbad, if_neg (by omega), if_neg (by omega), if_neg (fun h => h.1 hc)])]
        simp only [if_pos hc]
        rw [if_neg (by omega)]
        have h1 := dn2 (wn a) (wn b) (64 * (64 * (64 * wn a + wn b) + 0) + 0) (wn_lt a) (wn_lt b) rfl
        have e1 : tbits (Q ++ [a, b, e] ++ [c]) = tbits Q ++ (bits6 (wn a) ++ (bits6 (wn b) ++ [])) := by
          rw [List.append_assoc, tbits_app Q _ hQ]
          show tbits Q ++ tbits (a :: b :: e :: c :: []) = _
          rw [tbits_cons a _ ha, tbits_cons b _ hb, tbits_gap e _ he]; rfl
        have h2 := grp_app (bits6 (wn a) ++ (bits6 (wn b) ++ [])) (3 * k) (tbits Q) (tb4 Q hQ k hk)
        have h3 := pair (wn a) (wn b) (wn_lt a) (wn_lt b)
        refine ih _ _ _ _ _ _ (.inr (.inr ⟨by simp; omega, by simp [c61 c hc], rfl, by omega, ?_, ?_⟩))
        · rw [e1, h2.2, h3.2, h1.2]; rfl
        · rw [e1, h2.1, h3.1, h1.1, cst_app]; rfl
      · rw [if_pos (.inr ⟨hc, by omega⟩), rt_some _ c cs 3 hws (by unfold rstep; rw [if_neg hbad, if_neg (by omega), if_neg (fun h => hc h.1), if_pos ⟨hc, by omega, hla⟩])]
    · have ht0 : 0 < t.length := by
        cases t with
        | nil => simp at hl
        | cons _ _ => simp
      rw [if_pos ⟨hg, rfl⟩, rt_some _ c cs 6 hws (by unfold rstep; rw [if_neg hbad, if_pos ⟨ht0, h4, hl⟩])]

theorem prun_rtake (l : List UInt8) : prun 0 0 0 false [] l = rtake [] l :=
  sim l [] 0 0 0 false [] (.inl ⟨[], [], 0, rfl, rfl, by simp, by simp, rfl, by omega, rfl, rfl, rfl, by simp [tbits, grp_end, cst]⟩)
end Go.Proofs.Ytiakmaleiholnaa
