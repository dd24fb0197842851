/- Plain laws: what is written is read; digits and back. No program is walked here. -/
import Derived.Test.YtiakmaleiholnaaRefText
import Derived.Test.YtiakmaleiholnaaUnhexR
import Derived.Test.YtiakmaleiholnaaRead
namespace Go.Proofs.Ytiakmaleiholnaa
open Go.RowKit

def byt (n : Int) : UInt8 := UInt8.ofNat n.toNat
theorem son_list (l : List Int) : (strOfNums l).data.toList = l.map byt := rfl

theorem snoc_ind {α : Type} {P : List α → Prop} (h0 : P []) (h1 : ∀ l a, P l → P (l ++ [a])) (l : List α) : P l := by
  have : ∀ r : List α, P r.reverse := by
    intro r
    induction r with
    | nil => exact h0
    | cons a r ih => rw [List.reverse_cons]; exact h1 _ _ ih
  have h := this l.reverse
  rwa [List.reverse_reverse] at h

/-! ### digits and back -/
theorem hv_hexd_all : ∀ n : Fin 16, hv (byt (hexd n.val)) = (n.val : Int) := by decide +kernel
theorem hv_hexd (n : Nat) (h : n < 16) : hv (byt (hexd n)) = (n : Int) := hv_hexd_all ⟨n, h⟩

theorem pp_hexL (l : List UInt8) : pp ((hexL l).map byt) = l.map (fun c => (c.toNat : Int)) := by
  refine snoc_ind (P := fun l => pp ((hexL l).map byt) = l.map (fun c => (c.toNat : Int))) rfl (fun l c ih => ?_) l
  · have hub : c.toNat < 256 := UInt8.toNat_lt _
    rw [hexL_snoc, List.map_append, List.map_append]
    have e : (hexL l).map byt ++ [hexd (c.toNat / 16), hexd (c.toNat % 16)].map byt = (hexL l).map byt ++ [byt (hexd (c.toNat / 16))] ++ [byt (hexd (c.toNat % 16))] := by simp
    rw [e, pp_two _ _ _ (by simp [hexL_len]), ih, hv_hexd _ (by omega), hv_hexd _ (by omega)]
    simp; omega

theorem unh_hexL (s : ByteArray) : unh (strOfNums (hexL s.data.toList)) = (nums s, 0) := by
  have hgood : ∀ q ∈ (strOfNums (hexL s.data.toList)).data.toList, 0 ≤ hv q := by
    intro q hq
    rw [son_list, List.mem_map] at hq
    obtain ⟨x, hx, rfl⟩ := hq
    unfold hexL at hx
    rw [List.mem_flatMap] at hx
    obtain ⟨c, _, hc⟩ := hx
    have hub : c.toNat < 256 := UInt8.toNat_lt _
    simp only [List.mem_cons, List.not_mem_nil, or_false] at hc
    rcases hc with rfl | rfl
    · rw [hv_hexd _ (by omega)]; omega
    · rw [hv_hexd _ (by omega)]; omega
  rw [unh_good _ hgood, if_neg (by rw [strOfNums_size, hexL_len]; omega), son_list, pp_hexL]
  rfl

/-! ### numbers -/
def vlow : List Int → Int
  | [] => 0
  | c :: cs => 10 * vlow cs + (c - 48)

theorem vlow_dl (f m : Nat) (h : m < 10 ^ f) (hf : 0 < f) : vlow (dl f m) = m := by
  induction f generalizing m with
  | zero => omega
  | succ f ih =>
    rw [dl, hexd_dec _ (Nat.mod_lt _ (by decide))]
    by_cases hm : m / 10 = 0
    · rw [if_pos hm]; simp [vlow]; omega
    · rw [if_neg hm]
      have hf' : 0 < f := by
        rcases Nat.eq_zero_or_pos f with rfl | h'
        · exfalso; apply hm; omega
        · exact h'
      have := ih (m / 10) (by rw [Nat.pow_succ] at h; exact Nat.div_lt_of_lt_mul (by omega)) hf'
      simp only [vlow, this]; omega

theorem dl_dec (f m : Nat) : ∀ c ∈ dl f m, 48 ≤ c ∧ c ≤ 57 := by
  induction f generalizing m with
  | zero => simp [dl]
  | succ f ih =>
    intro c hc
    have hd : m % 10 < 10 := Nat.mod_lt _ (by decide)
    rw [dl, hexd_dec _ hd] at hc
    rcases List.mem_cons.1 hc with rfl | hc
    · omega
    · split at hc
      · cases hc
      · exact ih _ c hc

theorem dl_ne (f m : Nat) (hf : 0 < f) : dl f m ≠ [] := by
  cases f with
  | zero => omega
  | succ f => rw [dl]; exact List.cons_ne_nil _ _

theorem dl_last (f m : Nat) (h : m < 10 ^ f) (hm : 0 < m) : (dl f m).getLast? ≠ some 48 := by
  induction f generalizing m with
  | zero => simp [dl]
  | succ f ih =>
    have hd : m % 10 < 10 := Nat.mod_lt _ (by decide)
    rw [dl, hexd_dec _ hd]
    by_cases h0 : m / 10 = 0
    · rw [if_pos h0]; simp; omega
    · rw [if_neg h0]
      have hf' : 0 < f := by
        rcases Nat.eq_zero_or_pos f with rfl | h'
        · exfalso; apply h0; omega
        · exact h'
      have h1 := ih (m / 10) (by rw [Nat.pow_succ] at h; exact Nat.div_lt_of_lt_mul (by omega)) (by omega)
      have h2 := dl_ne f (m / 10) hf'
      rw [List.getLast?_cons_of_ne_nil h2] at *
      exact h1

def fv (ds : List Int) (a : Int) : Int := ds.foldl (fun a c => 10 * a + (c - 48)) a

theorem fv_ge (ds : List Int) : ∀ a, 0 ≤ a → (∀ c ∈ ds, 48 ≤ c ∧ c ≤ 57) → a ≤ fv ds a := by
  induction ds with
  | nil => intro a _ _; exact Int.le_refl _
  | cons c cs ih =>
    intro a ha hd
    have hc := hd c (List.mem_cons_self ..)
    have := ih (10 * a + (c - 48)) (by omega) (fun x hx => hd x (List.mem_cons_of_mem _ hx))
    show a ≤ fv cs (10 * a + (c - 48))
    omega

theorem byt_dec (c : Int) (h : 48 ≤ c ∧ c ≤ 57) : ((byt c).toNat : Int) = c := by
  unfold byt
  rw [UInt8.toNat_ofNat']
  omega

/-- reading decimal digits: the value, or out of range -/
theorem rd_digits (ds : List Int) : ∀ a, 0 ≤ a → (∀ c ∈ ds, 48 ≤ c ∧ c ≤ 57) → ds ≠ [] →
    rd a (ds.map byt) = if fv ds a ≤ 268435456 then (fv ds a, 0) else (0, 2) := by
  induction ds with
  | nil => intro a _ _ h; exact absurd rfl h
  | cons c cs ih =>
    intro a ha hd _
    have hc := hd c (List.mem_cons_self ..)
    have hb := byt_dec c hc
    have hge := fv_ge cs (10 * a + (c - 48)) (by omega) (fun x hx => hd x (List.mem_cons_of_mem _ hx))
    have e : fv (c :: cs) a = fv cs (10 * a + (c - 48)) := rfl
    rw [List.map_cons, rd, hb, if_neg (by omega), e]
    by_cases hbig : 268435456 < 10 * a + (c - 48)
    · rw [if_pos hbig, if_neg (by omega)]
    · rw [if_neg hbig]
      cases cs with
      | nil => rw [if_pos (by show 10 * a + (c - 48) ≤ 268435456; omega)]; rfl
      | cons c2 cs2 => exact ih _ (by omega) (fun x hx => hd x (List.mem_cons_of_mem _ hx)) (by simp)

theorem fv_rev (l : List Int) : fv l.reverse 0 = vlow l := by
  unfold fv
  rw [List.foldl_reverse]
  induction l with
  | nil => rfl
  | cons c cs ih => rw [List.foldr_cons, ih]; rfl

theorem textL_ne (n : Int) : textL n ≠ [] := by
  unfold textL
  split
  · simp
  · simp; exact dl_ne 20 _ (by decide)

theorem head_byte (s : ByteArray) (h : 0 < s.size) (c : UInt8) (cs : List UInt8) (hs : s.data.toList = c :: cs) : s[0] = c := by
  have := bat_get s 0 h
  rw [hs] at this
  simpa using this.symm

/-- what is written is read, or refused -/
theorem read_text (n : Int) (h0 : -9223372036854775808 ≤ n) (h1 : n ≤ 9223372036854775807) :
    rdS (strOfNums (textL n)) = if 0 ≤ n ∧ n ≤ 268435456 then (n, 0) else if n < 0 then (0, 3) else (0, 2) := by
  have hne := textL_ne n
  have hsz : (strOfNums (textL n)).size = (textL n).length := strOfNums_size _
  have hpos : 0 < (textL n).length := List.length_pos_iff.2 hne
  obtain ⟨x, xs, hx⟩ : ∃ x xs, textL n = x :: xs := List.exists_cons_of_ne_nil hne
  have hhead : (strOfNums (textL n))[0]'(by omega) = byt x := head_byte _ (by omega) (byt x) (xs.map byt) (by rw [son_list, hx]; rfl)
  have hrd : rdS (strOfNums (textL n)) = if 1 < (textL n).length ∧ ((byt x).toNat : Int) = 48 then (0, 3) else rd 0 ((textL n).map byt) := by
    unfold rdS
    rw [dif_neg (by omega), hhead, hsz, son_list]
  by_cases hn : n < 0
  · have ht : textL n = 45 :: (dl 20 n.natAbs).reverse := by unfold textL; rw [if_pos hn]; simp
    have e45 : x = 45 := by rw [hx] at ht; exact (List.cons.inj ht).1
    rw [hrd, if_neg (by rw [e45]; rintro ⟨_, h⟩; revert h; decide), if_neg (by omega), if_pos hn, ht, List.map_cons]
    exact rd_bad (by decide)
  · have ht : textL n = (dl 20 n.natAbs).reverse := by unfold textL; rw [if_neg hn]
    have hdec : ∀ c ∈ textL n, 48 ≤ c ∧ c ≤ 57 := by rw [ht]; intro c hc; exact dl_dec 20 _ c (List.mem_reverse.1 hc)
    have hval : fv (textL n) 0 = n := by rw [ht, fv_rev, vlow_dl 20 _ (by omega) (by decide)]; omega
    have hlead : ¬ (1 < (textL n).length ∧ ((byt x).toNat : Int) = 48) := by
      rintro ⟨hl, hb⟩
      have hxd := hdec x (by rw [hx]; exact List.mem_cons_self ..)
      rw [byt_dec x hxd] at hb
      by_cases hz : n = 0
      · rw [hz] at hl; revert hl; decide
      · have := dl_last 20 n.natAbs (by omega) (by omega)
        apply this
        have h2 : (textL n).head? = some x := by rw [hx]; rfl
        rw [ht, List.head?_reverse] at h2
        rw [h2, hb]
    rw [hrd, if_neg hlead, rd_digits _ 0 (by omega) hdec hne, hval]
    by_cases hb : n ≤ 268435456
    · rw [if_pos hb, if_pos ⟨by omega, hb⟩]
    · rw [if_neg hb, if_neg (by omega), if_neg hn]
end Go.Proofs.Ytiakmaleiholnaa
