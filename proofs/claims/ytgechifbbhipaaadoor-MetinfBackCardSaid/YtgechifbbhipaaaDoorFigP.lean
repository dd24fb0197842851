/- Plain laws of figures: what is written is read, and what is read is written again. No program is walked here. -/
import Derived.Test.YtgechifbbhipaaaDoorDigits
import Derived.Test.YtgechifbbhipaaaDoorMeN
set_option linter.unusedVariables false
set_option linter.unusedSimpArgs false
namespace Go.Proofs.YtgechifbbhipaaaDoor
open Go.RowKit

theorem hexd_dec (n : Nat) (h : n < 10) : hexd n = 48 + (n : Int) := by rw [hexd, if_pos h]; omega
def byt (n : Int) : UInt8 := UInt8.ofNat n.toNat
theorem son_list (l : List Int) : (strOfNums l).data.toList = l.map byt := rfl

def vlow : List Int → Int
  | [] => 0
  | c :: cs => 10 * vlow cs + (c - 48)

theorem vlow_dl (f m : Nat) (h : m < 10 ^ f) (hf : 0 < f) : vlow (dl f m) = m := by
  induction f generalizing m with
  | zero => omega
  | succ f ih =>
    rw [dl, hexd_dec _ (Nat.mod_lt _ (by decide))]
    by_cases hm : m / 10 = 0
    · rw [if_pos hm]; simp [vlow]; omega
    · rw [if_neg hm]
      have hf' : 0 < f := by
        rcases Nat.eq_zero_or_pos f with rfl | h'
        · exfalso; apply hm; omega
        · exact h'
      have := ih (m / 10) (by rw [Nat.pow_succ] at h; exact Nat.div_lt_of_lt_mul (by omega)) hf'
      simp only [vlow, this]; omega

theorem dl_dec (f m : Nat) : ∀ c ∈ dl f m, 48 ≤ c ∧ c ≤ 57 := by
  induction f generalizing m with
  | zero => simp [dl]
  | succ f ih =>
    intro c hc
    have hd : m % 10 < 10 := Nat.mod_lt _ (by decide)
    rw [dl, hexd_dec _ hd] at hc
    rcases List.mem_cons.1 hc with rfl | hc
    · omega
    · split at hc
      · cases hc
      · exact ih _ c hc

theorem dl_ne (f m : Nat) (hf : 0 < f) : dl f m ≠ [] := by
  cases f with
  | zero => omega
  | succ f => rw [dl]; exact List.cons_ne_nil _ _

theorem dl_last (f m : Nat) (h : m < 10 ^ f) (hm : 0 < m) : (dl f m).getLast? ≠ some 48 := by
  induction f generalizing m with
  | zero => simp [dl]
  | succ f ih =>
    have hd : m % 10 < 10 := Nat.mod_lt _ (by decide)
    rw [dl, hexd_dec _ hd]
    by_cases h0 : m / 10 = 0
    · rw [if_pos h0]; simp; omega
    · rw [if_neg h0]
      have hf' : 0 < f := by
        rcases Nat.eq_zero_or_pos f with rfl | h'
        · exfalso; apply h0; omega
        · exact h'
      have h1 := ih (m / 10) (by rw [Nat.pow_succ] at h; exact Nat.div_lt_of_lt_mul (by omega)) (by omega)
      have h2 := dl_ne f (m / 10) hf'
      rw [List.getLast?_cons_of_ne_nil h2] at *
      exact h1

def fv (ds : List Int) (a : Int) : Int := ds.foldl (fun a c => 10 * a + (c - 48)) a

theorem fv_ge (ds : List Int) : ∀ a, 0 ≤ a → (∀ c ∈ ds, 48 ≤ c ∧ c ≤ 57) → a ≤ fv ds a := by
  induction ds with
  | nil => intro a _ _; exact Int.le_refl _
  | cons c cs ih =>
    intro a ha hd
    have hc := hd c (List.mem_cons_self ..)
    have := ih (10 * a + (c - 48)) (by omega) (fun x hx => hd x (List.mem_cons_of_mem _ hx))
    show a ≤ fv cs (10 * a + (c - 48))
    omega

theorem byt_dec (c : Int) (h : 48 ≤ c ∧ c ≤ 57) : ((byt c).toNat : Int) = c := by
  unfold byt
  rw [UInt8.toNat_ofNat']
  omega

/-- reading decimal digits: the value, or out of range -/
theorem rd_digits (ds : List Int) : ∀ a, 0 ≤ a → (∀ c ∈ ds, 48 ≤ c ∧ c ≤ 57) → ds ≠ [] →
    rd a (ds.map byt) = if fv ds a ≤ 268435456 then (fv ds a, 0) else (0, 2) := by
  induction ds with
  | nil => intro a _ _ h; exact absurd rfl h
  | cons c cs ih =>
    intro a ha hd _
    have hc := hd c (List.mem_cons_self ..)
    have hb := byt_dec c hc
    have hge := fv_ge cs (10 * a + (c - 48)) (by omega) (fun x hx => hd x (List.mem_cons_of_mem _ hx))
    have e : fv (c :: cs) a = fv cs (10 * a + (c - 48)) := rfl
    rw [List.map_cons, rd, hb, if_neg (by omega), e]
    by_cases hbig : 268435456 < 10 * a + (c - 48)
    · rw [if_pos hbig, if_neg (by omega)]
    · rw [if_neg hbig]
      cases cs with
      | nil => rw [if_pos (by show 10 * a + (c - 48) ≤ 268435456; omega)]; rfl
      | cons c2 cs2 => exact ih _ (by omega) (fun x hx => hd x (List.mem_cons_of_mem _ hx)) (by simp)

theorem fv_rev (l : List Int) : fv l.reverse 0 = vlow l := by
  unfold fv
  rw [List.foldl_reverse]
  induction l with
  | nil => rfl
  | cons c cs ih => rw [List.foldr_cons, ih]; rfl

theorem textL_ne (n : Int) : textL n ≠ [] := by
  unfold textL
  split
  · simp
  · simp; exact dl_ne 20 _ (by decide)

theorem head_byte (s : ByteArray) (h : 0 < s.size) (c : UInt8) (cs : List UInt8) (hs : s.data.toList = c :: cs) : s[0] = c := by
  have := bat_get s 0 h
  rw [hs] at this
  simpa using this.symm

/-- what is written is read, or refused -/
theorem read_text (n : Int) (h0 : -9223372036854775808 ≤ n) (h1 : n ≤ 9223372036854775807) :
    rdS (strOfNums (textL n)) = if 0 ≤ n ∧ n ≤ 268435456 then (n, 0) else if n < 0 then (0, 3) else (0, 2) := by
  have hne := textL_ne n
  have hsz : (strOfNums (textL n)).size = (textL n).length := strOfNums_size _
  have hpos : 0 < (textL n).length := List.length_pos_iff.2 hne
  obtain ⟨x, xs, hx⟩ : ∃ x xs, textL n = x :: xs := List.exists_cons_of_ne_nil hne
  have hhead : (strOfNums (textL n))[0]'(by omega) = byt x := head_byte _ (by omega) (byt x) (xs.map byt) (by rw [son_list, hx]; rfl)
  have hrd : rdS (strOfNums (textL n)) = if 1 < (textL n).length ∧ ((byt x).toNat : Int) = 48 then (0, 3) else rd 0 ((textL n).map byt) := by
    unfold rdS
    rw [dif_neg (by omega), hhead, hsz, son_list]
  by_cases hn : n < 0
  · have ht : textL n = 45 :: (dl 20 n.natAbs).reverse := by unfold textL; rw [if_pos hn]; simp
    have e45 : x = 45 := by rw [hx] at ht; exact (List.cons.inj ht).1
    rw [hrd, if_neg (by rw [e45]; rintro ⟨_, h⟩; revert h; decide), if_neg (by omega), if_pos hn, ht, List.map_cons]
    exact rd_bad (by decide)
  · have ht : textL n = (dl 20 n.natAbs).reverse := by unfold textL; rw [if_neg hn]
    have hdec : ∀ c ∈ textL n, 48 ≤ c ∧ c ≤ 57 := by rw [ht]; intro c hc; exact dl_dec 20 _ c (List.mem_reverse.1 hc)
    have hval : fv (textL n) 0 = n := by rw [ht, fv_rev, vlow_dl 20 _ (by omega) (by decide)]; omega
    have hlead : ¬ (1 < (textL n).length ∧ ((byt x).toNat : Int) = 48) := by
      rintro ⟨hl, hb⟩
      have hxd := hdec x (by rw [hx]; exact List.mem_cons_self ..)
      rw [byt_dec x hxd] at hb
      by_cases hz : n = 0
      · rw [hz] at hl; revert hl; decide
      · have := dl_last 20 n.natAbs (by omega) (by omega)
        apply this
        have h2 : (textL n).head? = some x := by rw [hx]; rfl
        rw [ht, List.head?_reverse] at h2
        rw [h2, hb]
    rw [hrd, if_neg hlead, rd_digits _ 0 (by omega) hdec hne, hval]
    by_cases hb : n ≤ 268435456
    · rw [if_pos hb, if_pos ⟨by omega, hb⟩]
    · rw [if_neg hb, if_neg (by omega), if_neg hn]

/-- decimal digits -/
def DecL (l : List Int) : Prop := ∀ c ∈ l, 48 ≤ c ∧ c ≤ 57
theorem rd_inv : ∀ (l : List UInt8) (a v : Int), 0 ≤ a → rd a l = (v, 0) → DecL (l.map fun c => (c.toNat : Int)) ∧ v = fv (l.map fun c => (c.toNat : Int)) a ∧ (l ≠ [] → v ≤ 268435456) := by
  intro l
  induction l with
  | nil => intro a v _ h; rw [rd] at h; injection h with h1 _; exact ⟨fun c hc => by simp at hc, by rw [← h1]; rfl, fun h => absurd rfl h⟩
  | cons c cs ih =>
    intro a v ha h
    rw [rd] at h
    split at h
    · injection h with _ h2; exact absurd h2 (by decide)
    · rename_i hc
      split at h
      · injection h with _ h2; exact absurd h2 (by decide)
      · rename_i hb
        obtain ⟨h1, h2, h3⟩ := ih _ v (by omega) h
        refine ⟨?_, h2, fun _ => ?_⟩
        · intro x hx
          rw [List.map_cons] at hx
          rcases List.mem_cons.1 hx with rfl | hx
          · omega
          · exact h1 x hx
        · by_cases hcs : cs = []
          · subst hcs; rw [rd] at h; injection h with h4 _; omega
          · exact h3 hcs
theorem vlow_ge : ∀ (l : List Int), DecL l → 0 ≤ vlow l := by
  intro l
  induction l with
  | nil => intro _; exact Int.le_refl _
  | cons c cs ih =>
    intro h
    have h1 := h c List.mem_cons_self
    have h2 := ih (fun x hx => h x (List.mem_cons_of_mem _ hx))
    rw [vlow]; omega
theorem vlow_pow : ∀ (k : Nat) (l : List Int), l.length = k + 1 → DecL l → l.getLast? ≠ some 48 → ((10 ^ k : Nat) : Int) ≤ vlow l := by
  intro k
  induction k with
  | zero =>
    intro l hl h h48
    match l, hl with
    | [c], _ =>
      have h1 := h c List.mem_cons_self
      have h2 : c ≠ 48 := fun e => h48 (by rw [e]; rfl)
      simp [vlow]; omega
  | succ k ih =>
    intro l hl h h48
    match l, hl with
    | c :: d :: cs, hl =>
      have h1 := h c List.mem_cons_self
      have h2 := ih (d :: cs) (by simpa using hl) (fun x hx => h x (List.mem_cons_of_mem _ hx)) (by rw [List.getLast?_cons_cons] at h48; exact h48)
      rw [vlow, Nat.pow_succ]; omega
theorem dl_inv : ∀ (f : Nat) (l : List Int), l ≠ [] → l.length ≤ f → DecL l → (1 < l.length → l.getLast? ≠ some 48) → dl f (vlow l).toNat = l := by
  intro f
  induction f with
  | zero => intro l h0 hl; exact absurd (List.eq_nil_of_length_eq_zero (by omega)) h0
  | succ f ih =>
    intro l h0 hl h h48
    match l, h0 with
    | c :: cs, _ =>
      have h1 := h c List.mem_cons_self
      have hcs : DecL cs := fun x hx => h x (List.mem_cons_of_mem _ hx)
      have h2 := vlow_ge cs hcs
      have hm : (vlow (c :: cs)).toNat % 10 = (c - 48).toNat := by rw [vlow]; omega
      have hq : (vlow (c :: cs)).toNat / 10 = (vlow cs).toNat := by rw [vlow]; omega
      rw [dl, hm, hq, hexd_dec _ (by omega)]
      have hc : (48 : Int) + ((c - 48).toNat : Int) = c := by omega
      rw [hc]
      cases cs with
      | nil => rw [if_pos (by rfl)]
      | cons d ds =>
        have hlast : (d :: ds).getLast? ≠ some 48 := by
          have := h48 (by simp)
          rwa [List.getLast?_cons_cons] at this
        have h3 := vlow_pow ds.length (d :: ds) rfl hcs hlast
        have h4 : 0 < 10 ^ ds.length := Nat.pow_pos (by decide)
        rw [if_neg (by omega), ih (d :: ds) (by simp) (by simpa using hl) hcs (fun _ => hlast)]
/-- what is read is written again -/
theorem text_read {t : ByteArray} {n : Int} (h : rdS t = (n, 0)) : strOfNums (textL n) = t := by
  unfold rdS at h
  split at h
  · injection h with _ h2; exact absurd h2 (by decide)
  · rename_i h0
    split at h
    · injection h with _ h2; exact absurd h2 (by decide)
    · rename_i hlead
      obtain ⟨h1, h2, h3⟩ := rd_inv _ 0 n (Int.le_refl _) h
      have hlen : t.data.toList.length = t.size := len_toList t
      have hne : t.data.toList ≠ [] := fun e => h0 (by rw [← hlen, e]; rfl)
      have h3 := h3 hne
      generalize hL : (t.data.toList.map fun c => (c.toNat : Int)) = L at *
      have hLl : L.length = t.size := by rw [← hL, List.length_map, hlen]
      have hv : n = vlow L.reverse := by rw [h2, ← fv_rev, List.reverse_reverse]
      have hR : DecL L.reverse := fun c hc => h1 c (List.mem_reverse.1 hc)
      have hl48 : 1 < L.reverse.length → L.reverse.getLast? ≠ some 48 := by
        intro hl e
        rw [List.length_reverse, hLl] at hl
        rw [List.getLast?_reverse] at e
        apply hlead
        refine ⟨hl, ?_⟩
        have hb := bat_get t 0 (by omega)
        have h5 : L[0]? = some 48 := by rw [← List.head?_eq_getElem?]; exact e
        rw [← hL, List.getElem?_map, hb] at h5
        simpa using h5
      have hge := vlow_ge _ hR
      have hlen20 : L.reverse.length ≤ 20 := by
        by_cases hl : 1 < L.reverse.length
        · refine Nat.le_of_not_lt fun hgt => ?_
          have h6 := vlow_pow (L.reverse.length - 1) L.reverse (by omega) hR (hl48 hl)
          have h7 : 10 ^ 20 ≤ 10 ^ (L.reverse.length - 1) := Nat.pow_le_pow_right (by decide) (by omega)
          have h8 : (10 : Nat) ^ 20 = 100000000000000000000 := by decide
          omega
        · omega
      have hd := dl_inv 20 L.reverse (fun e => by have := congrArg List.length e; rw [List.length_reverse, hLl] at this; exact h0 this) hlen20 hR hl48
      have ht : textL n = L := by
        unfold textL
        have e1 : n.natAbs = (vlow L.reverse).toNat := by omega
        rw [if_neg (by omega), e1, hd, List.reverse_reverse]
      rw [ht, ← hL]
      exact strOfNums_nums t
theorem text_dec {n : Int} (h : 0 ≤ n) : ∀ c ∈ (strOfNums (textL n)).data.toList, 48 ≤ c.toNat ∧ c.toNat ≤ 57 := by
  intro c hc
  rw [son_list, List.mem_map] at hc
  obtain ⟨x, hx, rfl⟩ := hc
  have ht : textL n = (dl 20 n.natAbs).reverse := by unfold textL; rw [if_neg (by omega)]
  rw [ht] at hx
  have h1 := dl_dec 20 _ x (List.mem_reverse.1 hx)
  have h2 := byt_dec x h1
  omega
end Go.Proofs.YtgechifbbhipaaaDoor
