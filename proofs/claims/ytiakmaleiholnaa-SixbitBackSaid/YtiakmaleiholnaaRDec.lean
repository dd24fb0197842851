/- the reference's Decode: its plain function, and the walk. No condition but the text's size. -/
import Derived.Test.YtiakmaleiholnaaDec
import Derived.Test.YtiakmaleiholnaaSxLW
namespace Go.Proofs.Ytiakmaleiholnaa
open Go.RowKit

theorem wv_let (k : Nat) (h : k < 64) (c : UInt8) (hc : let64 k = (c.toNat : Int)) : wv c = k := by
  have key : ∀ k : Fin 64, wv (UInt8.ofNat (let64 k.val).toNat) = k.val := by decide +kernel
  have h1 := key ⟨k, h⟩
  simp only [hc] at h1
  simpa using h1
theorem wv_none (c : UInt8) (h : ∀ k, k < 64 → ¬ let64 k = (c.toNat : Int)) : wv c = -1 := by
  have key : ∀ n : Fin 256, (∀ k : Fin 64, ¬ let64 k.val = (n.val : Int)) → wv (UInt8.ofNat n.val) = -1 := by decide +kernel
  have h1 := key ⟨c.toNat, UInt8.toNat_lt _⟩ (fun k => h k.val k.isLt)
  simpa using h1

theorem wv_gap (c : UInt8) (h : c.toNat = 61) : wv c = -1 := by
  have : c = 61 := UInt8.toNat_inj.1 (by rw [h]; rfl)
  subst this; decide +kernel
set_option maxRecDepth 100000 in
theorem worth_any (c : UInt8) (w : World) : Calls Try.prog 58 #[.int .u8 (c.toNat : Int)] w fun e w' => e = .returned (.int .i64 (wv c)) ∧ w = w' := by
  obtain ⟨R, hR⟩ : ∃ R, wv c = R := ⟨_, rfl⟩
  have HR := Lib.hid hR
  rw [hR]
  clear hR
  go_enter Try.func58, Try.ntmps58
  go_wp2
  go_loopw [3] (fun i wr => ∃ k : Nat, k ≤ 64 ∧ i = .int .i64 (k : Int) ∧ wr = w ∧ Hid (∀ j, j < k → ¬ let64 j = (c.toNat : Int))) (fun i _ => 64 - (intOf i).toNat)
  case atStart => exact ⟨0, by omega, rfl, rfl, fun j hj => by omega⟩
  case round =>
    obtain ⟨k, hk, rfl, rfl, HJ⟩ := hrel
    by_cases h64 : k < 64
    · have hrl := run_let .i64 k h64
      by_cases he : let64 k = (c.toNat : Int)
      · have HH : Hid (wv c = k) := wv_let k h64 c he
        have he' : (let64 k == (c.toNat : Int)) = true := by simpa using he
        clear he
        go_wp2
        go_ret
        exact ⟨ret_int (by rw [← HR.out, HH.out]), rfl⟩
      · have he' : (let64 k == (c.toNat : Int)) = false := by simpa using he
        have HE := Lib.hid he
        clear he
        go_wp2
        go_roundw
        case rel => exact ⟨k + 1, by omega, by go_num, trivial, fun j hj => if h : j = k then by subst h; exact HE.out else HJ.out j (by omega)⟩
        case measure => simp [intOf]; omega
    · obtain rfl : k = 64 := by omega
      have HH : Hid (wv c = -1) := wv_none c (fun k hk => HJ.out k hk)
      go_wp2
      go_ret
      exact ⟨ret_int (by rw [← HR.out, HH.out]), rfl⟩
/-- the letters that the reference takes -/
def rstep (t : List UInt8) (c : UInt8) : Option Int :=
  if wv c < 0 ∧ c.toNat ≠ 61 then some 3
  else if 0 < t.length ∧ t.length % 4 = 0 ∧ t.getLast? = some 61 then some 6
  else if c.toNat = 61 ∧ t.length % 4 < 2 then some 3
  else if c.toNat ≠ 61 ∧ t.length % 4 ≠ 0 ∧ t.getLast? = some 61 then some 3
  else none
/-- bits of a number of six -/
def bits6 (v : Nat) : List Nat := [v / 32 % 2, v / 16 % 2, v / 8 % 2, v / 4 % 2, v / 2 % 2, v % 2]
def bval (l : List Nat) : Nat := l.foldl (fun v b => 2 * v + b) 0
def grp (l : List Nat) : List Nat := if 8 ≤ l.length then bval (l.take 8) :: grp (l.drop 8) else []
termination_by l.length
decreasing_by simp; omega
def lft (l : List Nat) : List Nat := if 8 ≤ l.length then lft (l.drop 8) else l
termination_by l.length
decreasing_by simp; omega
def tbits (t : List UInt8) : List Nat := (t.takeWhile (fun c => c.toNat ≠ 61)).flatMap (fun c => bits6 (wv c).toNat)
/-- the end of the reference's Decode, at its letters -/
def rfin (t : List UInt8) : List Int × Int :=
  if t.length % 4 ≠ 0 then ([], 1)
  else if (lft (tbits t)).any (fun b => b ≠ 0) = true then ([], 3) else ((grp (tbits t)).map (fun x : Nat => (x : Int)), 0)
def rtake (t : List UInt8) : List UInt8 → List Int × Int
  | [] => rfin t
  | c :: cs => if wsB c.toNat = true then rtake t cs else match rstep t c with
    | some e => ([], e)
    | none => rtake (t ++ [c]) cs

theorem run_at (s : ByteArray) (k : Nat) (h : k < s.size) (c : UInt8) (hc : s[k] = c) (w : World) : (Instr.index 9 (.string s) (.int .i64 (k : Int))).run Try.prog w = .ok (.int .u8 (c.toNat : Int)) w := by
  have h2 : (0 : Int) ≤ (k : Int) ∧ (k : Int) < s.size := ⟨by omega, by omega⟩
  rw [run_index_string w 9 _ _ _ Try.underlying9, dif_pos h2, ← hc]
  rfl
abbrev chs (t : List UInt8) : List Value := t.map (fun c : UInt8 => Value.int .u8 (c.toNat : Int))
theorem chs_snoc (t : List UInt8) (c : UInt8) : chs (t ++ [c]) = chs t ++ [.int .u8 (c.toNat : Int)] := by simp [chs]
theorem ok_snoc (t : List UInt8) (c : UInt8) (h : ∀ x ∈ t, x.toNat = 61 ∨ 0 ≤ wv x) (hc : c.toNat = 61 ∨ 0 ≤ wv c) : ∀ x ∈ t ++ [c], x.toNat = 61 ∨ 0 ≤ wv x := by
  intro x hx
  rcases List.mem_append.1 hx with h1 | h1
  · exact h x h1
  · rw [List.mem_singleton.1 h1]; exact hc
theorem ret_rdec {R : List Int × Int} {e : Int} (h : R = ([], e)) : Ending.returned (.tuple #[.string { data := #[] }, .int .i64 e]) = Ending.returned (.tuple #[.string (strOfNums R.1), .int .i64 R.2]) := by subst h; rfl

theorem S76 : Sl1 Try.prog 76 3 (.int .i64 0) 8 := ⟨Try.underlying76, by kernel_rfl, rfl⟩
abbrev i64s (l : List Nat) : List Value := l.map (fun b : Nat => Value.int .i64 (b : Int))
abbrev by8 (l : List Nat) : List Value := (l.map (fun b : Nat => (b : Int))).map (Value.int .u8)
theorem by8_snoc (l : List Nat) (b : Nat) : by8 (l ++ [b]) = by8 l ++ [.int .u8 (b : Int)] := by simp [by8]
theorem i64s_app (l m : List Nat) : i64s (l ++ m) = i64s l ++ i64s m := by simp [i64s]
theorem bval_snoc (l : List Nat) (b : Nat) : bval (l ++ [b]) = 2 * bval l + b := by simp [bval]
theorem bval_lt' (l : List Nat) : ∀ a, (∀ b ∈ l, b ≤ 1) → l.foldl (fun v b => 2 * v + b) a < (a + 1) * 2 ^ l.length := by
  induction l with
  | nil => intro a _; simp
  | cons b l ih =>
    intro a h
    have h1 := ih (2 * a + b) (fun x hx => h x (by simp [hx]))
    have h2 := h b (by simp)
    rw [List.foldl_cons, List.length_cons]
    refine Nat.lt_of_lt_of_le h1 ?_
    have h3 : (2 * a + b + 1) * 2 ^ l.length ≤ (2 * a + 2) * 2 ^ l.length := Nat.mul_le_mul_right _ (by omega)
    rw [Nat.pow_succ, show (a + 1) * (2 ^ l.length * 2) = (2 * a + 2) * 2 ^ l.length from by rw [show 2 * a + 2 = (a + 1) * 2 from by omega, Nat.mul_assoc, Nat.mul_comm 2]]
    exact h3
theorem bval_lt (l : List Nat) (h : ∀ b ∈ l, b ≤ 1) : bval l < 2 ^ l.length := by
  have := bval_lt' l 0 h
  simpa [bval] using this
theorem bval_take (l : List Nat) (j : Nat) (h : j < l.length) : bval (l.take (j + 1)) = 2 * bval (l.take j) + l[j] := by
  rw [List.take_succ_eq_append_getElem h, bval_snoc]
theorem grp_step (l : List Nat) (h : 8 ≤ l.length) : grp l = bval (l.take 8) :: grp (l.drop 8) := by rw [grp, if_pos h]
theorem grp_end (l : List Nat) (h : ¬ 8 ≤ l.length) : grp l = [] := by rw [grp, if_neg h]
theorem lft_step (l : List Nat) (h : 8 ≤ l.length) : lft l = lft (l.drop 8) := by rw [lft, if_pos h]
theorem lft_end (l : List Nat) (h : ¬ 8 ≤ l.length) : lft l = l := by rw [lft, if_neg h]
theorem any_step (l : List Nat) (q : Nat) (h : q < l.length) : (l.drop q).any (fun b => decide (b ≠ 0)) = (decide (l[q] ≠ 0) || (l.drop (q + 1)).any (fun b => decide (b ≠ 0))) := by
  rw [List.drop_eq_getElem_cons h, List.any_cons]
theorem shr_nat (v i : Nat) : ((v : Int) / ((2 ^ i : Nat) : Int)) % 2 = ((v / 2 ^ i % 2 : Nat) : Int) := by simp
theorem tbits_nil : tbits [] = [] := rfl
theorem tbits_gap (c : UInt8) (l : List UInt8) (h : c.toNat = 61) : tbits (c :: l) = [] := by simp [tbits, h]
theorem tbits_cons (c : UInt8) (l : List UInt8) (h : ¬ c.toNat = 61) : tbits (c :: l) = bits6 (wv c).toNat ++ tbits l := by simp [tbits, h]
theorem tbits_le (t : List UInt8) : ∀ b ∈ tbits t, b ≤ 1 := by
  intro b hb
  simp only [tbits, List.mem_flatMap] at hb
  obtain ⟨c, _, hc⟩ := hb
  simp only [bits6, List.mem_cons, List.not_mem_nil, or_false] at hc
  omega
theorem tbits_len (t : List UInt8) : (tbits t).length ≤ 6 * t.length := by
  induction t with
  | nil => simp [tbits]
  | cons c l ih =>
    by_cases h : c.toNat = 61
    · rw [tbits_gap c l h]; simp
    · rw [tbits_cons c l h]; simp [bits6]; omega

set_option maxRecDepth 100000 in
set_option maxHeartbeats 4000000 in
theorem refDecode_any (s : ByteArray) (w : World) (hs : s.size ≤ 1000000) :
    Calls Try.prog 33 #[.string s] w fun e w' => e = .returned (.tuple #[.string (strOfNums (rtake [] s.data.toList).1), .int .i64 (rtake [] s.data.toList).2]) ∧ Below w.heap.size w w' := by
  obtain ⟨R, hR⟩ : ∃ R, rtake [] s.data.toList = R := ⟨_, rfl⟩
  have HR := Lib.hid hR
  rw [hR]
  clear hR
  go_enter Try.func33, Try.ntmps33
  go_wp2
  go_loopw [4, 5, 6, 7] (fun b i _ _ wr => ∃ (k : Nat) (t : List UInt8) (a : Option Addr) (c : Nat), k ≤ s.size ∧ t.length ≤ k ∧ i = .int .i64 (k : Int) ∧ b = .slice a t.length c ∧ wr.ownsRow w.heap.size 5 1 (.slice a t.length c) t.length (chs t) ∧ Below w.heap.size w wr ∧ Hid (rtake t (s.data.toList.drop k) = R) ∧ Hid (∀ x ∈ t, x.toNat = 61 ∨ 0 ≤ wv x)) (fun _ i _ _ _ => s.size - (intOf i).toNat)
  case atStart => exact ⟨0, [], none, 0, by omega, by simp, rfl, rfl, World.ownsRow_nil _ _ _ _, Below.refl _ _, HR.out, fun x hx => by simp at hx⟩
  case round =>
    obtain ⟨k, t, a, cp, hk, htk, rfl, rfl, hown, hb, HP, HOK⟩ := hrel
    have hX := Lib.hid hown
    have HB := Lib.hid hb
    have hsz := hb.size
    have hP := HP.out
    clear hown hb HP
    by_cases hlt : k < s.size
    · rw [drop_cons_at s k hlt] at hP
      obtain ⟨D, hD⟩ : ∃ D, s.data.toList.drop (k + 1) = D := ⟨_, rfl⟩
      have HD := Lib.hid hD
      rw [hD] at hP
      clear hD
      obtain ⟨c, hc⟩ : ∃ c, s[k] = c := ⟨_, rfl⟩
      rw [hc] at hP
      have hrd := run_at s k hlt c hc
      have cw := Lib.hid (fun w => worth_any c w)
      have hvb := wv_bd c
      clear hc
      by_cases hws : wsB c.toNat = true
      · have key : c.toNat = 32 ∨ c.toNat = 9 ∨ c.toNat = 13 ∨ c.toNat = 10 := by simpa [wsB] using hws
        rw [rtake, if_pos hws] at hP
        have H2 := Lib.hid hP
        clear hP hws
        rcases key with h | h | h | h
        all_goals
          rw [h] at hrd
          go_wp2
          go_roundw
          case rel => exact ⟨k + 1, t, a, cp, by omega, by omega, by go_num, rfl, hX.out, HB.out, by unfold Hid; rw [HD.out]; exact H2.out, HOK⟩
          case measure => simp [intOf]; omega
      · have n32 : ((c.toNat : Int) == 32) = false := by simp; intro h; apply hws; unfold wsB; simp; omega
        have n9 : ((c.toNat : Int) == 9) = false := by simp; intro h; apply hws; unfold wsB; simp; omega
        have n10 : ((c.toNat : Int) == 10) = false := by simp; intro h; apply hws; unfold wsB; simp; omega
        have n13 : ((c.toNat : Int) == 13) = false := by simp; intro h; apply hws; unfold wsB; simp; omega
        rw [rtake, if_neg hws] at hP
        clear hws
        by_cases hbad : wv c < 0 ∧ c.toNat ≠ 61
        · have h1 := hbad.1
          have h2 : ¬ (c.toNat : Int) = 61 := by omega
          have hgl := trivial
          have hst : rstep t c = some 3 := by unfold rstep; rw [if_pos hbad]
          rw [hst] at hP
          have H2 := Lib.hid hP
          clear hP hst hgl
          go_wp2_with (go_at_call 58; refine (cw.out _).mono ?_; rintro e w5 ⟨rfl, rfl⟩)


          go_ret2
          exact ⟨ret_rdec H2.out.symm, HB.out⟩
        · by_cases ht0 : t.length = 0
          · have ht : t = [] := List.eq_nil_of_length_eq_zero ht0
            subst ht
            have hgl := trivial
            by_cases h61 : c.toNat = 61
            · have h61' := h61
              have hv61 : wv c = -1 := wv_gap c h61
              rw [hv61] at cw
              rw [h61] at cw hrd
              simp only [show ((61 : Nat) : Int) = 61 from rfl] at cw hrd
              clear n32 n9 n10 n13
              have hst : rstep [] c = some 3 := by unfold rstep; rw [if_neg hbad, if_neg (by simp), if_pos (by simp; omega)]
              rw [hst] at hP
              have H2 := Lib.hid hP
              clear hP hst hgl
              go_wp2_with (go_at_call 58; refine (cw.out _).mono ?_; rintro e w5 ⟨rfl, rfl⟩)
              go_ret2
              exact ⟨ret_rdec H2.out.symm, HB.out⟩
            · have hst : rstep [] c = none := by unfold rstep; rw [if_neg hbad, if_neg (by simp), if_neg (by omega), if_neg (by simp)]
              have h61' : ((c.toNat : Int) == 61) = false := by simp; omega
              have h61n : ((c.toNat : Int) != 61) = true := by simp; omega
              have hv : ¬ wv c < 0 := fun h => hbad ⟨h, h61⟩
              clear hbad
              have hvk : 0 ≤ wv c := Int.not_lt.1 hv
              generalize wv c = v at cw hv hvb
              rw [hst] at hP
              have hch : Hid (chs ([] ++ [c]) = chs [] ++ [.int .u8 (c.toNat : Int)]) := by unfold Hid; rw [chs_snoc]
              have HOK2 := Lib.hid (ok_snoc [] c HOK.out (.inr hvk))
              have H2 := Lib.hid hP
              clear hP hst hgl
              go_wp2_with (first | (go_at_call 58; refine (cw.out _).mono ?_; rintro e w5 ⟨rfl, rfl⟩) | (at_builtin; go_must (refine wpList_app1 _ _ rfl _ _ 43 5 _ _ S43 rfl w.heap.size _ _ _ rfl rfl rfl hX.out (by simp [maxLen] <;> omega) (by omega) hsz ?_); intro a' c' w4 hown4 hgr4 _ hb4))
              go_roundw
              case rel => exact ⟨k + 1, [] ++ [c], a', c', by omega, by simp, by go_num, by simp, by rw [hch.out, List.length_append]; exact hown4, HB.out.trans hb4, by unfold Hid; rw [HD.out]; exact H2.out, HOK2⟩
              case measure => simp [intOf]; omega
          · obtain ⟨x, hgl⟩ : ∃ x, t.getLast? = some x := by
              cases hh : t.getLast? with
              | none => simp at hh; subst hh; simp at ht0
              | some x => exact ⟨x, rfl⟩
            have hx := hgl
            rw [List.getLast?_eq_getElem?] at hx
            obtain ⟨g, rfl, hcell⟩ := own_at hX.out (i := t.length - 1) (by omega)
            have hcx : wr.cell? ⟨g, t.length - 1, none⟩ = some (.int .u8 (x.toNat : Int)) := by rw [hcell, List.getElem?_map, hx]; rfl
            have htl : (((t.length : Nat) : Int) - 1).toNat = t.length - 1 := by omega
            have hxx : x = 61 ↔ x.toNat = 61 := ⟨fun h => by rw [h]; rfl, fun h => UInt8.toNat_inj.1 (by rw [h]; rfl)⟩
            have hgx : t.getLast? = some 61 ↔ x.toNat = 61 := by rw [hgl, Option.some.injEq]; exact hxx
            have ht1 : 0 < t.length := by omega
            have ht1' : (0 : Int) < (t.length : Int) := by omega
            clear hcell hx hgl hxx
            have hgl := hgx
            clear hgx
            by_cases h61 : c.toNat = 61
            · have h61' := h61
              have hv61 : wv c = -1 := wv_gap c h61
              rw [hv61] at cw
              rw [h61] at cw hrd
              simp only [show ((61 : Nat) : Int) = 61 from rfl] at cw hrd
              clear n32 n9 n10 n13
              by_cases hr0 : t.length % 4 = 0
              · by_cases hx61 : x.toNat = 61
                · have hr' : ((t.length : Int) % 4 == 0) = true := by simp; omega
                  have hr'' : ((t.length : Int) % 4 != 0) = false := by simp; omega
                  have hst : rstep t c = some 6 := by unfold rstep; rw [if_neg hbad, if_pos ⟨ht1, hr0, hgl.2 hx61⟩]
                  rw [hx61] at hcx
                  simp only [show ((61 : Nat) : Int) = 61 from rfl] at hcx
                  rw [hst] at hP
                  have H2 := Lib.hid hP
                  clear hP hst hgl
                  go_wp2_with (go_at_call 58; refine (cw.out _).mono ?_; rintro e w5 ⟨rfl, rfl⟩)
                  go_ret2
                  exact ⟨ret_rdec H2.out.symm, HB.out⟩
                · have hr' : ((t.length : Int) % 4 == 0) = true := by simp; omega
                  have hr'' : ((t.length : Int) % 4 != 0) = false := by simp; omega
                  have hr2' : (t.length : Int) % 4 < 2 := by omega
                  have hst : rstep t c = some 3 := by unfold rstep; rw [if_neg hbad, if_neg (fun h => hx61 (hgl.1 h.2.2)), if_pos ⟨h61, by omega⟩]
                  have hx61' : ((x.toNat : Int) == 61) = false := by simp; omega
                  rw [hst] at hP
                  have H2 := Lib.hid hP
                  clear hP hst hgl
                  go_wp2_with (go_at_call 58; refine (cw.out _).mono ?_; rintro e w5 ⟨rfl, rfl⟩)
                  go_ret2
                  exact ⟨ret_rdec H2.out.symm, HB.out⟩
              · have hr' : ((t.length : Int) % 4 == 0) = false := by simp; omega
                have hr'' : ((t.length : Int) % 4 != 0) = true := by simp; omega
                by_cases hr2 : t.length % 4 < 2
                · have hr2' : (t.length : Int) % 4 < 2 := by omega
                  have hst : rstep t c = some 3 := by unfold rstep; rw [if_neg hbad, if_neg (fun h => hr0 h.2.1), if_pos ⟨h61, hr2⟩]
                  rw [hst] at hP
                  have H2 := Lib.hid hP
                  clear hP hst hgl
                  go_wp2_with (go_at_call 58; refine (cw.out _).mono ?_; rintro e w5 ⟨rfl, rfl⟩)
                  go_ret2
                  exact ⟨ret_rdec H2.out.symm, HB.out⟩
                · have hr2' : ¬ (t.length : Int) % 4 < 2 := by omega
                  have hst : rstep t c = none := by unfold rstep; rw [if_neg hbad, if_neg (fun h => hr0 h.2.1), if_neg (fun h => hr2 h.2), if_neg (fun h => h.1 h61)]
                  rw [hst] at hP
                  have hch : Hid (chs (t ++ [c]) = chs t ++ [.int .u8 61]) := by unfold Hid; rw [chs_snoc, h61]; rfl
                  have HOK2 := Lib.hid (ok_snoc t c HOK.out (.inl h61))
                  have H2 := Lib.hid hP
                  clear hP hst hgl h61
                  go_wp2_with (first | (go_at_call 58; refine (cw.out _).mono ?_; rintro e w5 ⟨rfl, rfl⟩) | (at_builtin; go_must (refine wpList_app1 _ _ rfl _ _ 43 5 _ _ S43 rfl w.heap.size _ _ _ rfl rfl rfl hX.out (by simp [maxLen] <;> omega) (by omega) hsz ?_); intro a' c' w4 hown4 hgr4 _ hb4))
                  go_roundw
                  case rel => exact ⟨k + 1, t ++ [c], a', c', by omega, by simp; omega, by go_num, by simp, by rw [hch.out, List.length_append]; exact hown4, HB.out.trans hb4, by unfold Hid; rw [HD.out]; exact H2.out, HOK2⟩
                  case measure => simp [intOf]; omega
            · by_cases hr0 : t.length % 4 = 0
              · have hr' : ((t.length : Int) % 4 == 0) = true := by simp; omega
                have hr'' : ((t.length : Int) % 4 != 0) = false := by simp; omega
                by_cases hx61 : x.toNat = 61
                · have hst : rstep t c = some 6 := by unfold rstep; rw [if_neg hbad, if_pos ⟨ht1, hr0, hgl.2 hx61⟩]
                  have h61' : ((c.toNat : Int) == 61) = false := by simp; omega
                  have h61n : ((c.toNat : Int) != 61) = true := by simp; omega
                  have hv : ¬ wv c < 0 := fun h => hbad ⟨h, h61⟩
                  clear hbad
                  have hvk : 0 ≤ wv c := Int.not_lt.1 hv
                  generalize wv c = v at cw hv hvb
                  rw [hx61] at hcx
                  simp only [show ((61 : Nat) : Int) = 61 from rfl] at hcx
                  rw [hst] at hP
                  have H2 := Lib.hid hP
                  clear hP hst hgl
                  go_wp2_with (go_at_call 58; refine (cw.out _).mono ?_; rintro e w5 ⟨rfl, rfl⟩)
                  go_ret2
                  exact ⟨ret_rdec H2.out.symm, HB.out⟩
                · have hst : rstep t c = none := by unfold rstep; rw [if_neg hbad, if_neg (fun h => hx61 (hgl.1 h.2.2)), if_neg (fun h => h61 h.1), if_neg (fun h => h.2.1 hr0)]
                  have h61' : ((c.toNat : Int) == 61) = false := by simp; omega
                  have h61n : ((c.toNat : Int) != 61) = true := by simp; omega
                  have hv : ¬ wv c < 0 := fun h => hbad ⟨h, h61⟩
                  clear hbad
                  have hvk : 0 ≤ wv c := Int.not_lt.1 hv
                  generalize wv c = v at cw hv hvb
                  have hx61' : ((x.toNat : Int) == 61) = false := by simp; omega
                  rw [hst] at hP
                  have hch : Hid (chs (t ++ [c]) = chs t ++ [.int .u8 (c.toNat : Int)]) := by unfold Hid; rw [chs_snoc]
                  have HOK2 := Lib.hid (ok_snoc t c HOK.out (.inr hvk))
                  have H2 := Lib.hid hP
                  clear hP hst hgl
                  go_wp2_with (first | (go_at_call 58; refine (cw.out _).mono ?_; rintro e w5 ⟨rfl, rfl⟩) | (at_builtin; go_must (refine wpList_app1 _ _ rfl _ _ 43 5 _ _ S43 rfl w.heap.size _ _ _ rfl rfl rfl hX.out (by simp [maxLen] <;> omega) (by omega) hsz ?_); intro a' c' w4 hown4 hgr4 _ hb4))
                  go_roundw
                  case rel => exact ⟨k + 1, t ++ [c], a', c', by omega, by simp; omega, by go_num, by simp, by rw [hch.out, List.length_append]; exact hown4, HB.out.trans hb4, by unfold Hid; rw [HD.out]; exact H2.out, HOK2⟩
                  case measure => simp [intOf]; omega
              · have hr' : ((t.length : Int) % 4 == 0) = false := by simp; omega
                have hr'' : ((t.length : Int) % 4 != 0) = true := by simp; omega
                by_cases hx61 : x.toNat = 61
                · have hst : rstep t c = some 3 := by unfold rstep; rw [if_neg hbad, if_neg (fun h => hr0 h.2.1), if_neg (fun h => h61 h.1), if_pos ⟨h61, hr0, hgl.2 hx61⟩]
                  have h61' : ((c.toNat : Int) == 61) = false := by simp; omega
                  have h61n : ((c.toNat : Int) != 61) = true := by simp; omega
                  have hv : ¬ wv c < 0 := fun h => hbad ⟨h, h61⟩
                  clear hbad
                  have hvk : 0 ≤ wv c := Int.not_lt.1 hv
                  generalize wv c = v at cw hv hvb
                  rw [hx61] at hcx
                  simp only [show ((61 : Nat) : Int) = 61 from rfl] at hcx
                  rw [hst] at hP
                  have H2 := Lib.hid hP
                  clear hP hst hgl
                  go_wp2_with (go_at_call 58; refine (cw.out _).mono ?_; rintro e w5 ⟨rfl, rfl⟩)
                  go_ret2
                  exact ⟨ret_rdec H2.out.symm, HB.out⟩
                · have hst : rstep t c = none := by unfold rstep; rw [if_neg hbad, if_neg (fun h => hr0 h.2.1), if_neg (fun h => h61 h.1), if_neg (fun h => hx61 (hgl.1 h.2.2))]
                  have h61' : ((c.toNat : Int) == 61) = false := by simp; omega
                  have h61n : ((c.toNat : Int) != 61) = true := by simp; omega
                  have hv : ¬ wv c < 0 := fun h => hbad ⟨h, h61⟩
                  clear hbad
                  have hvk : 0 ≤ wv c := Int.not_lt.1 hv
                  generalize wv c = v at cw hv hvb
                  have hx61' : ((x.toNat : Int) == 61) = false := by simp; omega
                  rw [hst] at hP
                  have hch : Hid (chs (t ++ [c]) = chs t ++ [.int .u8 (c.toNat : Int)]) := by unfold Hid; rw [chs_snoc]
                  have HOK2 := Lib.hid (ok_snoc t c HOK.out (.inr hvk))
                  have H2 := Lib.hid hP
                  clear hP hst hgl
                  go_wp2_with (first | (go_at_call 58; refine (cw.out _).mono ?_; rintro e w5 ⟨rfl, rfl⟩) | (at_builtin; go_must (refine wpList_app1 _ _ rfl _ _ 43 5 _ _ S43 rfl w.heap.size _ _ _ rfl rfl rfl hX.out (by simp [maxLen] <;> omega) (by omega) hsz ?_); intro a' c' w4 hown4 hgr4 _ hb4))
                  go_roundw
                  case rel => exact ⟨k + 1, t ++ [c], a', c', by omega, by simp; omega, by go_num, by simp, by rw [hch.out, List.length_append]; exact hown4, HB.out.trans hb4, by unfold Hid; rw [HD.out]; exact H2.out, HOK2⟩
                  case measure => simp [intOf]; omega
    · have hdr : s.data.toList.drop k = [] := List.drop_of_length_le (by rw [len_toList]; omega)
      rw [hdr, rtake] at hP
      by_cases h4 : t.length % 4 = 0
      · have h4' : ((t.length : Int) % 4 != 0) = false := by simp; omega
        rw [rfin, if_neg (by omega)] at hP
        have H1 := Lib.hid hP
        have HTL := tbits_len t
        have HTE := Lib.hid (tbits_le t)
        obtain ⟨TB, hTB⟩ : ∃ TB, tbits t = TB := ⟨_, rfl⟩
        have HTB := Lib.hid hTB
        rw [hTB] at H1 HTL HTE
        clear hP hTB h4 hdr
        go_wp2
        obtain ⟨wA, hwA⟩ : ∃ x, x = wr := ⟨_, rfl⟩
        subst hwA
        go_loopw [8, 9, 10] (fun b i _ wx => ∃ (p : Nat) (l : List Nat) (a2 : Option Addr) (c2 : Nat), p ≤ t.length ∧ l.length ≤ 6 * p ∧ i = .int .i64 (p : Int) ∧ b = .slice a2 l.length c2 ∧ wx.ownsRow wA.heap.size 3 1 (.slice a2 l.length c2) l.length (i64s l) ∧ Below wA.heap.size wA wx ∧ Hid (l ++ tbits (t.drop p) = TB)) (fun _ i _ _ => t.length - (intOf i).toNat)
        case atStart => exact ⟨0, [], none, 0, by omega, by simp, rfl, rfl, World.ownsRow_nil _ _ _ _, Below.refl _ _, HTB.out⟩
        case round =>
          obtain ⟨p, l, a2, c2, hp, hlp, rfl, rfl, hown, hb, HQ⟩ := hrel
          have hX2 := Lib.hid hown
          have HB2 := Lib.hid hb
          have HXT := Lib.hid (owns_after hX.out hb)
          have hQ := HQ.out
          clear hown hb HQ
          by_cases hpt : p < t.length
          · obtain ⟨g, rfl, hcell⟩ := own_at HXT.out (i := p) hpt
            obtain ⟨c, hc⟩ : ∃ c, t[p] = c := ⟨_, rfl⟩
            have hcx : wr.cell? ⟨g, p, none⟩ = some (.int .u8 (c.toNat : Int)) := by rw [hcell, List.getElem?_map, List.getElem?_eq_getElem hpt, hc]; rfl
            rw [List.drop_eq_getElem_cons hpt, hc] at hQ
            have cw := Lib.hid (fun w => worth_any c w)
            have hvb := wv_bd c
            have hcc : t[p]? = some c := by rw [List.getElem?_eq_getElem hpt, hc]
            clear hcell hc
            by_cases h61 : c.toNat = 61
            · rw [h61] at hcx
              simp only [show ((61 : Nat) : Int) = 61 from rfl] at hcx
              have hQe : l = TB := by rw [tbits_gap _ _ h61] at hQ; simpa using hQ
              subst hQe
              have HT2 := HTB
              clear hQ HTB
              go_wp2
              obtain ⟨wx, hwx⟩ : ∃ x, x = wr := ⟨_, rfl⟩
              subst hwx
              go_loopw [11, 12, 13, 14] (fun b i _ _ wy => ∃ (q : Nat) (o : List Nat) (a3 : Option Addr) (c3 : Nat), q ≤ l.length ∧ o.length ≤ q ∧ i = .int .i64 (q : Int) ∧ b = .slice a3 o.length c3 ∧ wy.ownsRow wx.heap.size 5 1 (.slice a3 o.length c3) o.length (by8 o) ∧ Below wx.heap.size wx wy ∧ Hid (o ++ grp (l.drop q) = grp l ∧ lft (l.drop q) = lft l)) (fun _ i _ _ _ => l.length - (intOf i).toNat)
              case atStart => exact ⟨0, [], none, 0, by omega, by simp, rfl, rfl, World.ownsRow_nil _ _ _ _, Below.refl _ _, ⟨rfl, rfl⟩⟩
              case round =>
                obtain ⟨q, o, a3, c3, hq, hoq, rfl, rfl, hown3, hb3, HG⟩ := hrel
                have hX3 := Lib.hid hown3
                have HB3 := Lib.hid hb3
                have HXL := Lib.hid (owns_after hX2.out hb3)
                have hsz3 := hb3.size
                have hsz2 := HB2.out.size
                clear hown3 hb3
                have hDl : (l.drop q).length = l.length - q := List.length_drop
                by_cases h8 : q + 8 ≤ l.length
                · have h8' : (q : Int) + 8 ≤ (l.length : Int) := by omega
                  obtain ⟨hG1, hG2⟩ := HG.out
                  rw [grp_step _ (by omega), List.drop_drop] at hG1
                  rw [lft_step _ (by omega), List.drop_drop] at hG2
                  have HG1 := Lib.hid hG1
                  have HG2 := Lib.hid hG2
                  clear hG1 hG2 HG
                  have HBL : Hid (∀ j, j ≤ 8 → bval ((l.drop q).take j) < 256) := fun j hj => by
                    have h1 := bval_lt ((l.drop q).take j) (fun b hb => HTE.out b (List.mem_of_mem_drop (List.mem_of_mem_take hb)))
                    have h2 : ((l.drop q).take j).length ≤ 8 := by rw [List.length_take]; omega
                    exact Nat.lt_of_lt_of_le h1 (Nat.le_trans (Nat.pow_le_pow_right (by decide) h2) (by decide))
                  clear hDl
                  go_wp2
                  obtain ⟨wy, hwy⟩ : ∃ x, x = wr := ⟨_, rfl⟩
                  subst hwy
                  go_loopw [13, 14] (fun v j wz => ∃ jj : Nat, jj ≤ 8 ∧ j = .int .i64 (jj : Int) ∧ v = .int .i64 ((bval ((l.drop q).take jj) : Nat) : Int) ∧ wz = wy) (fun _ j _ => 8 - (intOf j).toNat)
                  case atStart => exact ⟨0, by omega, rfl, rfl, rfl⟩
                  case round =>
                    obtain ⟨jj, hjj, rfl, rfl, rfl⟩ := hrel
                    have hbl := HBL.out jj hjj
                    by_cases hj8 : jj < 8
                    · have hlt2 : q + jj < l.length := by omega
                      obtain ⟨g2, rfl, hcell2⟩ := own_at HXL.out (i := q + jj) hlt2
                      have hcb : wr.cell? ⟨g2, q + jj, none⟩ = some (.int .i64 ((l[q + jj] : Nat) : Int)) := by rw [hcell2, List.getElem?_map, List.getElem?_eq_getElem hlt2]; rfl
                      have hble : l[q + jj] ≤ 1 := HTE.out _ (List.getElem_mem _)
                      have HV : Hid (bval ((l.drop q).take (jj + 1)) = 2 * bval ((l.drop q).take jj) + l[q + jj]) := by
                        unfold Hid
                        rw [bval_take _ _ (by simp; omega), List.getElem_drop]
                      have htn : (((q : Nat) : Int) + (jj : Int)).toNat = q + jj := by omega
                      have hlt2' : (q : Int) + (jj : Int) < (l.length : Int) := by omega
                      clear hcell2
                      generalize l[q + jj] = bt at *
                      generalize bval ((l.drop q).take jj) = v0 at *
                      go_wp2
                      go_roundw
                      case rel => exact ⟨jj + 1, by omega, by go_num, by rw [HV.out]; go_num, trivial⟩
                      case measure => simp [intOf]; omega
                    · obtain rfl : jj = 8 := by omega
                      generalize bval ((l.drop q).take 8) = v0 at *
                      go_wp2_with (at_builtin; go_must (refine wpList_app1 _ _ rfl _ _ 43 5 _ _ S43 rfl wx.heap.size _ _ _ rfl rfl rfl hX3.out (by simp [maxLen]; omega) (by omega) hsz3 ?_); intro a' c' w4 hown4 hgr4 _ hb4)
                      go_roundw
                      case rel => exact ⟨q + 8, o ++ [v0], a', c', by omega, by simp; omega, by go_num, by simp, by rw [by8_snoc, List.length_append]; exact hown4, HB3.out.trans hb4, ⟨by rw [← HG1.out]; simp, HG2.out⟩⟩
                      case measure => simp [intOf]; omega
                · have h8' : ¬ (q : Int) + 8 ≤ (l.length : Int) := by omega
                  obtain ⟨hG1, hG2⟩ := HG.out
                  rw [grp_end _ (by omega), List.append_nil] at hG1
                  rw [lft_end _ (by omega)] at hG2
                  have h1 := H1.out
                  rw [← hG1, ← hG2] at h1
                  have H1 := Lib.hid h1
                  clear hG1 hG2 HG h1 hDl
                  go_wp2
                  obtain ⟨wy, hwy⟩ : ∃ x, x = wr := ⟨_, rfl⟩
                  subst hwy
                  go_loopw [12] (fun i wz => ∃ qq : Nat, qq ≤ l.length ∧ i = .int .i64 (qq : Int) ∧ wz = wy ∧ Hid ((l.drop qq).any (fun b => decide (b ≠ 0)) = (l.drop q).any (fun b => decide (b ≠ 0)))) (fun i _ => l.length - (intOf i).toNat)
                  case atStart => exact ⟨q, hq, rfl, rfl, rfl⟩
                  case round =>
                    obtain ⟨qq, hqq, rfl, rfl, HA⟩ := hrel
                    by_cases hql : qq < l.length
                    · obtain ⟨g2, rfl, hcell2⟩ := own_at HXL.out (i := qq) hql
                      have hcb : wr.cell? ⟨g2, qq, none⟩ = some (.int .i64 ((l[qq] : Nat) : Int)) := by rw [hcell2, List.getElem?_map, List.getElem?_eq_getElem hql]; rfl
                      have hA := HA.out
                      rw [any_step l qq hql] at hA
                      clear hcell2
                      generalize l[qq] = bt at *
                      by_cases hbt : bt = 0
                      · subst hbt
                        have HA2 : Hid ((l.drop (qq + 1)).any (fun b => decide (b ≠ 0)) = (l.drop q).any (fun b => decide (b ≠ 0))) := by unfold Hid; rw [← hA]; simp
                        clear hA
                        go_wp2
                        go_roundw
                        case rel => exact ⟨qq + 1, by omega, by go_num, trivial, HA2.out⟩
                        case measure => simp [intOf]; omega
                      · have hA2 : (l.drop q).any (fun b => decide (b ≠ 0)) = true := by rw [← hA]; simp [hbt]
                        have h1 := H1.out
                        rw [if_pos hA2] at h1
                        have H2 := Lib.hid h1
                        have hbt' : ((bt : Int) != 0) = true := by simp; omega
                        clear hA hA2 h1 hbt
                        go_wp2
                        go_ret2
                        exact ⟨ret_rdec H2.out.symm, HB.out.trans ((HB2.out.mono hsz).trans (HB3.out.mono (by omega)))⟩
                    · have hA2 : (l.drop q).any (fun b => decide (b ≠ 0)) = false := by rw [← HA.out, List.drop_of_length_le (by omega)]; rfl
                      have h1 := H1.out
                      rw [hA2, if_neg (by simp)] at h1
                      have H2 := Lib.hid h1
                      clear hA2 h1
                      go_wp2_with (refine wpList_str _ rfl _ 43 9 5 rfl Try.underlying43 Try.underlying9 Try.underlying5 wx.heap.size _ _ _ (o.map (fun b : Nat => (b : Int))) rfl hX3.out ?_)
                      go_ret2
                      exact ⟨ret_dec H2.out.symm, HB.out.trans ((HB2.out.mono hsz).trans (HB3.out.mono (by omega)))⟩
            · have h61' : ((c.toNat : Int) == 61) = false := by simp; omega
              have h61n : ((c.toNat : Int) != 61) = true := by simp; omega
              rw [tbits_cons c _ h61] at hQ
              have H2 := Lib.hid hQ
              clear hQ
              have hvp : ∃ V : Nat, wv c = (V : Int) ∧ V < 64 := by
                have := HOK.out c (List.mem_of_getElem? hcc)
                exact ⟨(wv c).toNat, by omega, by omega⟩
              obtain ⟨V, hV, hV64⟩ := hvp
              rw [hV] at cw H2
              have HB6 : Hid (bits6 (V : Int).toNat = [V / 32 % 2, V / 16 % 2, V / 8 % 2, V / 4 % 2, V / 2 % 2, V % 2]) := rfl
              generalize bits6 (V : Int).toNat = b6 at *
              clear hvb hV h61
              go_wp2
              go_loopw [8, 10] (fun b i wx => ∃ (j : Nat) (a3 : Option Addr) (c3 : Nat), j ≤ 6 ∧ i = .int .i64 (5 - (j : Int)) ∧ b = .slice a3 (l.length + j) c3 ∧ wx.ownsRow wA.heap.size 3 1 (.slice a3 (l.length + j) c3) (l.length + j) (i64s (l ++ b6.take j)) ∧ Below wA.heap.size wA wx) (fun _ i _ => (intOf i + 1).toNat)
              case atStart => exact ⟨0, a2, c2, by omega, rfl, rfl, by simpa using hX2.out, HB2.out⟩
              case round =>
                obtain ⟨j, a3, c3, hj, rfl, rfl, hown3, hb3⟩ := hrel
                have hX3 := Lib.hid hown3
                have HB3 := Lib.hid hb3
                have hsz3 := hb3.size
                obtain ⟨g4, hg4, hcell4⟩ := own_at (owns_after hX.out hb3) (i := p) hpt
                simp only [Option.some.injEq, Addr.mk.injEq, and_true] at hg4
                subst hg4
                have hcx : wr.cell? ⟨g, p, none⟩ = some (.int .u8 (c.toNat : Int)) := by rw [hcell4, List.getElem?_map, hcc]; rfl
                clear hown3 hb3 hcell4
                rcases (by omega : j = 0 ∨ j = 1 ∨ j = 2 ∨ j = 3 ∨ j = 4 ∨ j = 5 ∨ j = 6) with rfl | rfl | rfl | rfl | rfl | rfl | rfl
                · have HT : Hid (b6.take (0 + 1) = b6.take 0 ++ [V / 32 % 2]) := by unfold Hid; rw [HB6.out]; rfl
                  go_wp2_with (first | (go_at_call 58; refine (cw.out _).mono ?_; rintro e w5 ⟨rfl, rfl⟩) | (at_builtin; go_must (refine wpList_app1 _ _ rfl _ _ 76 3 _ _ S76 rfl wA.heap.size _ _ _ rfl rfl rfl hX3.out (by simp [maxLen]; omega) (by omega) hsz3 ?_); intro a' c' w4 hown4 hgr4 _ hb4))
                  go_roundw
                  case rel => exact ⟨1, a', c', by omega, by go_num, rfl, by rw [HT.out, ← List.append_assoc, i64s_app]; exact hown4, HB3.out.trans hb4⟩
                  case measure => simp [intOf]
                · have HT : Hid (b6.take (1 + 1) = b6.take 1 ++ [V / 16 % 2]) := by unfold Hid; rw [HB6.out]; rfl
                  go_wp2_with (first | (go_at_call 58; refine (cw.out _).mono ?_; rintro e w5 ⟨rfl, rfl⟩) | (at_builtin; go_must (refine wpList_app1 _ _ rfl _ _ 76 3 _ _ S76 rfl wA.heap.size _ _ _ rfl rfl rfl hX3.out (by simp [maxLen]; omega) (by omega) hsz3 ?_); intro a' c' w4 hown4 hgr4 _ hb4))
                  go_roundw
                  case rel => exact ⟨2, a', c', by omega, by go_num, rfl, by rw [HT.out, ← List.append_assoc, i64s_app]; exact hown4, HB3.out.trans hb4⟩
                  case measure => simp [intOf]
                · have HT : Hid (b6.take (2 + 1) = b6.take 2 ++ [V / 8 % 2]) := by unfold Hid; rw [HB6.out]; rfl
                  go_wp2_with (first | (go_at_call 58; refine (cw.out _).mono ?_; rintro e w5 ⟨rfl, rfl⟩) | (at_builtin; go_must (refine wpList_app1 _ _ rfl _ _ 76 3 _ _ S76 rfl wA.heap.size _ _ _ rfl rfl rfl hX3.out (by simp [maxLen]; omega) (by omega) hsz3 ?_); intro a' c' w4 hown4 hgr4 _ hb4))
                  go_roundw
                  case rel => exact ⟨3, a', c', by omega, by go_num, rfl, by rw [HT.out, ← List.append_assoc, i64s_app]; exact hown4, HB3.out.trans hb4⟩
                  case measure => simp [intOf]
                · have HT : Hid (b6.take (3 + 1) = b6.take 3 ++ [V / 4 % 2]) := by unfold Hid; rw [HB6.out]; rfl
                  go_wp2_with (first | (go_at_call 58; refine (cw.out _).mono ?_; rintro e w5 ⟨rfl, rfl⟩) | (at_builtin; go_must (refine wpList_app1 _ _ rfl _ _ 76 3 _ _ S76 rfl wA.heap.size _ _ _ rfl rfl rfl hX3.out (by simp [maxLen]; omega) (by omega) hsz3 ?_); intro a' c' w4 hown4 hgr4 _ hb4))
                  go_roundw
                  case rel => exact ⟨4, a', c', by omega, by go_num, rfl, by rw [HT.out, ← List.append_assoc, i64s_app]; exact hown4, HB3.out.trans hb4⟩
                  case measure => simp [intOf]
                · have HT : Hid (b6.take (4 + 1) = b6.take 4 ++ [V / 2 % 2]) := by unfold Hid; rw [HB6.out]; rfl
                  go_wp2_with (first | (go_at_call 58; refine (cw.out _).mono ?_; rintro e w5 ⟨rfl, rfl⟩) | (at_builtin; go_must (refine wpList_app1 _ _ rfl _ _ 76 3 _ _ S76 rfl wA.heap.size _ _ _ rfl rfl rfl hX3.out (by simp [maxLen]; omega) (by omega) hsz3 ?_); intro a' c' w4 hown4 hgr4 _ hb4))
                  go_roundw
                  case rel => exact ⟨5, a', c', by omega, by go_num, rfl, by rw [HT.out, ← List.append_assoc, i64s_app]; exact hown4, HB3.out.trans hb4⟩
                  case measure => simp [intOf]
                · have HT : Hid (b6.take (5 + 1) = b6.take 5 ++ [V % 2]) := by unfold Hid; rw [HB6.out]; rfl
                  go_wp2_with (first | (go_at_call 58; refine (cw.out _).mono ?_; rintro e w5 ⟨rfl, rfl⟩) | (at_builtin; go_must (refine wpList_app1 _ _ rfl _ _ 76 3 _ _ S76 rfl wA.heap.size _ _ _ rfl rfl rfl hX3.out (by simp [maxLen]; omega) (by omega) hsz3 ?_); intro a' c' w4 hown4 hgr4 _ hb4))
                  go_roundw
                  case rel => exact ⟨6, a', c', by omega, by go_num, rfl, by rw [HT.out, ← List.append_assoc, i64s_app]; exact hown4, HB3.out.trans hb4⟩
                  case measure => simp [intOf]
                · have HT : Hid (b6.take 6 = b6) := by unfold Hid; rw [HB6.out]; rfl
                  have HL6 : Hid (b6.length = 6) := by unfold Hid; rw [HB6.out]; rfl
                  go_wp2
                  go_roundw
                  case rel => exact ⟨p + 1, l ++ b6, a3, c3, by omega, by rw [List.length_append, HL6.out]; omega, by go_num, by rw [List.length_append, HL6.out], by rw [List.length_append, HL6.out]; have h := hX3.out; rw [HT.out] at h; exact h, HB3.out, by unfold Hid; rw [List.append_assoc]; exact H2.out⟩
                  case measure => simp [intOf]; omega
          · rw [List.drop_of_length_le (by omega)] at hQ
            have hQe : l = TB := by rw [tbits_nil] at hQ; simpa using hQ
            subst hQe
            have HT2 := HTB
            clear hQ HTB
            go_wp2
            obtain ⟨wx, hwx⟩ : ∃ x, x = wr := ⟨_, rfl⟩
            subst hwx
            go_loopw [11, 12, 13, 14] (fun b i _ _ wy => ∃ (q : Nat) (o : List Nat) (a3 : Option Addr) (c3 : Nat), q ≤ l.length ∧ o.length ≤ q ∧ i = .int .i64 (q : Int) ∧ b = .slice a3 o.length c3 ∧ wy.ownsRow wx.heap.size 5 1 (.slice a3 o.length c3) o.length (by8 o) ∧ Below wx.heap.size wx wy ∧ Hid (o ++ grp (l.drop q) = grp l ∧ lft (l.drop q) = lft l)) (fun _ i _ _ _ => l.length - (intOf i).toNat)
            case atStart => exact ⟨0, [], none, 0, by omega, by simp, rfl, rfl, World.ownsRow_nil _ _ _ _, Below.refl _ _, ⟨rfl, rfl⟩⟩
            case round =>
              obtain ⟨q, o, a3, c3, hq, hoq, rfl, rfl, hown3, hb3, HG⟩ := hrel
              have hX3 := Lib.hid hown3
              have HB3 := Lib.hid hb3
              have HXL := Lib.hid (owns_after hX2.out hb3)
              have hsz3 := hb3.size
              have hsz2 := HB2.out.size
              clear hown3 hb3
              have hDl : (l.drop q).length = l.length - q := List.length_drop
              by_cases h8 : q + 8 ≤ l.length
              · have h8' : (q : Int) + 8 ≤ (l.length : Int) := by omega
                obtain ⟨hG1, hG2⟩ := HG.out
                rw [grp_step _ (by omega), List.drop_drop] at hG1
                rw [lft_step _ (by omega), List.drop_drop] at hG2
                have HG1 := Lib.hid hG1
                have HG2 := Lib.hid hG2
                clear hG1 hG2 HG
                have HBL : Hid (∀ j, j ≤ 8 → bval ((l.drop q).take j) < 256) := fun j hj => by
                  have h1 := bval_lt ((l.drop q).take j) (fun b hb => HTE.out b (List.mem_of_mem_drop (List.mem_of_mem_take hb)))
                  have h2 : ((l.drop q).take j).length ≤ 8 := by rw [List.length_take]; omega
                  exact Nat.lt_of_lt_of_le h1 (Nat.le_trans (Nat.pow_le_pow_right (by decide) h2) (by decide))
                clear hDl
                go_wp2
                obtain ⟨wy, hwy⟩ : ∃ x, x = wr := ⟨_, rfl⟩
                subst hwy
                go_loopw [13, 14] (fun v j wz => ∃ jj : Nat, jj ≤ 8 ∧ j = .int .i64 (jj : Int) ∧ v = .int .i64 ((bval ((l.drop q).take jj) : Nat) : Int) ∧ wz = wy) (fun _ j _ => 8 - (intOf j).toNat)
                case atStart => exact ⟨0, by omega, rfl, rfl, rfl⟩
                case round =>
                  obtain ⟨jj, hjj, rfl, rfl, rfl⟩ := hrel
                  have hbl := HBL.out jj hjj
                  by_cases hj8 : jj < 8
                  · have hlt2 : q + jj < l.length := by omega
                    obtain ⟨g2, rfl, hcell2⟩ := own_at HXL.out (i := q + jj) hlt2
                    have hcb : wr.cell? ⟨g2, q + jj, none⟩ = some (.int .i64 ((l[q + jj] : Nat) : Int)) := by rw [hcell2, List.getElem?_map, List.getElem?_eq_getElem hlt2]; rfl
                    have hble : l[q + jj] ≤ 1 := HTE.out _ (List.getElem_mem _)
                    have HV : Hid (bval ((l.drop q).take (jj + 1)) = 2 * bval ((l.drop q).take jj) + l[q + jj]) := by
                      unfold Hid
                      rw [bval_take _ _ (by simp; omega), List.getElem_drop]
                    have htn : (((q : Nat) : Int) + (jj : Int)).toNat = q + jj := by omega
                    have hlt2' : (q : Int) + (jj : Int) < (l.length : Int) := by omega
                    clear hcell2
                    generalize l[q + jj] = bt at *
                    generalize bval ((l.drop q).take jj) = v0 at *
                    go_wp2
                    go_roundw
                    case rel => exact ⟨jj + 1, by omega, by go_num, by rw [HV.out]; go_num, trivial⟩
                    case measure => simp [intOf]; omega
                  · obtain rfl : jj = 8 := by omega
                    generalize bval ((l.drop q).take 8) = v0 at *
                    go_wp2_with (at_builtin; go_must (refine wpList_app1 _ _ rfl _ _ 43 5 _ _ S43 rfl wx.heap.size _ _ _ rfl rfl rfl hX3.out (by simp [maxLen]; omega) (by omega) hsz3 ?_); intro a' c' w4 hown4 hgr4 _ hb4)
                    go_roundw
                    case rel => exact ⟨q + 8, o ++ [v0], a', c', by omega, by simp; omega, by go_num, by simp, by rw [by8_snoc, List.length_append]; exact hown4, HB3.out.trans hb4, ⟨by rw [← HG1.out]; simp, HG2.out⟩⟩
                    case measure => simp [intOf]; omega
              · have h8' : ¬ (q : Int) + 8 ≤ (l.length : Int) := by omega
                obtain ⟨hG1, hG2⟩ := HG.out
                rw [grp_end _ (by omega), List.append_nil] at hG1
                rw [lft_end _ (by omega)] at hG2
                have h1 := H1.out
                rw [← hG1, ← hG2] at h1
                have H1 := Lib.hid h1
                clear hG1 hG2 HG h1 hDl
                go_wp2
                obtain ⟨wy, hwy⟩ : ∃ x, x = wr := ⟨_, rfl⟩
                subst hwy
                go_loopw [12] (fun i wz => ∃ qq : Nat, qq ≤ l.length ∧ i = .int .i64 (qq : Int) ∧ wz = wy ∧ Hid ((l.drop qq).any (fun b => decide (b ≠ 0)) = (l.drop q).any (fun b => decide (b ≠ 0)))) (fun i _ => l.length - (intOf i).toNat)
                case atStart => exact ⟨q, hq, rfl, rfl, rfl⟩
                case round =>
                  obtain ⟨qq, hqq, rfl, rfl, HA⟩ := hrel
                  by_cases hql : qq < l.length
                  · obtain ⟨g2, rfl, hcell2⟩ := own_at HXL.out (i := qq) hql
                    have hcb : wr.cell? ⟨g2, qq, none⟩ = some (.int .i64 ((l[qq] : Nat) : Int)) := by rw [hcell2, List.getElem?_map, List.getElem?_eq_getElem hql]; rfl
                    have hA := HA.out
                    rw [any_step l qq hql] at hA
                    clear hcell2
                    generalize l[qq] = bt at *
                    by_cases hbt : bt = 0
                    · subst hbt
                      have HA2 : Hid ((l.drop (qq + 1)).any (fun b => decide (b ≠ 0)) = (l.drop q).any (fun b => decide (b ≠ 0))) := by unfold Hid; rw [← hA]; simp
                      clear hA
                      go_wp2
                      go_roundw
                      case rel => exact ⟨qq + 1, by omega, by go_num, trivial, HA2.out⟩
                      case measure => simp [intOf]; omega
                    · have hA2 : (l.drop q).any (fun b => decide (b ≠ 0)) = true := by rw [← hA]; simp [hbt]
                      have h1 := H1.out
                      rw [if_pos hA2] at h1
                      have H2 := Lib.hid h1
                      have hbt' : ((bt : Int) != 0) = true := by simp; omega
                      clear hA hA2 h1 hbt
                      go_wp2
                      go_ret2
                      exact ⟨ret_rdec H2.out.symm, HB.out.trans ((HB2.out.mono hsz).trans (HB3.out.mono (by omega)))⟩
                  · have hA2 : (l.drop q).any (fun b => decide (b ≠ 0)) = false := by rw [← HA.out, List.drop_of_length_le (by omega)]; rfl
                    have h1 := H1.out
                    rw [hA2, if_neg (by simp)] at h1
                    have H2 := Lib.hid h1
                    clear hA2 h1
                    go_wp2_with (refine wpList_str _ rfl _ 43 9 5 rfl Try.underlying43 Try.underlying9 Try.underlying5 wx.heap.size _ _ _ (o.map (fun b : Nat => (b : Int))) rfl hX3.out ?_)
                    go_ret2
                    exact ⟨ret_dec H2.out.symm, HB.out.trans ((HB2.out.mono hsz).trans (HB3.out.mono (by omega)))⟩
      · have h4' : ((t.length : Int) % 4 != 0) = true := by simp; omega
        rw [rfin, if_pos h4] at hP
        have H2 := Lib.hid hP
        clear hP h4
        go_wp2
        go_ret2
        exact ⟨ret_rdec H2.out.symm, HB.out⟩
end Go.Proofs.Ytiakmaleiholnaa
