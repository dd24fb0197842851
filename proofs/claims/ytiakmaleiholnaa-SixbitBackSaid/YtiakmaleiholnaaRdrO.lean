/- The program's reader: Number. No condition but the text's size. -/
import Derived.Test.YtiakmaleiholnaaRdrN
import Derived.Test.YtiakmaleiholnaaHex
namespace Go.Proofs.Ytiakmaleiholnaa
open Go.RowKit

def fv (a : Nat) (l : List UInt8) : Nat := l.foldl (fun a c => 128 * a + c.toNat % 128) a

theorem svn_err {a k : Nat} {l : List UInt8} {v j : Nat} {e : Int} (h : svn a k l = (v, j, e)) (he : e ≠ 0) : v = 0 ∧ j = 0 := by
  induction l generalizing a k with
  | nil => simp [svn] at h; omega
  | cons c cs ih =>
    rw [svn] at h
    split at h
    · simp at h; omega
    · split at h
      · simp at h; omega
      · split at h
        · simp at h; omega
        · exact ih h

theorem svn_ok {a k : Nat} {l : List UInt8} {v j : Nat} (ha : a ≤ 4294967295) (h : svn a k l = (v, j, 0)) :
    ∃ d, j = k + d ∧ d ≤ l.length ∧ fv a (l.take d) = v ∧ ∀ m, m ≤ d → fv a (l.take m) ≤ 4294967295 := by
  induction l generalizing a k with
  | nil => simp [svn] at h
  | cons c cs ih =>
    rw [svn] at h
    split at h
    · simp at h
    · split at h
      · simp at h
      · rename_i hb
        split at h
        · simp only [Prod.mk.injEq] at h
          refine ⟨1, by omega, by simp, by simp [fv]; omega, ?_⟩
          intro m hm
          cases m with
          | zero => simpa [fv] using ha
          | succ m => obtain rfl : m = 0 := by omega
                      simp [fv]; omega
        · obtain ⟨d, h1, h2, h3, h4⟩ := ih (by omega) h
          refine ⟨d + 1, by omega, by simp; omega, by simpa [fv] using h3, ?_⟩
          intro m hm
          cases m with
          | zero => simpa [fv] using ha
          | succ m => simpa [fv] using h4 m (by omega)

theorem fv_snoc (a : Nat) (l : List UInt8) (c : UInt8) : fv a (l ++ [c]) = 128 * fv a l + c.toNat % 128 := by simp [fv]

def numV (s : ByteArray) (i : Nat) (e : Int) : Nat × Nat × Int := if e ≠ 0 then (0, i, e) else ((svn 0 0 (s.data.toList.drop i)).1, i + (svn 0 0 (s.data.toList.drop i)).2.1, (svn 0 0 (s.data.toList.drop i)).2.2)

theorem or7_u32 (a m : Nat) (hm : m < 128) (h : a * 128 + m < 4294967296) : bits BinOp.or IntKind.u32 ((a : Int) * 128) (m : Int) = ((128 * a + m : Nat) : Int) := by
  have := u32_or_nat (a * 128) m (by omega) (by omega)
  rw [show a * 128 = 2 ^ 7 * a from by omega, ← Nat.two_pow_add_eq_or_of_lt (by omega)] at this
  rw [show ((a : Int) * 128) = ((2 ^ 7 * a : Nat) : Int) from by omega, this]

set_option maxHeartbeats 1000000 in
theorem number_core (b : Nat) (s : ByteArray) (T : ByteArray) (v i1 : Nat) (e1 : Int) (w : World) (hT : T.size ≤ 140737488355328)
    (c : Hid (Calls Try.prog 62 #[.pointer (some ⟨b, 0, none⟩), .func (.func 63) #[.pointer (some ⟨b, 0, none⟩)] #[]] w fun e w' => e = .returned (.string T) ∧ Rd w' b s i1 e1 ∧ Only b w w'))
    (hv : Hid (fv 0 T.data.toList = v)) (hm : Hid (∀ m, m ≤ T.size → fv 0 (T.data.toList.take m) ≤ 4294967295)) :
    Calls Try.prog 38 #[.pointer (some ⟨b, 0, none⟩)] w fun e w' => e = .returned (.int .u32 (v : Int)) ∧ Rd w' b s i1 e1 ∧ Only b w w' := by
  have hmk := hmf
  go_enter Try.func38, Try.ntmps38
  go_wp2_with (first | (go_at_call 62; with_reducible refine c.out.mono ?_; rintro e w1 ⟨rfl, hr, ho⟩) | (with_reducible refine wpList_bytes _ rfl _ 9 43 5 rfl Try.underlying9 Try.underlying43 Try.underlying5 T rfl ?_; intro cap w2 hcap hc1 hb2 hz2 hf2))
  have hS : Src w2 w1.heap.size T := hc1
  have hr2 := Lib.hid (hr.below hb2 hr.lt)
  have ho2 := Lib.hid (ho.trans (Only.of_below (b := b) hb2))
  clear hc1 hf2 hr ho hb2
  go_loop [3, 12] (fun a k => ∃ (m n : Nat), n ≤ T.size ∧ (m : Int) ≤ 4294967295 ∧ a = .int .u32 m ∧ k = .int .i64 n ∧ Hid (m = fv 0 (T.data.toList.take n))) (fun _ k => T.size - (intOf k).toNat)
  case atStart => exact ⟨0, 0, Nat.zero_le _, by omega, rfl, rfl, rfl⟩
  case round =>
    obtain ⟨m, n, hn, hmb, rfl, rfl, HE⟩ := hrel
    by_cases hlt : n < T.size
    · have hc0 := hS n hlt
      have hb := hm.out (n + 1) (by omega)
      rw [take_snoc T n hlt, fv_snoc, ← HE.out] at hb
      have hub : T[n].toNat < 256 := UInt8.toNat_lt _
      have HT : Hid (fv 0 (T.data.toList.take (n + 1)) = 128 * m + T[n].toNat % 128) := by unfold Hid; rw [take_snoc T n hlt, fv_snoc, ← HE.out]
      clear hS
      generalize T[n] = q at *
      have hp : q.toNat % 128 < 128 := Nat.mod_lt _ (by decide)
      have hand : bits BinOp.and IntKind.u8 (q.toNat : Int) 127 = ((q.toNat % 128 : Nat) : Int) := by
        have := u8_and_nat q.toNat 127 hub (by decide)
        rw [show (127 : Nat) = 2 ^ 7 - 1 from rfl, Nat.and_two_pow_sub_one_eq_mod] at this
        exact this
      have hor := or7_u32 m (q.toNat % 128) hp (by omega)
      have hm7 : (m : Int) ≤ 33554431 := by omega
      have hbi : ((128 * m + q.toNat % 128 : Nat) : Int) ≤ 4294967295 := by omega
      obtain ⟨v', hv'⟩ : ∃ v', v' = 128 * m + q.toNat % 128 := ⟨_, rfl⟩
      rw [← hv'] at hor hbi HT
      generalize q.toNat % 128 = r at hp hand hor
      clear hb hv' hn hmb
      go_wp2
      go_round
      case rel => exact ⟨v', n + 1, by omega, hbi, rfl, by go_num, HT.out.symm⟩
      case measure => simp [intOf]; omega
    · obtain rfl : n = T.size := by omega
      clear hS
      go_wp2
      go_ret
      exact ⟨ret_int (by have := HE.out; rw [take_all, hv.out] at this; rw [this]), hr2.out, ho2.out⟩

theorem number_any (b : Nat) (s : ByteArray) (i : Nat) (e0 : Int) (w : World) (h : Rd w b s i e0) (hi : i ≤ s.size) (hs : s.size ≤ 140737488355328) :
    Calls Try.prog 38 #[.pointer (some ⟨b, 0, none⟩)] w fun e w' => e = .returned (.int .u32 ((numV s i e0).1 : Int)) ∧ Rd w' b s (numV s i e0).2.1 (numV s i e0).2.2 ∧ Only b w w' := by
  by_cases he : e0 = 0
  · subst he
    have c1 := sevens_any b s i 0 w h hi hs
    obtain ⟨v, j, e, hR⟩ : ∃ v j e, svn 0 0 (s.data.toList.drop i) = (v, j, e) := ⟨_, _, _, rfl⟩
    rw [hR] at c1
    have hnv : numV s i 0 = (v, i + j, e) := by unfold numV; rw [if_neg (by simp), hR]
    rw [hnv]
    by_cases hz : e = 0
    · subst hz
      obtain ⟨d, hd, hd2, hd3, hd4⟩ := svn_ok (by decide) hR
      obtain rfl : j = d := by omega
      simp at hd2
      have c := take63 b s i (j : Int) 0 w h hi hs c1 (fun _ => ⟨by omega, by omega⟩)
      rw [show tkS s i (j : Int) 0 = s.extract i (i + j) from rfl, show tkI i (j : Int) 0 = i + j from rfl] at c
      have hl : (s.extract i (i + j)).data.toList = (s.data.toList.drop i).take j := by rw [extract_list, show i + j - i = j from by omega]
      have hsz : (s.extract i (i + j)).size = j := by simp; omega
      exact number_core b s (s.extract i (i + j)) v (i + j) 0 w (by omega) c (by unfold Hid; rw [hl]; exact hd3) (by unfold Hid; rw [hl, hsz]; intro m hm; rw [List.take_take, Nat.min_eq_left hm]; exact hd4 m hm)
    · obtain ⟨rfl, rfl⟩ := svn_err hR hz
      have c := take63 b s i ((0 : Nat) : Int) e w h hi hs c1 (fun h => absurd h hz)
      rw [show tkS s i ((0 : Nat) : Int) e = ByteArray.empty from by unfold tkS; rw [if_neg hz], show tkI i ((0 : Nat) : Int) e = i + 0 from by unfold tkI; rw [if_neg hz]; rfl] at c
      exact number_core b s ByteArray.empty 0 (i + 0) e w (by decide) c rfl (fun m _ => by simp [fv])
  · have hnv : numV s i e0 = (0, i, e0) := by unfold numV; rw [if_pos he]
    rw [hnv]
    exact number_core b s ByteArray.empty 0 i e0 w (by decide) ((take_err b s i e0 _ w h he).mono fun _ _ ⟨h1, h2⟩ => ⟨h1, by subst h2; exact h, by subst h2; exact Only.refl _ _⟩) rfl (fun m _ => by simp [fv])
end Go.Proofs.Ytiakmaleiholnaa
