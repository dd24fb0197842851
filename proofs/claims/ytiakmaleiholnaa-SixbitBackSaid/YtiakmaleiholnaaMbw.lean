/- mbint.Write and the reference's: both to one plain function. No condition. -/
import Derived.Test.YtiakmaleiholnaaRev
namespace Go.Proofs.Ytiakmaleiholnaa
open Go.RowKit

def mw7 : Nat → Nat → List Int
  | 0, _ => []
  | f + 1, n => if n = 0 then [] else ((n % 128 + 128 : Nat) : Int) :: mw7 f (n / 128)

def mbw (n : Nat) : List Int := (((n % 128 : Nat) : Int) :: mw7 5 (n / 128)).reverse

theorem S43 : Sl1 Try.prog 43 5 (.int .u8 0) 1 := ⟨Try.underlying43, by kernel_rfl, rfl⟩

theorem and127 (n : Nat) (h : n < 4294967296) : bits BinOp.and IntKind.u32 (n : Int) 127 = ((n % 128 : Nat) : Int) := by
  have := u32_and_nat n 127 h (by decide)
  rw [show (127 : Nat) = 2 ^ 7 - 1 from rfl, Nat.and_two_pow_sub_one_eq_mod] at this
  exact this

theorem or128 (n : Nat) (h : n < 128) : bits BinOp.or IntKind.u8 (n : Int) 128 = ((n + 128 : Nat) : Int) := by
  have := u8_or_nat n 128 (by omega) (by decide)
  rw [Nat.or_comm, show (128 : Nat) = 2 ^ 7 * 1 from rfl, ← Nat.two_pow_add_eq_or_of_lt (by omega)] at this
  rw [show ((2 ^ 7 * 1 : Nat) : Int) = 128 from rfl] at this
  rw [this]; omega

theorem mw7_step {f m : Nat} (h : 0 < m) (hf : m < 128 ^ f) : ∃ f', f = f' + 1 ∧ m / 128 < 128 ^ f' ∧ mw7 f m = ((m % 128 + 128 : Nat) : Int) :: mw7 f' (m / 128) := by
  cases f with
  | zero => simp at hf; omega
  | succ f =>
    refine ⟨f, rfl, ?_, ?_⟩
    · rw [Nat.pow_succ] at hf; exact Nat.div_lt_of_lt_mul (by rw [Nat.mul_comm]; exact hf)
    · rw [mw7, if_neg (by omega)]
theorem mw7_zero (f : Nat) : mw7 f 0 = [] := by cases f <;> simp [mw7]

set_option maxHeartbeats 1000000 in
theorem mbWrite_any (n : Nat) (w : World) (hn : n < 4294967296) :
    Calls Try.prog 21 #[.int .u32 n] w fun e w' => e = .returned (.string (strOfNums (mbw n))) ∧ Below w.heap.size w w' := by
  have h1 := and127 n hn
  have hp : n % 128 < 128 := Nat.mod_lt _ (by decide)
  have hfin : mbw n = (((n % 128 : Nat) : Int) :: mw7 5 (n / 128)).reverse := rfl
  generalize n % 128 = p at *
  have HF := Lib.hid hfin
  clear hfin
  go_enter Try.func21, Try.ntmps21
  go_wp2_with fail
  clear h1
  go_loopw [0, 3] (fun x b wr => ∃ (f m : Nat) (ad : Option Addr) (c : Nat) (l : List Int), m < 128 ^ f ∧ m < 4294967296 ∧ l.length + f = 6 ∧ x = .int .u32 m ∧ b = .slice ad l.length c ∧ wr.ownsRow w.heap.size 5 1 (.slice ad l.length c) l.length (l.map (Value.int .u8)) ∧ Below w.heap.size w wr ∧ Hid (l ++ mw7 f m = (p : Int) :: mw7 5 (n / 128))) (fun x _ _ => (intOf x).toNat)
  case atStart =>
    exact ⟨5, n / 128, _, _, [(p : Int)], by omega, by omega, rfl, by go_num, rfl, owns_lit w _ 5 [_] (Nat.le_refl _) (by simp [maxLen]), (Below.refl _ _).alloc (Nat.le_refl _) _, rfl⟩
  case round =>
    obtain ⟨f, m, ad, c, l, hm, hm2, hlf, rfl, rfl, hown, hb, H⟩ := hrel
    by_cases h0 : 0 < m
    · obtain ⟨f', rfl, hm', hE⟩ := mw7_step h0 hm
      have HE := Lib.hid hE
      have HM := Lib.hid hm'
      have h1 := and127 m hm2
      have hq : m % 128 < 128 := Nat.mod_lt _ (by decide)
      generalize m % 128 = q at *
      have h2 := or128 q hq
      clear hE hm hm'
      have hl : l.length ≤ 6 := by omega
      have HLF := Lib.hid hlf
      clear hlf
      have hsz := hb.size
      go_wp2_with (at_builtin; go_must (refine wpList_app1 _ _ rfl _ _ 43 5 _ _ S43 rfl w.heap.size _ _ _ rfl rfl rfl hown ?_ ?_ ?_ ?_))
      · simp [maxLen]; omega
      · omega
      · exact hsz
      intro a' c' w1 hown1 hgr1 _ hb1
      clear hown hgr1
      have HO := Lib.hid hown1
      have HB := Lib.hid (hb.trans hb1)
      clear hown1 hb hb1
      go_wp2_with fail
      go_roundw
      case rel =>
        exact ⟨f', m / 128, a', c', l ++ [((q + 128 : Nat) : Int)], HM.out, by omega, by have := HLF.out; simp; omega, by go_num, by simp, by simpa using HO.out, HB.out, by unfold Hid; rw [← H.out, HE.out]; simp⟩
      case measure => simp [intOf]; omega
    · obtain rfl : m = 0 := by omega
      have hH := H.out
      rw [mw7_zero, List.append_nil] at hH
      have HH := Lib.hid hH
      clear hH H
      have HB := Lib.hid hb
      clear hm hb
      go_wp2_with (first
        | (go_at_call 52; refine (reverse_any w.heap.size _ _ _ l _ (by omega) hown).mono ?_; rintro e w2 ⟨rfl, hown2, hb2⟩)
        | (with_reducible refine wpList_str _ rfl _ 43 9 5 rfl Try.underlying43 Try.underlying9 Try.underlying5 w.heap.size _ _ _ l.reverse rfl hown2 ?_))
      go_ret
      exact ⟨ret_str (by rw [HF.out, ← HH.out]), HB.out.trans hb2⟩

set_option maxHeartbeats 1000000 in
theorem refMbWrite_any (n : Nat) (w : World) (hn : n < 4294967296) :
    Calls Try.prog 22 #[.int .u32 n] w fun e w' => e = .returned (.string (strOfNums (mbw n))) ∧ Below w.heap.size w w' := by
  have h1 : (n : Int) % 128 = ((n % 128 : Nat) : Int) := by omega
  have hp : n % 128 < 128 := Nat.mod_lt _ (by decide)
  have hfin : mbw n = (((n % 128 : Nat) : Int) :: mw7 5 (n / 128)).reverse := rfl
  generalize n % 128 = p at *
  have HF := Lib.hid hfin
  clear hfin
  go_enter Try.func22, Try.ntmps22
  go_wp2_with fail
  clear h1
  go_loopw [0, 3] (fun x b wr => ∃ (f m : Nat) (ad : Option Addr) (c : Nat) (l : List Int), m / 128 < 128 ^ f ∧ m < 4294967296 ∧ l.length + f = 6 ∧ x = .int .u32 m ∧ b = .slice ad l.length c ∧ wr.ownsRow w.heap.size 5 1 (.slice ad l.length c) l.length (l.map (Value.int .u8)) ∧ Below w.heap.size w wr ∧ Hid (l.reverse ++ mw7 f (m / 128) = (p : Int) :: mw7 5 (n / 128))) (fun x _ _ => (intOf x).toNat)
  case atStart =>
    exact ⟨5, n, _, _, [(p : Int)], by omega, by omega, rfl, rfl, rfl, owns_lit w _ 5 [_] (Nat.le_refl _) (by simp [maxLen]), (Below.refl _ _).alloc (Nat.le_refl _) _, rfl⟩
  case round =>
    obtain ⟨f, m, ad, c, l, hm, hm2, hlf, rfl, rfl, hown, hb, H⟩ := hrel
    by_cases h0 : 128 ≤ m
    · obtain ⟨f', rfl, hm', hE⟩ := mw7_step (m := m / 128) (by omega) hm
      have HE := Lib.hid hE
      have HM := Lib.hid hm'
      have h1 : (m : Int) / 128 % 128 = ((m / 128 % 128 : Nat) : Int) := by omega
      have hq : m / 128 % 128 < 128 := Nat.mod_lt _ (by decide)
      generalize m / 128 % 128 = q at *
      clear hE hm hm'
      have hl : l.length ≤ 6 := by omega
      have HLF := Lib.hid hlf
      clear hlf
      have hsz := hb.size
      have h0i : (128 : Int) ≤ (m : Int) := by omega
      clear h0
      go_wp2_with (at_builtin; go_must (refine wpList_prep _ _ rfl _ _ 43 5 _ _ S43 rfl w.heap.size _ _ _ _ rfl rfl (nums_one _ _) hown ?_ ?_ ?_ ?_))
      · simp [maxLen]; omega
      · omega
      · exact hsz
      intro a' c' w1 hown1 hb1
      clear hown
      have HO := Lib.hid hown1
      have HB := Lib.hid (hb.trans (hb1.mono hsz))
      clear hown1 hb hb1
      go_wp2_with fail
      go_roundw
      case rel =>
        exact ⟨f', m / 128, a', c', ((q + 128 : Nat) : Int) :: l, HM.out, by omega, by have := HLF.out; simp; omega, by go_num, by simp, by simpa using HO.out, HB.out, by unfold Hid; rw [← H.out, HE.out]; simp⟩
      case measure => simp [intOf]; omega
    · have hz : m / 128 = 0 := by omega
      have hH := H.out
      rw [hz, mw7_zero, List.append_nil] at hH
      have HH := Lib.hid hH
      clear hH H hz
      have HB := Lib.hid hb
      have h0i : decide ((128 : Int) ≤ (m : Int)) = false := by simp; omega
      clear hm hb h0
      go_wp2_with (with_reducible refine wpList_str _ rfl _ 43 9 5 rfl Try.underlying43 Try.underlying9 Try.underlying5 w.heap.size _ _ _ l rfl hown ?_)
      go_ret
      exact ⟨ret_str (by rw [HF.out, ← HH.out, List.reverse_reverse]), HB.out⟩
end Go.Proofs.Ytiakmaleiholnaa
