/- the reference's Hex. No condition but the string's size. -/
import Derived.Test.YteheibgdjpkeaaaRBlk
import Derived.IntWalk
namespace Go.Proofs.Yteheibgdjpkeaaa
open Go.RowKit

def hexd (n : Nat) : Int := if n < 10 then (48 + n : Nat) else (55 + n : Nat)
def hexL (l : List UInt8) : List Int := l.flatMap fun c => [hexd (c.toNat / 16), hexd (c.toNat % 16)]

theorem hexL_len (l : List UInt8) : (hexL l).length = 2 * l.length := by
  induction l with
  | nil => rfl
  | cons c l ih => simp [hexL] at ih ⊢; omega
theorem hexL_snoc (l : List UInt8) (c : UInt8) : hexL (l ++ [c]) = hexL l ++ [hexd (c.toNat / 16), hexd (c.toNat % 16)] := by simp [hexL]

theorem take_snoc (s : ByteArray) (k : Nat) (h : k < s.size) : s.data.toList.take (k + 1) = s.data.toList.take k ++ [s[k]] := by
  have h' : k < s.data.toList.length := by simpa using h
  rw [List.take_succ_eq_append_getElem h']; rfl
theorem take_len (s : ByteArray) (k : Nat) (h : k ≤ s.size) : (s.data.toList.take k).length = k := by
  rw [List.length_take, len_toList]; omega
theorem take_all (s : ByteArray) : s.data.toList.take s.size = s.data.toList := List.take_of_length_le (by rw [len_toList]; exact Nat.le_refl _)

theorem digit_any (n : Nat) (h : n < 16) (w : World) : Calls Try.prog 37 #[.int .i64 (n : Int)] w fun e w' => e = .returned (.int .u8 (hexd n)) ∧ w = w' := by
  by_cases h1 : n < 10
  · have e : hexd n = 48 + (n : Int) := by rw [hexd, if_pos h1]; omega
    go_enter Try.func37, Try.ntmps37
    go_wp2
    go_ret
    exact ⟨by rw [e]; rfl, rfl⟩
  · have e : hexd n = 65 + (n : Int) - 10 := by rw [hexd, if_neg h1]; omega
    go_enter Try.func37, Try.ntmps37
    go_wp2
    go_ret
    exact ⟨by rw [e]; rfl, rfl⟩

set_option maxHeartbeats 1000000 in
theorem refHex_any (s : ByteArray) (w : World) (hs : s.size ≤ 70368744177000) :
    Calls Try.prog 12 #[.string s] w fun e w' => e = .returned (.string (strOfNums (hexL s.data.toList))) ∧ Below w.heap.size w w' := by
  go_enter Try.func12, Try.ntmps12
  go_wp2_with fail
  go_loopw [3, 4] (fun b i wr => ∃ (k : Nat) (ad : Option Addr) (c : Nat), k ≤ s.size ∧ i = .int .i64 k ∧ b = .slice ad (2 * k) c ∧ wr.ownsRow w.heap.size 5 1 (.slice ad (2 * k) c) (2 * k) ((hexL (s.data.toList.take k)).map (Value.int .u8)) ∧ Below w.heap.size w wr) (fun _ i _ => s.size - (intOf i).toNat)
  case atStart => exact ⟨0, _, _, Nat.zero_le _, rfl, rfl, World.ownsRow_nil _ _ _ _, Below.refl _ _⟩
  case round =>
    obtain ⟨k, ad, c, hk, rfl, rfl, hown, hb⟩ := hrel
    by_cases hlt : k < s.size
    · have hub : s[k].toNat < 256 := UInt8.toNat_lt _
      have HT := Lib.hid (take_snoc s k hlt)
      have HX := Lib.hid hown
      have HB := Lib.hid hb
      clear hown hb
      have hA : IntKind.i64.wrap (s[k].toNat : Int) = (s[k].toNat : Int) := IntWalk.i64_in _ (by omega)
      have hB : IntKind.i64.wrap ((s[k].toNat : Int) / 16) = ((s[k].toNat / 16 : Nat) : Int) := (IntWalk.i64_in _ (by omega)).trans (by omega)
      have hC : (s[k].toNat : Int).tmod 16 = ((s[k].toNat % 16 : Nat) : Int) := by rw [Int.tmod_eq_emod_of_nonneg (by omega)]; omega
      have hm1 : s[k].toNat / 16 < 16 := by omega
      have hm2 : s[k].toNat % 16 < 16 := by omega
      have HL : Hid (hexL (s.data.toList.take (k + 1)) = hexL (s.data.toList.take k) ++ [hexd (s[k].toNat / 16), hexd (s[k].toNat % 16)]) := by unfold Hid; rw [HT.out, hexL_snoc]
      clear HT
      generalize s[k].toNat / 16 = m1 at *
      generalize s[k].toNat % 16 = m2 at *
      have g1 : 2 * k + 2 ≤ maxLen := by simp [maxLen]; omega
      have g2 : (2 * k + 2) * 1 ≤ 140737488355328 := by omega
      have g3 : w.heap.size ≤ (wr.alloc (.cells #[.int .u8 (hexd m1), .int .u8 (hexd m2)] 5)).drew.heap.size := by have := HB.out.size; simp; omega
      go_wp2_with fail
      go_region_law (first
        | (refine step_app rfl _ _ 34 5 _ _ S34 rfl w.heap.size _ _ _ [.int .u8 (hexd m1), .int .u8 (hexd m2)] rfl wr.heap.size 2 _ rfl rfl (by decide) (by simp [Value.oneCell']) (block_new wr _) (HX.out.alloc _).drew g1 g2 g3 (fun a' c' w3 h1 h2 h3 h4 => ?_))
        | (go_simp; go_at_call 37; with_reducible refine (digit_any m1 hm1 _).mono ?_; rintro e w' ⟨rfl, rfl⟩)
        | (go_simp; go_at_call 37; with_reducible refine (digit_any m2 hm2 _).mono ?_; rintro e w' ⟨rfl, rfl⟩))
      all_goals
        have HO := Lib.hid h1
        have HB2 : Hid (Below w.heap.size w w3) := ((HB.out.alloc (by have := HB.out.size; omega) _).drew).trans h4
        clear h1 h2 h3 h4 hA hB hC
        go_wp2
        go_roundw
        case rel => exact ⟨k + 1, a', c', by omega, by go_num, rfl, by rw [HL.out, List.map_append]; exact HO.out, HB2.out⟩
        case measure => simp [intOf]; omega
    · obtain rfl : k = s.size := by omega
      have HB := Lib.hid hb
      clear hb
      rw [take_all] at hown
      go_wp2_with (with_reducible refine wpList_str _ rfl _ 34 9 5 rfl Try.underlying34 Try.underlying9 Try.underlying5 w.heap.size _ _ _ _ rfl hown ?_)
      go_ret
      exact ⟨rfl, HB.out⟩
end Go.Proofs.Yteheibgdjpkeaaa
