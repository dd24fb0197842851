/- figure.Hex and the reference's: both to one plain function. No condition but the string's size. -/
import Derived.Test.YtiakmaleiholnaaProg
import Derived.Test.YtiakmaleiholnaaKit
import Derived.Deep.RegionLaw
namespace Go.Proofs.Ytiakmaleiholnaa
open Go.RowKit

theorem S43 : Sl1 Try.prog 43 5 (.int .u8 0) 1 := ⟨Try.underlying43, by kernel_rfl, rfl⟩

def hexd (n : Nat) : Int := if n < 10 then (48 + n : Nat) else (55 + n : Nat)
def hexL (l : List UInt8) : List Int := l.flatMap fun c => [hexd (c.toNat / 16), hexd (c.toNat % 16)]

theorem hexL_len (l : List UInt8) : (hexL l).length = 2 * l.length := by
  induction l with
  | nil => rfl
  | cons c l ih => simp [hexL] at ih ⊢; omega
theorem hexL_snoc (l : List UInt8) (c : UInt8) : hexL (l ++ [c]) = hexL l ++ [hexd (c.toNat / 16), hexd (c.toNat % 16)] := by simp [hexL]

theorem take_snoc (s : ByteArray) (k : Nat) (h : k < s.size) : s.data.toList.take (k + 1) = s.data.toList.take k ++ [s[k]] := by
  have h' : k < s.data.toList.length := by simpa using h
  rw [List.take_succ_eq_append_getElem h']; rfl
theorem take_len (s : ByteArray) (k : Nat) (h : k ≤ s.size) : (s.data.toList.take k).length = k := by
  rw [List.length_take, len_toList]; omega
theorem take_all (s : ByteArray) : s.data.toList.take s.size = s.data.toList := List.take_of_length_le (by rw [len_toList]; exact Nat.le_refl _)

theorem run_hexd (n : Nat) (h : n < 16) (w : World) : (Instr.index 9 (.string { data := #[48, 49, 50, 51, 52, 53, 54, 55, 56, 57, 65, 66, 67, 68, 69, 70] }) (.int .u8 (n : Int))).run Try.prog w = .ok (.int .u8 (hexd n)) w := by
  have key : ∀ n : Fin 16, ((({ data := #[48, 49, 50, 51, 52, 53, 54, 55, 56, 57, 65, 66, 67, 68, 69, 70] } : ByteArray)[n.val]'(by exact n.isLt)).toNat : Int) = hexd n.val := by decide
  have h2 : (0 : Int) ≤ (n : Int) ∧ (n : Int) < ({ data := #[48, 49, 50, 51, 52, 53, 54, 55, 56, 57, 65, 66, 67, 68, 69, 70] } : ByteArray).size := ⟨by omega, by exact Int.ofNat_lt.2 h⟩
  rw [run_index_string w 9 _ _ _ Try.underlying9, dif_pos h2]
  have := key ⟨n, h⟩
  simp only [Int.toNat_natCast]
  rw [this]

set_option maxHeartbeats 1000000 in
theorem hex_any (s : ByteArray) (w : World) (hs : s.size ≤ 70368744177000) :
    Calls Try.prog 27 #[.string s] w fun e w' => e = .returned (.string (strOfNums (hexL s.data.toList))) ∧ Below w.heap.size w w' := by
  go_enter Try.func27, Try.ntmps27
  go_wp2_with (first
    | (at_make; go_must (refine wpList_make1 _ rfl _ _ 43 5 _ _ S43 rfl w.heap.size _ _ _ (2 * s.size) rfl rfl (by push_cast; rfl) (by omega) (by simp [maxLen]; omega) (Nat.le_refl _) ?_); intro w1 hown hb)
    | (with_reducible refine wpList_bytes _ rfl _ 9 43 5 rfl Try.underlying9 Try.underlying43 Try.underlying5 s rfl ?_; intro cap w2 hcap hc1 hb2 hz1 hf1))
  have hS : Src w2 w1.heap.size s := hc1
  have hown2 := owns_after hown hb2
  have hbw := hb.trans (hb2.mono hb.size)
  have hlt0 := (hown.lt w.heap.size rfl).2
  have hle := hb.size
  clear hc1 hf1 hown hb hb2
  go_loopw [3, 13] (fun b i wr => ∃ (k : Nat) (ad : Option Addr) (c : Nat), k ≤ s.size ∧ i = .int .i64 k ∧ b = .slice ad (2 * k) c ∧ wr.ownsRow w.heap.size 5 1 (.slice ad (2 * k) c) (2 * k) ((hexL (s.data.toList.take k)).map (Value.int .u8)) ∧ (Value.slice ad (2 * k) c).ownBlock ≠ some w1.heap.size ∧ Src wr w1.heap.size s ∧ w2.heap.size ≤ wr.heap.size ∧ Below w.heap.size w wr) (fun _ i _ => s.size - (intOf i).toNat)
  case atStart => exact ⟨0, _, _, Nat.zero_le _, rfl, rfl, hown2, by simp [Value.ownBlock]; omega, hS, Nat.le_refl _, hbw⟩
  case round =>
    obtain ⟨k, ad, c, hk, rfl, rfl, hown, hne, hS, hsz, hb⟩ := hrel
    by_cases hlt : k < s.size
    · have hc0 := hS k hlt
      have hub : s[k].toNat < 256 := UInt8.toNat_lt _
      have HT := Lib.hid (take_snoc s k hlt)
      have HX := Lib.hid hown
      have HS := Lib.hid hS
      have HB := Lib.hid hb
      clear hown hS hb hown2 hbw
      generalize s[k] = q at *
      have h16 : (q.toNat : Int) / 16 = ((q.toNat / 16 : Nat) : Int) := by omega
      have hand : bits BinOp.and IntKind.u8 (q.toNat : Int) 15 = ((q.toNat % 16 : Nat) : Int) := by rw [u8_and15 _ (by omega) (by omega)]; omega
      have hm1 := run_hexd (q.toNat / 16) (by omega)
      have hm2 := run_hexd (q.toNat % 16) (by omega)
      have HL : Hid (hexL (s.data.toList.take (k + 1)) = hexL (s.data.toList.take k) ++ [hexd (q.toNat / 16), hexd (q.toNat % 16)]) := by unfold Hid; rw [HT.out, hexL_snoc]
      clear HT
      generalize q.toNat / 16 = m1 at *
      generalize q.toNat % 16 = m2 at *
      go_wp2
      have g1 : 2 * k + 2 ≤ maxLen := by simp [maxLen]; omega
      have g2 : (2 * k + 2) * 1 ≤ 140737488355328 := by omega
      have g3 : w.heap.size ≤ (wr.alloc (.cells #[.int .u8 (hexd m1), .int .u8 (hexd m2)] 5)).drew.heap.size := by have := HB.out.size; simp; omega
      go_region_law (refine step_app rfl _ _ 43 5 _ _ S43 rfl w.heap.size _ _ _ [.int .u8 (hexd m1), .int .u8 (hexd m2)] rfl wr.heap.size 2 _ rfl rfl (by decide) (by simp [Value.oneCell']) (block_new wr _) (HX.out.alloc _).drew g1 g2 g3 (fun a' c' w3 h1 h2 h3 h4 => ?_))
      all_goals
        have HO := Lib.hid h1
        have HN := Lib.hid (h3.ne (b := w1.heap.size) (by simp; omega) hne)
        have HS2 : Hid (Src w3 w1.heap.size s) := ((HS.out.below ((Below.refl wr.heap.size wr).alloc (Nat.le_refl _) _) (by omega)).drew).grown h2 hne
        have HB2 : Hid (Below w.heap.size w w3) := ((HB.out.alloc (by have := HB.out.size; omega) _).drew).trans h4
        have hsz2 : w2.heap.size ≤ w3.heap.size := by have := h4.size; simp at this; omega
        clear h1 h2 h3 h4 hm1 hm2 h16 hand
        go_wp2
        go_roundw
        case rel => exact ⟨k + 1, a', c', by omega, by go_num, rfl, by rw [HL.out, List.map_append]; exact HO.out, HN.out, HS2.out, hsz2, HB2.out⟩
        case measure => simp [intOf]; omega
    · obtain rfl : k = s.size := by omega
      have HB := Lib.hid hb
      clear hb hS hne
      rw [take_all] at hown
      go_wp2_with (with_reducible refine wpList_str _ rfl _ 43 9 5 rfl Try.underlying43 Try.underlying9 Try.underlying5 w.heap.size _ _ _ _ rfl hown ?_)
      go_ret
      exact ⟨rfl, HB.out⟩

theorem digit_any (n : Nat) (h : n < 16) (w : World) : Calls Try.prog 55 #[.int .i64 (n : Int)] w fun e w' => e = .returned (.int .u8 (hexd n)) ∧ w = w' := by
  by_cases h1 : n < 10
  · have e : hexd n = 48 + (n : Int) := by rw [hexd, if_pos h1]; omega
    go_enter Try.func55, Try.ntmps55
    go_wp2
    go_ret
    exact ⟨by rw [e]; rfl, rfl⟩
  · have e : hexd n = 65 + (n : Int) - 10 := by rw [hexd, if_neg h1]; omega
    go_enter Try.func55, Try.ntmps55
    go_wp2
    go_ret
    exact ⟨by rw [e]; rfl, rfl⟩

set_option maxHeartbeats 1000000 in
theorem refHex_any (s : ByteArray) (w : World) (hs : s.size ≤ 70368744177000) :
    Calls Try.prog 28 #[.string s] w fun e w' => e = .returned (.string (strOfNums (hexL s.data.toList))) ∧ Below w.heap.size w w' := by
  go_enter Try.func28, Try.ntmps28
  go_wp2_with fail
  go_loopw [3, 4] (fun b i wr => ∃ (k : Nat) (ad : Option Addr) (c : Nat), k ≤ s.size ∧ i = .int .i64 k ∧ b = .slice ad (2 * k) c ∧ wr.ownsRow w.heap.size 5 1 (.slice ad (2 * k) c) (2 * k) ((hexL (s.data.toList.take k)).map (Value.int .u8)) ∧ Below w.heap.size w wr) (fun _ i _ => s.size - (intOf i).toNat)
  case atStart => exact ⟨0, _, _, Nat.zero_le _, rfl, rfl, World.ownsRow_nil _ _ _ _, Below.refl _ _⟩
  case round =>
    obtain ⟨k, ad, c, hk, rfl, rfl, hown, hb⟩ := hrel
    by_cases hlt : k < s.size
    · have hub : s[k].toNat < 256 := UInt8.toNat_lt _
      have HT := Lib.hid (take_snoc s k hlt)
      have HX := Lib.hid hown
      have HB := Lib.hid hb
      clear hown hb
      have hA : IntKind.i64.wrap (s[k].toNat : Int) = (s[k].toNat : Int) := IntWalk.i64_in _ (by omega)
      have hB : IntKind.i64.wrap ((s[k].toNat : Int) / 16) = ((s[k].toNat / 16 : Nat) : Int) := (IntWalk.i64_in _ (by omega)).trans (by omega)
      have hC : (s[k].toNat : Int).tmod 16 = ((s[k].toNat % 16 : Nat) : Int) := by rw [Int.tmod_eq_emod_of_nonneg (by omega)]; omega
      have hm1 : s[k].toNat / 16 < 16 := by omega
      have hm2 : s[k].toNat % 16 < 16 := by omega
      have HL : Hid (hexL (s.data.toList.take (k + 1)) = hexL (s.data.toList.take k) ++ [hexd (s[k].toNat / 16), hexd (s[k].toNat % 16)]) := by unfold Hid; rw [HT.out, hexL_snoc]
      clear HT
      generalize s[k].toNat / 16 = m1 at *
      generalize s[k].toNat % 16 = m2 at *
      have g1 : 2 * k + 2 ≤ maxLen := by simp [maxLen]; omega
      have g2 : (2 * k + 2) * 1 ≤ 140737488355328 := by omega
      have g3 : w.heap.size ≤ (wr.alloc (.cells #[.int .u8 (hexd m1), .int .u8 (hexd m2)] 5)).drew.heap.size := by have := HB.out.size; simp; omega
      go_wp2_with fail
      go_region_law (first
        | (refine step_app rfl _ _ 43 5 _ _ S43 rfl w.heap.size _ _ _ [.int .u8 (hexd m1), .int .u8 (hexd m2)] rfl wr.heap.size 2 _ rfl rfl (by decide) (by simp [Value.oneCell']) (block_new wr _) (HX.out.alloc _).drew g1 g2 g3 (fun a' c' w3 h1 h2 h3 h4 => ?_))
        | (go_simp; go_at_call 55; with_reducible refine (digit_any m1 hm1 _).mono ?_; rintro e w' ⟨rfl, rfl⟩)
        | (go_simp; go_at_call 55; with_reducible refine (digit_any m2 hm2 _).mono ?_; rintro e w' ⟨rfl, rfl⟩))
      all_goals
        have HO := Lib.hid h1
        have HB2 : Hid (Below w.heap.size w w3) := ((HB.out.alloc (by have := HB.out.size; omega) _).drew).trans h4
        clear h1 h2 h3 h4 hA hB hC
        go_wp2
        go_roundw
        case rel => exact ⟨k + 1, a', c', by omega, by go_num, rfl, by rw [HL.out, List.map_append]; exact HO.out, HB2.out⟩
        case measure => simp [intOf]; omega
    · obtain rfl : k = s.size := by omega
      have HB := Lib.hid hb
      clear hb
      rw [take_all] at hown
      go_wp2_with (with_reducible refine wpList_str _ rfl _ 43 9 5 rfl Try.underlying43 Try.underlying9 Try.underlying5 w.heap.size _ _ _ _ rfl hown ?_)
      go_ret
      exact ⟨rfl, HB.out⟩
end Go.Proofs.Ytiakmaleiholnaa
