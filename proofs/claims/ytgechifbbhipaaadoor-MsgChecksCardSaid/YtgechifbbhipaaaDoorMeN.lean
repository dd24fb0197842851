/- The reading of a number: the program's walk and the reference's, both to one plain function. No condition but the string's size. -/
import Derived.Test.YtgechifbbhipaaaDoorProg
import Derived.Test.YtgechifbbhipaaaDoorKit
set_option linter.unusedVariables false
set_option linter.unusedSimpArgs false
namespace Go.Proofs.YtgechifbbhipaaaDoor
open Go.RowKit

def rd : Int → List UInt8 → Int × Int
  | n, [] => (n, 0)
  | n, c :: cs => if (c.toNat : Int) < 48 ∨ 57 < (c.toNat : Int) then (0, 3) else if 268435456 < 10 * n + ((c.toNat : Int) - 48) then (0, 2) else rd (10 * n + ((c.toNat : Int) - 48)) cs

def rdS (s : ByteArray) : Int × Int :=
  if h : s.size = 0 then (0, 1) else if 1 < s.size ∧ (s[0].toNat : Int) = 48 then (0, 3) else rd 0 s.data.toList

theorem rd_bad {n : Int} {c : UInt8} {cs : List UInt8} (h : (c.toNat : Int) < 48 ∨ 57 < (c.toNat : Int)) : rd n (c :: cs) = (0, 3) := by rw [rd, if_pos h]
theorem rd_big {n : Int} {c : UInt8} {cs : List UInt8} (h : 48 ≤ (c.toNat : Int)) (h1 : (c.toNat : Int) ≤ 57) (h2 : 268435456 < 10 * n + ((c.toNat : Int) - 48)) : rd n (c :: cs) = (0, 2) := by
  rw [rd, if_neg (by omega), if_pos h2]
theorem rd_more {n : Int} {c : UInt8} {cs : List UInt8} (h : 48 ≤ (c.toNat : Int)) (h1 : (c.toNat : Int) ≤ 57) (h2 : 10 * n + ((c.toNat : Int) - 48) ≤ 268435456) : rd n (c :: cs) = rd (10 * n + ((c.toNat : Int) - 48)) cs := by
  rw [rd, if_neg (by omega), if_neg (by omega)]

theorem ret_rd {p : Int × Int} {a b : Int} (h : p = (a, b)) : Ending.returned (.tuple #[.int .i64 a, .int .i64 b]) = Ending.returned (.tuple #[.int .i64 p.1, .int .i64 p.2]) := by subst h; rfl

set_option maxHeartbeats 1000000 in
theorem read_any (s : ByteArray) (w : World) (hs : s.size ≤ 9223372036854775807) :
    Calls Tryd.prog 185 #[.string s] w fun e w' => e = .returned (.tuple #[.int .i64 (rdS s).1, .int .i64 (rdS s).2]) ∧ Below w.heap.size w w' := by
  by_cases h0 : s.size = 0
  · obtain rfl := empty_of_size s h0
    go_enter Tryd.func185, Tryd.ntmps185
    go_wp2
    go_ret2
    exact ⟨rfl, Below.refl _ _⟩
  · have hne : s.toList.isEmpty = false := by
      rw [ByteArray.toList_eq, List.isEmpty_eq_false_iff]; intro h; apply h0; rw [← len_toList, h]; rfl
    have hp : 0 < s.size := by omega
    by_cases h1 : 1 < s.size ∧ (s[0].toNat : Int) = 48
    · obtain ⟨h1, h2⟩ := h1
      have hfin : rdS s = (0, 3) := by rw [rdS, dif_neg h0, if_pos ⟨h1, h2⟩]
      have Hf := Lib.hid hfin
      clear hfin
      have h2' : ((s[0].toNat : Int) == 48) = true := by simpa using h2
      clear h2
      go_enter Tryd.func185, Tryd.ntmps185
      go_wp2
      go_ret2
      exact ⟨ret_rd Hf.out, Below.refl _ _⟩
    · have hfin : rdS s = rd 0 s.data.toList := by rw [rdS, dif_neg h0, if_neg h1]
      have Hf := Lib.hid hfin
      clear hfin
      have key : (1 < s.size ∧ ((s[0].toNat : Int) == 48) = false) ∨ ¬ 1 < s.size := by
        by_cases h3 : 1 < s.size
        · exact .inl ⟨h3, by simp; intro h; exact h1 ⟨h3, by omega⟩⟩
        · exact .inr h3
      clear h1
      rcases key with ⟨h3, h2'⟩ | h3
      all_goals
        go_enter Tryd.func185, Tryd.ntmps185
        go_wp2_with (with_reducible refine wpList_bytes _ rfl _ 9 136 5 rfl Tryd.underlying9 Tryd.underlying136 Tryd.underlying5 s rfl ?_; intro cap w1 hcap hc1 hb1 hz1 hf1)
        clear hf1
        go_loop [4, 22] (fun n i => ∃ (k : Nat) (m : Int), k ≤ s.size ∧ 0 ≤ m ∧ m ≤ 268435456 ∧ i = .int .i64 k ∧ n = .int .i64 m ∧ Hid (rdS s = rd m (s.data.toList.drop k))) (fun _ i => s.size - (intOf i).toNat)
        case atStart => exact ⟨0, 0, Nat.zero_le _, by omega, by omega, rfl, rfl, Hf⟩
        case round =>
          obtain ⟨k, m, hk, hm0, hm1, rfl, rfl, HR⟩ := hrel
          by_cases hlt : k < s.size
          · have hd := drop_cons_at s k hlt
            have HD := Lib.hid hd
            clear hd
            go_wp2
            all_goals first
              | (go_round
                 case rel => exact ⟨k + 1, _, by omega, by omega, by omega, by go_num, rfl, by unfold Hid; rw [HR.out, HD.out]; exact rd_more (by omega) (by omega) (by omega)⟩
                 case measure => simp [intOf]; omega)
              | (go_ret2; exact ⟨ret_rd (by rw [HR.out, HD.out]; exact rd_bad (by omega)), hb1⟩)
              | (go_ret2; exact ⟨ret_rd (by rw [HR.out, HD.out]; exact rd_big (by omega) (by omega) (by omega)), hb1⟩)
          · have HD := Lib.hid (drop_all s k hlt)
            go_wp2
            go_ret2
            exact ⟨ret_rd (by rw [HR.out, HD.out, rd]), hb1⟩

set_option maxHeartbeats 1000000 in
theorem refRead_any (s : ByteArray) (w : World) (hs : s.size ≤ 9223372036854775807) :
    Calls Tryd.prog 104 #[.string s] w fun e w' => e = .returned (.tuple #[.int .i64 (rdS s).1, .int .i64 (rdS s).2]) ∧ w = w' := by
  by_cases h0 : s.size = 0
  · obtain rfl := empty_of_size s h0
    go_enter Tryd.func104, Tryd.ntmps104
    go_wp2
    go_ret2
    exact ⟨rfl, rfl⟩
  · have hne : s.toList.isEmpty = false := by
      rw [ByteArray.toList_eq, List.isEmpty_eq_false_iff]; intro h; apply h0; rw [← len_toList, h]; rfl
    have hp : 0 < s.size := by omega
    by_cases h1 : 1 < s.size ∧ (s[0].toNat : Int) = 48
    · obtain ⟨h1, h2⟩ := h1
      have hfin : rdS s = (0, 3) := by rw [rdS, dif_neg h0, if_pos ⟨h1, h2⟩]
      have Hf := Lib.hid hfin
      clear hfin
      have h2' : ((s[0].toNat : Int) == 48) = true := by simpa using h2
      clear h2
      go_enter Tryd.func104, Tryd.ntmps104
      go_wp2
      go_ret2
      exact ⟨ret_rd Hf.out, rfl⟩
    · have hfin : rdS s = rd 0 s.data.toList := by rw [rdS, dif_neg h0, if_neg h1]
      have Hf := Lib.hid hfin
      clear hfin
      have key : (1 < s.size ∧ ((s[0].toNat : Int) == 48) = false) ∨ ¬ 1 < s.size := by
        by_cases h3 : 1 < s.size
        · exact .inl ⟨h3, by simp; intro h; exact h1 ⟨h3, by omega⟩⟩
        · exact .inr h3
      clear h1
      rcases key with ⟨h3, h2'⟩ | h3
      all_goals
        go_enter Tryd.func104, Tryd.ntmps104
        go_wp2
        go_loop [4, 5] (fun n i => ∃ (k : Nat) (m : Int), k ≤ s.size ∧ 0 ≤ m ∧ m ≤ 268435456 ∧ i = .int .i64 k ∧ n = .int .i64 m ∧ Hid (rdS s = rd m (s.data.toList.drop k))) (fun _ i => s.size - (intOf i).toNat)
        case atStart => exact ⟨0, 0, Nat.zero_le _, by omega, by omega, rfl, rfl, Hf⟩
        case round =>
          obtain ⟨k, m, hk, hm0, hm1, rfl, rfl, HR⟩ := hrel
          by_cases hlt : k < s.size
          · have hd := drop_cons_at s k hlt
            have HD := Lib.hid hd
            clear hd
            go_wp2
            all_goals first
              | (go_round
                 case rel => exact ⟨k + 1, _, by omega, by omega, by omega, by go_num, rfl, by unfold Hid; rw [HR.out, HD.out]; exact rd_more (by omega) (by omega) (by omega)⟩
                 case measure => simp [intOf]; omega)
              | (go_ret2; exact ⟨ret_rd (by rw [HR.out, HD.out]; exact rd_bad (by omega)), rfl⟩)
              | (go_ret2; exact ⟨ret_rd (by rw [HR.out, HD.out]; exact rd_big (by omega) (by omega) (by omega)), rfl⟩)
          · have HD := Lib.hid (drop_all s k hlt)
            go_wp2
            go_ret2
            exact ⟨ret_rd (by rw [HR.out, HD.out, rd]), rfl⟩
end Go.Proofs.YtgechifbbhipaaaDoor
