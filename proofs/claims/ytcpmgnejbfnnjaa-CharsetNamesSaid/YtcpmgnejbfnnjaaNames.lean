/- charset.Named, Name and the reference's: plain functions and their walks. No condition but the string's size. -/
import Derived.Test.YtcpmgnejbfnnjaaProg
import Derived.Test.YtcpmgnejbfnnjaaKit
namespace Go.Proofs.Ytcpmgnejbfnnjaa
open Go.RowKit

def up (n : Int) : Int := if 97 ≤ n ∧ n ≤ 122 then n - 32 else n
def upS (s : ByteArray) : ByteArray := strOfNums ((nums s).map up)
def mid (l : List Int) (k : Nat) : List Int := (l.take k).map up ++ l.drop k

theorem mid_len (l : List Int) (k : Nat) : (mid l k).length = l.length := by simp [mid]; omega
theorem mid_zero (l : List Int) : mid l 0 = l := by simp [mid]
theorem mid_all (l : List Int) : mid l l.length = l.map up := by simp [mid]
theorem mid_get (l : List Int) (k : Nat) (h : k < l.length) : (mid l k)[k]? = l[k]? := by
  unfold mid
  rw [List.getElem?_append_right (by simp; omega)]
  simp [show k - min k l.length = 0 from by omega]
theorem mid_set (l : List Int) (k : Nat) (h : k < l.length) : (mid l k).set k (up (l[k]?.getD 0)) = mid l (k + 1) := by
  unfold mid
  have e1 : ((l.take k).map up).length = k := by simp; omega
  rw [List.set_append_right _ _ (by omega), e1, Nat.sub_self, List.drop_eq_getElem_cons h, List.set_cons_zero, List.take_succ_eq_append_getElem h, List.map_append]
  simp [List.getElem?_eq_getElem h]
theorem mid_same (l : List Int) (k : Nat) (h : k < l.length) (hu : up (l[k]?.getD 0) = l[k]?.getD 0) : mid l (k + 1) = mid l k := by
  rw [← mid_set l k h, hu]
  apply List.ext_getElem?
  intro j
  by_cases e : k = j
  · subst e
    rw [List.getElem?_set_self (by rw [mid_len]; exact h), mid_get l k h, List.getElem?_eq_getElem h]; rfl
  · rw [List.getElem?_set_ne e]

set_option maxHeartbeats 1000000 in
theorem capitals_any (s : ByteArray) (w : World) (hs : s.size ≤ 140737488351232) :
    Calls Try.prog 37 #[.string s] w fun e w' => e = .returned (.string (upS s)) ∧ Below w.heap.size w w' := by
  go_enter Try.func37, Try.ntmps37
  go_wp2_with (with_reducible refine wpList_bytes _ rfl _ 9 76 5 rfl Try.underlying9 Try.underlying76 Try.underlying5 s rfl ?_; intro cap w1 hcap hc1 hb1 hz1 hf1)
  have hS := cells_of_src (b := w.heap.size) hc1 hf1
  clear hc1 hf1
  go_loopw [10] (fun i wr => ∃ (k : Nat), k ≤ s.size ∧ i = .int .i64 k ∧ Cells8 wr w.heap.size (mid (nums s) k) ∧ Below w.heap.size w wr) (fun i _ => s.size - (intOf i).toNat)
  case atStart => exact ⟨0, Nat.zero_le _, rfl, by rw [mid_zero]; exact hS, hb1⟩
  case round =>
    obtain ⟨k, hk, rfl, hC, hb⟩ := hrel
    have HL := Lib.hid (nums_len s)
    by_cases hlt : k < s.size
    · have hkl : k < (nums s).length := by rw [nums_len]; exact hlt
      have hc := hC k (by rw [mid_len]; exact hkl)
      rw [mid_get _ _ hkl] at hc
      have hub : 0 ≤ (nums s)[k]?.getD 0 ∧ (nums s)[k]?.getD 0 ≤ 255 := by
        rw [nums_get s k hlt]; have : s[k].toNat < 256 := UInt8.toNat_lt _; omega
      have HSet := Lib.hid (mid_set (nums s) k hkl)
      have HSame := Lib.hid (mid_same (nums s) k hkl)
      have HC := Lib.hid hC
      have HK : Hid (k < (mid (nums s) k).length) := by unfold Hid; rw [mid_len]; exact hkl
      have HB := Lib.hid hb
      obtain ⟨hc0, hc1⟩ := hc
      obtain ⟨hu0, hu1⟩ := hub
      clear hC hb hkl hS
      generalize (nums s)[k]?.getD 0 = q at *
      by_cases h1 : 97 ≤ q
      · by_cases h2 : q ≤ 122
        · have hq : up q = q - 97 + 65 := by rw [up, if_pos ⟨h1, h2⟩]; omega
          have HQ := Lib.hid hq
          clear hq
          go_wp2_with fail
          go_roundw
          case rel => exact ⟨k + 1, by omega, by go_num, by rw [← HSet.out, HQ.out]; exact HC.out.set k _ HK.out, HB.out.setCell (p := ⟨w.heap.size, k, none⟩) (Nat.le_refl _) _⟩
          case measure => simp [intOf]; omega
        · have hq : up q = q := by rw [up, if_neg (by omega)]
          have HQ := Lib.hid hq
          have a2 : decide (q ≤ 122) = false := by simp; omega
          clear hq
          go_wp2_with fail
          go_roundw
          case rel => exact ⟨k + 1, by omega, by go_num, by rw [HSame.out HQ.out]; exact HC.out, HB.out⟩
          case measure => simp [intOf]; omega
      · have hq : up q = q := by rw [up, if_neg (by omega)]
        have HQ := Lib.hid hq
        have a2 : decide (97 ≤ q) = false := by simp; omega
        clear hq
        go_wp2_with fail
        go_roundw
        case rel => exact ⟨k + 1, by omega, by go_num, by rw [HSame.out HQ.out]; exact HC.out, HB.out⟩
        case measure => simp [intOf]; omega
    · obtain rfl : k = s.size := by omega
      rw [← HL.out, mid_all] at hC
      go_wp2_with (with_reducible refine wpList_strC _ rfl _ 76 9 5 rfl Try.underlying76 Try.underlying9 Try.underlying5 w.heap.size _ _ ((nums s).map up) rfl (by rw [List.length_map]; exact HL.out) hC ?_)
      go_ret
      exact ⟨rfl, hb⟩

set_option maxHeartbeats 1000000 in
theorem upper_any (s : ByteArray) (w : World) (hs : s.size ≤ 140737488351232) :
    Calls Try.prog 38 #[.string s] w fun e w' => e = .returned (.string (upS s)) ∧ Below w.heap.size w w' := by
  go_enter Try.func38, Try.ntmps38
  go_wp2_with (with_reducible refine wpList_bytes _ rfl _ 9 76 5 rfl Try.underlying9 Try.underlying76 Try.underlying5 s rfl ?_; intro cap w1 hcap hc1 hb1 hz1 hf1)
  have hS := cells_of_src (b := w.heap.size) hc1 hf1
  clear hc1 hf1
  go_loopw [4] (fun i wr => ∃ (k : Nat), k ≤ s.size ∧ i = .int .i64 k ∧ Cells8 wr w.heap.size (mid (nums s) k) ∧ Below w.heap.size w wr) (fun i _ => s.size - (intOf i).toNat)
  case atStart => exact ⟨0, Nat.zero_le _, rfl, by rw [mid_zero]; exact hS, hb1⟩
  case round =>
    obtain ⟨k, hk, rfl, hC, hb⟩ := hrel
    have HL := Lib.hid (nums_len s)
    by_cases hlt : k < s.size
    · have hkl : k < (nums s).length := by rw [nums_len]; exact hlt
      have hc := hC k (by rw [mid_len]; exact hkl)
      rw [mid_get _ _ hkl] at hc
      have hub : 0 ≤ (nums s)[k]?.getD 0 ∧ (nums s)[k]?.getD 0 ≤ 255 := by
        rw [nums_get s k hlt]; have : s[k].toNat < 256 := UInt8.toNat_lt _; omega
      have HSet := Lib.hid (mid_set (nums s) k hkl)
      have HSame := Lib.hid (mid_same (nums s) k hkl)
      have HC := Lib.hid hC
      have HK : Hid (k < (mid (nums s) k).length) := by unfold Hid; rw [mid_len]; exact hkl
      have HB := Lib.hid hb
      obtain ⟨hc0, hc1⟩ := hc
      obtain ⟨hu0, hu1⟩ := hub
      clear hC hb hkl hS
      generalize (nums s)[k]?.getD 0 = q at *
      by_cases h1 : 97 ≤ q
      · by_cases h2 : q ≤ 122
        · have hq : up q = q - 32 := by rw [up, if_pos ⟨h1, h2⟩]
          have HQ := Lib.hid hq
          clear hq
          go_wp2_with fail
          go_roundw
          case rel => exact ⟨k + 1, by omega, by go_num, by rw [← HSet.out, HQ.out]; exact HC.out.set k _ HK.out, HB.out.setCell (p := ⟨w.heap.size, k, none⟩) (Nat.le_refl _) _⟩
          case measure => simp [intOf]; omega
        · have hq : up q = q := by rw [up, if_neg (by omega)]
          have HQ := Lib.hid hq
          have a2 : decide (q ≤ 122) = false := by simp; omega
          clear hq
          go_wp2_with fail
          go_roundw
          case rel => exact ⟨k + 1, by omega, by go_num, by rw [HSame.out HQ.out]; exact HC.out, HB.out⟩
          case measure => simp [intOf]; omega
      · have hq : up q = q := by rw [up, if_neg (by omega)]
        have HQ := Lib.hid hq
        have a2 : decide (97 ≤ q) = false := by simp; omega
        clear hq
        go_wp2_with fail
        go_roundw
        case rel => exact ⟨k + 1, by omega, by go_num, by rw [HSame.out HQ.out]; exact HC.out, HB.out⟩
        case measure => simp [intOf]; omega
    · obtain rfl : k = s.size := by omega
      rw [← HL.out, mid_all] at hC
      go_wp2_with (with_reducible refine wpList_strC _ rfl _ 76 9 5 rfl Try.underlying76 Try.underlying9 Try.underlying5 w.heap.size _ _ ((nums s).map up) rfl (by rw [List.length_map]; exact HL.out) hC ?_)
      go_ret
      exact ⟨rfl, hb⟩

def nameV (kind : Int) : ByteArray := if kind = 1 then { data := #[85, 83, 45, 65, 83, 67, 73, 73] } else if kind = 2 then { data := #[73, 83, 79, 45, 56, 56, 53, 57, 45, 49] } else if kind = 3 then { data := #[85, 84, 70, 45, 56] } else { data := #[] }

theorem ret_bytes {a b : ByteArray} (h : a = b) : Ending.returned (.string b) = Ending.returned (.string a) := by rw [h]

theorem name_any (kind : Int) (w : World) : Calls Try.prog 17 #[.int .i64 kind] w fun e w' => e = .returned (.string (nameV kind)) ∧ w = w' := by
  have key : kind = 1 ∨ kind = 2 ∨ kind = 3 ∨ ((kind == 1) = false ∧ (kind == 2) = false ∧ (kind == 3) = false) := by simp; omega
  rcases key with rfl | rfl | rfl | ⟨h1, h2, h3⟩
  · go_enter Try.func17, Try.ntmps17
    go_wp2
    go_ret
    exact ⟨rfl, rfl⟩
  · go_enter Try.func17, Try.ntmps17
    go_wp2
    go_ret
    exact ⟨rfl, rfl⟩
  · go_enter Try.func17, Try.ntmps17
    go_wp2
    go_ret
    exact ⟨rfl, rfl⟩
  · have HF : Hid (nameV kind = { data := #[] }) := by simp at h1 h2 h3; unfold Hid nameV; rw [if_neg h1, if_neg h2, if_neg h3]
    go_enter Try.func17, Try.ntmps17
    go_wp2
    go_ret
    exact ⟨ret_bytes HF.out, rfl⟩

theorem refName_any (kind : Int) (w : World) : Calls Try.prog 18 #[.int .i64 kind] w fun e w' => e = .returned (.string (nameV kind)) ∧ w = w' := by
  have key : kind = 1 ∨ kind = 2 ∨ kind = 3 ∨ ((kind == 1) = false ∧ (kind == 2) = false ∧ (kind == 3) = false) := by simp; omega
  rcases key with rfl | rfl | rfl | ⟨h1, h2, h3⟩
  · go_enter Try.func18, Try.ntmps18
    go_wp2
    go_ret
    exact ⟨rfl, rfl⟩
  · go_enter Try.func18, Try.ntmps18
    go_wp2
    go_ret
    exact ⟨rfl, rfl⟩
  · go_enter Try.func18, Try.ntmps18
    go_wp2
    go_ret
    exact ⟨rfl, rfl⟩
  · have HF : Hid (nameV kind = { data := #[] }) := by simp at h1 h2 h3; unfold Hid nameV; rw [if_neg h1, if_neg h2, if_neg h3]
    go_enter Try.func18, Try.ntmps18
    go_wp2
    go_ret
    exact ⟨ret_bytes HF.out, rfl⟩

def namedL (u : List UInt8) : Int := if u = [85, 83, 45, 65, 83, 67, 73, 73] then 1 else if u = [73, 83, 79, 45, 56, 56, 53, 57, 45, 49] then 2 else if u = [85, 84, 70, 45, 56] then 3 else 0

theorem ret_int {a b : Int} (h : a = b) : Ending.returned (.int .i64 b) = Ending.returned (.int .i64 a) := by rw [h]

set_option maxHeartbeats 1000000 in
theorem refNamed_any (s : ByteArray) (w : World) (hs : s.size ≤ 140737488351232) :
    Calls Try.prog 16 #[.string s] w fun e w' => e = .returned (.int .i64 (namedL (upS s).toList)) ∧ Below w.heap.size w w' := by
  have c := Lib.hid (fun w => upper_any s w hs)
  generalize upS s = u at *
  by_cases h1 : u.toList = [85, 83, 45, 65, 83, 67, 73, 73]
  · have HF : Hid (namedL u.toList = 1) := by unfold Hid namedL; rw [if_pos h1]
    have b1 : (u.toList == [85, 83, 45, 65, 83, 67, 73, 73]) = true := by rw [h1]; rfl
    clear h1
    go_enter Try.func16, Try.ntmps16
    go_wp2_with (go_at_call 38; refine (c.out _).mono ?_; rintro e w' ⟨rfl, hb⟩)
    go_ret
    exact ⟨ret_int HF.out, hb⟩
  · have b1 : (u.toList == [85, 83, 45, 65, 83, 67, 73, 73]) = false := by simpa using h1
    by_cases h2 : u.toList = [73, 83, 79, 45, 56, 56, 53, 57, 45, 49]
    · have HF : Hid (namedL u.toList = 2) := by unfold Hid namedL; rw [if_neg h1, if_pos h2]
      have b2 : (u.toList == [73, 83, 79, 45, 56, 56, 53, 57, 45, 49]) = true := by rw [h2]; rfl
      clear h1 h2
      go_enter Try.func16, Try.ntmps16
      go_wp2_with (go_at_call 38; refine (c.out _).mono ?_; rintro e w' ⟨rfl, hb⟩)
      go_ret
      exact ⟨ret_int HF.out, hb⟩
    · have b2 : (u.toList == [73, 83, 79, 45, 56, 56, 53, 57, 45, 49]) = false := by simpa using h2
      by_cases h3 : u.toList = [85, 84, 70, 45, 56]
      · have HF : Hid (namedL u.toList = 3) := by unfold Hid namedL; rw [if_neg h1, if_neg h2, if_pos h3]
        have b3 : (u.toList == [85, 84, 70, 45, 56]) = true := by rw [h3]; rfl
        clear h1 h2 h3
        go_enter Try.func16, Try.ntmps16
        go_wp2_with (go_at_call 38; refine (c.out _).mono ?_; rintro e w' ⟨rfl, hb⟩)
        go_ret
        exact ⟨ret_int HF.out, hb⟩
      · have HF : Hid (namedL u.toList = 0) := by unfold Hid namedL; rw [if_neg h1, if_neg h2, if_neg h3]
        have b3 : (u.toList == [85, 84, 70, 45, 56]) = false := by simpa using h3
        clear h1 h2 h3
        go_enter Try.func16, Try.ntmps16
        go_wp2_with (go_at_call 38; refine (c.out _).mono ?_; rintro e w' ⟨rfl, hb⟩)
        go_ret
        exact ⟨ret_int HF.out, hb⟩

/-- no charset below kind k has this name -/
def NotYet (u : List UInt8) (k : Nat) : Prop := (1 < k → u ≠ [85, 83, 45, 65, 83, 67, 73, 73]) ∧ (2 < k → u ≠ [73, 83, 79, 45, 56, 56, 53, 57, 45, 49]) ∧ (3 < k → u ≠ [85, 84, 70, 45, 56])

theorem nameV1 : (nameV 1).toList = [85, 83, 45, 65, 83, 67, 73, 73] := ByteArray.toList_mk _
theorem nameV2 : (nameV 2).toList = [73, 83, 79, 45, 56, 56, 53, 57, 45, 49] := ByteArray.toList_mk _
theorem nameV3 : (nameV 3).toList = [85, 84, 70, 45, 56] := ByteArray.toList_mk _

set_option maxHeartbeats 1000000 in
theorem named_any (s : ByteArray) (w : World) (hs : s.size ≤ 140737488351232) :
    Calls Try.prog 15 #[.string s] w fun e w' => e = .returned (.int .i64 (namedL (upS s).toList)) ∧ Below w.heap.size w w' := by
  have c := Lib.hid (fun w => capitals_any s w hs)
  generalize upS s = u at *
  have n1 := nameV1
  have n2 := nameV2
  have n3 := nameV3
  have cn1 := Lib.hid (name_any 1)
  have cn2 := Lib.hid (name_any 2)
  have cn3 := Lib.hid (name_any 3)
  generalize nameV 1 = v1 at *
  generalize nameV 2 = v2 at *
  generalize nameV 3 = v3 at *
  go_enter Try.func15, Try.ntmps15
  go_wp2_with fail
  go_loopw [3] (fun i wr => ∃ (k : Nat), 1 ≤ k ∧ k ≤ 4 ∧ i = .int .i64 k ∧ Hid (NotYet u.toList k) ∧ Below w.heap.size w wr) (fun i _ => 4 - (intOf i).toNat)
  case atStart => exact ⟨1, by omega, by omega, rfl, ⟨fun h => absurd h (by omega), fun h => absurd h (by omega), fun h => absurd h (by omega)⟩, Below.refl _ _⟩
  case round =>
    obtain ⟨k, hk1, hk4, rfl, HN, hb⟩ := hrel
    have HB := Lib.hid hb
    have key : k = 1 ∨ k = 2 ∨ k = 3 ∨ k = 4 := by omega
    clear hb hk1 hk4
    have hsz := HB.out.size
    rcases key with rfl | rfl | rfl | rfl
    · by_cases h : u.toList = [85, 83, 45, 65, 83, 67, 73, 73]
      · have HF : Hid (namedL u.toList = 1) := by unfold Hid namedL; rw [if_pos h]
        have hb1 : (u.toList == v1.toList) = true := by rw [h, n1]; rfl
        clear h n1 n2 n3
        go_wp2_with (first | (go_at_call 37; refine (c.out _).mono ?_; rintro e w' ⟨rfl, hb⟩) | (go_at_call 17; with_reducible refine (cn1.out _).mono ?_; rintro e w' ⟨rfl, rfl⟩))
        go_ret
        exact ⟨ret_int HF.out, HB.out.trans (hb.mono hsz)⟩
      · have hb1 : (u.toList == v1.toList) = false := by rw [n1]; simpa using h
        have HN2 : Hid (NotYet u.toList 2) := ⟨fun _ => h, fun h => absurd h (by omega), fun h => absurd h (by omega)⟩
        clear h n1 n2 n3
        go_wp2_with (first | (go_at_call 37; refine (c.out _).mono ?_; rintro e w' ⟨rfl, hb⟩) | (go_at_call 17; with_reducible refine (cn1.out _).mono ?_; rintro e w' ⟨rfl, rfl⟩))
        go_roundw
        case rel => exact ⟨2, by omega, by omega, rfl, HN2.out, HB.out.trans (hb.mono hsz)⟩
        case measure => simp [intOf]
    · by_cases h : u.toList = [73, 83, 79, 45, 56, 56, 53, 57, 45, 49]
      · have HF : Hid (namedL u.toList = 2) := by unfold Hid namedL; rw [if_neg (HN.out.1 (by omega)), if_pos h]
        have hb1 : (u.toList == v2.toList) = true := by rw [h, n2]; rfl
        clear h n1 n2 n3
        go_wp2_with (first | (go_at_call 37; refine (c.out _).mono ?_; rintro e w' ⟨rfl, hb⟩) | (go_at_call 17; with_reducible refine (cn2.out _).mono ?_; rintro e w' ⟨rfl, rfl⟩))
        go_ret
        exact ⟨ret_int HF.out, HB.out.trans (hb.mono hsz)⟩
      · have hb1 : (u.toList == v2.toList) = false := by rw [n2]; simpa using h
        have HN2 : Hid (NotYet u.toList 3) := ⟨fun _ => HN.out.1 (by omega), fun _ => h, fun h => absurd h (by omega)⟩
        clear h n1 n2 n3
        go_wp2_with (first | (go_at_call 37; refine (c.out _).mono ?_; rintro e w' ⟨rfl, hb⟩) | (go_at_call 17; with_reducible refine (cn2.out _).mono ?_; rintro e w' ⟨rfl, rfl⟩))
        go_roundw
        case rel => exact ⟨3, by omega, by omega, rfl, HN2.out, HB.out.trans (hb.mono hsz)⟩
        case measure => simp [intOf]
    · by_cases h : u.toList = [85, 84, 70, 45, 56]
      · have HF : Hid (namedL u.toList = 3) := by unfold Hid namedL; rw [if_neg (HN.out.1 (by omega)), if_neg (HN.out.2.1 (by omega)), if_pos h]
        have hb1 : (u.toList == v3.toList) = true := by rw [h, n3]; rfl
        clear h n1 n2 n3
        go_wp2_with (first | (go_at_call 37; refine (c.out _).mono ?_; rintro e w' ⟨rfl, hb⟩) | (go_at_call 17; with_reducible refine (cn3.out _).mono ?_; rintro e w' ⟨rfl, rfl⟩))
        go_ret
        exact ⟨ret_int HF.out, HB.out.trans (hb.mono hsz)⟩
      · have hb1 : (u.toList == v3.toList) = false := by rw [n3]; simpa using h
        have HN2 : Hid (NotYet u.toList 4) := ⟨fun _ => HN.out.1 (by omega), fun _ => HN.out.2.1 (by omega), fun _ => h⟩
        clear h n1 n2 n3
        go_wp2_with (first | (go_at_call 37; refine (c.out _).mono ?_; rintro e w' ⟨rfl, hb⟩) | (go_at_call 17; with_reducible refine (cn3.out _).mono ?_; rintro e w' ⟨rfl, rfl⟩))
        go_roundw
        case rel => exact ⟨4, by omega, by omega, rfl, HN2.out, HB.out.trans (hb.mono hsz)⟩
        case measure => simp [intOf]
    · have HF : Hid (namedL u.toList = 0) := by unfold Hid namedL; rw [if_neg (HN.out.1 (by omega)), if_neg (HN.out.2.1 (by omega)), if_neg (HN.out.2.2 (by omega))]
      clear n1 n2 n3
      go_wp2_with fail
      go_ret
      exact ⟨ret_int HF.out, HB.out⟩

theorem named_utf8 : namedL (upS { data := #[85, 116, 102, 45, 56] }).toList = 3 := by
  have : (upS { data := #[85, 116, 102, 45, 56] }).toList = [85, 84, 70, 45, 56] := by
    rw [show upS { data := #[85, 116, 102, 45, 56] } = { data := #[85, 84, 70, 45, 56] } from by decide]
    exact ByteArray.toList_mk _
  rw [this]; rfl

set_option maxHeartbeats 1000000 in
theorem charsetNames_walk (s : ByteArray) (hs : s.size ≤ 140737488351232) (kind : Int) (_ : (Lit.int .i64 kind).wf = true) (w : World) :
    Calls Try.prog 5 #[.string s, .int .i64 kind] w fun e w' => e = .returned (.bool true) ∧ Below w.heap.size w w' := by
  have c1 := Lib.hid (fun w => named_any s w hs)
  have c2 := Lib.hid (fun w => refNamed_any s w hs)
  have c3 := Lib.hid (name_any kind)
  have c4 := Lib.hid (refName_any kind)
  have c5 := Lib.hid (fun w => named_any { data := #[85, 116, 102, 45, 56] } w (by decide))
  rw [named_utf8] at c5
  generalize namedL (upS s).toList = n at *
  generalize nameV kind = v at *
  go_enter Try.func5, Try.ntmps5
  go_wp2_with (first
    | (go_at_call 15; with_reducible refine (c1.out _).mono ?_; rintro e w1 ⟨rfl, hb1⟩)
    | (go_at_call 16; with_reducible refine (c2.out _).mono ?_; rintro e w2 ⟨rfl, hb2⟩)
    | (go_at_call 17; with_reducible refine (c3.out _).mono ?_; rintro e w' ⟨rfl, rfl⟩)
    | (go_at_call 18; with_reducible refine (c4.out _).mono ?_; rintro e w' ⟨rfl, rfl⟩)
    | (go_at_call 15; with_reducible refine (c5.out _).mono ?_; rintro e w3 ⟨rfl, hb3⟩))
  go_ret
  have b2 := hb1.trans (hb2.mono hb1.size)
  exact ⟨rfl, b2.trans (hb3.mono b2.size)⟩
end Go.Proofs.Ytcpmgnejbfnnjaa
