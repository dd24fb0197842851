/- The program's reader: how many bytes a number has, take, Number, Byte, Bytes, Text. No condition but the text's size. -/
import Derived.Test.YtiakmaleiholnaaRdr
import Derived.Test.YtiakmaleiholnaaShelf
import Derived.Test.YtiakmaleiholnaaKit2
namespace Go.Proofs.Ytiakmaleiholnaa
open Go.RowKit

/-- a number at a text's beginning: its value, how many bytes, what is wrong -/
def svn : Nat → Nat → List UInt8 → Nat × Nat × Int
  | _, _, [] => (0, 0, 1)
  | a, k, c :: cs => if k = 0 ∧ c.toNat = 128 then (0, 0, 3) else if 4294967295 < 128 * a + c.toNat % 128 then (0, 0, 2) else if c.toNat < 128 then (128 * a + c.toNat % 128, k + 1, 0) else svn (128 * a + c.toNat % 128) (k + 1) cs

theorem svn_bad {a k : Nat} {c : UInt8} {cs : List UInt8} (h : k = 0) (hc : c.toNat = 128) : svn a k (c :: cs) = (0, 0, 3) := by rw [svn, if_pos ⟨h, hc⟩]
theorem svn_big {a k : Nat} {c : UInt8} {cs : List UInt8} (h : k = 0 → c.toNat ≠ 128) (hb : 4294967295 < 128 * a + c.toNat % 128) : svn a k (c :: cs) = (0, 0, 2) := by
  rw [svn, if_neg (fun ⟨h1, h2⟩ => h h1 h2), if_pos hb]
theorem svn_end {a k : Nat} {c : UInt8} {cs : List UInt8} (h : k = 0 → c.toNat ≠ 128) (hb : 128 * a + c.toNat % 128 ≤ 4294967295) (hl : c.toNat < 128) : svn a k (c :: cs) = (128 * a + c.toNat % 128, k + 1, 0) := by
  rw [svn, if_neg (fun ⟨h1, h2⟩ => h h1 h2), if_neg (by omega), if_pos hl]
theorem svn_more {a k : Nat} {c : UInt8} {cs : List UInt8} (h : k = 0 → c.toNat ≠ 128) (hb : 128 * a + c.toNat % 128 ≤ 4294967295) (hl : 128 ≤ c.toNat) : svn a k (c :: cs) = svn (128 * a + c.toNat % 128) (k + 1) cs := by
  rw [svn, if_neg (fun ⟨h1, h2⟩ => h h1 h2), if_neg (by omega), if_neg (by omega)]

theorem or7_u64 (a m : Nat) (hm : m < 128) (h : a * 128 + m < 18446744073709551616) : bits BinOp.or IntKind.u64 ((a : Int) * 128) (m : Int) = ((128 * a + m : Nat) : Int) := by
  have := u64_or_nat (a * 128) m (by omega) (by omega)
  rw [show a * 128 = 2 ^ 7 * a from by omega, ← Nat.two_pow_add_eq_or_of_lt (by omega)] at this
  rw [show ((a : Int) * 128) = ((2 ^ 7 * a : Nat) : Int) from by omega, this]

theorem ret_sv {R : Nat × Nat × Int} {v k : Nat} {e : Int} (h : R = (v, k, e)) : Ending.returned (.tuple #[.int .i64 (k : Int), .int .i64 e]) = Ending.returned (.tuple #[.int .i64 R.2.1, .int .i64 R.2.2]) := by subst h; rfl

set_option maxHeartbeats 1000000 in
theorem sevens_any (b : Nat) (s : ByteArray) (i : Nat) (e0 : Int) (w : World) (h : Rd w b s i e0) (hi : i ≤ s.size) (hs : s.size ≤ 140737488355328) :
    Calls Try.prog 63 #[.pointer (some ⟨b, 0, none⟩)] w fun e w' => e = .returned (.tuple #[.int .i64 (svn 0 0 (s.data.toList.drop i)).2.1, .int .i64 (svn 0 0 (s.data.toList.drop i)).2.2]) ∧ Below w.heap.size w w' := by
  have h0 := h.c0
  have h1 := h.c1
  clear h
  generalize hR : svn 0 0 (List.drop i s.data.toList) = R at *
  have HR := Lib.hid hR
  clear hR
  go_enter Try.func63, Try.ntmps63
  go_wp2
  have hcv := fun W => run_bytesW (P := Try.prog) 9 43 5 Try.underlying9 Try.underlying43 Try.underlying5 (s.extract i s.size) W
  go_region
  clear hcv
  have hTs : (s.extract i s.size).size = s.size - i := by simp
  have hTl : (s.extract i s.size).data.toList = s.data.toList.drop i := by
    rw [ByteArray.data_extract, Array.toList_extract, List.extract, ← len_toList s, List.take_of_length_le (by simp)]
  rw [← hTs]
  have HR2 : Hid (R = svn 0 0 (s.extract i s.size).data.toList) := by unfold Hid; rw [hTl]; exact HR.out.symm
  clear HR
  have hS := bytesW_src (s.extract i s.size) 5 w.drew
  have HB := Lib.hid (((Below.refl _ w).drew).trans (bytesW_below (s.extract i s.size) 5 w.drew))
  have hsz : (s.extract i s.size).size ≤ 140737488355328 := by omega
  clear hTs hTl hi hs h0 h1
  generalize s.extract i s.size = T at *
  generalize bytesW T 5 w.drew = w1 at *
  rw [show (w.drew).heap.size = w.heap.size from rfl] at hS
  go_wp2
  go_loop [4, 18] (fun a k => ∃ (m n : Nat), n ≤ T.size ∧ m ≤ 4294967295 ∧ a = .int .u64 m ∧ k = .int .i64 n ∧ Hid (R = svn m n (T.data.toList.drop n))) (fun _ k => T.size - (intOf k).toNat)
  case atStart => exact ⟨0, 0, Nat.zero_le _, Nat.zero_le _, rfl, rfl, HR2⟩
  case round =>
    obtain ⟨m, n, hn, hm, rfl, rfl, HE⟩ := hrel
    by_cases hlt : n < T.size
    · have hc0 := hS n hlt
      have HD := Lib.hid (drop_cons_at T n hlt)
      have hub : T[n].toNat < 256 := UInt8.toNat_lt _
      clear hS
      generalize T[n] = q at *
      by_cases hbad : n = 0 ∧ q.toNat = 128
      · obtain ⟨rfl, hq⟩ := hbad
        have HF : Hid (R = (0, 0, 3)) := by unfold Hid; rw [HE.out, HD.out]; exact svn_bad rfl hq
        have hqb : ((q.toNat : Int) == 128) = true := by simp; omega
        go_wp2
        go_ret2
        exact ⟨ret_sv HF.out, HB.out⟩
      · have HG : Hid (n = 0 → q.toNat ≠ 128) := fun h h' => hbad ⟨h, h'⟩
        have key : ((n : Int) == 0) = false ∨ (((n : Int) == 0) = true ∧ ((q.toNat : Int) == 128) = false) := by
          by_cases hn0 : n = 0
          · right; exact ⟨by simp; omega, by simp; omega⟩
          · left; simp; omega
        clear hbad
        have hp : q.toNat % 128 < 128 := Nat.mod_lt _ (by decide)
        have hand : bits BinOp.and IntKind.u8 (q.toNat : Int) 127 = ((q.toNat % 128 : Nat) : Int) := by
          have := u8_and_nat q.toNat 127 hub (by decide)
          rw [show (127 : Nat) = 2 ^ 7 - 1 from rfl, Nat.and_two_pow_sub_one_eq_mod] at this
          exact this
        have hor := or7_u64 m (q.toNat % 128) hp (by omega)
        have hmi : (m : Int) ≤ 4294967295 := by omega
        obtain ⟨v, hv⟩ : ∃ v, v = 128 * m + q.toNat % 128 := ⟨_, rfl⟩
        rw [← hv] at hor
        have HV := Lib.hid hv
        generalize q.toNat % 128 = r at hp hand hor
        clear hm hv hn
        by_cases hbig : (4294967295 : Int) < (v : Int)
        · have HF : Hid (R = (0, 0, 2)) := by
            unfold Hid; rw [HE.out, HD.out]; exact svn_big HG.out (by have := HV.out; omega)
          rcases key with k1 | ⟨k1, k2⟩
          all_goals
            go_wp2
            go_ret2
            exact ⟨ret_sv HF.out, HB.out⟩
        · by_cases hend : (q.toNat : Int) < 128
          · have HF : Hid (R = (v, n + 1, 0)) := by
              unfold Hid; rw [HE.out, HD.out, HV.out]; exact svn_end HG.out (by have := HV.out; omega) (by omega)
            rcases key with k1 | ⟨k1, k2⟩
            all_goals
              go_wp2
              go_ret2
              exact ⟨ret_sv HF.out, HB.out⟩
          · have HF : Hid (R = svn v (n + 1) (T.data.toList.drop (n + 1))) := by
              unfold Hid; rw [HE.out, HD.out, HV.out]; exact svn_more HG.out (by have := HV.out; omega) (by omega)
            rcases key with k1 | ⟨k1, k2⟩
            all_goals
              go_wp2
              go_round
              case rel => exact ⟨v, n + 1, by omega, by omega, rfl, by go_num, HF⟩
              case measure => simp [intOf]; omega
    · have HF : Hid (R = (0, 0, 1)) := by unfold Hid; rw [HE.out, drop_all _ _ hlt, svn]
      clear hS
      go_wp2
      go_ret2
      exact ⟨ret_sv HF.out, HB.out⟩
end Go.Proofs.Ytiakmaleiholnaa
