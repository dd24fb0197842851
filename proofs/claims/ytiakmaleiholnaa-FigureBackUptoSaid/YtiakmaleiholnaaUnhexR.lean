/- the reference's Unhex: the walk. No condition but the string's size. -/
import Derived.Test.YtiakmaleiholnaaUnhexW
namespace Go.Proofs.Ytiakmaleiholnaa
open Go.RowKit

theorem hv_eq_all : ∀ n : Fin 256, hv (UInt8.ofNat n.val) = if 48 ≤ n.val ∧ n.val ≤ 57 then (n.val : Int) - 48 else if 65 ≤ n.val ∧ n.val ≤ 70 then (n.val : Int) - 65 + 10 else -1 := by decide +kernel
theorem hv_eq (q : UInt8) : hv q = if 48 ≤ q.toNat ∧ q.toNat ≤ 57 then (q.toNat : Int) - 48 else if 65 ≤ q.toNat ∧ q.toNat ≤ 70 then (q.toNat : Int) - 65 + 10 else -1 := by
  have := hv_eq_all ⟨q.toNat, q.toNat_lt⟩
  simpa using this

theorem half_any (q : UInt8) (w : World) : Calls Try.prog 54 #[.int .u8 (q.toNat : Int)] w fun e w' => e = .returned (.int .i64 (hv q)) ∧ w = w' := by
  have hub : q.toNat < 256 := UInt8.toNat_lt _
  have he := hv_eq q
  generalize hv q = v at *
  generalize q.toNat = n at *
  by_cases h1 : 48 ≤ n
  · by_cases h2 : n ≤ 57
    · rw [if_pos ⟨h1, h2⟩] at he
      have HE := Lib.hid he
      clear he
      have a1 : decide ((48 : Int) ≤ (n : Int)) = true := by simp; omega
      have a2 : decide ((n : Int) ≤ 57) = true := by simp; omega
      have b1 : (48 : Int) ≤ n := by omega
      have b2 : (n : Int) ≤ 57 := by omega
      clear h1 h2
      go_enter Try.func54, Try.ntmps54
      go_wp2
      go_ret
      exact ⟨by rw [HE.out]; rfl, rfl⟩
    · rw [if_neg (by omega)] at he
      have a1 : decide ((48 : Int) ≤ (n : Int)) = true := by simp; omega
      have a2 : decide ((n : Int) ≤ 57) = false := by simp; omega
      by_cases h3 : 65 ≤ n ∧ n ≤ 70
      · rw [if_pos h3] at he
        have HE := Lib.hid he
        have a3 : decide ((65 : Int) ≤ (n : Int)) = true := by simp; omega
        have a4 : decide ((n : Int) ≤ 70) = true := by simp; omega
        have b1 : (65 : Int) ≤ n := by omega
        have b2 : (n : Int) ≤ 70 := by omega
        clear he h1 h2 h3
        go_enter Try.func54, Try.ntmps54
        go_wp2
        go_ret
        exact ⟨by rw [HE.out]; rfl, rfl⟩
      · rw [if_neg h3] at he
        have HE := Lib.hid he
        by_cases h4 : 65 ≤ n
        · have a3 : decide ((65 : Int) ≤ (n : Int)) = true := by simp; omega
          have a4 : decide ((n : Int) ≤ 70) = false := by simp; omega
          clear he h1 h2 h3 h4
          go_enter Try.func54, Try.ntmps54
          go_wp2
          go_ret
          exact ⟨by rw [HE.out]; rfl, rfl⟩
        · have a3 : decide ((65 : Int) ≤ (n : Int)) = false := by simp; omega
          clear he h1 h2 h3 h4
          go_enter Try.func54, Try.ntmps54
          go_wp2
          go_ret
          exact ⟨by rw [HE.out]; rfl, rfl⟩
  · rw [if_neg (by omega), if_neg (by omega)] at he
    have HE := Lib.hid he
    have a1 : decide ((48 : Int) ≤ (n : Int)) = false := by simp; omega
    have a3 : decide ((65 : Int) ≤ (n : Int)) = false := by simp; omega
    clear he h1
    go_enter Try.func54, Try.ntmps54
    go_wp2
    go_ret
    exact ⟨by rw [HE.out]; rfl, rfl⟩

theorem pp_two (l : List UInt8) (a b : UInt8) (h : l.length % 2 = 0) : pp (l ++ [a] ++ [b]) = pp l ++ [hv a * 16 + hv b] := by
  have hp := pp_len l
  rw [pp_odd _ b (by simp; omega), pp_even _ a h]
  have e1 : (l ++ [a]).length / 2 = (pp l).length := by simp; omega
  have e2 : (l ++ [a])[(l ++ [a]).length - 1]? = some a := by simp
  rw [e1, e2]
  simp

set_option maxHeartbeats 1000000 in
theorem refUnhex_any (s : ByteArray) (w : World) (hs : s.size ≤ 140737488351232) :
    Calls Try.prog 26 #[.string s] w fun e w' => e = .returned (.tuple #[.string (strOfNums (unh s).1), .int .i64 (unh s).2]) ∧ Below w.heap.size w w' := by
  go_enter Try.func26, Try.ntmps26
  go_wp2_with fail
  go_loop [4] (fun i => ∃ (k : Nat), k ≤ s.size ∧ i = .int .i64 k ∧ Hid (∀ q ∈ s.data.toList.take k, 0 ≤ hv q)) (fun i => s.size - (intOf i).toNat)
  case atStart => exact ⟨0, Nat.zero_le _, rfl, fun q hq => by simp at hq⟩
  case round =>
    obtain ⟨k, hk, rfl, HG⟩ := hrel
    by_cases hlt : k < s.size
    · have HT := Lib.hid (take_snoc s k hlt)
      have hbd := hv_bd s[k]
      have HBad := Lib.hid (fun h => unh_bad s k hlt h)
      by_cases hneg : hv s[k] < 0
      · go_wp2_with (go_at_call 54; with_reducible refine (half_any s[k] _).mono ?_; rintro e w' ⟨rfl, rfl⟩)
        go_ret2
        exact ⟨ret_unh (HBad.out hneg), Below.refl _ _⟩
      · go_wp2_with (go_at_call 54; with_reducible refine (half_any s[k] _).mono ?_; rintro e w' ⟨rfl, rfl⟩)
        go_round
        case rel => exact ⟨k + 1, by omega, by go_num, by
            unfold Hid; rw [HT.out]; intro x hx
            rcases List.mem_append.1 hx with h | h
            · exact HG.out x h
            · simp at h; rw [h]; omega⟩
        case measure => simp [intOf]; omega
    · obtain rfl : k = s.size := by omega
      have hga := HG.out
      rw [take_all] at hga
      have HGA := Lib.hid hga
      have hg := unh_good s hga
      clear hga
      by_cases hodd : s.size % 2 = 1
      · have hob : ((s.size : Int) % 2 != 0) = true := by simp; omega
        rw [if_pos hodd] at hg
        have HG := Lib.hid hg
        clear hg hodd
        go_wp2_with fail
        go_ret2
        exact ⟨ret_unh HG.out, Below.refl _ _⟩
      · have hob : ((s.size : Int) % 2 != 0) = false := by simp; omega
        rw [if_neg hodd] at hg
        have HU := Lib.hid hg
        have HOD := Lib.hid hodd
        clear hg hodd
        go_wp2_with fail
        go_loopw [5, 6] (fun b i wr => ∃ (k n : Nat) (ad : Option Addr) (c : Nat), k ≤ s.size ∧ n ≤ k ∧ Hid (k = n + n) ∧ i = .int .i64 k ∧ b = .slice ad n c ∧ wr.ownsRow w.heap.size 5 1 (.slice ad n c) n ((pp (s.data.toList.take k)).map (Value.int .u8)) ∧ Below w.heap.size w wr) (fun _ i _ => s.size - (intOf i).toNat)
        case atStart => exact ⟨0, 0, _, _, Nat.zero_le _, Nat.zero_le _, rfl, rfl, rfl, by simpa [pp] using World.ownsRow_nil w w.heap.size 5 1, Below.refl _ _⟩
        case round =>
          obtain ⟨k, n, ad, c, hk, hnk, HN, rfl, rfl, hown, hb⟩ := hrel
          by_cases hlt : k + 1 < s.size
          · have HT : Hid (s.data.toList.take (k + 2) = s.data.toList.take k ++ [s[k]] ++ [s[k + 1]]) := by
              unfold Hid; rw [← take_snoc s k (by omega), ← take_snoc s (k + 1) hlt]
            have hmem1 : 0 ≤ hv s[k] := HGA.out _ (List.mem_of_getElem? (bat_get s k (by omega)))
            have hmem2 : 0 ≤ hv s[k + 1] := HGA.out _ (List.mem_of_getElem? (bat_get s (k + 1) hlt))
            have hbd1 := (hv_bd s[k]).2
            have hbd2 := (hv_bd s[k + 1]).2
            have HX := Lib.hid hown
            have HB := Lib.hid hb
            clear hown hb
            have g1 : n + 1 ≤ maxLen := by simp [maxLen]; omega
            have g2 : (n + 1) * 1 ≤ 140737488355328 := by omega
            have g3 : w.heap.size ≤ (wr.alloc (.cells #[.int .u8 (16 * hv s[k] + hv s[k + 1])] 5)).drew.heap.size := by have := HB.out.size; simp; omega
            have hlt0 : k < s.size := by omega
            have hltI : (k : Int) + 1 < (s.size : Int) := by omega
            have hA0 : (0 : Int) ≤ (k : Int) + 1 := by omega
            have hA : IntKind.i64.wrap ((k : Int) + 1) = (k : Int) + 1 := IntWalk.i64_in _ (by omega)
            have hB : IntKind.i64.wrap (16 * hv s[k]) = 16 * hv s[k] := IntWalk.i64_in _ (by omega)
            have hC : IntKind.i64.wrap (16 * hv s[k] + hv s[k + 1]) = 16 * hv s[k] + hv s[k + 1] := IntWalk.i64_in _ (by omega)
            have hD : IntKind.u8.wrap (16 * hv s[k] + hv s[k + 1]) = 16 * hv s[k] + hv s[k + 1] := by rw [IntKind.wrap_u8]; omega
            go_wp2_with fail
            go_region_law (first
              | (refine step_app rfl _ _ 43 5 _ _ S43 rfl w.heap.size (.slice ad n c) _ _ [.int .u8 (16 * hv s[k] + hv s[k + 1])] rfl wr.heap.size 1 _ rfl rfl (by decide) (by simp [Value.oneCell']) (block_new wr _) (HX.out.alloc _).drew g1 g2 g3 (fun a' c' w3 h1 h2 h3 h4 => ?_))
              | (go_simp; go_at_call 54; with_reducible refine (half_any s[k] _).mono ?_; rintro e w' ⟨rfl, rfl⟩)
              | (go_simp; go_at_call 54; with_reducible refine (half_any s[k + 1] _).mono ?_; rintro e w' ⟨rfl, rfl⟩))
            all_goals
              have HO : Hid (w3.ownsRow w.heap.size 5 1 (.slice a' (n + 1) c') (n + 1) ((pp (s.data.toList.take (k + 2))).map (Value.int .u8))) := by
                unfold Hid; rw [HT.out, pp_two _ _ _ (by rw [take_len s k hk]; have := HN.out; omega), List.map_append, Int.mul_comm (hv s[k]) 16]; exact h1
              have HB2 : Hid (Below w.heap.size w w3) := ((HB.out.alloc (by have := HB.out.size; omega) _).drew).trans h4
              have HN2 : Hid (k + 2 = (n + 1) + (n + 1)) := by unfold Hid; have := HN.out; omega
              clear h1 h2 h3 h4 hA hB hC hD
              go_wp2
              go_roundw
              case rel => exact ⟨k + 2, n + 1, a', c', by omega, by omega, HN2.out, by go_num, rfl, HO.out, HB2.out⟩
              case measure => simp [intOf]; omega
          · have hks : k = s.size := by have := HN.out; have := HOD.out; omega
            subst hks
            have HB := Lib.hid hb
            clear hb
            rw [take_all] at hown
            go_wp2_with (with_reducible refine wpList_str _ rfl _ 43 9 5 rfl Try.underlying43 Try.underlying9 Try.underlying5 w.heap.size _ _ _ _ rfl hown ?_)
            go_ret2
            exact ⟨ret_unh HU.out, HB.out⟩
end Go.Proofs.Ytiakmaleiholnaa
