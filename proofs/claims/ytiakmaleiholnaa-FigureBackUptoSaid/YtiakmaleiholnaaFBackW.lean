/- FigureBack: the law's walk. Its condition: a text of at most 1048576 bytes. -/
import Derived.Test.YtiakmaleiholnaaFigPlain
import Derived.Test.YtiakmaleiholnaaText
namespace Go.Proofs.Ytiakmaleiholnaa
open Go.RowKit

set_option maxHeartbeats 1000000 in
theorem figureBack_walk (n : Int) (hn : (Lit.int .i64 n).wf = true) (s : ByteArray) (hs : s.size ≤ 1048576) (w : World) :
    Calls Try.prog 13 #[.int .i64 n, .string s] w fun e w' => e = .returned (.bool true) ∧ Below w.heap.size w w' := by
  obtain ⟨h0, h1⟩ := wf_i64 hn
  clear hn
  have c1 := Lib.hid (fun w => text_any n w h0 h1)
  have hsz : (strOfNums (textL n)).size ≤ 21 := by rw [strOfNums_size]; exact textL_len n
  have hpos : 0 < (strOfNums (textL n)).size := by rw [strOfNums_size]; exact List.length_pos_iff.2 (textL_ne n)
  have c2 := Lib.hid (fun w => read_any (strOfNums (textL n)) w (by omega))
  have hr := read_text n h0 h1
  have c3 := Lib.hid (fun w => hex_any s w (by omega))
  have hu := unh_hexL s
  have hsz2 : (strOfNums (hexL s.data.toList)).size ≤ 2097152 := by rw [strOfNums_size, hexL_len, len_toList]; omega
  have c4 := Lib.hid (fun w => unhex_any (strOfNums (hexL s.data.toList)) w (by omega))
  rw [hu, strOfNums_nums] at c4
  generalize strOfNums (textL n) = x at *
  generalize strOfNums (hexL s.data.toList) = y at *
  clear hu hsz2 hsz
  have key : (n < 0 ∧ rdS x = (0, 3)) ∨ (0 ≤ n ∧ 268435456 < n ∧ rdS x = (0, 2)) ∨ (0 ≤ n ∧ n ≤ 268435456 ∧ rdS x = (n, 0)) := by
    by_cases a : n < 0
    · rw [if_neg (by omega), if_pos a] at hr; exact .inl ⟨a, hr⟩
    · by_cases b : n ≤ 268435456
      · rw [if_pos ⟨by omega, b⟩] at hr; exact .inr (.inr ⟨by omega, b, hr⟩)
      · rw [if_neg (by omega), if_neg a] at hr; exact .inr (.inl ⟨by omega, by omega, hr⟩)
  clear hr
  rcases key with ⟨k1, hr⟩ | ⟨k1, k2, hr⟩ | ⟨k1, k2, hr⟩
  all_goals
    rw [hr] at c2
    clear hr
    have hB := Below.refl w.heap.size w
    go_enter Try.func13, Try.ntmps13
    go_wp2_with (first
      | (go_at_call 31; with_reducible refine (c1.out _).mono ?_; rintro e w1 ⟨rfl, hb⟩; replace hB := hB.trans (hb.mono hB.size); clear hb)
      | (go_at_call 23; with_reducible refine (c2.out _).mono ?_; rintro e w2 ⟨rfl, hb⟩; replace hB := hB.trans (hb.mono hB.size); clear hb)
      | (go_at_call 27; with_reducible refine (c3.out _).mono ?_; rintro e w3 ⟨rfl, hb⟩; replace hB := hB.trans (hb.mono hB.size); clear hb)
      | (go_at_call 25; with_reducible refine (c4.out _).mono ?_; rintro e w4 ⟨rfl, hb⟩; replace hB := hB.trans (hb.mono hB.size); clear hb))
    go_ret
    exact ⟨rfl, hB⟩
end Go.Proofs.Ytiakmaleiholnaa
