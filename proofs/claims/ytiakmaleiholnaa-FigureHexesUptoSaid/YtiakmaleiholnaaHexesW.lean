/- FigureHexes: the law's walk. Its condition: a text of at most 70368744177000 bytes. -/
import Derived.Test.YtiakmaleiholnaaUnhexR
namespace Go.Proofs.Ytiakmaleiholnaa
open Go.RowKit

theorem figureHexes_walk (s : ByteArray) (hs : s.size ≤ 1048576) (w : World) :
    Calls Try.prog 7 #[.string s] w fun e w' => e = .returned (.bool true) ∧ Below w.heap.size w w' := by
  have c1 := Lib.hid (fun w => unhex_any s w (by omega))
  have c2 := Lib.hid (fun w => refUnhex_any s w (by omega))
  have c3 := Lib.hid (fun w => hex_any s w (by omega))
  have c4 := Lib.hid (fun w => refHex_any s w (by omega))
  generalize strOfNums (unh s).1 = x at *
  generalize (unh s).2 = n at *
  generalize strOfNums (hexL s.data.toList) = y at *
  go_enter Try.func7, Try.ntmps7
  go_wp2_with (first
    | (go_at_call 25; with_reducible refine (c1.out _).mono ?_; rintro e w1 ⟨rfl, hb1⟩)
    | (go_at_call 26; with_reducible refine (c2.out _).mono ?_; rintro e w2 ⟨rfl, hb2⟩)
    | (go_at_call 27; with_reducible refine (c3.out _).mono ?_; rintro e w3 ⟨rfl, hb3⟩)
    | (go_at_call 28; with_reducible refine (c4.out _).mono ?_; rintro e w4 ⟨rfl, hb4⟩))
  go_ret
  have b2 := hb1.trans (hb2.mono hb1.size)
  have b3 := b2.trans (hb3.mono b2.size)
  exact ⟨rfl, b3.trans (hb4.mono b3.size)⟩
end Go.Proofs.Ytiakmaleiholnaa
