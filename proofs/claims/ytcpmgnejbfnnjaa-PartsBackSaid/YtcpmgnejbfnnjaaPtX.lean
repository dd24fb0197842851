/- parts: PartsBack, the walk and the law. No condition but sizes. -/
import Derived.Test.YtcpmgnejbfnnjaaPtV
namespace Go.Proofs.Ytcpmgnejbfnnjaa
open Go.RowKit

set_option maxRecDepth 100000 in
set_option maxHeartbeats 8000000 in
theorem backP_walk (a : Option Addr) (c : Nat) (l : List ByteArray) (s : ByteArray) (w : World) (hT : Txts w a l) (hl : l.length ≤ 140737488355328) (hs : ∀ x ∈ l, x.size ≤ 140737488355328) (_ : s.size ≤ 140737488355328) :
    Calls Try.prog 8 #[.slice a l.length c, .string s] w fun e w' => e = .returned (.bool true) ∧ Below w.heap.size w w' := by
  have HT := Lib.hid hT
  have HL := Lib.hid hl
  have HS := Lib.hid hs
  clear hT hs
  have hpl := parts_len s
  go_enter Try.func8, Try.ntmps8
  go_wp2_with fail
  refine (worksP_any _).mono ?_
  rintro e w1 ⟨rfl, hb1⟩
  have HB1 := Lib.hid hb1
  have cG := Lib.hid (great_anyP a c l w1 (HT.out.below hb1 (Nat.le_refl _)) HL.out HS.out)
  clear hb1
  by_cases hbig : 3000 < s.size
  · have hbig' : decide ((3000 : Int) < s.size) = true := by simp; omega
    clear hbig
    go_wp2_with fail
    refine cG.out.mono ?_
    rintro e w' ⟨q, rfl, hq, rfl⟩
    clear hq
    cases q with
    | true =>
      go_wp2_with fail
      go_ret
      exact ⟨rfl, HB1.out⟩
    | false =>
      go_wp2_with fail
      go_ret
      exact ⟨rfl, HB1.out⟩
  · have hbig' : decide ((3000 : Int) < s.size) = false := by simp; omega
    go_wp2_with fail
    refine cG.out.mono ?_
    rintro e w' ⟨q, rfl, hq, rfl⟩
    cases q with
    | true =>
      clear hq
      go_wp2_with fail
      go_ret
      exact ⟨rfl, HB1.out⟩
    | false =>
      obtain ⟨hl1, hsum⟩ := hq rfl
      have HSum := Lib.hid hsum
      clear hq hsum cG
      by_cases hl0 : l = []
      · have hz : l.length = 0 := by rw [hl0]; rfl
        have hz' : decide ((0 : Int) < l.length) = false := by simp; omega
        clear hl0 hl
        skip
        have HBx := HB1
        go_wp2_with fail
        refine (split_any s (by omega) _).mono ?_
        rintro e w5 (⟨hw, rfl, hb5⟩ | ⟨hw, a5, c5, rfl, hown5, hb5⟩)
        · have HB5 := Lib.hid (HBx.out.trans (hb5.mono HBx.out.size))
          clear hb5
          go_wp2_with fail
          go_ret
          exact ⟨rfl, HB5.out⟩
        · have HB5 := Lib.hid (HBx.out.trans (hb5.mono HBx.out.size))
          have HJ := Lib.hid (join_parts s hw)
          have cJ := Lib.hid (join_any a5 c5 (PartsOf s) w5 (Txts.own hown5) (by omega) (by have := parts_sum s; omega))
          clear hb5 hown5 hw
          generalize hPL : (PartsOf s).length = pl at *
          clear hPL
          go_wp2_with fail
          refine cJ.out.mono ?_
          rintro e w6 ⟨rfl, hb6⟩
          rw [HJ.out]
          go_wp2_with fail
          go_ret
          exact ⟨rfl, HB5.out.trans (hb6.mono HB5.out.size)⟩
      · have hz : l.length ≠ 0 := fun h => hl0 (List.length_eq_zero_iff.1 h)
        have hz' : decide ((0 : Int) < l.length) = true := by simp; omega
        have HPJ := Lib.hid (parts_join l hl0)
        have hjl := jnL_len l
        have hjs : (mkT (jnL (lts l))).size ≤ 1000000 := by rw [mkT_size]; have := HSum.out; omega
        have cJn := Lib.hid (join_any a c l w1 (HT.out.below HB1.out (Nat.le_refl _)) (by omega) (by have := HSum.out; omega))
        have cSp := Lib.hid (fun w => split_any (mkT (jnL (lts l))) hjs w)
        have cSm := Lib.hid (fun (a1 : Option Addr) (c1 : Nat) (wx : World) (h1 : Txts wx a1 l) (h2 : Below w.heap.size w wx) => same_any a1 a c1 c l wx h1 (HT.out.below h2 (Nat.le_refl _)) (by omega))
        clear hl0 hl hjl hjs
        generalize mkT (jnL (lts l)) = J at *
        skip
        go_wp2_with fail
        refine cJn.out.mono ?_
        rintro e w2 ⟨rfl, hb2⟩
        have HB2 := Lib.hid (HB1.out.trans (hb2.mono HB1.out.size))
        clear hb2
        go_wp2_with fail
        refine (cSp.out _).mono ?_
        rintro e w3 (⟨hw, _⟩ | ⟨_, a3, c3, rfl, hown3, hb3⟩)
        · exact absurd HPJ.out.2 (by omega)
        · have HB3 := Lib.hid (HB2.out.trans (hb3.mono HB2.out.size))
          rw [HPJ.out.1] at hown3 ⊢
          have HT3 := Lib.hid (Txts.own hown3)
          clear hown3 hb3
          go_wp2_with fail
          refine (cSm.out _ _ _ HT3.out HB3.out).mono ?_
          rintro e w4 ⟨rfl, hb4⟩
          have HBx := Lib.hid (HB3.out.trans (hb4.mono HB3.out.size))
          clear hb4
          go_wp2_with fail
          refine (split_any s (by omega) _).mono ?_
          rintro e w5 (⟨hw, rfl, hb5⟩ | ⟨hw, a5, c5, rfl, hown5, hb5⟩)
          · have HB5 := Lib.hid (HBx.out.trans (hb5.mono HBx.out.size))
            clear hb5
            go_wp2_with fail
            go_ret
            exact ⟨rfl, HB5.out⟩
          · have HB5 := Lib.hid (HBx.out.trans (hb5.mono HBx.out.size))
            have HJ := Lib.hid (join_parts s hw)
            have cJ := Lib.hid (join_any a5 c5 (PartsOf s) w5 (Txts.own hown5) (by omega) (by have := parts_sum s; omega))
            clear hb5 hown5 hw
            generalize hPL : (PartsOf s).length = pl at *
            clear hPL
            go_wp2_with fail
            refine cJ.out.mono ?_
            rintro e w6 ⟨rfl, hb6⟩
            rw [HJ.out]
            go_wp2_with fail
            go_ret
            exact ⟨rfl, HB5.out.trans (hb6.mono HB5.out.size)⟩

theorem backP_law {H : Type} {enc : TypeId × Value → H} {W : World} (v0 : Value) (d0 : DataW H) (p0 : List MemPlace) (k0 : DataW.Trod enc Try.prog W 0 (fun _ => true) true 52 v0 d0 p0) {base : Nat} (ok0 : Value.okWide Try.prog W .any base 52 v0) (_ : ∀ x ∈ p0, x.block < W.heap.size) (z0 : SizedAt Try.prog 52 d0) (s : ByteArray) (hz : s.size ≤ 140737488351232) (_ : World) :
    Calls Try.prog 8 #[v0, .string s] W fun e w' => e = .returned (.bool true) ∧ Below W.heap.size W w' := by
  obtain ⟨a, c, l, rfl, h1, h2, h3, _⟩ := open_list k0 ok0 z0
  exact backP_walk a c l s W h1 h2 h3 (by omega)
end Go.Proofs.Ytcpmgnejbfnnjaa
