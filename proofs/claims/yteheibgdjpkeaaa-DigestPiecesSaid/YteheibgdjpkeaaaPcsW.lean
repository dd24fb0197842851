/- digest: the walk of the law on a text in pieces. -/
import Derived.Test.YteheibgdjpkeaaaLongW
import Derived.SliceStrings
import Derived.WideShapes
namespace Go.Proofs.Yteheibgdjpkeaaa
open Go.RowKit Go.ChangeShapes Go.WideShapes

/-- a []string that came in, nil or not. -/
theorem open_strs {P : Program} {H : Type} {enc : TypeId × Value → H} {W : World} {t e : TypeId} {base : Nat} {v : Value} {d : DataW H} {p : List MemPlace} (ht : P.underlying t = some (.slice e)) (he : P.underlying e = some .string) (hc : P.cellsOf e = 1)
    (k : DataW.Trod enc P W 0 (fun _ => true) true t v d p) (ok : Value.okWide P W .any base t v) :
    ∃ (a0 : Option Addr) (len cap b off : Nat) (Xs : List ByteArray), v = .slice a0 len cap ∧ Xs.length = len ∧ (0 < len → a0 = some ⟨b, off, none⟩ ∧ b < W.heap.size) ∧ (∀ (j : Nat) X, Xs[j]? = some X → W.cell? ⟨b, off + j, none⟩ = some (.string X)) ∧ len ≤ maxLen := by
  obtain ⟨a0, len, cap, rfl⟩ := okWide_slice ht ok
  obtain ⟨fuel, hf⟩ := k
  rcases open_strings ht he hc hf with ⟨hcs, hx⟩ | ⟨a, len', cap', ss, hcs, _, hl, hm, hz, hx, hcell, _⟩
  · simp [Value.cells] at hcs
    obtain ⟨rfl, rfl, rfl⟩ := hcs
    exact ⟨none, 0, 0, 0, 0, [], rfl, rfl, fun h => absurd h (by omega), fun j X h => by simp at h, Nat.zero_le _⟩
  · simp [Value.cells] at hcs
    obtain ⟨rfl, rfl, rfl⟩ := hcs
    simp only [if_true] at hz
    obtain ⟨b, off, spot⟩ := a
    refine ⟨_, len, cap, b, off, ss.take len, rfl, by simp; omega, fun h0 => ?_, fun j X hX => ?_, by omega⟩
    · have hspot : spot = none := by simpa [Addr.add] using World.cell?_spot (hcell 0 (by omega))
      subst hspot
      exact ⟨rfl, by
        have := World.block_lt_of_cell? W _ (hcell 0 (by omega))
        simpa [Addr.add] using this⟩
    · have hj : j < len := by
        have := (List.getElem?_eq_some_iff.1 hX).1
        simp at this
        omega
      have hspot : spot = none := by simpa [Addr.add] using World.cell?_spot (hcell 0 (by omega))
      subst hspot
      have h := hcell j (by omega)
      have e1 : (⟨b, off, none⟩ : Addr).add j = ⟨b, off + j, none⟩ := by unfold Addr.add; split <;> simp_all
      rw [e1] at h
      rw [h, List.getD_eq_getElem?_getD]
      rw [List.getElem?_take, if_pos hj] at hX
      rw [hX]; rfl

theorem Hs.below {w w' : World} {g : Nat} {t : List UInt8} (h : Hs w g t) (hb : Below w.heap.size w w') : Hs w' g t := ⟨CellsF.below h.1 hb h.2, Nat.lt_of_lt_of_le h.2 hb.size⟩
theorem grown_below {B : Nat} {a w w' : World} {g : Nat} (h : Below B a w) (hg : w.grownBy w' (some g)) (hB : B ≤ g) (hs : B ≤ w.heap.size) : Below B a w' :=
  h.grown hg hs (fun k hk => by injection hk with hk; omega)

set_option maxRecDepth 100000 in
set_option maxHeartbeats 8000000 in
theorem pieces_walk {H : Type} {enc : TypeId × Value → H} {base : Nat} (w : World) (v : Value) (d : DataW H) (p : List MemPlace) (k : DataW.Trod enc Try.prog w 0 (fun _ => true) true 24 v d p) (ok : Value.okWide Try.prog w .any base 24 v) :
    Calls Try.prog 4 #[v] w fun e w' => e = .returned (.bool true) ∧ Below w.heap.size w w' := by
  obtain ⟨a0, len, cap, b, off, Xs, rfl, hXl, hA, hcells, hmax⟩ := open_strs Try.underlying24 Try.underlying9 (by kernel_rfl) k ok
  unfold maxLen at hmax
  clear k ok
  have HA := Lib.hid hA
  have HX := Lib.hid hXl
  have HC := Lib.hid hcells
  clear hA hXl hcells
  go_enter Try.func4, Try.ntmps4
  go_wp2_with (go_at_call 13; refine (new_any _).mono ?_; rintro e w1 ⟨g, rfl, hg, hh, hb1⟩)
  have HH := Lib.hid hh
  have HB := Lib.hid hb1
  clear hh hb1
  go_loopw [4, 5] (fun tv iv wr => ∃ (i : Nat) (T : ByteArray), i ≤ len ∧ i ≤ 40 ∧ iv = .int .i64 i ∧ tv = .string T ∧ T.size ≤ 500 * i ∧ Hid (Hs wr g T.data.toList) ∧ Hid (Below w.heap.size w wr)) (fun _ iv _ => 40 - (intOf iv).toNat)
  case atStart => exact ⟨0, ByteArray.empty, by omega, by omega, rfl, rfl, by simp, HH, HB⟩
  case round =>
    clear HH HB
    obtain ⟨i, T, hi, hi40, rfl, rfl, hT, HH, HB⟩ := hrel
    by_cases hlt : i < len ∧ i < 40
    · obtain ⟨hlt, hlt40⟩ := hlt
      obtain ⟨rfl, hbw⟩ := HA.out (by omega)
      have hXi : i < Xs.length := by rw [HX.out]; exact hlt
      have hc0 := HC.out i Xs[i] (List.getElem?_eq_getElem hXi)
      have hc := (HB.out.cell (p := ⟨b, off + i, none⟩) hbw).trans hc0
      clear hc0
      generalize Xs[i] = X at *
      clear hXi
      by_cases hbig : 500 < X.size
      · have hbig' : (500 : Int) < X.size := by omega
        go_wp2
        go_ret
        exact ⟨rfl, HB.out⟩
      · have hbig' : ¬ (500 : Int) < X.size := by omega
        have hTl : T.data.toList.length = T.size := len_toList T
        have cW := Lib.hid (fun w h => write_any g T.data.toList X w h (by rw [hTl]; omega))
        have hap : (T ++ X).data.toList = T.data.toList ++ X.data.toList := app_list _ _
        rw [← hap] at cW
        have hsz : (T ++ X).size = T.size + X.size := ByteArray.size_append
        have hl2 : (T ++ X).data.toList.length = (T ++ X).size := len_toList _
        have y1 : ¬ 9223372036854775807 < T.size + X.size := by omega
        have cS := Lib.hid (fun w h => sumH_any g (T ++ X).data.toList w h (by rw [hl2]; omega))
        have cR := Lib.hid (fun w => refSum_any (T ++ X) (by omega) w)
        have cL := fun w h => len_any g (T ++ X).data.toList w h
        rw [hl2] at cL
        have CL := Lib.hid cL
        have hsz2 : (T ++ X).size ≤ 500 * (i + 1) := by omega
        clear hTl hap hsz hl2 cL
        go_wp2_with fail
        refine (cW.out _ HH.out).mono ?_
        rintro e w2 ⟨⟨v2, rfl⟩, hh2, hb2⟩
        have HH2 := Lib.hid hh2
        have HB2 := Lib.hid (grown_below HB.out hb2 hg HB.out.size)
        have hc2 : w2.cell? ⟨b, off + i, none⟩ = some (.string X) := by
          have h0 := HC.out i
          exact (HB2.out.cell (p := ⟨b, off + i, none⟩) hbw).trans ((HB.out.cell (p := ⟨b, off + i, none⟩) hbw).symm.trans hc)
        clear hh2 hb2 hc
        by_cases h3 : i % 3 = 0
        · have t1 : ((i : Int) % 3 == 0) = true := by rw [beq_iff_eq]; omega
          go_wp2_with fail
          refine (cS.out _ HH2.out).mono ?_
          rintro e w3 ⟨rfl, hb3⟩
          have HH3 := Lib.hid ((show Hs w3 g (T ++ X).data.toList from ⟨CellsF.below HH2.out.1 hb3 HH2.out.2, Nat.lt_of_lt_of_le HH2.out.2 hb3.size⟩))
          have HB3 := Lib.hid (below_step HB2.out hb3)
          clear hb3
          generalize hmd : mkS (md5 (T ++ X).data.toList) = M at *
          clear hmd
          go_wp2_with fail
          refine (cR.out _).mono ?_
          rintro e w4 ⟨rfl, hb4⟩
          have HH4 := Lib.hid ((show Hs w4 g (T ++ X).data.toList from ⟨CellsF.below HH3.out.1 hb4 HH3.out.2, Nat.lt_of_lt_of_le HH3.out.2 hb4.size⟩))
          have HB4 := Lib.hid (below_step HB3.out hb4)
          clear hb4
          go_wp2_with fail
          refine (CL.out _ HH4.out).mono ?_
          rintro e w5 ⟨rfl, rfl⟩
          go_wp2_with fail
          go_roundw
          case rel => exact ⟨i + 1, T ++ X, by omega, by omega, by go_num, rfl, hsz2, HH4, HB4⟩
          case measure => simp [intOf]; omega
        · have t1 : ((i : Int) % 3 == 0) = false := by rw [beq_eq_false_iff_ne]; omega
          go_wp2_with fail
          refine (CL.out _ HH2.out).mono ?_
          rintro e w5 ⟨rfl, rfl⟩
          go_wp2_with fail
          go_roundw
          case rel => exact ⟨i + 1, T ++ X, by omega, by omega, by go_num, rfl, hsz2, HH2, HB2⟩
          case measure => simp [intOf]; omega
    · have hTl : T.data.toList.length = T.size := len_toList T
      have cS := Lib.hid (fun w h => sumH_any g T.data.toList w h (by rw [hTl]; omega))
      have cR := Lib.hid (fun w => refSum_any T (by omega) w)
      have cP := Lib.hid (fun w => sum_any T (by omega) w)
      have hnot : i < len → ¬ i < 40 := fun h1 h2 => hlt ⟨h1, h2⟩
      have hgw := HH.out.2
      generalize mkS (md5 T.data.toList) = M at *
      clear hTl hlt
      by_cases h1 : i < len
      · have h2 := hnot h1
        clear hnot
        go_wp2_with fail
        refine (cS.out _ HH.out).mono ?_
        rintro e w2 ⟨rfl, hb2⟩
        have HH2 := Lib.hid (Hs.below HH.out hb2)
        have HB2 := Lib.hid (below_step HB.out hb2)
        clear hb2
        go_wp2_with fail
        refine (cP.out _).mono ?_
        rintro e w3 ⟨rfl, hb3⟩
        have HH3 := Lib.hid (Hs.below HH2.out hb3)
        have HB3 := Lib.hid (below_step HB2.out hb3)
        clear hb3
        go_wp2_with fail
        refine (cS.out _ HH3.out).mono ?_
        rintro e w4 ⟨rfl, hb4⟩
        have HB4 := Lib.hid (below_step HB3.out hb4)
        clear hb4
        go_wp2_with fail
        refine (cR.out _).mono ?_
        rintro e w5 ⟨rfl, hb5⟩
        go_wp2_with fail
        go_ret
        exact ⟨rfl, below_step HB4.out hb5⟩
      · clear hnot
        go_wp2_with fail
        refine (cS.out _ HH.out).mono ?_
        rintro e w2 ⟨rfl, hb2⟩
        have HH2 := Lib.hid (Hs.below HH.out hb2)
        have HB2 := Lib.hid (below_step HB.out hb2)
        clear hb2
        go_wp2_with fail
        refine (cP.out _).mono ?_
        rintro e w3 ⟨rfl, hb3⟩
        have HH3 := Lib.hid (Hs.below HH2.out hb3)
        have HB3 := Lib.hid (below_step HB2.out hb3)
        clear hb3
        go_wp2_with fail
        refine (cS.out _ HH3.out).mono ?_
        rintro e w4 ⟨rfl, hb4⟩
        have HB4 := Lib.hid (below_step HB3.out hb4)
        clear hb4
        go_wp2_with fail
        refine (cR.out _).mono ?_
        rintro e w5 ⟨rfl, hb5⟩
        go_wp2_with fail
        go_ret
        exact ⟨rfl, below_step HB4.out hb5⟩
end Go.Proofs.Yteheibgdjpkeaaa
