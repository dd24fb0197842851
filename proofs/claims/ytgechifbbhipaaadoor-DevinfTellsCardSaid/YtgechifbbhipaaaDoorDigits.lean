/- figure.Digits: what it hands back. No condition. -/
import Derived.Deep.RegionLaw
import Derived.Test.YtgechifbbhipaaaDoorDigIt
set_option linter.unusedVariables false
set_option linter.unusedSimpArgs false
namespace Go.Proofs.YtgechifbbhipaaaDoor
open Go.RowKit

def hexd (n : Nat) : Int := if n < 10 then (48 + n : Nat) else (55 + n : Nat)

theorem run_hexd64 (n : Nat) (h : n < 16) (w : World) : (Instr.index 9 (.string { data := #[48, 49, 50, 51, 52, 53, 54, 55, 56, 57, 65, 66, 67, 68, 69, 70] }) (.int .i64 (n : Int))).run Tryd.prog w = .ok (.int .u8 (hexd n)) w := by
  have key : ∀ n : Fin 16, ((({ data := #[48, 49, 50, 51, 52, 53, 54, 55, 56, 57, 65, 66, 67, 68, 69, 70] } : ByteArray)[n.val]'(by exact n.isLt)).toNat : Int) = hexd n.val := by decide
  have h2 : (0 : Int) ≤ (n : Int) ∧ (n : Int) < ({ data := #[48, 49, 50, 51, 52, 53, 54, 55, 56, 57, 65, 66, 67, 68, 69, 70] } : ByteArray).size := ⟨by omega, by exact Int.ofNat_lt.2 h⟩
  rw [run_index_string w 9 _ _ _ Tryd.underlying9, dif_pos h2]
  have := key ⟨n, h⟩
  simp only [Int.toNat_natCast]
  rw [this]

/-- digits of m, the lowest first -/
def dl : Nat → Nat → List Int
  | 0, _ => []
  | f + 1, m => hexd (m % 10) :: if m / 10 = 0 then [] else dl f (m / 10)

/-- a number's text -/
def textL (n : Int) : List Int := (if n < 0 then dl 20 n.natAbs ++ [45] else dl 20 n.natAbs).reverse

theorem dl_len (f m : Nat) : (dl f m).length ≤ f := by
  induction f generalizing m with
  | zero => simp [dl]
  | succ f ih =>
    rw [dl]; split
    · simp
    · simp; exact ih _

theorem textL_len (n : Int) : (textL n).length ≤ 21 := by
  have := dl_len 20 n.natAbs
  unfold textL; split <;> simp <;> omega

theorem S43' : Sl1 Tryd.prog 136 5 (.int .u8 0) 1 := S43

theorem digits_fin {n : Int} {w w4 w5 : World} {L : List Int} {m : Nat} {a' : Option Addr} {c' : Nat} (HT : textL n = L.reverse) (hL : L.length = m) (hm : 0 < m)
    (hcn : w4.cell? ⟨w.heap.size, 0, none⟩ = some (.slice a' m c')) (hlt : w.heap.size < w4.heap.size)
    (hown : w5.ownsRow (w.heap.size + 1) 5 1 (.slice a' m c') m (L.reverse.map (Value.int .u8))) (hb5 : Below (w.heap.size + 1) w4 w5) (hB : Below w.heap.size w w4) :
    ∃ (bx g c : Nat), Ending.returned (.func (.func 187) #[] #[.pointer (some ⟨w.heap.size, 0, none⟩)]) = .returned (.func (.func 187) #[] #[.pointer (some ⟨bx, 0, none⟩)]) ∧ w.heap.size ≤ bx ∧ bx < w5.heap.size ∧ w.heap.size ≤ g ∧ g < w5.heap.size ∧
      w5.cell? ⟨bx, 0, none⟩ = some (.slice (some ⟨g, 0, none⟩) (textL n).length c) ∧ ItCells w5 g (textL n) ∧ Below w.heap.size w w5 := by
  obtain ⟨g, rfl⟩ : ∃ g, a' = some ⟨g, 0, none⟩ := by
    rcases hown.2 with ⟨h, h1⟩ | ⟨g, cap, cur, h, _⟩
    · omega
    · simp only [Value.slice.injEq] at h; exact ⟨g, h.1⟩
  have hg := hown.lt g rfl
  have hcell : w5.cell? ⟨w.heap.size, 0, none⟩ = some (.slice (some ⟨g, 0, none⟩) m c') := (hb5.cell (p := ⟨w.heap.size, 0, none⟩) (Nat.lt_succ_self _)).trans hcn
  refine ⟨w.heap.size, g, c', rfl, Nat.le_refl _, Nat.lt_of_lt_of_le hlt hb5.size, by omega, hg.2, ?_, ?_, hB.trans (hb5.mono (Nat.le_succ _))⟩
  · rw [HT, List.length_reverse, hL]; exact hcell
  · intro j hj
    rw [HT, List.length_reverse, hL] at hj
    rw [HT, hown.cellAt j (by omega), List.getElem?_map, List.getElem?_eq_getElem (by simp; omega)]; rfl

set_option maxHeartbeats 2000000 in
theorem digits_any (n : Int) (w : World) (h0 : -9223372036854775808 ≤ n) (h1 : n ≤ 9223372036854775807) :
    Calls Tryd.prog 154 #[.int .i64 n] w fun e w' => ∃ (bx g c : Nat), e = .returned (.func (.func 187) #[] #[.pointer (some ⟨bx, 0, none⟩)]) ∧ w.heap.size ≤ bx ∧ bx < w'.heap.size ∧ w.heap.size ≤ g ∧ g < w'.heap.size ∧
      w'.cell? ⟨bx, 0, none⟩ = some (.slice (some ⟨g, 0, none⟩) (textL n).length c) ∧ ItCells w' g (textL n) ∧ Below w.heap.size w w' := by
  have hmf : ∀ (fn : Fn) (first cap : Array Value) (w : World), (Instr.makeFunc fn first cap).run Tryd.prog w = .ok (.func fn first cap) w := fun _ _ _ _ => rfl
  go_enter Tryd.func154, Tryd.ntmps154
  go_wp2_with fail
  go_loopw [4] (fun x wr => ∃ (r : Int) (f : Nat) (xs : List Int) (ad : Option Addr) (c : Nat), -9223372036854775808 ≤ r ∧ r ≤ 9223372036854775807 ∧ Hid (r.natAbs < 10 ^ (f + 1)) ∧ xs.length + f = 19 ∧ x = .int .i64 r ∧
      wr.cell? ⟨w.heap.size, 0, none⟩ = some (.slice ad xs.length c) ∧ wr.frozen? ⟨w.heap.size, 0, none⟩ = false ∧ wr.ownsRow (w.heap.size + 1) 5 1 (.slice ad xs.length c) xs.length (xs.map (Value.int .u8)) ∧
      w.heap.size + 1 ≤ wr.heap.size ∧ Below w.heap.size w wr ∧ Hid (xs ++ dl (f + 1) r.natAbs = dl 20 n.natAbs)) (fun x _ => (intOf x).natAbs)
  case atStart =>
    refine ⟨n, 19, [], none, 0, h0, h1, ?_, rfl, rfl, ?_, ?_, World.ownsRow_nil _ _ _ _, by simp, (Below.refl _ _).alloc (Nat.le_refl _) _, rfl⟩
    · unfold Hid; omega
    · rw [World.cell?_alloc_at _ _ _ _ rfl]; rfl
    · exact World.frozen?_alloc_at _ _ _ _ rfl
  case round =>
    obtain ⟨r, f, xs, ad, c, hr0, hr1, HF, hxf, rfl, hbox, hfz, hown, hsz, hb, HE⟩ := hrel
    have hd10 : r.natAbs % 10 < 16 := by omega
    have ht : r.tmod 10 = (r.natAbs % 10 : Nat) ∨ r.tmod 10 = -((r.natAbs % 10 : Nat) : Int) := by
      rcases Int.le_total 0 r with h | h
      · left; rw [Int.tmod_eq_emod_of_nonneg h]; omega
      · right; have : r = -((-r)) := by omega
        rw [this, Int.neg_tmod, Int.tmod_eq_emod_of_nonneg (by omega)]; omega
    have hHD : Hid (dl (f + 1) r.natAbs = hexd (r.natAbs % 10) :: if r.natAbs / 10 = 0 then [] else dl f (r.natAbs / 10)) := by unfold Hid; rw [dl]
    have hix := run_hexd64 (r.natAbs % 10) hd10
    have hneg : Hid (∀ t : Int, r.tmod 10 = t → -9 ≤ t ∧ t ≤ 9) := by unfold Hid; intro t h; omega
    obtain ⟨t, hteq⟩ : ∃ t, r.tmod 10 = t := ⟨_, rfl⟩
    have htb := hneg.out t hteq
    rw [hteq] at ht
    have hA : IntKind.i64.wrap (-t) = -t := IntWalk.i64_in _ (by omega)
    have hM : (if t < -t then -t else t) = ((r.natAbs % 10 : Nat) : Int) := by split <;> omega
    have hM2 : max t (-t) = ((r.natAbs % 10 : Nat) : Int) := by omega
    obtain ⟨q, hqeq⟩ : ∃ q, r.tdiv 10 = q := ⟨_, rfl⟩
    have hqa : q.natAbs = r.natAbs / 10 := by
      rcases Int.le_total 0 r with h | h
      · rw [← hqeq, Int.tdiv_eq_ediv_of_nonneg h]; omega
      · have e : r = -((-r)) := by omega
        rw [← hqeq, e, Int.neg_tdiv, Int.tdiv_eq_ediv_of_nonneg (by omega)]; omega
    have hqb : -9223372036854775808 ≤ q ∧ q ≤ 9223372036854775807 := by omega
    obtain ⟨hqb1, hqb2⟩ := hqb
    have HQ := Lib.hid hqa
    rw [← hqa] at hHD
    clear hqa
    generalize r.natAbs % 10 = d at *
    have hX := Lib.hid hown
    have HB := Lib.hid hb
    clear hown hb ht hneg htb
    have hsz2 : w.heap.size < wr.heap.size := by omega
    have hboxA : ((wr.alloc (.cells #[.int .u8 (hexd d)] 5)).drew).cell? ⟨w.heap.size, 0, none⟩ = some (.slice ad xs.length c) := (World.cell?_alloc_past _ _ _ hsz2).trans hbox
    have hfzA : ((wr.alloc (.cells #[.int .u8 (hexd d)] 5)).drew).frozen? ⟨w.heap.size, 0, none⟩ = false := (World.frozen?_alloc_past _ _ _ hsz2).trans hfz
    have hbox2 : wr.drew.cell? ⟨w.heap.size, 0, none⟩ = some (.slice ad xs.length c) := hbox
    have g1 : xs.length + 1 ≤ maxLen := by simp [maxLen]; omega
    have g2 : (xs.length + 1) * 1 ≤ 140737488355328 := by omega
    have g3 : w.heap.size + 1 ≤ (wr.alloc (.cells #[.int .u8 (hexd d)] 5)).drew.heap.size := by simp; omega
    have HXF := Lib.hid hxf
    clear hxf
    by_cases hq0 : q = 0
    · have hqt : (q == 0) = true := by simp [hq0]
      have HL : Hid ((xs ++ [hexd d]) = dl 20 n.natAbs) := by
        unfold Hid; rw [← HE.out, hHD.out, if_pos (by rw [hq0]; rfl)]
      clear hq0
      by_cases hn : n < 0
      · have HT : Hid (textL n = ((xs ++ [hexd d]) ++ [45]).reverse) := by unfold Hid textL; rw [if_pos hn, HL.out]
        have g4 : xs.length + 1 + 1 ≤ maxLen := by have := HXF.out; simp [maxLen]; omega
        have g5 : (xs.length + 1 + 1) * 1 ≤ 140737488355328 := by have := HXF.out; omega
        go_wp2_with fail
        go_region_law (refine step_app rfl _ _ 136 5 _ _ S43 rfl (w.heap.size + 1) (.slice ad xs.length c) _ _ [.int .u8 (hexd d)] rfl wr.heap.size 1 _ rfl rfl (by decide) (by simp [Value.oneCell']) (block_new wr _) (hX.out.alloc _).drew g1 g2 g3 (fun a' c' w3 h1 h2 h3 h4 => ?_); have hcb := (h4.cell (p := ⟨w.heap.size, 0, none⟩) (Nat.lt_succ_self _)).trans hboxA; have hfb := (h4.frozen (p := ⟨w.heap.size, 0, none⟩) (Nat.lt_succ_self _)).trans hfzA)
        all_goals
          have hO : Hid ((w3.setCell ⟨w.heap.size, 0, none⟩ (.slice a' (xs.length + 1) c')).ownsRow (w.heap.size + 1) 5 1 (.slice a' (xs.length + 1) c') (xs.length + 1) ((xs ++ [hexd d]).map (Value.int .u8))) := by
            unfold Hid; rw [List.map_append]; exact ownsRow_setCell_below h1 (Nat.lt_succ_self _) _
          have hB2 : Hid (Below w.heap.size w (w3.setCell ⟨w.heap.size, 0, none⟩ (.slice a' (xs.length + 1) c'))) :=
            (((HB.out.alloc (by omega) _).drew).trans (h4.mono (Nat.le_succ _))).setCell (p := ⟨w.heap.size, 0, none⟩) (Nat.le_refl _) _
          have hcn : (w3.setCell ⟨w.heap.size, 0, none⟩ (.slice a' (xs.length + 1) c')).cell? ⟨w.heap.size, 0, none⟩ = some (.slice a' (xs.length + 1) c') := World.cell?_setCell_same _ _ _ hcb
          have hfn : (w3.setCell ⟨w.heap.size, 0, none⟩ (.slice a' (xs.length + 1) c')).frozen? ⟨w.heap.size, 0, none⟩ = false := (World.frozen?_setCell _ _ _ _).trans hfb
          have hlt : w.heap.size + 1 ≤ (w3.setCell ⟨w.heap.size, 0, none⟩ (.slice a' (xs.length + 1) c')).heap.size := by have := h4.size; simp [World.setCell] at this ⊢; omega
          clear h1 h2 h3 h4 hcb hfb hboxA hfzA hbox2 hbox hfz
          generalize w3.setCell ⟨w.heap.size, 0, none⟩ (.slice a' (xs.length + 1) c') = w4 at *
          go_wp2_with (at_builtin; refine wpList_app1 _ _ rfl _ _ 136 5 _ _ S43 rfl (w.heap.size + 1) (.slice a' (xs.length + 1) c') _ _ rfl rfl rfl hO.out g4 g5 hlt ?_; intro a6 c6 w6 h1 h2 h3 h4; have hcb := (h4.cell (p := ⟨w.heap.size, 0, none⟩) (Nat.lt_succ_self _)).trans hcn; have hfb := (h4.frozen (p := ⟨w.heap.size, 0, none⟩) (Nat.lt_succ_self _)).trans hfn)
          have hO2 : Hid ((w6.setCell ⟨w.heap.size, 0, none⟩ (.slice a6 (xs.length + 1 + 1) c6)).ownsRow (w.heap.size + 1) 5 1 (.slice a6 (xs.length + 1 + 1) c6) (xs.length + 1 + 1) (((xs ++ [hexd d]) ++ [45]).map (Value.int .u8))) := by
            unfold Hid; rw [List.map_append]; exact ownsRow_setCell_below h1 (Nat.lt_succ_self _) _
          have hB3 : Hid (Below w.heap.size w (w6.setCell ⟨w.heap.size, 0, none⟩ (.slice a6 (xs.length + 1 + 1) c6))) :=
            (hB2.out.trans (h4.mono (Nat.le_succ _))).setCell (p := ⟨w.heap.size, 0, none⟩) (Nat.le_refl _) _
          have hcn6 : (w6.setCell ⟨w.heap.size, 0, none⟩ (.slice a6 (xs.length + 1 + 1) c6)).cell? ⟨w.heap.size, 0, none⟩ = some (.slice a6 (xs.length + 1 + 1) c6) := World.cell?_setCell_same _ _ _ hcb
          have hlt6 : w.heap.size < (w6.setCell ⟨w.heap.size, 0, none⟩ (.slice a6 (xs.length + 1 + 1) c6)).heap.size := by have := h4.size; simp [World.setCell] at this ⊢; omega
          clear h1 h2 h3 h4 hcb hfb hcn hfn
          generalize w6.setCell ⟨w.heap.size, 0, none⟩ (.slice a6 (xs.length + 1 + 1) c6) = w7 at *
          go_wp2_with (go_at_call 186; refine (reverse_any (w.heap.size + 1) _ _ _ ((xs ++ [hexd d]) ++ [45]) _ (by have := HXF.out; omega) hO2.out).mono ?_; rintro e w5 ⟨rfl, hown5, hb5⟩)
          go_ret
          exact digits_fin HT.out (by simp) (by omega) hcn6 hlt6 hown5 hb5 hB3.out
      · have HT : Hid (textL n = (xs ++ [hexd d]).reverse) := by unfold Hid textL; rw [if_neg hn, HL.out]
        go_wp2_with fail
        go_region_law (refine step_app rfl _ _ 136 5 _ _ S43 rfl (w.heap.size + 1) (.slice ad xs.length c) _ _ [.int .u8 (hexd d)] rfl wr.heap.size 1 _ rfl rfl (by decide) (by simp [Value.oneCell']) (block_new wr _) (hX.out.alloc _).drew g1 g2 g3 (fun a' c' w3 h1 h2 h3 h4 => ?_); have hcb := (h4.cell (p := ⟨w.heap.size, 0, none⟩) (Nat.lt_succ_self _)).trans hboxA; have hfb := (h4.frozen (p := ⟨w.heap.size, 0, none⟩) (Nat.lt_succ_self _)).trans hfzA)
        all_goals
          have hO : Hid ((w3.setCell ⟨w.heap.size, 0, none⟩ (.slice a' (xs.length + 1) c')).ownsRow (w.heap.size + 1) 5 1 (.slice a' (xs.length + 1) c') (xs.length + 1) ((xs ++ [hexd d]).map (Value.int .u8))) := by
            unfold Hid; rw [List.map_append]; exact ownsRow_setCell_below h1 (Nat.lt_succ_self _) _
          have hB2 : Hid (Below w.heap.size w (w3.setCell ⟨w.heap.size, 0, none⟩ (.slice a' (xs.length + 1) c'))) :=
            (((HB.out.alloc (by omega) _).drew).trans (h4.mono (Nat.le_succ _))).setCell (p := ⟨w.heap.size, 0, none⟩) (Nat.le_refl _) _
          have hcn : (w3.setCell ⟨w.heap.size, 0, none⟩ (.slice a' (xs.length + 1) c')).cell? ⟨w.heap.size, 0, none⟩ = some (.slice a' (xs.length + 1) c') := World.cell?_setCell_same _ _ _ hcb
          have hlt : w.heap.size < (w3.setCell ⟨w.heap.size, 0, none⟩ (.slice a' (xs.length + 1) c')).heap.size := by have := h4.size; simp [World.setCell] at this ⊢; omega
          clear h1 h2 h3 h4 hcb hfb hboxA hfzA hbox2 hbox hfz
          generalize w3.setCell ⟨w.heap.size, 0, none⟩ (.slice a' (xs.length + 1) c') = w4 at *
          go_wp2_with (go_at_call 186; refine (reverse_any (w.heap.size + 1) _ _ _ (xs ++ [hexd d]) _ (by omega) hO.out).mono ?_; rintro e w5 ⟨rfl, hown5, hb5⟩)
          go_ret
          exact digits_fin HT.out (by simp) (by omega) hcn hlt hown5 hb5 hB2.out
    · have hqt : (q == 0) = false := by simp [hq0]
      obtain ⟨f, rfl⟩ : ∃ f', f = f' + 1 := by
        cases f with
        | zero => have := HF.out; have := HQ.out; exfalso; apply hq0; omega
        | succ f => exact ⟨f, rfl⟩
      have HE2 : Hid ((xs ++ [hexd d]) ++ dl (f + 1) q.natAbs = dl 20 n.natAbs) := by
        unfold Hid; rw [← HE.out, hHD.out, if_neg (by omega)]; simp
      have HF2 : Hid (q.natAbs < 10 ^ (f + 1)) := by
        unfold Hid; rw [HQ.out]; have := HF.out; rw [Nat.pow_succ] at this; exact Nat.div_lt_of_lt_mul (by omega)
      have HM : Hid (q.natAbs < r.natAbs) := by unfold Hid; have := HQ.out; omega
      clear hq0
      go_wp2_with fail
      go_region_law (refine step_app rfl _ _ 136 5 _ _ S43 rfl (w.heap.size + 1) (.slice ad xs.length c) _ _ [.int .u8 (hexd d)] rfl wr.heap.size 1 _ rfl rfl (by decide) (by simp [Value.oneCell']) (block_new wr _) (hX.out.alloc _).drew g1 g2 g3 (fun a' c' w3 h1 h2 h3 h4 => ?_); have hcb := (h4.cell (p := ⟨w.heap.size, 0, none⟩) (Nat.lt_succ_self _)).trans hboxA; have hfb := (h4.frozen (p := ⟨w.heap.size, 0, none⟩) (Nat.lt_succ_self _)).trans hfzA)
      all_goals
        have hO : Hid ((w3.setCell ⟨w.heap.size, 0, none⟩ (.slice a' (xs.length + 1) c')).ownsRow (w.heap.size + 1) 5 1 (.slice a' (xs.length + 1) c') (xs.length + 1) ((xs ++ [hexd d]).map (Value.int .u8))) := by
          unfold Hid; rw [List.map_append]; exact ownsRow_setCell_below h1 (Nat.lt_succ_self _) _
        have hB2 : Hid (Below w.heap.size w (w3.setCell ⟨w.heap.size, 0, none⟩ (.slice a' (xs.length + 1) c'))) :=
          (((HB.out.alloc (by omega) _).drew).trans (h4.mono (Nat.le_succ _))).setCell (p := ⟨w.heap.size, 0, none⟩) (Nat.le_refl _) _
        have hcn : Hid ((w3.setCell ⟨w.heap.size, 0, none⟩ (.slice a' (xs.length + 1) c')).cell? ⟨w.heap.size, 0, none⟩ = some (.slice a' (xs.length + 1) c')) := World.cell?_setCell_same _ _ _ hcb
        have hfn : Hid ((w3.setCell ⟨w.heap.size, 0, none⟩ (.slice a' (xs.length + 1) c')).frozen? ⟨w.heap.size, 0, none⟩ = false) := (World.frozen?_setCell _ _ _ _).trans hfb
        have hlt : w.heap.size + 1 ≤ (w3.setCell ⟨w.heap.size, 0, none⟩ (.slice a' (xs.length + 1) c')).heap.size := by have := h4.size; simp [World.setCell] at this ⊢; omega
        clear h1 h2 h3 h4 hcb hfb hboxA hfzA hbox2 hbox hfz
        generalize w3.setCell ⟨w.heap.size, 0, none⟩ (.slice a' (xs.length + 1) c') = w4 at *
        go_wp2_with fail
        go_roundw
        case rel => exact ⟨q, f, xs ++ [hexd d], a', c', hqb1, hqb2, HF2.out, by have := HXF.out; simp; omega, rfl, by rw [List.length_append]; exact hcn.out, hfn.out, by rw [List.length_append]; exact hO.out, hlt, hB2.out, HE2.out⟩
        case measure => simp [intOf]; exact HM.out
end Go.Proofs.YtgechifbbhipaaaDoor
