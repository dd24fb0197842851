/- tree: the reference's All, Weight; whether an element is too great. No condition. -/
import Derived.Test.YtgechifbbhipaaaDoorTrY
set_option linter.unusedVariables false
set_option linter.unusedSimpArgs false
namespace Go.Proofs.YtgechifbbhipaaaDoor
open Go.RowKit

/-- a list that holds elements with how deep each lies -/
def ListP (M B : Nat) (L : List (Nat × Tr)) (l : Value) (w : World) : Prop := ∃ a c xs, l = .slice a L.length c ∧ w.ownsRow B 106 6 (.slice a L.length c) L.length xs ∧ PrL w M L xs
theorem PrL.at {w : World} {M B : Nat} {L : List (Nat × Tr)} {a : Option Addr} {c : Nat} {xs : List Value} (ho : w.ownsRow B 106 6 (.slice a L.length c) L.length xs) (hp : PrL w M L xs) (i : Nat) (hi : i < L.length) :
    ∃ g a' c', a = some ⟨g, 0, none⟩ ∧ w.rangeAt g (i * 6) [.int .i64 (L[i].1 : Int), .int .i64 L[i].2.page, .string L[i].2.name, .string L[i].2.text, .bool L[i].2.opq, .slice a' L[i].2.kids.length c'] ∧
      AtT w M L[i].2 (.agg #[.int .i64 L[i].2.page, .string L[i].2.name, .string L[i].2.text, .bool L[i].2.opq, .slice a' L[i].2.kids.length c']) := by
  obtain ⟨a', c', h1, h2⟩ := hp.get i hi
  rcases ho.2 with ⟨_, h0⟩ | ⟨g, cap, cur, hv, hrest⟩
  · omega
  · simp only [Value.slice.injEq] at hv
    obtain ⟨rfl, _, rfl⟩ := hv
    refine ⟨g, a', c', rfl, fun j v hv => ?_, h2⟩
    have h3 : xs[i * 6 + j]? = some v := by
      have h4 : ((xs.drop (i * 6)).take 6)[j]? = some v := by rw [h1]; exact hv
      rw [List.getElem?_take] at h4
      split at h4
      · rwa [List.getElem?_drop] at h4
      · cases h4
    have := ho.cells (g := g) rfl (i * 6 + j) v h3
    rwa [show (⟨g, 0, none⟩ : Addr).add (i * 6 + j) = ⟨g, i * 6 + j, none⟩ from by unfold Addr.add; split <;> simp_all] at this

theorem all_any (most deepest : Nat) (hmost : most ≤ 5000) (hdst : deepest ≤ 5000) (e : Tr) (v : Value) (w : World) (hv : AtT w w.heap.size e v) :
    Calls Tryd.prog 84 #[v, .int .i64 (most : Int), .int .i64 (deepest : Int)] w fun r w' => (∃ l, r = .returned l ∧ ListP w.heap.size w.heap.size ((preT deepest 1 e).take most) l w') ∧ Below w.heap.size w w' := by
  obtain ⟨s1, s2, s3, a, c, rfl, hk⟩ := hv.parts
  have hal : Below w.heap.size w (w.alloc (.cells #[.int .i64 e.page, .string e.name, .string e.text, .bool e.opq, .slice a e.kids.length c] 46)) := (Below.refl _ w).alloc (Nat.le_refl _) _
  have cA := refAll_any w.heap.size most deepest hmost hdst (hT e) e (Nat.le_refl _) _ 1 [] [] (.slice none 0 0) w.heap.size _ (by decide) (Nat.le_refl _) hal.size (Nat.zero_le _) (AtT.below hal _ _ hv) (World.ownsRow_nil _ _ _ _) rfl
  have hE : addT most [] (preT deepest 1 e) = (preT deepest 1 e).take most := by simp [addT]
  rw [hE] at cA
  have cA := Lib.hid cA
  have HAl := Lib.hid hal
  clear hv hk hal
  go_enter Tryd.func84, Tryd.ntmps84
  go_wp2_with (go_at_call 135; refine cA.out.mono ?_; rintro r w5 ⟨l', xs, rfl, ho, hp, hg, hob⟩)
  obtain ⟨a', c', rfl⟩ := own_form ho
  go_ret
  exact ⟨⟨_, rfl, a', c', xs, rfl, ho, hp⟩, HAl.out.trans ⟨hg.os, hg.tape, hg.output, hg.size, fun k hk => hg.block k (Nat.lt_of_lt_of_le hk HAl.out.size) (fun h => by simp [Value.ownBlock] at h)⟩⟩

theorem refWeight_any (e : Tr) (v : Value) (w : World) (hv : AtT w w.heap.size e v) : Calls Tryd.prog 99 #[v] w fun r w' => r = .returned (.int .i64 (wgt e : Int)) ∧ Below w.heap.size w w' := by
  obtain ⟨s1, s2, s3, a, c, rfl, hk⟩ := hv.parts
  have hal : Below w.heap.size w (w.alloc (.cells #[.int .i64 e.page, .string e.name, .string e.text, .bool e.opq, .slice a e.kids.length c] 46)) := (Below.refl _ w).alloc (Nat.le_refl _) _
  have cA := Lib.hid (all_any 5000 5000 (by decide) (by decide) e _ _ (AtT.mono hal.size _ _ (AtT.below hal _ _ hv)))
  have HAl := Lib.hid hal
  clear hv hk hal
  go_enter Tryd.func99, Tryd.ntmps99
  go_wp2_with (go_at_call 84; refine cA.out.mono ?_; rintro r w5 ⟨⟨l, rfl, a', c', xs, rfl, ho, hp⟩, hb5⟩)
  go_ret
  exact ⟨rfl, HAl.out.trans (hb5.mono HAl.out.size)⟩

/-- is an element too great to be asked -/
def grL : Int → List (Nat × Tr) → Bool
  | _, [] => false
  | n, p :: l => if 30000 < wrap64 (wrap64 (n + (p.2.text.size : Int)) + (p.2.name.size : Int)) ∨ 10000 < (p.2.text.size : Int) ∨ 10000 < (p.2.name.size : Int) ∨ 50 < (p.1 : Int) then true else grL (wrap64 (wrap64 (n + (p.2.text.size : Int)) + (p.2.name.size : Int))) l
def greatV (e : Tr) : Bool := grL 0 ((preT 60 1 e).take 3000) || decide (3000 ≤ ((preT 60 1 e).take 3000).length)
theorem grL_yes {n : Int} {L : List (Nat × Tr)} {i : Nat} (hi : i < L.length) (h : 30000 < wrap64 (wrap64 (n + (L[i].2.text.size : Int)) + (L[i].2.name.size : Int)) ∨ 10000 < (L[i].2.text.size : Int) ∨ 10000 < (L[i].2.name.size : Int) ∨ 50 < (L[i].1 : Int)) : grL n (L.drop i) = true := by
  rw [List.drop_eq_getElem_cons hi, grL, if_pos h]
theorem grL_no {n : Int} {L : List (Nat × Tr)} {i : Nat} (hi : i < L.length) (h : ¬ (30000 < wrap64 (wrap64 (n + (L[i].2.text.size : Int)) + (L[i].2.name.size : Int)) ∨ 10000 < (L[i].2.text.size : Int) ∨ 10000 < (L[i].2.name.size : Int) ∨ 50 < (L[i].1 : Int))) : grL n (L.drop i) = grL (wrap64 (wrap64 (n + (L[i].2.text.size : Int)) + (L[i].2.name.size : Int))) (L.drop (i + 1)) := by
  rw [List.drop_eq_getElem_cons hi, grL, if_neg h]
theorem below_dr0 (B : Nat) (w : World) (q : Nat) : Below B w (w.drewN q) := ⟨rfl, rfl, rfl, Nat.le_refl _, fun _ _ => rfl⟩
theorem below_dr (B : Nat) (w : World) (q r : Nat) : Below B w ((w.drewN q).drewN r) := ⟨rfl, rfl, rfl, Nat.le_refl _, fun _ _ => rfl⟩
set_option maxRecDepth 100000 in
set_option maxHeartbeats 4000000 in
theorem great_any (e : Tr) (v : Value) (w : World) (hv : AtT w w.heap.size e v) : Calls Tryd.prog 27 #[v] w fun r w' => r = .returned (.bool (greatV e)) ∧ Below w.heap.size w w' := by
  obtain ⟨s1, s2, s3, a, c, rfl, hk⟩ := hv.parts
  have hal : Below w.heap.size w (w.alloc (.cells #[.int .i64 e.page, .string e.name, .string e.text, .bool e.opq, .slice a e.kids.length c] 46)) := (Below.refl _ w).alloc (Nat.le_refl _) _
  have cA := all_any 3000 60 (by decide) (by decide) e _ _ (AtT.mono hal.size _ _ (AtT.below hal _ _ hv))
  have HLen : Hid (((preT 60 1 e).take 3000).length ≤ 3000) := by unfold Hid; rw [List.length_take]; omega
  have HG : Hid (greatV e = (grL 0 ((preT 60 1 e).take 3000) || decide (3000 ≤ ((preT 60 1 e).take 3000).length))) := rfl
  generalize (preT 60 1 e).take 3000 = L at *
  generalize greatV e = R at *
  have cA := Lib.hid cA
  have HAl := Lib.hid hal
  clear hv hk hal
  go_enter Tryd.func27, Tryd.ntmps27
  go_wp2_with (go_at_call 84; refine cA.out.mono ?_; rintro r w5 ⟨⟨l, rfl, a', c', xs, rfl, ho, hp⟩, hb5⟩)
  have HO := Lib.hid ho
  have HP := Lib.hid hp
  have HB := Lib.hid (HAl.out.trans (hb5.mono HAl.out.size))
  clear ho hp hb5
  go_loopw [4, 5] (fun nv iv wr => ∃ (n : Int) (i : Nat), i ≤ L.length ∧ nv = .int .i64 n ∧ iv = .int .i64 (i : Int) ∧ (∃ q, wr = w5.drewN q) ∧ Hid (R = (grL n (L.drop i) || decide (3000 ≤ L.length)))) (fun _ iv _ => L.length - (intOf iv).toNat)
  case atStart => exact ⟨0, 0, Nat.zero_le _, rfl, rfl, ⟨0, rfl⟩, by unfold Hid; rw [List.drop_zero]; exact HG.out⟩
  case round =>
    obtain ⟨n, i, hi, rfl, rfl, ⟨q, rfl⟩, HR⟩ := hrel
    by_cases hlt : i < L.length
    · have j3 : (i : Int) < (L.length : Int) := by omega
      have d3 : decide (i < L.length) = true := by simp; omega
      have hL3 : L.length ≤ 3000 := HLen.out
      have hw1 : wrap64 ((i : Int) + 1) = (i : Int) + 1 := by unfold wrap64; omega
      obtain ⟨g, a2, c2, rfl, hrg, hat⟩ := HP.out.at HO.out i hlt
      have y0 : w5.cell? ⟨g, i * 6, none⟩ = _ := hrg 0 _ rfl
      have y2 : w5.cell? ⟨g, i * 6 + 1 + 1, none⟩ = _ := hrg 2 _ rfl
      have y3 : w5.cell? ⟨g, i * 6 + 1 + 2, none⟩ = _ := hrg 3 _ rfl
      clear hrg
      go_wp2_with fail
      go_quiet (fail)
      clear hat
      have HY : Hid (∀ (_ : 30000 < wrap64 (wrap64 (n + (L[i].2.text.size : Int)) + (L[i].2.name.size : Int)) ∨ 10000 < (L[i].2.text.size : Int) ∨ 10000 < (L[i].2.name.size : Int) ∨ 50 < (L[i].1 : Int)), R = true) := fun h => by rw [HR.out, grL_yes hlt h]; rfl
      have HN : Hid (∀ (_ : ¬ (30000 < wrap64 (wrap64 (n + (L[i].2.text.size : Int)) + (L[i].2.name.size : Int)) ∨ 10000 < (L[i].2.text.size : Int) ∨ 10000 < (L[i].2.name.size : Int) ∨ 50 < (L[i].1 : Int))), R = (grL (wrap64 (wrap64 (n + (L[i].2.text.size : Int)) + (L[i].2.name.size : Int))) (L.drop (i + 1)) || decide (3000 ≤ L.length))) := fun h => by rw [HR.out, grL_no hlt h]
      clear HR HG
      generalize wrap64 (wrap64 (n + (L[i].2.text.size : Int)) + (L[i].2.name.size : Int)) = n2 at *
      by_cases c0 : (30000 : Int) < n2
      · have HT := Lib.hid (HY.out (.inl c0))
        go_wp2_with fail
        go_ret
        exact ⟨by rw [HT.out]; rfl, HB.out.trans (below_dr0 _ _ _)⟩
      · by_cases c1 : (10000 : Int) < (L[i].2.text.size : Int)
        · have HT := Lib.hid (HY.out (.inr (.inl c1)))
          go_wp2_with fail
          go_ret
          exact ⟨by rw [HT.out]; rfl, HB.out.trans (below_dr0 _ _ _)⟩
        · by_cases c2 : (10000 : Int) < (L[i].2.name.size : Int)
          · have HT := Lib.hid (HY.out (.inr (.inr (.inl c2))))
            go_wp2_with fail
            go_ret
            exact ⟨by rw [HT.out]; rfl, HB.out.trans (below_dr0 _ _ _)⟩
          · by_cases c3 : (50 : Int) < (L[i].1 : Int)
            · have HT := Lib.hid (HY.out (.inr (.inr (.inr c3))))
              go_wp2_with fail
              go_ret
              exact ⟨by rw [HT.out]; rfl, HB.out.trans (below_dr0 _ _ _)⟩
            · have HT := Lib.hid (HN.out (fun h => h.elim c0 (fun h => h.elim c1 (fun h => h.elim c2 c3))))
              go_wp2_with fail
              go_roundw
              case rel => exact ⟨n2, i + 1, by omega, rfl, by go_num, ⟨q + nq, by first | rfl | rw [World.drewN_drewN]⟩, HT⟩
              case measure => simp [intOf]; omega
    · have j3 : ¬ (i : Int) < (L.length : Int) := by omega
      have d3 : decide (i < L.length) = false := by simp; omega
      have HRd : Hid (R = decide (3000 ≤ L.length)) := by
        have h1 := HR.out
        rw [List.drop_of_length_le (by omega), grL, Bool.false_or] at h1
        exact h1
      by_cases h3 : 3000 ≤ L.length
      · have i3 : (3000 : Int) ≤ (L.length : Int) := by omega
        have HT : Hid (R = true) := by unfold Hid; rw [HRd.out, decide_eq_true h3]
        clear h3
        go_wp2_with fail
        go_ret
        exact ⟨by rw [HT.out]; rfl, HB.out.trans (below_dr0 _ _ _)⟩
      · have i3 : ¬ (3000 : Int) ≤ (L.length : Int) := by omega
        have HT : Hid (R = false) := by unfold Hid; rw [HRd.out, decide_eq_false h3]
        clear h3
        go_wp2_with fail
        go_ret
        exact ⟨by rw [HT.out]; rfl, HB.out.trans (below_dr0 _ _ _)⟩
end Go.Proofs.YtgechifbbhipaaaDoor
