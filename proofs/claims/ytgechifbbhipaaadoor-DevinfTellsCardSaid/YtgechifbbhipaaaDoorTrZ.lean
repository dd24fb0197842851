/- tree: the reference's All, Weight; whether an element is too great. No condition. -/
import Derived.Test.YtgechifbbhipaaaDoorTrX
set_option linter.unusedVariables false
set_option linter.unusedSimpArgs false
namespace Go.Proofs.YtgechifbbhipaaaDoor
open Go.RowKit

/-- a list that holds elements with how deep each lies -/
def ListP (M B : Nat) (L : List (Nat × Tr)) (l : Value) (w : World) : Prop := ∃ a c xs, l = .slice a L.length c ∧ w.ownsRow B 106 6 (.slice a L.length c) L.length xs ∧ PrL w M L xs
theorem PrL.at {w : World} {M B : Nat} {L : List (Nat × Tr)} {a : Option Addr} {c : Nat} {xs : List Value} (ho : w.ownsRow B 106 6 (.slice a L.length c) L.length xs) (hp : PrL w M L xs) (i : Nat) (hi : i < L.length) :
    ∃ g a' c', a = some ⟨g, 0, none⟩ ∧ w.rangeAt g (i * 6) [.int .i64 (L[i].1 : Int), .int .i64 L[i].2.page, .string L[i].2.name, .string L[i].2.text, .bool L[i].2.opq, .slice a' L[i].2.kids.length c'] ∧
      AtT w M L[i].2 (.agg #[.int .i64 L[i].2.page, .string L[i].2.name, .string L[i].2.text, .bool L[i].2.opq, .slice a' L[i].2.kids.length c']) := by
  obtain ⟨a', c', h1, h2⟩ := hp.get i hi
  rcases ho.2 with ⟨_, h0⟩ | ⟨g, cap, cur, hv, hrest⟩
  · omega
  · simp only [Value.slice.injEq] at hv
    obtain ⟨rfl, _, rfl⟩ := hv
    refine ⟨g, a', c', rfl, fun j v hv => ?_, h2⟩
    have h3 : xs[i * 6 + j]? = some v := by
      have h4 : ((xs.drop (i * 6)).take 6)[j]? = some v := by rw [h1]; exact hv
      rw [List.getElem?_take] at h4
      split at h4
      · rwa [List.getElem?_drop] at h4
      · cases h4
    have := ho.cells (g := g) rfl (i * 6 + j) v h3
    rwa [show (⟨g, 0, none⟩ : Addr).add (i * 6 + j) = ⟨g, i * 6 + j, none⟩ from by unfold Addr.add; split <;> simp_all] at this

theorem all_any (most deepest : Nat) (hmost : most ≤ 5000) (hdst : deepest ≤ 5000) (e : Tr) (v : Value) (w : World) (hv : AtT w w.heap.size e v) :
    Calls Tryd.prog 84 #[v, .int .i64 (most : Int), .int .i64 (deepest : Int)] w fun r w' => (∃ l, r = .returned l ∧ ListP w.heap.size w.heap.size ((preT deepest 1 e).take most) l w') ∧ Below w.heap.size w w' := by
  obtain ⟨s1, s2, s3, a, c, rfl, hk⟩ := hv.parts
  have hal : Below w.heap.size w (w.alloc (.cells #[.int .i64 e.page, .string e.name, .string e.text, .bool e.opq, .slice a e.kids.length c] 46)) := (Below.refl _ w).alloc (Nat.le_refl _) _
  have cA := refAll_any w.heap.size most deepest hmost hdst (hT e) e (Nat.le_refl _) _ 1 [] [] (.slice none 0 0) w.heap.size _ (by decide) (Nat.le_refl _) hal.size (Nat.zero_le _) (AtT.below hal _ _ hv) (World.ownsRow_nil _ _ _ _) rfl
  have hE : addT most [] (preT deepest 1 e) = (preT deepest 1 e).take most := by simp [addT]
  rw [hE] at cA
  have cA := Lib.hid cA
  have HAl := Lib.hid hal
  clear hv hk hal
  go_enter Tryd.func84, Tryd.ntmps84
  go_wp2_with (go_at_call 135; refine cA.out.mono ?_; rintro r w5 ⟨l', xs, rfl, ho, hp, hg, hob⟩)
  obtain ⟨a', c', rfl⟩ := own_form ho
  go_ret
  exact ⟨⟨_, rfl, a', c', xs, rfl, ho, hp⟩, HAl.out.trans ⟨hg.os, hg.tape, hg.output, hg.size, fun k hk => hg.block k (Nat.lt_of_lt_of_le hk HAl.out.size) (fun h => by simp [Value.ownBlock] at h)⟩⟩

theorem refWeight_any (e : Tr) (v : Value) (w : World) (hv : AtT w w.heap.size e v) : Calls Tryd.prog 99 #[v] w fun r w' => r = .returned (.int .i64 (wgt e : Int)) ∧ Below w.heap.size w w' := by
  obtain ⟨s1, s2, s3, a, c, rfl, hk⟩ := hv.parts
  have hal : Below w.heap.size w (w.alloc (.cells #[.int .i64 e.page, .string e.name, .string e.text, .bool e.opq, .slice a e.kids.length c] 46)) := (Below.refl _ w).alloc (Nat.le_refl _) _
  have cA := Lib.hid (all_any 5000 5000 (by decide) (by decide) e _ _ (AtT.mono hal.size _ _ (AtT.below hal _ _ hv)))
  have HAl := Lib.hid hal
  clear hv hk hal
  go_enter Tryd.func99, Tryd.ntmps99
  go_wp2_with (go_at_call 84; refine cA.out.mono ?_; rintro r w5 ⟨⟨l, rfl, a', c', xs, rfl, ho, hp⟩, hb5⟩)
  go_ret
  exact ⟨rfl, HAl.out.trans (hb5.mono HAl.out.size)⟩

/-- is an element too great to be asked -/
def grL : Int → List (Nat × Tr) → Bool
  | _, [] => false
  | n, p :: l => if 30000 < wrap64 (wrap64 (n + (p.2.text.size : Int)) + (p.2.name.size : Int)) ∨ 10000 < (p.2.text.size : Int) ∨ 10000 < (p.2.name.size : Int) ∨ 50 < (p.1 : Int) then true else grL (wrap64 (wrap64 (n + (p.2.text.size : Int)) + (p.2.name.size : Int))) l
def greatV (e : Tr) : Bool := grL 0 ((preT 60 1 e).take 3000) || decide (3000 ≤ ((preT 60 1 e).take 3000).length)
theorem grL_yes {n : Int} {L : List (Nat × Tr)} {i : Nat} (hi : i < L.length) (h : 30000 < wrap64 (wrap64 (n + (L[i].2.text.size : Int)) + (L[i].2.name.size : Int)) ∨ 10000 < (L[i].2.text.size : Int) ∨ 10000 < (L[i].2.name.size : Int) ∨ 50 < (L[i].1 : Int)) : grL n (L.drop i) = true := by
  rw [List.drop_eq_getElem_cons hi, grL, if_pos h]
theorem grL_no {n : Int} {L : List (Nat × Tr)} {i : Nat} (hi : i < L.length) (h : ¬ (30000 < wrap64 (wrap64 (n + (L[i].2.text.size : Int)) + (L[i].2.name.size : Int)) ∨ 10000 < (L[i].2.text.size : Int) ∨ 10000 < (L[i].2.name.size : Int) ∨ 50 < (L[i].1 : Int))) : grL n (L.drop i) = grL (wrap64 (wrap64 (n + (L[i].2.text.size : Int)) + (L[i].2.name.size : Int))) (L.drop (i + 1)) := by
  rw [List.drop_eq_getElem_cons hi, grL, if_neg h]
theorem below_dr0 (B : Nat) (w : World) (q : Nat) : Below B w (w.drewN q) := ⟨rfl, rfl, rfl, Nat.le_refl _, fun _ _ => rfl⟩
theorem below_dr (B : Nat) (w : World) (q r : Nat) : Below B w ((w.drewN q).drewN r) := ⟨rfl, rfl, rfl, Nat.le_refl _, fun _ _ => rfl⟩
set_option maxRecDepth 100000 in
set_option maxHeartbeats 4000000 in
theorem great_any (e : Tr) (v : Value) (w : World) (hv : AtT w w.heap.size e v) : Calls Tryd.prog 27 #[v] w fun r w' => r = .returned (.bool (greatV e)) ∧ Below w.heap.size w w' := by
  obtain ⟨s1, s2, s3, a, c, rfl, hk⟩ := hv.parts
  have hal : Below w.heap.size w (w.alloc (.cells #[.int .i64 e.page, .string e.name, .string e.text, .bool e.opq, .slice a e.kids.length c] 46)) := (Below.refl _ w).alloc (Nat.le_refl _) _
  have cA := all_any 3000 60 (by decide) (by decide) e _ _ (AtT.mono hal.size _ _ (AtT.below hal _ _ hv))
  have HLen : Hid (((preT 60 1 e).take 3000).length ≤ 3000) := by unfold Hid; rw [List.length_take]; omega
  have HG : Hid (greatV e = (grL 0 ((preT 60 1 e).take 3000) || decide (3000 ≤ ((preT 60 1 e).take 3000).length))) := rfl
  generalize (preT 60 1 e).take 3000 = L at *
  generalize greatV e = R at *
  have cA := Lib.hid cA
  have HAl := Lib.hid hal
  clear hv hk hal
  go_enter Tryd.func27, Tryd.ntmps27
  go_wp2_with (go_at_call 84; refine cA.out.mono ?_; rintro r w5 ⟨⟨l, rfl, a', c', xs, rfl, ho, hp⟩, hb5⟩)
  have HO := Lib.hid ho
  have HP := Lib.hid hp
  have HB := Lib.hid (HAl.out.trans (hb5.mono HAl.out.size))
  clear ho hp hb5
  go_loopw [4, 5] (fun nv iv wr => ∃ (n : Int) (i : Nat), i ≤ L.length ∧ nv = .int .i64 n ∧ iv = .int .i64 (i : Int) ∧ (∃ q, wr = w5.drewN q) ∧ Hid (R = (grL n (L.drop i) || decide (3000 ≤ L.length)))) (fun _ iv _ => L.length - (intOf iv).toNat)
  case atStart => exact ⟨0, 0, Nat.zero_le _, rfl, rfl, ⟨0, rfl⟩, by unfold Hid; rw [List.drop_zero]; exact HG.out⟩
  case round =>
    obtain ⟨n, i, hi, rfl, rfl, ⟨q, rfl⟩, HR⟩ := hrel
    by_cases hlt : i < L.length
    · have j3 : (i : Int) < (L.length : Int) := by omega
      have d3 : decide (i < L.length) = true := by simp; omega
      have hL3 : L.length ≤ 3000 := HLen.out
      have hw1 : wrap64 ((i : Int) + 1) = (i : Int) + 1 := by unfold wrap64; omega
      obtain ⟨g, a2, c2, rfl, hrg, hat⟩ := HP.out.at HO.out i hlt
      have y0 : w5.cell? ⟨g, i * 6, none⟩ = _ := hrg 0 _ rfl
      have y2 : w5.cell? ⟨g, i * 6 + 1 + 1, none⟩ = _ := hrg 2 _ rfl
      have y3 : w5.cell? ⟨g, i * 6 + 1 + 2, none⟩ = _ := hrg 3 _ rfl
      clear hrg
      go_wp2_with fail
      go_quiet (fail)
      clear hat
      have HY : Hid (∀ (_ : 30000 < wrap64 (wrap64 (n + (L[i].2.text.size : Int)) + (L[i].2.name.size : Int)) ∨ 10000 < (L[i].2.text.size : Int) ∨ 10000 < (L[i].2.name.size : Int) ∨ 50 < (L[i].1 : Int)), R = true) := fun h => by rw [HR.out, grL_yes hlt h]; rfl
      have HN : Hid (∀ (_ : ¬ (30000 < wrap64 (wrap64 (n + (L[i].2.text.size : Int)) + (L[i].2.name.size : Int)) ∨ 10000 < (L[i].2.text.size : Int) ∨ 10000 < (L[i].2.name.size : Int) ∨ 50 < (L[i].1 : Int))), R = (grL (wrap64 (wrap64 (n + (L[i].2.text.size : Int)) + (L[i].2.name.size : Int))) (L.drop (i + 1)) || decide (3000 ≤ L.length))) := fun h => by rw [HR.out, grL_no hlt h]
      clear HR HG
      generalize wrap64 (wrap64 (n + (L[i].2.text.size : Int)) + (L[i].2.name.size : Int)) = n2 at *
      by_cases c0 : (30000 : Int) < n2
      · have HT := Lib.hid (HY.out (.inl c0))
        go_wp2_with fail
        go_ret
        exact ⟨by rw [HT.out]; rfl, HB.out.trans (below_dr0 _ _ _)⟩
      · by_cases c1 : (10000 : Int) < (L[i].2.text.size : Int)
        · have HT := Lib.hid (HY.out (.inr (.inl c1)))
          go_wp2_with fail
          go_ret
          exact ⟨by rw [HT.out]; rfl, HB.out.trans (below_dr0 _ _ _)⟩
        · by_cases c2 : (10000 : Int) < (L[i].2.name.size : Int)
          · have HT := Lib.hid (HY.out (.inr (.inr (.inl c2))))
            go_wp2_with fail
            go_ret
            exact ⟨by rw [HT.out]; rfl, HB.out.trans (below_dr0 _ _ _)⟩
          · by_cases c3 : (50 : Int) < (L[i].1 : Int)
            · have HT := Lib.hid (HY.out (.inr (.inr (.inr c3))))
              go_wp2_with fail
              go_ret
              exact ⟨by rw [HT.out]; rfl, HB.out.trans (below_dr0 _ _ _)⟩
            · have HT := Lib.hid (HN.out (fun h => h.elim c0 (fun h => h.elim c1 (fun h => h.elim c2 c3))))
              go_wp2_with fail
              go_roundw
              case rel => exact ⟨n2, i + 1, by omega, rfl, by go_num, ⟨q + nq, by first | rfl | rw [World.drewN_drewN]⟩, HT⟩
              case measure => simp [intOf]; omega
    · have j3 : ¬ (i : Int) < (L.length : Int) := by omega
      have d3 : decide (i < L.length) = false := by simp; omega
      have HRd : Hid (R = decide (3000 ≤ L.length)) := by
        have h1 := HR.out
        rw [List.drop_of_length_le (by omega), grL, Bool.false_or] at h1
        exact h1
      by_cases h3 : 3000 ≤ L.length
      · have i3 : (3000 : Int) ≤ (L.length : Int) := by omega
        have HT : Hid (R = true) := by unfold Hid; rw [HRd.out, decide_eq_true h3]
        clear h3
        go_wp2_with fail
        go_ret
        exact ⟨by rw [HT.out]; rfl, HB.out.trans (below_dr0 _ _ _)⟩
      · have i3 : ¬ (3000 : Int) ≤ (L.length : Int) := by omega
        have HT : Hid (R = false) := by unfold Hid; rw [HRd.out, decide_eq_false h3]
        clear h3
        go_wp2_with fail
        go_ret
        exact ⟨by rw [HT.out]; rfl, HB.out.trans (below_dr0 _ _ _)⟩
end Go.Proofs.YtgechifbbhipaaaDoor

/- tree: what is wrong with an element, the reference's Check. No condition. -/
set_option linter.unusedVariables false
set_option linter.unusedSimpArgs false
namespace Go.Proofs.YtgechifbbhipaaaDoor
open Go.RowKit

theorem firstC_append (A B : List (Nat × Tr)) : firstC (A ++ B) = if firstC A = 0 then firstC B else firstC A := by
  induction A with
  | nil => show firstC B = if (0 : Int) = 0 then firstC B else 0; rw [if_pos rfl]
  | cons x l ih =>
    rw [List.cons_append, firstC, firstC, ih]
    by_cases h : chkT x.2 = 0
    · rw [if_pos h, if_pos h]
    · rw [if_neg h, if_neg h, if_neg h]
theorem firstC_at {L : List (Nat × Tr)} {i : Nat} {v : Int} (hi : i < L.length) (h0 : firstC (L.take i) = 0) (hv : chkT L[i].2 = v) (hn : v ≠ 0) : firstC L = v := by
  have h2 : L = L.take i ++ L[i] :: L.drop (i + 1) := by rw [← List.drop_eq_getElem_cons hi, List.take_append_drop]
  have h3 : firstC L = firstC (L.take i ++ L[i] :: L.drop (i + 1)) := congrArg _ h2
  rw [h3, firstC_append, if_pos h0, firstC, if_neg (by rw [hv]; exact hn), hv]
theorem firstC_next {L : List (Nat × Tr)} {i : Nat} (hi : i < L.length) (h0 : firstC (L.take i) = 0) (hv : chkT L[i].2 = 0) : firstC (L.take (i + 1)) = 0 := by
  rw [List.take_succ_eq_append_getElem hi, firstC_append, if_pos h0, firstC, if_pos hv]; rfl
theorem deepC_le (L : List (Nat × Tr)) (m : Nat) : L.foldl (fun m p => max m p.1) m ≤ 12 ↔ m ≤ 12 ∧ ∀ p ∈ L, p.1 ≤ 12 := by
  induction L generalizing m with
  | nil => simp
  | cons x l ih =>
    rw [List.foldl_cons, ih]
    constructor
    · rintro ⟨h1, h2⟩
      refine ⟨by omega, fun p hp => ?_⟩
      rcases List.mem_cons.1 hp with rfl | hp
      · omega
      · exact h2 p hp
    · rintro ⟨h1, h2⟩
      have := h2 x (List.mem_cons_self)
      exact ⟨by omega, fun p hp => h2 p (List.mem_cons_of_mem _ hp)⟩
theorem deepC_no {L : List (Nat × Tr)} (h : ∀ j (hj : j < L.length), ¬ 12 < L[j].1) : ¬ 12 < deepC L := by
  have : deepC L ≤ 12 := (deepC_le L 0).2 ⟨by omega, fun p hp => by
    obtain ⟨j, hj, rfl⟩ := List.getElem_of_mem hp
    have := h j hj; omega⟩
  omega
theorem deepC_yes {L : List (Nat × Tr)} {j : Nat} (hj : j < L.length) (h : 12 < L[j].1) : 12 < deepC L := by
  apply Decidable.byContradiction
  intro hn
  have := ((deepC_le L 0).1 (by unfold deepC at hn; omega)).2 _ (List.getElem_mem hj)
  omega

set_option maxRecDepth 100000 in
set_option maxHeartbeats 8000000 in
theorem refCheck_any (e : Tr) (v : Value) (w : World) (hv : AtT w w.heap.size e v) : Calls Tryd.prog 34 #[v] w fun r w' => r = .returned (.int .i64 (chkA e)) ∧ Below w.heap.size w w' := by
  obtain ⟨s1, s2, s3, a, c, rfl, hk⟩ := hv.parts
  have hal : Below w.heap.size w (w.alloc (.cells #[.int .i64 e.page, .string e.name, .string e.text, .bool e.opq, .slice a e.kids.length c] 46)) := (Below.refl _ w).alloc (Nat.le_refl _) _
  have cA := all_any 5000 13 (by decide) (by decide) e _ _ (AtT.mono hal.size _ _ (AtT.below hal _ _ hv))
  have HLen : Hid (((preT 13 1 e).take 5000).length ≤ 5000) := by unfold Hid; rw [List.length_take]; omega
  have HE : Hid (chkA e = if 12 < deepC ((preT 13 1 e).take 5000) then 9 else if 2000 < wgt e then 4 else firstC ((preT 13 1 e).take 5000)) := rfl
  generalize (preT 13 1 e).take 5000 = L at *
  have cW := Lib.hid (fun (X : World) (hX : Below w.heap.size w X) => refWeight_any e _ X (AtT.mono hX.size _ _ (AtT.below hX _ _ hv)))
  have cA := Lib.hid cA
  have HAl := Lib.hid hal
  generalize chkA e = R at *
  generalize hwg : wgt e = wg at *
  clear hv hk hal hwg
  go_enter Tryd.func34, Tryd.ntmps34
  go_wp2_with (go_at_call 84; refine cA.out.mono ?_; rintro r w5 ⟨⟨l, rfl, a', c', xs, rfl, ho, hp⟩, hb5⟩)
  have HO := Lib.hid ho
  have HP := Lib.hid hp
  have HB := Lib.hid (HAl.out.trans (hb5.mono HAl.out.size))
  have hbx : Hid (w5.rangeAt w.heap.size 0 [.int .i64 e.page, .string e.name, .string e.text, .bool e.opq, .slice a e.kids.length c]) := fun j v hv => by
    rw [hb5.cell (p := ⟨w.heap.size, 0 + j, none⟩) (by show w.heap.size < _; simp), World.cell?_alloc_at _ _ _ _ rfl]
    simpa using hv
  clear ho hp hb5
  have hL5 : L.length ≤ 5000 := HLen.out
  go_loopw [4] (fun iv wr => ∃ (i : Nat), i ≤ L.length ∧ iv = .int .i64 (i : Int) ∧ Hid (∀ j (hj : j < L.length), j < i → ¬ 12 < L[j].1) ∧ w5 = wr) (fun iv _ => L.length - (intOf iv).toNat)
  case atStart => exact ⟨0, Nat.zero_le _, rfl, fun _ _ h => absurd h (Nat.not_lt_zero _), rfl⟩
  case round =>
    obtain ⟨i, hi, rfl, HJ, rfl⟩ := hrel
    by_cases hlt : i < L.length
    · have j3 : (i : Int) < (L.length : Int) := by omega
      have d3 : decide (i < L.length) = true := by simp; omega
      have hw1 : wrap64 ((i : Int) + 1) = (i : Int) + 1 := by unfold wrap64; omega
      obtain ⟨g, a2, c2, rfl, hrg, hat⟩ := HP.out.at HO.out i hlt
      have y0 : w5.cell? ⟨g, i * 6, none⟩ = _ := hrg 0 _ rfl
      clear hrg hat
      by_cases hd : 12 < L[i].1
      · have i12 : (12 : Int) < (L[i].1 : Int) := by omega
        have HR : Hid (R = 9) := by unfold Hid; rw [HE.out, if_pos (deepC_yes hlt hd)]
        go_wp2_with fail
        go_ret
        exact ⟨by rw [HR.out]; rfl, HB.out⟩
      · have i12 : ¬ (12 : Int) < (L[i].1 : Int) := by omega
        have HJ2 : Hid (∀ j (hj : j < L.length), j < i + 1 → ¬ 12 < L[j].1) := fun j hj h => by
          by_cases e : j = i
          · subst e; exact hd
          · exact HJ.out j hj (by omega)
        go_wp2_with fail
        go_roundw
        case rel => exact ⟨i + 1, by omega, by go_num, HJ2, trivial⟩
        case measure => simp [intOf]; omega
    · have j3 : ¬ (i : Int) < (L.length : Int) := by omega
      have d3 : decide (i < L.length) = false := by simp; omega
      have HE2 : Hid (R = if 2000 < wg then 4 else firstC L) := by unfold Hid; rw [HE.out, if_neg (deepC_no (fun j hj => HJ.out j hj (by omega)))]
      obtain ⟨x0, x1, x2, x3, x4⟩ := elem_cells hbx.out
      rw [Nat.zero_add] at x1 x2 x3 x4
      clear HJ hlt hi j3 hL5
      have cW2 := Lib.hid (cW.out w5 HB.out)
      by_cases hw2 : 2000 < wg
      · have iw2 : (2000 : Int) < (wg : Int) := Int.ofNat_lt.2 hw2
        have HR : Hid (R = 4) := by unfold Hid; rw [HE2.out, if_pos hw2]
        clear hw2
        have j3 : ¬ (i : Int) < (L.length : Int) := by simpa using d3
        go_wp2_with (go_at_call 99; refine cW2.out.mono ?_; rintro r w6 ⟨rfl, hb6⟩)
        go_ret
        exact ⟨by rw [HR.out]; rfl, HB.out.trans (hb6.mono HB.out.size)⟩
      · have iw2 : ¬ (2000 : Int) < (wg : Int) := fun h => hw2 (Int.ofNat_lt.1 h)
        have HR : Hid (R = firstC L) := by unfold Hid; rw [HE2.out, if_neg hw2]
        clear hw2
        have j3 : ¬ (i : Int) < (L.length : Int) := by simpa using d3
        go_wp2_with (go_at_call 99; refine cW2.out.mono ?_; rintro r w6 ⟨rfl, hb6⟩)
        have HB6 := Lib.hid (HB.out.trans (hb6.mono HB.out.size))
        have HO6 : Hid (w6.ownsRow (w.alloc (.cells #[.int .i64 e.page, .string e.name, .string e.text, .bool e.opq, .slice a e.kids.length c] 46)).heap.size 106 6 (.slice a' L.length c') L.length xs) := owns_below HO.out hb6 (fun k hk => (HO.out.lt k hk).2)
        have HM5 : Hid ((w.alloc (.cells #[.int .i64 e.page, .string e.name, .string e.text, .bool e.opq, .slice a e.kids.length c] 46)).heap.size ≤ w5.heap.size) := by
          unfold Hid
          have h9 := World.block_lt_of_cell? _ _ x0
          rw [World.size_alloc]; exact h9
        have HM6 : Hid ((w.alloc (.cells #[.int .i64 e.page, .string e.name, .string e.text, .bool e.opq, .slice a e.kids.length c] 46)).heap.size ≤ w6.heap.size) := Nat.le_trans HM5.out hb6.size
        have HP6 : Hid (PrL w6 (w.alloc (.cells #[.int .i64 e.page, .string e.name, .string e.text, .bool e.opq, .slice a e.kids.length c] 46)).heap.size L xs) := HP.out.below (hb6.mono HM5.out)
        clear hb6 HO HP HB hbx x0 x1 x2 x3 x4 cW cW2 cA HE HE2 j3 d3 iw2
        generalize (w.alloc (.cells #[.int .i64 e.page, .string e.name, .string e.text, .bool e.opq, .slice a e.kids.length c] 46)).heap.size = M at *
        go_loopw [5] (fun iv wr => ∃ (k : Nat), k ≤ L.length ∧ iv = .int .i64 (k : Int) ∧ Hid (firstC (L.take k) = 0) ∧ Hid (Below w6.heap.size w6 wr)) (fun iv _ => L.length - (intOf iv).toNat)
        case atStart => exact ⟨0, Nat.zero_le _, rfl, rfl, Below.refl _ _⟩
        case round =>
          obtain ⟨k, hk, rfl, HF, HW⟩ := hrel
          by_cases hlt : k < L.length
          · have HOw := Lib.hid (owns_below HO6.out HW.out (fun k hk => (HO6.out.lt k hk).2))
            have HMw : Hid (M ≤ w6.heap.size) := HM6.out
            have HPw := Lib.hid (HP6.out.below (HW.out.mono HMw.out))
            have hL5 : L.length ≤ 5000 := HLen.out
            have j3 : (k : Int) < (L.length : Int) := by omega
            have d3 : decide (k < L.length) = true := by simp; omega
            have hw1 : wrap64 ((k : Int) + 1) = (k : Int) + 1 := by unfold wrap64; omega
            have HK1 : Hid (k + 1 ≤ L.length) := hlt
            have HMs : Hid (L.length - (intOf (.int .i64 ((k : Int) + 1))).toNat < L.length - (intOf (.int .i64 (k : Int))).toNat) := by unfold Hid; simp [intOf]; omega
            obtain ⟨g, a2, c2, rfl, hrg, hat⟩ := HPw.out.at HOw.out k hlt
            have HHit : Hid (∀ v, chkT L[k].2 = v → v ≠ 0 → R = v) := fun v h1 h2 => by rw [HR.out]; exact firstC_at hlt HF.out h1 h2
            have HNxt : Hid (chkT L[k].2 = 0 → firstC (L.take (k + 1)) = 0) := fun h1 => firstC_next hlt HF.out h1
            have y1 : wr.cell? ⟨g, k * 6 + 1, none⟩ = _ := hrg 1 _ rfl
            have y2 : wr.cell? ⟨g, k * 6 + 1 + 1, none⟩ = _ := hrg 2 _ rfl
            have y3 : wr.cell? ⟨g, k * 6 + 1 + 2, none⟩ = _ := hrg 3 _ rfl
            have y4 : wr.cell? ⟨g, k * 6 + 1 + 3, none⟩ = _ := hrg 4 _ rfl
            have y5 : wr.cell? ⟨g, k * 6 + 1 + 4, none⟩ = _ := hrg 5 _ rfl
            obtain ⟨t1, t2, t3, _⟩ := hat.parts
            have hbn : Hid (Below wr.heap.size wr (wr.alloc (.cells #[.int .i64 L[k].2.page, .string L[k].2.name, .string L[k].2.text, .bool L[k].2.opq, .slice a2 L[k].2.kids.length c2] 46))) := (Below.refl _ wr).alloc (Nat.le_refl _) _
            have HBn : Hid (Below w6.heap.size w6 (wr.alloc (.cells #[.int .i64 L[k].2.page, .string L[k].2.name, .string L[k].2.text, .bool L[k].2.opq, .slice a2 L[k].2.kids.length c2] 46))) := HW.out.trans (hbn.out.mono HW.out.size)
            clear hrg hat HOw HPw HO6 HP6 HF HW HR hL5
            unfold chkT at HHit HNxt
            generalize L[k].2.page = p at *
            generalize L[k].2.name = nm at *
            generalize L[k].2.text = tx at *
            generalize L[k].2.opq = oq at *
            generalize L[k].2.kids.length = n at *
            have cN := Lib.hid (fun w => refName_any nm w)
            have HC : Hid (chkV p nm tx oq n = if p < 0 ∨ 3 ≤ p then 5 else if nameB nm = false then 14 else if 200 < n then 4 else if 0 < n ∧ tx.size ≠ 0 then 7 else if 4000 < tx.size then 8 else if (oq = true ∧ tx.size = 0) ∨ (oq = false ∧ shownB tx = false) then 3 else 0) := rfl
            generalize chkV p nm tx oq n = V at *
            by_cases h1 : p < 0
            · have HV := Lib.hid (HC.out.trans (if_pos (.inl h1)))
              have HR := Lib.hid (HHit.out 5 HV.out (by decide))
              clear HHit HNxt HV
              go_wp2_with fail
              go_ret
              exact ⟨by rw [HR.out]; rfl, HB6.out.trans (HBn.out.mono HB6.out.size)⟩
            by_cases h2 : 3 ≤ p
            · have HV := Lib.hid (HC.out.trans (if_pos (.inr h2)))
              have h2p : 2 < p := by omega
              have HR := Lib.hid (HHit.out 5 HV.out (by decide))
              clear HHit HNxt HV
              go_wp2_with fail
              go_ret
              exact ⟨by rw [HR.out]; rfl, HB6.out.trans (HBn.out.mono HB6.out.size)⟩
            have h2n : ¬ 2 < p := by omega
            have HC2 := Lib.hid (HC.out.trans (if_neg (by omega)))
            clear HC h2
            cases hn : nameB nm with
            | false =>
              have HV := Lib.hid (HC2.out.trans (if_pos hn))
              rw [hn] at cN
              clear HC2 hn
              have HR := Lib.hid (HHit.out 14 HV.out (by decide))
              clear HHit HNxt HV
              go_wp2_with (go_at_call 100; refine (cN.out _).mono ?_; rintro r w7 ⟨rfl, rfl⟩)
              go_ret
              exact ⟨by rw [HR.out]; rfl, HB6.out.trans (HBn.out.mono HB6.out.size)⟩
            | true =>
              have HC3 := Lib.hid (HC2.out.trans (if_neg (by rw [hn]; simp)))
              rw [hn] at cN
              clear HC2 hn
              by_cases h3 : 200 < n
              · have HV := Lib.hid (HC3.out.trans (if_pos h3))
                have i3 : (200 : Int) < n := by omega
                have HR := Lib.hid (HHit.out 4 HV.out (by decide))
                clear HHit HNxt HV
                go_wp2_with (go_at_call 100; refine (cN.out _).mono ?_; rintro r w7 ⟨rfl, rfl⟩)
                go_ret
                exact ⟨by rw [HR.out]; rfl, HB6.out.trans (HBn.out.mono HB6.out.size)⟩
              have i3 : ¬ (200 : Int) < n := by omega
              have HC4 := Lib.hid (HC3.out.trans (if_neg h3))
              clear HC3
              by_cases h4 : 0 < n ∧ tx.size ≠ 0
              · have HV := Lib.hid (HC4.out.trans (if_pos h4))
                have i4 : (0 : Int) < n := by omega
                have he := not_empty tx h4.2
                have HR := Lib.hid (HHit.out 7 HV.out (by decide))
                clear HHit HNxt HV
                go_wp2_with (go_at_call 100; refine (cN.out _).mono ?_; rintro r w7 ⟨rfl, rfl⟩)
                go_ret
                exact ⟨by rw [HR.out]; rfl, HB6.out.trans (HBn.out.mono HB6.out.size)⟩
              have HC5 := Lib.hid (HC4.out.trans (if_neg h4))
              clear HC4
              by_cases hn0 : n = 0
              · have i4 : ¬ (0 : Int) < (n : Int) := by omega
                have d4 : decide (0 < n) = false := by simp; omega
                clear hn0 h4
                by_cases h5 : 4000 < tx.size
                · have HV := Lib.hid (HC5.out.trans (if_pos h5))
                  have i5 : (4000 : Int) < tx.size := by omega
                  have HR := Lib.hid (HHit.out 8 HV.out (by decide))
                  clear HHit HNxt HV
                  go_wp2_with (go_at_call 100; refine (cN.out _).mono ?_; rintro r w7 ⟨rfl, rfl⟩)
                  go_ret
                  exact ⟨by rw [HR.out]; rfl, HB6.out.trans (HBn.out.mono HB6.out.size)⟩
                have i5 : ¬ (4000 : Int) < tx.size := by omega
                have HC6 := Lib.hid (HC5.out.trans (if_neg h5))
                clear HC5
                have cS := Lib.hid (fun w => refShown_any tx (by omega) w)
                cases oq with
                | true =>
                  by_cases h6 : tx.size = 0
                  · have HV := Lib.hid (HC6.out.trans (if_pos (.inl ⟨rfl, h6⟩)))
                    have he := emptyB tx h6
                    have HR := Lib.hid (HHit.out 3 HV.out (by decide))
                    clear HHit HNxt HV
                    go_wp2_with (go_at_call 100; refine (cN.out _).mono ?_; rintro r w7 ⟨rfl, rfl⟩)
                    go_ret
                    exact ⟨by rw [HR.out]; rfl, HB6.out.trans (HBn.out.mono HB6.out.size)⟩
                  · have HV := Lib.hid (HC6.out.trans (if_neg (by simp [h6])))
                    have he := not_empty tx h6
                    have HF2 := Lib.hid (HNxt.out HV.out)
                    clear HHit HNxt HV
                    go_wp2_with (go_at_call 100; refine (cN.out _).mono ?_; rintro r w7 ⟨rfl, rfl⟩)
                    go_roundw
                    case rel => exact ⟨k + 1, HK1.out, by go_num, HF2, HBn⟩
                    case measure => (rw [hw1]; exact HMs.out)
                | false =>
                  cases hsh : shownB tx with
                  | false =>
                    have HV := Lib.hid (HC6.out.trans (if_pos (.inr ⟨rfl, hsh⟩)))
                    rw [hsh] at cS
                    clear HC6 hsh
                    have HR := Lib.hid (HHit.out 3 HV.out (by decide))
                    clear HHit HNxt HV
                    go_wp2_with (first | (go_at_call 100; refine (cN.out _).mono ?_; rintro r w7 ⟨rfl, rfl⟩) | (go_at_call 101; refine (cS.out _).mono ?_; rintro r w8 ⟨rfl, hb8⟩))
                    go_ret
                    exact ⟨by rw [HR.out]; rfl, (HB6.out.trans (HBn.out.mono HB6.out.size)).trans (hb8.mono (Nat.le_trans HB6.out.size HBn.out.size))⟩
                  | true =>
                    have HV := Lib.hid (HC6.out.trans (if_neg (by rw [hsh]; simp)))
                    rw [hsh] at cS
                    clear HC6 hsh
                    have HF2 := Lib.hid (HNxt.out HV.out)
                    clear HHit HNxt HV
                    go_wp2_with (first | (go_at_call 100; refine (cN.out _).mono ?_; rintro r w7 ⟨rfl, rfl⟩) | (go_at_call 101; refine (cS.out _).mono ?_; rintro r w8 ⟨rfl, hb8⟩))
                    go_roundw
                    case rel => exact ⟨k + 1, HK1.out, by go_num, HF2, HBn.out.trans (hb8.mono HBn.out.size)⟩
                    case measure => (rw [hw1]; exact HMs.out)
              · have i4 : (0 : Int) < (n : Int) := by omega
                have h60 : tx.size = 0 := by omega
                have he0 := emptyB tx h60
                clear hn0 h4
                have h5 : ¬ 4000 < tx.size := by omega
                have i5 : ¬ (4000 : Int) < tx.size := by omega
                have HC6 := Lib.hid (HC5.out.trans (if_neg h5))
                clear HC5
                have cS := Lib.hid (fun w => refShown_any tx (by omega) w)
                cases oq with
                | true =>
                  have HV := Lib.hid (HC6.out.trans (if_pos (.inl ⟨rfl, h60⟩)))
                  have HR := Lib.hid (HHit.out 3 HV.out (by decide))
                  clear HHit HNxt HV
                  go_wp2_with (go_at_call 100; refine (cN.out _).mono ?_; rintro r w7 ⟨rfl, rfl⟩)
                  go_ret
                  exact ⟨by rw [HR.out]; rfl, HB6.out.trans (HBn.out.mono HB6.out.size)⟩
                | false =>
                  cases hsh : shownB tx with
                  | false =>
                    have HV := Lib.hid (HC6.out.trans (if_pos (.inr ⟨rfl, hsh⟩)))
                    rw [hsh] at cS
                    clear HC6 hsh
                    have HR := Lib.hid (HHit.out 3 HV.out (by decide))
                    clear HHit HNxt HV
                    go_wp2_with (first | (go_at_call 100; refine (cN.out _).mono ?_; rintro r w7 ⟨rfl, rfl⟩) | (go_at_call 101; refine (cS.out _).mono ?_; rintro r w8 ⟨rfl, hb8⟩))
                    go_ret
                    exact ⟨by rw [HR.out]; rfl, (HB6.out.trans (HBn.out.mono HB6.out.size)).trans (hb8.mono (Nat.le_trans HB6.out.size HBn.out.size))⟩
                  | true =>
                    have HV := Lib.hid (HC6.out.trans (if_neg (by rw [hsh]; simp)))
                    rw [hsh] at cS
                    clear HC6 hsh
                    have HF2 := Lib.hid (HNxt.out HV.out)
                    clear HHit HNxt HV
                    go_wp2_with (first | (go_at_call 100; refine (cN.out _).mono ?_; rintro r w7 ⟨rfl, rfl⟩) | (go_at_call 101; refine (cS.out _).mono ?_; rintro r w8 ⟨rfl, hb8⟩))
                    go_roundw
                    case rel => exact ⟨k + 1, HK1.out, by go_num, HF2, HBn.out.trans (hb8.mono HBn.out.size)⟩
                    case measure => (rw [hw1]; exact HMs.out)
          · have j3 : ¬ (k : Int) < (L.length : Int) := by omega
            have d3 : decide (k < L.length) = false := by simp; omega
            have HR0 : Hid (R = 0) := by
              have h1 := HF.out
              rw [List.take_of_length_le (by omega)] at h1
              unfold Hid; rw [HR.out, h1]
            go_wp2_with fail
            go_ret
            exact ⟨by rw [HR0.out]; rfl, HB6.out.trans (HW.out.mono HB6.out.size)⟩
end Go.Proofs.YtgechifbbhipaaaDoor

/- tree in plain words: what is made of right ones is right. No condition. -/
set_option linter.unusedVariables false
set_option linter.unusedSimpArgs false
namespace Go.Proofs.YtgechifbbhipaaaDoor
open Go.RowKit

mutual
theorem preT_shift (m : Nat) : ∀ (d : Nat) (e : Tr), preT (m + 1) (d + 1) e = (preT m d e).map fun p => (p.1 + 1, p.2)
  | d, .mk p n t o ks => by
    rw [preT, preT]
    by_cases h : m < d
    · rw [if_pos h, if_pos (by omega)]; rfl
    · rw [if_neg h, if_neg (by omega), List.map_cons, preL_shift m (d + 1) ks]
theorem preL_shift (m : Nat) : ∀ (d : Nat) (ks : List Tr), preL (m + 1) (d + 1) ks = (preL m d ks).map fun p => (p.1 + 1, p.2)
  | _, [] => by rw [preL, preL]; rfl
  | d, k :: ks => by rw [preL, preL, List.map_append, preT_shift m d k, preL_shift m d ks]
end
mutual
theorem preT_full {m m' : Nat} : ∀ (d : Nat) (e : Tr), d + hT e ≤ m + 1 → d + hT e ≤ m' + 1 → preT m d e = preT m' d e
  | d, .mk p n t o ks => fun h1 h2 => by
    rw [hT] at h1 h2
    rw [preT, preT, if_neg (by omega), if_neg (by omega), preL_full (m := m) (m' := m') (d + 1) ks (by omega) (by omega)]
theorem preL_full {m m' : Nat} : ∀ (d : Nat) (ks : List Tr), d + hL ks ≤ m + 1 → d + hL ks ≤ m' + 1 → preL m d ks = preL m' d ks
  | _, [] => fun _ _ => by rw [preL, preL]
  | d, k :: ks => fun h1 h2 => by
    rw [hL] at h1 h2
    rw [preL, preL, preT_full (m := m) (m' := m') d k (by omega) (by omega), preL_full (m := m) (m' := m') d ks (by omega) (by omega)]
end
mutual
theorem deep_hT {m : Nat} : ∀ (d : Nat) (e : Tr), d ≤ m + 1 → (∀ p ∈ preT (m + 1) d e, p.1 ≤ m) → d + hT e ≤ m + 1
  | d, .mk p n t o ks => fun h1 h2 => by
    rw [preT, if_neg (by omega)] at h2
    have h3 : d ≤ m := h2 _ (List.mem_cons_self)
    have h4 := deep_hL (d + 1) ks (by omega) (fun q hq => h2 q (List.mem_cons_of_mem _ hq))
    rw [hT]; omega
theorem deep_hL {m : Nat} : ∀ (d : Nat) (ks : List Tr), d ≤ m + 1 → (∀ p ∈ preL (m + 1) d ks, p.1 ≤ m) → d + hL ks ≤ m + 1
  | _, [] => fun h1 _ => by rw [hL]; omega
  | d, k :: ks => fun h1 h2 => by
    rw [preL] at h2
    have h3 := deep_hT d k h1 (fun q hq => h2 q (List.mem_append_left _ hq))
    have h4 := deep_hL d ks h1 (fun q hq => h2 q (List.mem_append_right _ hq))
    rw [hL]; omega
end
mutual
theorem preT_len {m m' : Nat} (hm : m ≤ m') : ∀ (d : Nat) (e : Tr), (preT m d e).length ≤ (preT m' d e).length
  | d, .mk p n t o ks => by
    rw [preT, preT]
    by_cases h : m < d
    · rw [if_pos h]; exact Nat.zero_le _
    · rw [if_neg h, if_neg (by omega), List.length_cons, List.length_cons]
      exact Nat.succ_le_succ (preL_len hm (d + 1) ks)
theorem preL_len {m m' : Nat} (hm : m ≤ m') : ∀ (d : Nat) (ks : List Tr), (preL m d ks).length ≤ (preL m' d ks).length
  | _, [] => by rw [preL]; exact Nat.zero_le _
  | d, k :: ks => by
    rw [preL, preL, List.length_append, List.length_append]
    exact Nat.add_le_add (preT_len hm d k) (preL_len hm d ks)
end
mutual
theorem preT_le (m : Nat) : ∀ (d : Nat) (e : Tr), ∀ p ∈ preT m d e, p.1 ≤ m
  | d, .mk p n t o ks => fun q hq => by
    rw [preT] at hq
    by_cases h : m < d
    · rw [if_pos h] at hq; cases hq
    · rw [if_neg h] at hq
      rcases List.mem_cons.1 hq with rfl | hq
      · exact Nat.le_of_not_lt h
      · exact preL_le m (d + 1) ks q hq
theorem preL_le (m : Nat) : ∀ (d : Nat) (ks : List Tr), ∀ p ∈ preL m d ks, p.1 ≤ m
  | _, [] => fun q hq => by rw [preL] at hq; cases hq
  | d, k :: ks => fun q hq => by
    rw [preL] at hq
    rcases List.mem_append.1 hq with hq | hq
    · exact preT_le m d k q hq
    · exact preL_le m d ks q hq
end
theorem preL_mem {m d : Nat} {ks : List Tr} {k : Tr} (hk : k ∈ ks) : ∀ p ∈ preT m d k, p ∈ preL m d ks := by
  induction ks with
  | nil => cases hk
  | cons x l ih =>
    intro p hp
    rw [preL]
    rcases List.mem_cons.1 hk with rfl | h
    · exact List.mem_append_left _ hp
    · exact List.mem_append_right _ (ih h p hp)
theorem preL_of {m d : Nat} {ks : List Tr} {p : Nat × Tr} (h : p ∈ preL m d ks) : ∃ k ∈ ks, p ∈ preT m d k := by
  induction ks with
  | nil => rw [preL] at h; cases h
  | cons x l ih =>
    rw [preL] at h
    rcases List.mem_append.1 h with h | h
    · exact ⟨x, List.mem_cons_self, h⟩
    · obtain ⟨k, h1, h2⟩ := ih h
      exact ⟨k, List.mem_cons_of_mem _ h1, h2⟩
theorem preL_lenk {m d : Nat} {ks : List Tr} {k : Tr} (hk : k ∈ ks) : (preT m d k).length ≤ (preL m d ks).length := by
  induction ks with
  | nil => cases hk
  | cons x l ih =>
    rw [preL, List.length_append]
    rcases List.mem_cons.1 hk with rfl | h
    · omega
    · have := ih h; omega
theorem firstC_zero {L : List (Nat × Tr)} : firstC L = 0 ↔ ∀ p ∈ L, chkT p.2 = 0 := by
  induction L with
  | nil => simp [firstC]
  | cons x l ih =>
    rw [firstC]
    by_cases h : chkT x.2 = 0
    · rw [if_pos h, ih]; simp [h]
    · rw [if_neg h]; simp [h]
theorem deepC_all {L : List (Nat × Tr)} (h : ¬ 12 < deepC L) : ∀ p ∈ L, p.1 ≤ 12 := ((deepC_le L 0).1 (by unfold deepC at h; omega)).2

/-- an element that is neither too deep nor too heavy: its elements, all told -/
theorem chkA_plain {e : Tr} (h1 : ¬ 12 < deepC ((preT 13 1 e).take 5000)) (h2 : ¬ 2000 < wgt e) : hT e ≤ 12 ∧ (preT 13 1 e).take 5000 = preT 13 1 e ∧ (preT 5000 1 e).length ≤ 2000 := by
  have h3 : (preT 5000 1 e).length ≤ 2000 := by unfold wgt at h2; omega
  have h4 := preT_len (show 13 ≤ 5000 by omega) 1 e
  have h5 : (preT 13 1 e).take 5000 = preT 13 1 e := List.take_of_length_le (by omega)
  rw [h5] at h1
  have := deep_hT (m := 12) 1 e (by omega) (deepC_all h1)
  exact ⟨by omega, h5, h3⟩
theorem chkA_of {e : Tr} (h1 : hT e ≤ 12) (h2 : (preT 5000 1 e).length ≤ 2000) : chkA e = firstC (preT 13 1 e) := by
  have h5 : (preT 13 1 e).take 5000 = preT 13 1 e := List.take_of_length_le (by have := preT_len (show 13 ≤ 5000 by omega) 1 e; omega)
  unfold chkA
  rw [h5]
  have hd : ¬ 12 < deepC (preT 13 1 e) := by
    have h6 : ∀ p ∈ preT 13 1 e, p.1 ≤ 12 := by
      rw [preT_full (m := 13) (m' := 12) 1 e (by omega) (by omega)]
      exact preT_le 12 1 e
    have := (deepC_le (preT 13 1 e) 0).2 ⟨by omega, h6⟩
    unfold deepC; omega
  rw [if_neg hd, if_neg (by unfold wgt; omega)]

/-- a kid that is wrong makes the whole wrong -/
theorem chkA_kid {e k : Tr} (hk : k ∈ e.kids) (h : chkA k ≠ 0) : chkA e ≠ 0 := by
  intro h0
  have h1 : ¬ 12 < deepC ((preT 13 1 e).take 5000) := fun h => by unfold chkA at h0; rw [if_pos h] at h0; cases h0
  have h2 : ¬ 2000 < wgt e := fun h => by unfold chkA at h0; rw [if_neg h1, if_pos h] at h0; cases h0
  obtain ⟨g1, g2, g3⟩ := chkA_plain h1 h2
  have g4 : firstC (preT 13 1 e) = 0 := by rw [← chkA_of g1 g3]; exact h0
  have hkt := hT_kid hk
  have e1 : preT 5000 1 e = (1, e) :: preL 5000 2 e.kids := preT_in (by omega)
  have e2 : preT 13 1 e = (1, e) :: preL 13 2 e.kids := preT_in (by omega)
  have l1 : (preT 5000 2 k).length ≤ 2000 := by
    have := preL_lenk (m := 5000) (d := 2) hk
    rw [e1, List.length_cons] at g3; omega
  have l2 : (preT 5000 1 k).length ≤ 2000 := by
    rw [preT_shift 4999 1 k, List.length_map] at l1
    rw [preT_full (m := 5000) (m' := 4999) 1 k (by omega) (by omega)]; exact l1
  rw [chkA_of (by omega) l2] at h
  apply h
  rw [firstC_zero] at g4 ⊢
  intro p hp
  rw [preT_full (m := 13) (m' := 12) 1 k (by omega) (by omega)] at hp
  have h5 : (p.1 + 1, p.2) ∈ preT 13 2 k := by
    rw [preT_shift 12 1 k]; exact List.mem_map.2 ⟨p, hp, rfl⟩
  exact g4 (p.1 + 1, p.2) (by rw [e2]; exact List.mem_cons_of_mem _ (preL_mem hk _ h5))

theorem shown_nil : shownB ByteArray.empty = true := by
  have h1 : badS ByteArray.empty = false := rfl
  have h2 : (ltS ByteArray.empty).2 = true := by rw [ltS_nil ByteArray.empty rfl]
  simp [shownB, h1, h2]
/-- what is made of right ones -/
theorem chkA_node {p : Int} {nm : ByteArray} {ks : List Tr} (h : ∀ k ∈ ks, chkA k = 0) : chkA (.mk p nm ByteArray.empty false ks) = 0 ∨ chkA (.mk p nm ByteArray.empty false ks) = 9 ∨ chkA (.mk p nm ByteArray.empty false ks) = 4 ∨ chkA (.mk p nm ByteArray.empty false ks) = 5 ∨ chkA (.mk p nm ByteArray.empty false ks) = 14 := by
  have hks : (Tr.mk p nm ByteArray.empty false ks).kids = ks := rfl
  have hE : chkT (.mk p nm ByteArray.empty false ks) = chkV p nm ByteArray.empty false ks.length := rfl
  generalize he : Tr.mk p nm ByteArray.empty false ks = e at *
  by_cases h1 : 12 < deepC ((preT 13 1 e).take 5000)
  · right; left; unfold chkA; rw [if_pos h1]
  by_cases h2 : 2000 < wgt e
  · right; right; left; unfold chkA; rw [if_neg h1, if_pos h2]
  obtain ⟨g1, g2, g3⟩ := chkA_plain h1 h2
  rw [chkA_of g1 g3, preT_in (by omega), firstC]
  have hc : chkT e = 0 ∨ chkT e = 4 ∨ chkT e = 5 ∨ chkT e = 14 := by
    rw [hE]; unfold chkV
    have hz : ByteArray.empty.size = 0 := rfl
    rw [shown_nil, hz]
    split
    · exact .inr (.inr (.inl rfl))
    split
    · exact .inr (.inr (.inr rfl))
    split
    · exact .inr (.inl rfl)
    simp
  by_cases h0 : chkT e = 0
  · rw [if_pos h0]
    left
    rw [firstC_zero]
    intro q hq
    obtain ⟨k, hk, hq2⟩ := preL_of hq
    have hkt := hT_kid hk
    have h3 := h k (by rw [← hks]; exact hk)
    have e1 : preT 5000 1 e = (1, e) :: preL 5000 2 e.kids := preT_in (by omega)
    have l1 : (preT 5000 2 k).length ≤ 2000 := by
      have := preL_lenk (m := 5000) (d := 2) hk
      rw [e1, List.length_cons] at g3; omega
    have l2 : (preT 5000 1 k).length ≤ 2000 := by
      rw [preT_shift 4999 1 k, List.length_map] at l1
      rw [preT_full (m := 5000) (m' := 4999) 1 k (by omega) (by omega)]; exact l1
    rw [chkA_of (by omega) l2, firstC_zero, preT_full (m := 13) (m' := 12) 1 k (by omega) (by omega)] at h3
    rw [preT_shift 12 1 k] at hq2
    obtain ⟨p2, hp2, rfl⟩ := List.mem_map.1 hq2
    exact h3 p2 hp2
  · rw [if_neg h0]
    rcases hc with hc | hc | hc | hc
    · exact absurd hc h0
    · exact .inr (.inr (.inl hc))
    · exact .inr (.inr (.inr (.inl hc)))
    · exact .inr (.inr (.inr (.inr hc)))
end Go.Proofs.YtgechifbbhipaaaDoor
