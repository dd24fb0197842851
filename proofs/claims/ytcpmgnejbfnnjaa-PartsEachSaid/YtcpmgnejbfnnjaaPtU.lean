/- parts: the walk of PartsTells. No condition but sizes. -/
import Derived.Test.YtcpmgnejbfnnjaaPtT
namespace Go.Proofs.Ytcpmgnejbfnnjaa
open Go.RowKit

/-- an operation whose guard has said yes -/
theorem wpList_guarded {P : Program} {w : World} {ops : Array Oper} {rest : List Oper} {o : Oper} {a : Act} {Q : Exit → Act → World → Prop}
    (hw : Region.wanted o (yielded ops a.tmps) = true) (h : wpList P ops Q ({ o with guard := none } :: rest) a w) : wpList P ops Q (o :: rest) a w := by
  have h0 : Region.wanted { o with guard := none } (yielded ops a.tmps) = true := by simp [Region.wanted]
  unfold wpList at h ⊢
  rw [if_pos h0] at h
  rw [if_pos hw]
  exact h

/-- 'append([]T{}, l...)', l a slice that reads as texts -/
theorem wpList_appTx (w0 : World) {ops : Array Oper} {rest : List Oper} {o : Oper} {a : Act} {Q : Exit → Act → World → Prop}
    (hgd : o.guard = none) (s y : Operand)
    (hop : o.op = Op.call { callee := Callee.builtin Builtin.append, args := #[s, y], argTypes := #[52, 52] })
    (ad : Option Addr) (l : List ByteArray) (c : Nat) (hs : a.eval s = .slice (some ⟨w0.heap.size, 0, none⟩) 0 0) (hy : a.eval y = .slice ad l.length c) (hT : Txts w0 ad l) (hA : ad = none → l = [] ∧ c = 0) (hl : l.length ≤ 100000)
    (hK : ∀ a' c' w', w'.ownsRow w0.heap.size 9 1 (.slice a' l.length c') l.length (l.map Value.string) → Below w0.heap.size w0 w' → wpList Try.prog ops Q rest (a.put o.dst (.slice a' l.length c')) w') :
    wpList Try.prog ops Q (o :: rest) a (w0.alloc (.cells #[] 9)) := by
  have own : (w0.alloc (.cells #[] 9)).ownsRow w0.heap.size 9 1 (.slice (some ⟨w0.heap.size, 0, none⟩) 0 0) 0 [] := owns_lit w0 w0.heap.size 9 [] (Nat.le_refl _) (by decide)
  have hb0 : Below w0.heap.size w0 (w0.alloc (.cells #[] 9)) := (Below.refl _ _).alloc (Nat.le_refl _) _
  have core : ∀ (a1 : Addr), ad = some a1 → (∀ j u, (l.map Value.string)[j]? = some u → (w0.alloc (.cells #[] 9)).cell? (a1.add j) = some u) → wpList Try.prog ops Q (o :: rest) a (w0.alloc (.cells #[] 9)) := fun a1 ha hc => by
    refine wpList_appCore (w0.alloc (.cells #[] 9)) hgd s y 52 9 _ _ S52 hop w0.heap.size (.slice (some ⟨w0.heap.size, 0, none⟩) 0 0) [] (l.map Value.string) hs a1 l.length c (by rw [hy, ha]) (by simp) (fun u hu => by
      obtain ⟨x, _, rfl⟩ := List.mem_map.1 hu; rfl) hc own (by simp [maxLen]; omega) (by simp; omega) (by simp) ?_
    intro a' c' w' h1 h2 h3
    have e1 : ([] : List Value).length + l.length = l.length := by simp
    rw [e1] at h1 ⊢
    exact hK a' c' w' (by simpa using h1) (hb0.grown h2 (by simp) (fun k hk => by cases hk; exact Nat.le_refl _))
  cases ad with
  | none =>
    obtain ⟨rfl, rfl⟩ := hA rfl
    obtain ⟨i0, hi, hz0, hz1, hz2⟩ := info_parts S52.info
    refine wpList_append_own_none hgd s y 52 hop w0.heap.size 9 i0 1 Try.underlying52 hi (.slice (some ⟨w0.heap.size, 0, none⟩) 0 0) 0 [] hs own hy ?_
    exact hK _ _ _ own hb0
  | some a1 =>
    refine core a1 rfl fun j u hu => ?_
    obtain ⟨hj, he⟩ := List.getElem?_eq_some_iff.1 hu
    have hj' : j < l.length := by simpa using hj
    obtain ⟨b, o2, hab, hlt, hc⟩ := hT j hj'
    simp only [Option.some.injEq] at hab
    subst hab
    rw [show (⟨b, o2, none⟩ : Addr).add j = ⟨b, o2 + j, none⟩ from by unfold Addr.add; split <;> simp_all]
    rw [hb0.cell (p := ⟨b, o2 + j, none⟩) hlt, hc, ← he]
    simp

set_option maxRecDepth 100000 in
set_option maxHeartbeats 8000000 in
theorem tellsP_walk (s : ByteArray) (a : Option Addr) (c : Nat) (l : List ByteArray) (w : World) (hT : Txts w a l) (hl : l.length ≤ 140737488355328) (hs : ∀ x ∈ l, x.size ≤ 140737488355328) (ha : a = none → l = [] ∧ c = 0) :
    Calls Try.prog 7 #[.string s, .slice a l.length c] w fun e w' => e = .returned (.bool true) ∧ Below w.heap.size w w' := by
  have cG := Lib.hid (great_anyP a c l w hT hl hs)
  by_cases hbig : 3000 < s.size
  · have hbig' : decide ((3000 : Int) < s.size) = true := by simp; omega
    clear hbig
    go_enter Try.func7, Try.ntmps7
    go_wp2_with fail
    go_ret
    exact ⟨rfl, Below.refl _ _⟩
  · have hbig' : decide ((3000 : Int) < s.size) = false := by simp; omega
    have HT := Lib.hid hT
    have HA := Lib.hid ha
    have HS := Lib.hid (fun w => split_any s (by omega) w)
    have HR := Lib.hid (fun w => refSplit_any s (by omega) w)
    have hpl := parts_len s
    clear hT ha hs
    go_enter Try.func7, Try.ntmps7
    go_wp2_with fail
    refine cG.out.mono ?_
    rintro e w' ⟨q, rfl, hq, rfl⟩
    cases q with
    | true =>
      clear hq
      go_wp2_with fail
      go_ret
      exact ⟨rfl, Below.refl _ _⟩
    | false =>
      obtain ⟨hl1, hsum⟩ := hq rfl
      have HSum := Lib.hid hsum
      clear hq hsum cG
      go_wp2_with fail
      refine (HS.out _).mono ?_
      rintro e w1 (⟨hw, rfl, hb1⟩ | ⟨hw, a1, c1, rfl, hown1, hb1⟩)
      · have HW := Lib.hid hw
        have HB1 := Lib.hid hb1
        clear hw hb1
        go_wp2_with fail
        refine (HR.out _).mono ?_
        rintro e w2 (⟨_, rfl, hb2⟩ | ⟨hw2, _⟩)
        · have HB2 := Lib.hid (HB1.out.trans (hb2.mono HB1.out.size))
          have cS := Lib.hid (same_any none none 0 0 [] w2 (fun i hi => by simp at hi) (fun i hi => by simp at hi) (by decide))
          clear hb2
          go_wp2_with fail
          refine cS.out.mono ?_
          rintro e w3 ⟨rfl, hb3⟩
          have HB3 := Lib.hid (HB2.out.trans (hb3.mono HB2.out.size))
          clear hb3
          generalize WrongAt s = q at *
          have cR := Lib.hid (fun w' (h : Below w.heap.size w w') => refJoin_any a c l w' (HT.out.below h (Nat.le_refl _)) (by omega) (by have := HSum.out; omega))
          have HT3 := Lib.hid (HT.out.below HB3.out (Nat.le_refl _))
          have hl3 : l.length ≤ 100000 := by omega
          go_wp2_with (at_builtin; refine wpList_guarded (by rfl) ?_; (refine wpList_appTx w3 rfl (.tmp 44) (.tmp 45) rfl a l c rfl rfl HT3.out HA.out hl3 ?_); intro a4 c4 w4 hown4 hb4; have HO4 := Lib.hid hown4; have HB4 := Lib.hid (HB3.out.trans (hb4.mono HB3.out.size)); clear hown4 hb4)
          refine (join_any a4 c4 l w4 (Txts.own HO4.out) hl3 (by have := HSum.out; omega)).mono ?_
          rintro e w5 ⟨rfl, hb5⟩
          have HB5 := Lib.hid (HB4.out.trans (hb5.mono HB4.out.size))
          clear hb5
          generalize mkT (jnL (lts l)) = J at *
          go_wp2_with fail
          refine (cR.out _ HB5.out).mono ?_
          rintro e w6 ⟨rfl, hb6⟩
          go_wp2_with fail
          go_ret
          exact ⟨rfl, HB5.out.trans (hb6.mono HB5.out.size)⟩
        · exact absurd HW.out (by omega)
      · have HW := Lib.hid hw
        have HB1 := Lib.hid hb1
        have HO1 := Lib.hid hown1
        clear hw hb1 hown1
        go_wp2_with fail
        refine (HR.out _).mono ?_
        rintro e w2 (⟨hw2, _⟩ | ⟨_, a2, c2, rfl, hown2, hb2⟩)
        · exact absurd HW.out (by omega)
        · have HB2 := Lib.hid (HB1.out.trans (hb2.mono HB1.out.size))
          have cS := Lib.hid (same_any a1 a2 c1 c2 (PartsOf s) w2 ((Txts.own HO1.out).below hb2 (Nat.le_refl _)) (Txts.own hown2) (by omega))
          clear hb2 hown2
          generalize hPL : (PartsOf s).length = pl at *
          clear hPL
          go_wp2_with fail
          refine cS.out.mono ?_
          rintro e w3 ⟨rfl, hb3⟩
          have HB3 := Lib.hid (HB2.out.trans (hb3.mono HB2.out.size))
          clear hb3
          have cR := Lib.hid (fun w' (h : Below w.heap.size w w') => refJoin_any a c l w' (HT.out.below h (Nat.le_refl _)) (by omega) (by have := HSum.out; omega))
          have HT3 := Lib.hid (HT.out.below HB3.out (Nat.le_refl _))
          have hl3 : l.length ≤ 100000 := by omega
          go_wp2_with (at_builtin; refine wpList_guarded (by rfl) ?_; (refine wpList_appTx w3 rfl (.tmp 44) (.tmp 45) rfl a l c rfl rfl HT3.out HA.out hl3 ?_); intro a4 c4 w4 hown4 hb4; have HO4 := Lib.hid hown4; have HB4 := Lib.hid (HB3.out.trans (hb4.mono HB3.out.size)); clear hown4 hb4)
          refine (join_any a4 c4 l w4 (Txts.own HO4.out) hl3 (by have := HSum.out; omega)).mono ?_
          rintro e w5 ⟨rfl, hb5⟩
          have HB5 := Lib.hid (HB4.out.trans (hb5.mono HB4.out.size))
          clear hb5
          generalize mkT (jnL (lts l)) = J at *
          go_wp2_with fail
          refine (cR.out _ HB5.out).mono ?_
          rintro e w6 ⟨rfl, hb6⟩
          go_wp2_with fail
          go_ret
          exact ⟨rfl, HB5.out.trans (hb6.mono HB5.out.size)⟩
end Go.Proofs.Ytcpmgnejbfnnjaa
