/- charset: the reference's Encode. No condition but the text's size. -/
import Derived.Test.YtcpmgnejbfnnjaaDoorChE
namespace Go.Proofs.YtcpmgnejbfnnjaaDoor
open Go.RowKit Go.Shelf

theorem own_atG {w : World} {B : Nat} {e : TypeId} {ad : Option Addr} {n c : Nat} {xs : List Value} (h : w.ownsRow B e 1 (.slice ad n c) n xs) {i : Nat} (hi : i < n) : ∃ g, ad = some ⟨g, 0, none⟩ ∧ g < w.heap.size ∧ w.cell? ⟨g, i, none⟩ = xs[i]? := by
  rcases h.2 with ⟨h1, h0⟩ | ⟨g, cap, cur, h1, _, hg, _⟩
  · omega
  · simp only [Value.slice.injEq] at h1
    obtain ⟨rfl, _, rfl⟩ := h1
    exact ⟨g, rfl, (Array.getElem?_eq_some_iff.1 hg).1, h.cellAt i (by omega)⟩
def wv (l : List Nat) : List Value := l.map fun x : Nat => .int .u8 (IntKind.u8.wrap (x : Int))
theorem wv_snoc (l : List Nat) (x : Nat) : wv (l ++ [x]) = wv l ++ [.int .u8 (IntKind.u8.wrap (x : Int))] := by simp [wv]
theorem wv_str (l : List Nat) : strOfNums (l.map fun x : Nat => IntKind.u8.wrap (x : Int)) = mkT (l.map UInt8.ofNat) := by
  rw [strOfNums_mk, List.map_map]
  congr 1
  apply List.map_congr_left
  intro x _
  have e : IntKind.u8.wrap (x : Int) = ((x % 256 : Nat) : Int) := by simp [IntKind.wrap, IntKind.signed, IntKind.bits]
  simp only [Function.comp, e]
  apply UInt8.toNat_inj.1
  simp; omega
theorem ret_2 {s t : ByteArray} {a b : Int} (h1 : s = t) (h2 : a = b) : Ending.returned (.tuple #[.string s, .int .i64 a]) = Ending.returned (.tuple #[.string t, .int .i64 b]) := by rw [h1, h2]

set_option maxRecDepth 100000 in
set_option maxHeartbeats 4000000 in
theorem refEnc_any (k : Int) (s : ByteArray) (hs : s.size ≤ 100000) (w : World) : Calls Tryd.prog 18 #[.int .i64 k, .string s] w (EncP k s w) := by
  unfold EncP
  by_cases h1 : k < 1
  · have hR : encV k s = (mkT [], 5) := by unfold encV; rw [if_pos (.inl h1)]
    rw [hR]
    go_enter Tryd.func18, Tryd.ntmps18
    go_wp2_with fail
    go_ret2
    exact ⟨rfl, Below.refl _ _⟩
  by_cases h2 : 3 < k
  · have hR : encV k s = (mkT [], 5) := by unfold encV; rw [if_pos (.inr h2)]
    rw [hR]
    go_enter Tryd.func18, Tryd.ntmps18
    go_wp2_with fail
    go_ret2
    exact ⟨rfl, Below.refl _ _⟩
  have cL := Lib.hid (refLetters_any s (by omega) w)
  unfold LetP at cL
  cases hv : (ltS s).2 with
  | false =>
    have hR : encV k s = (mkT [], 3) := by unfold encV; rw [if_neg (by omega), if_pos hv]
    rw [hR]
    rw [hv] at cL
    generalize (ltS s).1 = L at *
    clear hR hv
    go_enter Tryd.func18, Tryd.ntmps18
    go_wp2_with (go_at_call 9; refine cL.out.mono ?_; rintro e w1 ⟨a, c, rfl, _, hb1⟩)
    go_ret2
    exact ⟨rfl, hb1⟩
  | true =>
    have hm : k ≠ 3 → refMostN k = mostN k := fun h => by rcases (show k = 1 ∨ k = 2 by omega) with rfl | rfl <;> rfl
    have h4 : k = 3 → ∀ x ∈ (ltS s).1, (x : Int) ≤ refMostN k := fun h x hx => by
      subst h
      have := lt_le s.size s x hx
      show (x : Int) ≤ 1114111
      omega
    have HR3 : Hid (k = 3 → encV k s = (s, 0)) := fun h => by unfold encV; rw [if_neg (by omega), if_neg (by rw [hv]; simp), if_pos h]
    have HY : Hid (k ≠ 3 → (∀ x ∈ (ltS s).1, (x : Int) ≤ refMostN k) → encV k s = (mkT ((ltS s).1.map UInt8.ofNat), 0)) := fun h3 h => by unfold encV; rw [if_neg (by omega), if_neg (by rw [hv]; simp), if_neg h3, if_pos (by rw [← hm h3]; exact h)]
    have HN : Hid (¬ (∀ x ∈ (ltS s).1, (x : Int) ≤ refMostN k) → encV k s = (mkT [], 16)) := fun h => by
      have h3 : k ≠ 3 := fun e => h (h4 e)
      unfold encV; rw [if_neg (by omega), if_neg (by rw [hv]; simp), if_neg h3, if_neg (by rw [← hm h3]; exact h)]
    have hln := ltS_len s
    have hle : ∀ x ∈ (ltS s).1, x ≤ 1114111 := fun x hx => lt_le s.size s x hx
    have HLe := Lib.hid hle
    have cM := Lib.hid (fun w => refMost_any k w)
    rw [hv] at cL
    generalize encV k s = R at *
    generalize refMostN k = m at *
    generalize (ltS s).1 = L at *
    clear hv hm h4 hle
    obtain ⟨n, hn⟩ : ∃ n, L.length = n := ⟨_, rfl⟩
    have HL := Lib.hid hn
    rw [hn] at cL hln
    clear hn
    go_enter Tryd.func18, Tryd.ntmps18
    go_wp2_with (go_at_call 9; refine cL.out.mono ?_; rintro e w1 ⟨a, c, rfl, hown, hb1⟩)
    have HO1 := Lib.hid hown
    have HB1 := Lib.hid hb1
    clear hown hb1 cL
    go_loopw [8, 9] (fun lv iv wr => ∃ (i : Nat) (a1 : Option Addr) (c1 : Nat), i ≤ n ∧ iv = .int .i64 (i : Int) ∧ lv = .slice a1 i c1 ∧ Hid (wr.ownsRow w1.heap.size 5 1 (.slice a1 i c1) i (wv (L.take i))) ∧ Hid (Below w1.heap.size w1 wr) ∧ Hid (∀ j (h : j < L.length), j < i → (L[j] : Int) ≤ m)) (fun _ iv _ => n - (intOf iv).toNat)
    case atStart => exact ⟨0, none, 0, Nat.zero_le _, rfl, rfl, World.ownsRow_nil _ _ _ _, Below.refl _ _, fun _ _ h => absurd h (Nat.not_lt_zero _)⟩
    case round =>
      obtain ⟨i, a1, c1, hi, rfl, rfl, HO, HB, HI⟩ := hrel
      have hbs := HB.out.size
      by_cases hlt : i < n
      · have hiL : i < L.length := by rw [HL.out]; exact hlt
        obtain ⟨g, rfl, hg, hc⟩ := own_atG HO1.out hlt
        obtain ⟨x, hx⟩ : ∃ x, L[i] = x := ⟨_, rfl⟩
        have hxl : x ≤ 1114111 := by rw [← hx]; exact HLe.out _ (List.getElem_mem hiL)
        have hc2 : wr.cell? ⟨g, i, none⟩ = some (.int .i32 (x : Int)) := by
          refine (HB.out.cell (p := ⟨g, i, none⟩) (by show g < w1.heap.size; exact hg)).trans ?_
          rw [hc]; simp [rv, List.getElem?_eq_getElem hiL, hx]
        have k0 : (0 : Int) ≤ (i : Int) := by omega
        have k1 : (i : Int) < (n : Int) := by omega
        have k2 : decide (i < n) = true := by simp; omega
        have hwc : wrap64 (x : Int) = (x : Int) := by unfold wrap64; omega
        have HXi := Lib.hid hx
        clear hx hc
        by_cases hgt : (x : Int) ≤ m
        · have q1 : ¬ m < (x : Int) := by omega
          have hst : Hid (wv (L.take i) ++ [.int .u8 (IntKind.u8.wrap (x : Int))] = wv (L.take (i + 1))) := by unfold Hid; rw [List.take_succ_eq_append_getElem hiL, wv_snoc, HXi.out]
          have HI2 : Hid (∀ j (h : j < L.length), j < i + 1 → (L[j] : Int) ≤ m) := fun j h hj => by
            by_cases e : j = i
            · subst e; rw [HXi.out]; exact hgt
            · exact HI.out j h (by omega)
          have g1 : i + 1 ≤ maxLen := by simp [maxLen]; omega
          have g2 : (i + 1) * 1 ≤ 140737488355328 := by omega
          go_wp2_with fail
          go_quiet ((go_at_call 40; refine Calls.quiet_of_same ((cM.out _).mono fun _ _ hh => ⟨hh.1, hh.2.symm⟩)))
          have HO4 : Hid ((wr.drewN nq).ownsRow w1.heap.size 5 1 (.slice a1 i c1) i (wv (L.take i))) := HO.out
          have HB4 : Hid (Below w1.heap.size w1 (wr.drewN nq)) := below_dr HB.out nq
          have hc4 : (wr.drewN nq).cell? ⟨g, i, none⟩ = some (.int .i32 (x : Int)) := hc2
          clear HO HB hc2 hbs
          generalize wr.drewN nq = w4 at *
          have hbs := HB4.out.size
          go_wp2_with (at_builtin; go_must (refine wpList_app1 _ _ rfl _ _ 56 5 _ _ S56 rfl w1.heap.size _ _ _ rfl rfl rfl HO4.out g1 g2 hbs ?_); intro a' c' w6 hown6 hgr6 _ hb6)
          have HO6 : Hid (w6.ownsRow w1.heap.size 5 1 (.slice a' (i + 1) c') (i + 1) (wv (L.take (i + 1)))) := by unfold Hid; rw [← hst.out]; exact hown6
          have HB6 := Lib.hid (HB4.out.trans hb6)
          go_roundw
          case rel => exact ⟨i + 1, a', c', by omega, by go_num, rfl, HO6, HB6, HI2⟩
          case measure => simp [intOf]; omega
        · have q1 : m < (x : Int) := by omega
          have hG := Lib.hid (HN.out (fun h => hgt (by rw [← HXi.out]; exact h _ (List.getElem_mem hiL))))
          clear HR3 HY HN
          go_wp2_with fail
          go_quiet ((go_at_call 40; refine Calls.quiet_of_same ((cM.out _).mono fun _ _ hh => ⟨hh.1, hh.2.symm⟩)))
          go_wp2_with fail
          go_ret2
          exact ⟨by rw [hG.out]; rfl, HB1.out.trans ((below_dr HB.out nq).mono HB1.out.size)⟩
      · have k2 : decide (i < n) = false := by simp; omega
        obtain rfl : i = n := by omega
        have hall : ∀ x ∈ L, (x : Int) ≤ m := fun x hx => by
          obtain ⟨j, hj, rfl⟩ := List.getElem_of_mem hx
          exact HI.out j hj (by rw [← HL.out]; exact hj)
        have ht : L.take i = L := List.take_of_length_le (by rw [HL.out]; exact Nat.le_refl _)
        by_cases h3 : k = 3
        · have hG := Lib.hid (HR3.out h3)
          have e3 : (k == 3) = true := by simpa using h3
          clear HR3 HY HN h3 h1 h2
          go_wp2_with fail
          go_ret2
          exact ⟨by rw [hG.out]; rfl, HB1.out.trans (HB.out.mono HB1.out.size)⟩
        · have hG := Lib.hid (HY.out h3 hall)
          have e3 : (k == 3) = false := by simpa using h3
          have hcv : (convert 56 9 (.slice a1 i c1)).run Tryd.prog wr = .ok (.string (strOfNums (L.map fun x : Nat => IntKind.u8.wrap (x : Int)))) wr :=
            run_str (P := Tryd.prog) wr 56 9 5 Tryd.underlying56 Tryd.underlying9 Tryd.underlying5 w1.heap.size _ _ _ (by have h := HO.out; rw [ht] at h; unfold wv at h; rwa [List.map_map])
          rw [wv_str, show mkT (L.map UInt8.ofNat) = R.1 from by rw [hG.out]] at hcv
          have HR2 : Hid (R.2 = 0) := by unfold Hid; rw [hG.out]
          clear HR3 HY HN h3 hG ht hall
          obtain ⟨R1, R2⟩ := R
          go_wp2_with fail
          go_ret2
          exact ⟨by rw [show R2 = 0 from HR2.out]; rfl, HB1.out.trans (HB.out.mono HB1.out.size)⟩
end Go.Proofs.YtcpmgnejbfnnjaaDoor
