/- slices.Reverse of a byte slice that the call owns. No condition but its length. -/
import Derived.Test.YtgechifbbhipaaaDoorProg
import Derived.Test.YtgechifbbhipaaaDoorMkS
set_option linter.unusedVariables false
set_option linter.unusedSimpArgs false
namespace Go.Proofs.YtgechifbbhipaaaDoor
open Go.RowKit

/-- after i exchanges -/
def rvA (xs : List Value) (i : Nat) : List Value := (List.range xs.length).map fun p => if p < i ∨ xs.length - i ≤ p then (xs[xs.length - 1 - p]?).getD undef else (xs[p]?).getD undef

theorem rvA_len (xs : List Value) (i : Nat) : (rvA xs i).length = xs.length := by simp [rvA]
theorem rvA_get (xs : List Value) (i p : Nat) (h : p < xs.length) : (rvA xs i)[p]? = some (if p < i ∨ xs.length - i ≤ p then (xs[xs.length - 1 - p]?).getD undef else (xs[p]?).getD undef) := by
  simp [rvA, h]
theorem rvA_zero (xs : List Value) : rvA xs 0 = xs := by
  apply List.ext_getElem?
  intro p
  by_cases h : p < xs.length
  · rw [rvA_get xs 0 p h, if_neg (by omega), List.getElem?_eq_getElem h]; rfl
  · rw [List.getElem?_eq_none (by rw [rvA_len]; omega), List.getElem?_eq_none (by omega)]
theorem rvA_step (xs : List Value) (i : Nat) (h : i < xs.length - 1 - i) :
    ((rvA xs i).set i ((xs[xs.length - 1 - i]?).getD undef)).set (xs.length - 1 - i) ((xs[i]?).getD undef) = rvA xs (i + 1) := by
  apply List.ext_getElem?
  intro p
  by_cases hp : p < xs.length
  · rw [rvA_get xs (i + 1) p hp]
    by_cases h1 : p = xs.length - 1 - i
    · subst h1
      rw [List.getElem?_set_self (by simp [rvA_len]; omega), if_pos (by omega)]
      rw [show xs.length - 1 - (xs.length - 1 - i) = i from by omega]
    · rw [List.getElem?_set_ne (by omega)]
      by_cases h2 : p = i
      · subst h2
        rw [List.getElem?_set_self (by simp [rvA_len]; omega), if_pos (by omega)]
      · rw [List.getElem?_set_ne (by omega), rvA_get xs i p hp]
        by_cases h3 : p < i ∨ xs.length - i ≤ p
        · rw [if_pos h3, if_pos (by omega)]
        · rw [if_neg h3, if_neg (by omega)]
  · rw [List.getElem?_eq_none (by simp [rvA_len]; omega), List.getElem?_eq_none (by rw [rvA_len]; omega)]
theorem rvA_done (xs : List Value) (i : Nat) (h : xs.length - 1 ≤ i + i) : rvA xs i = xs.reverse := by
  apply List.ext_getElem?
  intro p
  by_cases hp : p < xs.length
  · rw [rvA_get xs i p hp, List.getElem?_reverse hp]
    by_cases h3 : p < i ∨ xs.length - i ≤ p
    · rw [if_pos h3, List.getElem?_eq_getElem (by omega)]; rfl
    · rw [if_neg h3, show xs.length - 1 - p = p from by omega, List.getElem?_eq_getElem (by omega)]; rfl
  · rw [List.getElem?_eq_none (by rw [rvA_len]; omega), List.getElem?_eq_none (by simp; omega)]

set_option maxHeartbeats 1000000 in
theorem reverse_any (B : Nat) (ad : Option Addr) (n c : Nat) (l : List Int) (w : World) (hn : n ≤ 9223372036854775807) (own : w.ownsRow B 5 1 (.slice ad n c) n (l.map (Value.int .u8))) :
    Calls Tryd.prog 186 #[.slice ad n c] w fun e w' => e = .returned (.tuple #[]) ∧ w'.ownsRow B 5 1 (.slice ad n c) n (l.reverse.map (Value.int .u8)) ∧ Below B w w' := by
  have hlen : l.length = n := by have := own.1; simpa using this
  by_cases h0 : n = 0
  · subst h0
    obtain rfl : l = [] := List.eq_nil_of_length_eq_zero hlen
    go_enter Tryd.func186, Tryd.ntmps186
    go_wp2
    refine wp_loop_rounds 1 ?_
    rw [rounds_succ]
    go_wp2
    go_end0
    exact ⟨rfl, own, Below.refl _ _⟩
  · obtain ⟨g, rfl⟩ : ∃ g, ad = some ⟨g, 0, none⟩ := by
      rcases own.2 with ⟨h, h1⟩ | ⟨g, cap, cur, h, _⟩
      · exact absurd h1 h0
      · simp only [Value.slice.injEq] at h; exact ⟨g, h.1⟩
    go_enter Tryd.func186, Tryd.ntmps186
    go_wp2_with fail
    go_loopw [2, 3] (fun i j wr => ∃ k : Nat, k ≤ n ∧ k + k ≤ n + 1 ∧ i = .int .i64 k ∧ j = .int .i64 ((n : Int) - 1 - k) ∧ wr.ownsRow B 5 1 (.slice (some ⟨g, 0, none⟩) n c) n (rvA (l.map (Value.int .u8)) k) ∧ Below B w wr) (fun i _ _ => n - (intOf i).toNat)
    case atStart => exact ⟨0, by omega, by omega, rfl, by simp, by rw [rvA_zero]; exact own, Below.refl _ _⟩
    case round =>
      obtain ⟨k, hk, hk2, rfl, rfl, hown, hb⟩ := hrel
      by_cases hlt : k + k + 1 < n
      · have e1 := rvA_step (l.map (Value.int .u8)) k (by simp; omega)
        have hl2 : (l.map (Value.int .u8)).length = n := by simp; exact hlen
        have hn1 : ((n : Int) - 1 - k) = ((n - 1 - k : Nat) : Int) := by omega
        have hc1 : wr.cell? ⟨g, k, none⟩ = some (.int .u8 (l[k]?.getD 0)) := by
          rw [hown.cellAt k (by omega), rvA_get _ _ _ (by omega), if_neg (by omega), List.getElem?_map, List.getElem?_eq_getElem (by omega)]; rfl
        have hc2 : wr.cell? ⟨g, n - 1 - k, none⟩ = some (.int .u8 (l[n - 1 - k]?.getD 0)) := by
          rw [hown.cellAt (n - 1 - k) (by omega), rvA_get _ _ _ (by omega), if_neg (by omega), List.getElem?_map, List.getElem?_eq_getElem (by omega)]; rfl
        have hf1 : wr.frozen? ⟨g, k, none⟩ = false := hown.frozenAt k
        have hf2 : wr.frozen? ⟨g, n - 1 - k, none⟩ = false := hown.frozenAt _
        have hx1 : ((l.map (Value.int .u8))[k]?).getD undef = .int .u8 (l[k]?.getD 0) := by rw [List.getElem?_map, List.getElem?_eq_getElem (by omega)]; rfl
        have hx2 : ((l.map (Value.int .u8))[n - 1 - k]?).getD undef = .int .u8 (l[n - 1 - k]?.getD 0) := by rw [List.getElem?_map, List.getElem?_eq_getElem (by omega)]; rfl
        rw [hl2, hx1, hx2] at e1
        have H2 := Lib.hid (hown.stored k (.int .u8 (l[n - 1 - k]?.getD 0)))
        have HE := Lib.hid e1
        have hBg : B ≤ g := (hown.lt g rfl).1
        have HX := Lib.hid hown
        have HB := Lib.hid hb
        clear e1 hl2 hx1 hx2 hown hb hlen own
        have hne : k ≠ n - 1 - k := by omega
        have hlt1 : (k : Int) < ((n - 1 - k : Nat) : Int) := by omega
        have hlt2 : n - 1 - k < n := by omega
        have hkn : k < n := by omega
        have hsub : ((n - 1 - k : Nat) : Int) - 1 = (n : Int) - 1 - ((k + 1 : Nat) : Int) := by omega
        have HS := Lib.hid hsub
        clear hsub
        rw [hn1]
        clear hn1
        generalize n - 1 - k = j at *
        go_wp2
        go_region
        all_goals go_wp2
        go_roundw
        case rel =>
          have h3 := (H2.out.1.stored j (.int .u8 (l[k]?.getD 0))).1
          rw [HE.out] at h3
          exact ⟨k + 1, by omega, by omega, by go_num, by rw [HS.out], h3.drew, ((HB.out.setCell (p := ⟨g, k, none⟩) hBg _).setCell (p := ⟨g, j, none⟩) hBg _).drew⟩
        case measure => simp [intOf]; omega
      · go_wp2
        go_end0
        exact ⟨rfl, by rw [rvA_done _ _ (by simp; omega)] at hown; simpa using hown, hb⟩
end Go.Proofs.YtgechifbbhipaaaDoor
