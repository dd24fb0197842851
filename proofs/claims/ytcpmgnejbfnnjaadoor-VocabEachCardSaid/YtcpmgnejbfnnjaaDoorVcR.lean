/- vocab: the reference's Token and Name; Space and Page, both. No condition. -/
import Derived.Test.YtcpmgnejbfnnjaaDoorVcL
namespace Go.Proofs.YtcpmgnejbfnnjaaDoor
open Go.RowKit Go.Shelf

/-- a slice that reads as texts -/
def TxtsV (w : World) (a : Option Addr) (l : List ByteArray) : Prop :=
  ∀ i (h : i < l.length), ∃ (b o : Nat), a = some ⟨b, o, none⟩ ∧ b < w.heap.size ∧ w.cell? ⟨b, o + i, none⟩ = some (.string l[i])
theorem TxtsV.below {w w' : World} {a : Option Addr} {l : List ByteArray} {m : Nat} (h : TxtsV w a l) (hb : Below m w w') (hm : w.heap.size ≤ m) : TxtsV w' a l := fun i hi => by
  obtain ⟨b, o, rfl, hl, hc⟩ := h i hi
  exact ⟨b, o, rfl, Nat.lt_of_lt_of_le hl hb.size, (hb.cell (p := ⟨b, o + i, none⟩) (Nat.lt_of_lt_of_le hl hm)).trans hc⟩
theorem TxtsV.own {w : World} {B : Nat} {a : Option Addr} {c : Nat} {l : List ByteArray} (h : w.ownsRow B 9 1 (.slice a l.length c) l.length (l.map Value.string)) : TxtsV w a l := fun i hi => by
  rcases h.2 with ⟨_, h0⟩ | ⟨g, cap, cur, hv, hB, hg, _⟩
  · omega
  · simp only [Value.slice.injEq] at hv
    refine ⟨g, 0, hv.1, (Array.getElem?_eq_some_iff.1 hg).1, ?_⟩
    have := h.cells (g := g) (by rw [hv.1]; rfl) i (.string l[i]) (by rw [List.getElem?_map, List.getElem?_eq_getElem hi]; rfl)
    rwa [show (⟨g, 0, none⟩ : Addr).add i = ⟨g, 0 + i, none⟩ from by unfold Addr.add; split <;> simp_all] at this

theorem mem_tkL {l : List ByteArray} {p : Nat × ByteArray} (h : p ∈ tkL l) : ∃ i, ∃ hi : i < l.length, p = (5 + i, l[i]) ∧ l[i] ≠ gapB := by
  unfold tkL at h
  obtain ⟨q, hq, rfl⟩ := List.mem_map.1 h
  obtain ⟨hq1, hq2⟩ := List.mem_filter.1 hq
  obtain ⟨x, n⟩ := q
  obtain ⟨h1, h2, h3⟩ := List.mem_zipIdx hq1
  simp only at h1 h2 h3 hq2
  refine ⟨n - 5, by omega, ?_, ?_⟩
  · simp only [Prod.mk.injEq]; exact ⟨by omega, h3⟩
  · rw [← h3]; simpa using hq2
theorem tkL_at {l : List ByteArray} {i : Nat} (hi : i < l.length) (hg : l[i] ≠ gapB) : ∃ post, (tkL (l.take i) ++ [(5 + i, l[i])]) ++ post = tkL l := by
  have h1 : l.take (i + 1) = l.take i ++ [l[i]] := by rw [List.take_succ_eq_append_getElem hi]
  have h2 := tkL_word (l.take i) l[i] hg
  rw [← h1, List.length_take, show min i l.length = i from by omega] at h2
  obtain ⟨post, hp⟩ := tkL_pre (List.take_prefix (i + 1) l)
  exact ⟨post, by rw [← h2]; exact hp⟩

theorem tokV_at {k : Int} {s : ByteArray} {i : Nat} (hi : i < (wdsE (txt k)).length) (he : (wdsE (txt k))[i] = s) (hg : s ≠ gapB) (hn : ∀ j (h : j < (wdsE (txt k)).length), j < i → (wdsE (txt k))[j] ≠ s) : tokV k s = 5 + i := by
  obtain ⟨post, hp⟩ := tkL_at hi (by rw [he]; exact hg)
  rw [he] at hp
  refine tok_some (pre := tkL ((wdsE (txt k)).take i)) (post := post) (fun p hm => ?_) hp
  obtain ⟨j, hj, rfl, _⟩ := mem_tkL hm
  rw [List.length_take] at hj
  simp only [List.getElem_take]
  exact hn j (by omega) (by omega)
theorem tokV_no {k : Int} {s : ByteArray} (hn : ∀ j (h : j < (wdsE (txt k)).length), (wdsE (txt k))[j] ≠ s ∨ s = gapB) : tokV k s = 0 := by
  refine tok_none (fun p hm => ?_)
  obtain ⟨j, hj, rfl, hg⟩ := mem_tkL hm
  rcases hn j hj with h | h
  · exact h
  · rw [h]; exact hg
theorem nameV_at {k : Int} {i : Nat} (hi : i < (wdsE (txt k)).length) (hg : (wdsE (txt k))[i] ≠ gapB) : nameV k (5 + i) = (wdsE (txt k))[i] := by
  obtain ⟨post, hp⟩ := tkL_at hi hg
  refine name_some (pre := tkL ((wdsE (txt k)).take i)) (post := post) (fun p hm => ?_) hp
  obtain ⟨j, hj, rfl, _⟩ := mem_tkL hm
  rw [List.length_take] at hj
  show 5 + j ≠ 5 + i
  omega
theorem nameV_no {k : Int} {t : Nat} (hn : ∀ j (h : j < (wdsE (txt k)).length), t ≠ 5 + j ∨ (wdsE (txt k))[j] = gapB) : nameV k t = ⟨#[]⟩ := by
  refine name_none (fun p hm => ?_)
  obtain ⟨j, hj, rfl, hg⟩ := mem_tkL hm
  rcases hn j hj with h | h
  · exact fun e => h e.symm
  · exact absurd h hg

set_option maxRecDepth 100000 in
set_option maxHeartbeats 4000000 in
theorem refToken_any (k : Int) (s : ByteArray) (w : World) : Calls Tryd.prog 23 #[.int .i64 k, .string s] w fun e w' => e = .returned (.int .u8 (tokV k s : Int)) ∧ Below w.heap.size w w' := by
  have cL := Lib.hid (list_any k w)
  have hn := wdsE_len k
  have HA : Hid (∀ i (hi : i < (wdsE (txt k)).length), (wdsE (txt k))[i] = s → s ≠ gapB → (∀ j (h : j < (wdsE (txt k)).length), j < i → (wdsE (txt k))[j] ≠ s ∨ s = gapB) → tokV k s = 5 + i) := fun i hi h1 h2 h3 => tokV_at hi h1 h2 (fun j h h4 => (h3 j h h4).resolve_right h2)
  have HNo : Hid ((∀ j (h : j < (wdsE (txt k)).length), (wdsE (txt k))[j] ≠ s ∨ s = gapB) → tokV k s = 0) := tokV_no
  unfold ListP at cL
  generalize wdsE (txt k) = L at *
  generalize tokV k s = v at *
  go_enter Tryd.func23, Tryd.ntmps23
  go_wp2_with (go_at_call 35; refine cL.out.mono ?_; rintro e w1 ⟨a, c, rfl, hown, hb1⟩)
  have HX := Lib.hid (TxtsV.own hown)
  have HB1 := Lib.hid hb1
  clear hown hb1 cL
  obtain ⟨n, hln⟩ : ∃ n, L.length = n := ⟨_, rfl⟩
  have HL := Lib.hid hln
  rw [hln] at hn ⊢
  clear hln
  go_loopw [6] (fun iv wr => ∃ i : Nat, i ≤ n ∧ iv = .int .i64 (i : Int) ∧ Hid (∀ j (h : j < L.length), j < i → L[j] ≠ s ∨ s = gapB) ∧ w1 = wr) (fun iv _ => n - (intOf iv).toNat)
  case atStart => exact ⟨0, Nat.zero_le _, rfl, fun _ _ h => absurd h (Nat.not_lt_zero _), rfl⟩
  case round =>
    obtain ⟨i, hi, rfl, HI, rfl⟩ := hrel
    by_cases hlt : i < n
    · have hiL : i < L.length := by rw [HL.out]; exact hlt
      obtain ⟨b, o, rfl, _, hc⟩ := HX.out i hiL
      obtain ⟨x, hx⟩ : ∃ x, L[i] = x := ⟨_, rfl⟩
      have HXi := Lib.hid hx
      rw [hx] at hc
      have k0 : (0 : Int) ≤ (i : Int) := by omega
      have k1 : (i : Int) < (n : Int) := by omega
      have k2 : decide (i < n) = true := by simp; omega
      have hw : IntKind.u8.wrap (5 + (i : Int)) = ((5 + i : Nat) : Int) := by simp [IntKind.wrap, IntKind.signed, IntKind.bits]; omega
      by_cases he : x = s
      · have hq := (str_is x s).2 he
        by_cases hg : s = gapB
        · have hq2 := (gap_is s).2 hg
          have HI2 : Hid (∀ j (h : j < L.length), j < i + 1 → L[j] ≠ s ∨ s = gapB) := fun j h hj => .inr hg
          clear he hg hx
          go_wp2_with fail
          go_roundw
          case rel => exact ⟨i + 1, by omega, by go_num, HI2, trivial⟩
          case measure => simp [intOf]; omega
        · have hq2 : (s.toList == [45]) = false := by
            cases h : (s.toList == [45]) with
            | false => rfl
            | true => exact absurd ((gap_is s).1 h) hg
          have HV : Hid (v = 5 + i) := HA.out i hiL (hx.trans he) hg HI.out
          clear he hg hx HA HNo
          go_wp2_with fail
          go_ret
          exact ⟨by rw [HV.out]; rfl, HB1.out⟩
      · have hq := str_not he
        have HI2 : Hid (∀ j (h : j < L.length), j < i + 1 → L[j] ≠ s ∨ s = gapB) := fun j h hj => by
          by_cases e : j = i
          · subst e; exact .inl (by rw [hx]; exact he)
          · exact HI.out j h (by omega)
        clear he hx
        go_wp2_with fail
        go_roundw
        case rel => exact ⟨i + 1, by omega, by go_num, HI2, trivial⟩
        case measure => simp [intOf]; omega
    · have k2 : decide (i < n) = false := by simp; omega
      have HV : Hid (v = 0) := HNo.out (fun j h => HI.out j h (by rw [HL.out] at h; omega))
      clear HA HNo
      go_wp2_with fail
      go_ret
      exact ⟨by rw [HV.out]; rfl, HB1.out⟩

set_option maxRecDepth 100000 in
set_option maxHeartbeats 4000000 in
theorem refName_any (k : Int) (t : Nat) (ht : t < 256) (w : World) : Calls Tryd.prog 13 #[.int .i64 k, .int .u8 (t : Int)] w fun e w' => e = .returned (.string (nameV k t)) ∧ Below w.heap.size w w' := by
  have cL := Lib.hid (list_any k w)
  have hn := wdsE_len k
  have HA : Hid (∀ i (hi : i < (wdsE (txt k)).length), t = 5 + i → (wdsE (txt k))[i] ≠ gapB → nameV k t = (wdsE (txt k))[i]) := fun i hi h1 h2 => by rw [h1]; exact nameV_at hi h2
  have HNo : Hid ((∀ j (h : j < (wdsE (txt k)).length), t ≠ 5 + j ∨ (wdsE (txt k))[j] = gapB) → nameV k t = ⟨#[]⟩) := nameV_no
  unfold ListP at cL
  generalize wdsE (txt k) = L at *
  generalize nameV k t = v at *
  by_cases h5 : 5 ≤ t
  · obtain ⟨i, rfl⟩ : ∃ i, t = 5 + i := ⟨t - 5, by omega⟩
    have hsub : wrap64 (((5 + i : Nat) : Int) - 5) = (i : Int) := by unfold wrap64; omega
    by_cases hlt : i < L.length
    · obtain ⟨x, hx⟩ : ∃ x, L[i] = x := ⟨_, rfl⟩
      have HXi := Lib.hid hx
      have hV2 : Hid (v = if x = gapB then ⟨#[]⟩ else x) := by
        unfold Hid
        by_cases hg : x = gapB
        · rw [if_pos hg]
          exact HNo.out (fun j h => by
            by_cases e : j = i
            · subst e; exact .inr (hx.trans hg)
            · exact .inl (by omega))
        · rw [if_neg hg, ← hx]
          exact HA.out i hlt rfl (by rw [hx]; exact hg)
      clear hx HA HNo
      obtain ⟨n, hln⟩ : ∃ n, L.length = n := ⟨_, rfl⟩
      have HL := Lib.hid hln
      have k1 : (i : Int) < (n : Int) := by omega
      have k3 : ¬ (n : Int) ≤ (i : Int) := by omega
      have k0 : (0 : Int) ≤ (i : Int) := by omega
      have k4 : ¬ (i : Int) < 0 := by omega
      have k5 : decide (i < n) = true := by simp; omega
      have k6 : decide (n ≤ i) = false := by simp; omega
      rw [hln] at cL hn
      clear hln
      by_cases hg : x = gapB
      · have HV : Hid (v = ⟨#[]⟩) := by unfold Hid; rw [hV2.out, if_pos hg]
        have hq2 := (gap_is x).2 hg
        clear hg hV2
        go_enter Tryd.func13, Tryd.ntmps13
        go_wp2_with (go_at_call 35; refine cL.out.mono ?_; rintro e w1 ⟨a, c, rfl, hown, hb1⟩; have HX := Lib.hid (TxtsV.own (l := L) (by rw [HL.out]; exact hown)); obtain ⟨b, o, rfl, _, hc⟩ := HX.out i hlt; rw [HXi.out] at hc)
        go_ret
        exact ⟨by rw [HV.out]; rfl, hb1⟩
      · have HV : Hid (v = x) := by unfold Hid; rw [hV2.out, if_neg hg]
        have hq2 : (x.toList == [45]) = false := by
          cases h : (x.toList == [45]) with
          | false => rfl
          | true => exact absurd ((gap_is x).1 h) hg
        clear hg hV2
        go_enter Tryd.func13, Tryd.ntmps13
        go_wp2_with (go_at_call 35; refine cL.out.mono ?_; rintro e w1 ⟨a, c, rfl, hown, hb1⟩; have HX := Lib.hid (TxtsV.own (l := L) (by rw [HL.out]; exact hown)); obtain ⟨b, o, rfl, _, hc⟩ := HX.out i hlt; rw [HXi.out] at hc)
        go_ret
        exact ⟨by rw [HV.out]; rfl, hb1⟩
    · have HV : Hid (v = ⟨#[]⟩) := HNo.out (fun j h => .inl (by omega))
      obtain ⟨n, hln⟩ : ∃ n, L.length = n := ⟨_, rfl⟩
      have k3 : (n : Int) ≤ (i : Int) := by omega
      have k4 : ¬ (i : Int) < 0 := by omega
      have k6 : decide (n ≤ i) = true := by simp; omega
      rw [hln] at cL hn
      clear hln HA HNo
      go_enter Tryd.func13, Tryd.ntmps13
      go_wp2_with (go_at_call 35; refine cL.out.mono ?_; rintro e w1 ⟨a, c, rfl, hown, hb1⟩)
      go_ret
      exact ⟨by rw [HV.out]; rfl, hb1⟩
  · have HV : Hid (v = ⟨#[]⟩) := HNo.out (fun j h => .inl (by omega))
    have hsub : wrap64 ((t : Int) - 5) = (t : Int) - 5 := by unfold wrap64; omega
    have k4 : (t : Int) - 5 < 0 := by omega
    clear HA HNo
    go_enter Tryd.func13, Tryd.ntmps13
    go_wp2_with (go_at_call 35; refine cL.out.mono ?_; rintro e w1 ⟨a, c, rfl, hown, hb1⟩)
    go_ret
    exact ⟨by rw [HV.out]; rfl, hb1⟩

noncomputable def spcN (i : Nat) : ByteArray := ((Tryd.f24.body.map strsOf).getD [])[i]?.getD ByteArray.empty
/-- a page's namespace -/
noncomputable def spc (k : Int) : ByteArray := if k = 0 then spcN 1 else if k = 1 then spcN 2 else if k = 2 then spcN 3 else ⟨#[]⟩

set_option maxRecDepth 100000 in
theorem space_any (k : Int) (w : World) : Calls Tryd.prog 24 #[.int .i64 k] w fun e w' => e = .returned (.string (spc k)) ∧ w = w' := by
  by_cases h0 : k = 0
  · subst h0
    go_enter Tryd.func24, Tryd.ntmps24
    go_wp2
    go_ret
    exact ⟨ret_s (by kernel_rfl), rfl⟩
  · by_cases h1 : k = 1
    · subst h1
      go_enter Tryd.func24, Tryd.ntmps24
      go_wp2
      go_ret
      exact ⟨ret_s (by kernel_rfl), rfl⟩
    · by_cases h2 : k = 2
      · subst h2
        go_enter Tryd.func24, Tryd.ntmps24
        go_wp2
        go_ret
        exact ⟨ret_s (by kernel_rfl), rfl⟩
      · have e0 : (k == 0) = false := by simpa using h0
        have e1 : (k == 1) = false := by simpa using h1
        have e2 : (k == 2) = false := by simpa using h2
        have hR : spc k = ⟨#[]⟩ := by unfold spc; rw [if_neg h0, if_neg h1, if_neg h2]
        rw [hR]
        go_enter Tryd.func24, Tryd.ntmps24
        go_wp2
        go_ret
        exact ⟨rfl, rfl⟩
set_option maxRecDepth 100000 in
theorem refSpace_any (k : Int) (w : World) : Calls Tryd.prog 25 #[.int .i64 k] w fun e w' => e = .returned (.string (spc k)) ∧ w = w' := by
  by_cases h0 : k = 0
  · subst h0
    go_enter Tryd.func25, Tryd.ntmps25
    go_wp2
    go_ret
    exact ⟨ret_s (by kernel_rfl), rfl⟩
  · by_cases h1 : k = 1
    · subst h1
      go_enter Tryd.func25, Tryd.ntmps25
      go_wp2
      go_ret
      exact ⟨ret_s (by kernel_rfl), rfl⟩
    · by_cases h2 : k = 2
      · subst h2
        go_enter Tryd.func25, Tryd.ntmps25
        go_wp2
        go_ret
        exact ⟨ret_s (by kernel_rfl), rfl⟩
      · have e0 : (k == 0) = false := by simpa using h0
        have e1 : (k == 1) = false := by simpa using h1
        have e2 : (k == 2) = false := by simpa using h2
        have hR : spc k = ⟨#[]⟩ := by unfold spc; rw [if_neg h0, if_neg h1, if_neg h2]
        rw [hR]
        go_enter Tryd.func25, Tryd.ntmps25
        go_wp2
        go_ret
        exact ⟨rfl, rfl⟩

/-- the page of a namespace -/
noncomputable def pagV (s : ByteArray) : Int := open Classical in if spc 0 = s then 0 else if spc 1 = s then 1 else if spc 2 = s then 2 else -1
theorem pagV_at {s : ByteArray} {p : Nat} (hp : p < 3) (he : spc (p : Int) = s) (hn : ∀ q, q < p → spc (q : Int) ≠ s) : pagV s = (p : Int) := by
  unfold pagV
  rcases (show p = 0 ∨ p = 1 ∨ p = 2 by omega) with rfl | rfl | rfl
  · rw [if_pos (show spc 0 = s from he)]; rfl
  · rw [if_neg (show spc 0 ≠ s from hn 0 (by omega)), if_pos (show spc 1 = s from he)]; rfl
  · rw [if_neg (show spc 0 ≠ s from hn 0 (by omega)), if_neg (show spc 1 ≠ s from hn 1 (by omega)), if_pos (show spc 2 = s from he)]; rfl
theorem pagV_no {s : ByteArray} (hn : ∀ q : Nat, q < 3 → spc (q : Int) ≠ s) : pagV s = -1 := by
  unfold pagV
  rw [if_neg (show spc 0 ≠ s from hn 0 (by omega)), if_neg (show spc 1 ≠ s from hn 1 (by omega)), if_neg (show spc 2 ≠ s from hn 2 (by omega))]

set_option maxRecDepth 100000 in
theorem page_any (s : ByteArray) (w : World) : Calls Tryd.prog 26 #[.string s] w fun e w' => e = .returned (.int .i64 (pagV s)) ∧ Below w.heap.size w w' := by
  go_enter Tryd.func26, Tryd.ntmps26
  go_wp2
  go_loopw [4] (fun pv wr => ∃ p : Nat, p ≤ 3 ∧ pv = .int .i64 (p : Int) ∧ Hid (∀ q : Nat, q < p → spc (q : Int) ≠ s) ∧ w = wr) (fun pv _ => 3 - (intOf pv).toNat)
  case atStart => exact ⟨0, Nat.zero_le _, rfl, fun _ h => absurd h (Nat.not_lt_zero _), rfl⟩
  case round =>
    obtain ⟨p, hp, rfl, HN, rfl⟩ := hrel
    by_cases h3 : p < 3
    · have k1 : (p : Int) < 3 := by omega
      have cS := Lib.hid (fun w => space_any (p : Int) w)
      by_cases he : spc (p : Int) = s
      · have HV := Lib.hid (pagV_at h3 he HN.out)
        have hq := (str_is _ _).2 he
        clear he
        generalize spc (p : Int) = x at *
        go_wp2_with (go_at_call 24; refine (cS.out _).mono ?_; rintro e w1 ⟨rfl, rfl⟩)
        go_ret
        exact ⟨by rw [HV.out]; rfl, Below.refl _ _⟩
      · have HN2 : Hid (∀ q : Nat, q < p + 1 → spc (q : Int) ≠ s) := fun q hq => by
          by_cases e : q = p
          · subst e; exact he
          · exact HN.out q (by omega)
        have hq := str_not he
        clear he
        generalize spc (p : Int) = x at *
        go_wp2_with (go_at_call 24; refine (cS.out _).mono ?_; rintro e w1 ⟨rfl, rfl⟩)
        go_roundw
        case rel => exact ⟨p + 1, by omega, by go_num, HN2, trivial⟩
        case measure => simp [intOf]; omega
    · have k1 : ¬ (p : Int) < 3 := by omega
      obtain rfl : p = 3 := by omega
      have HV := Lib.hid (pagV_no HN.out)
      go_wp2
      go_ret
      exact ⟨by rw [HV.out]; rfl, Below.refl _ _⟩
set_option maxRecDepth 100000 in
theorem refPage_any (s : ByteArray) (w : World) : Calls Tryd.prog 27 #[.string s] w fun e w' => e = .returned (.int .i64 (pagV s)) ∧ Below w.heap.size w w' := by
  go_enter Tryd.func27, Tryd.ntmps27
  go_wp2
  go_loopw [3] (fun pv wr => ∃ p : Nat, p ≤ 3 ∧ pv = .int .i64 (p : Int) ∧ Hid (∀ q : Nat, q < p → spc (q : Int) ≠ s) ∧ w = wr) (fun pv _ => 3 - (intOf pv).toNat)
  case atStart => exact ⟨0, Nat.zero_le _, rfl, fun _ h => absurd h (Nat.not_lt_zero _), rfl⟩
  case round =>
    obtain ⟨p, hp, rfl, HN, rfl⟩ := hrel
    by_cases h3 : p < 3
    · have k1 : (p : Int) < 3 := by omega
      have cS := Lib.hid (fun w => refSpace_any (p : Int) w)
      by_cases he : spc (p : Int) = s
      · have HV := Lib.hid (pagV_at h3 he HN.out)
        have hq := (str_is _ _).2 he
        clear he
        generalize spc (p : Int) = x at *
        go_wp2_with (go_at_call 25; refine (cS.out _).mono ?_; rintro e w1 ⟨rfl, rfl⟩)
        go_ret
        exact ⟨by rw [HV.out]; rfl, Below.refl _ _⟩
      · have HN2 : Hid (∀ q : Nat, q < p + 1 → spc (q : Int) ≠ s) := fun q hq => by
          by_cases e : q = p
          · subst e; exact he
          · exact HN.out q (by omega)
        have hq := str_not he
        clear he
        generalize spc (p : Int) = x at *
        go_wp2_with (go_at_call 25; refine (cS.out _).mono ?_; rintro e w1 ⟨rfl, rfl⟩)
        go_roundw
        case rel => exact ⟨p + 1, by omega, by go_num, HN2, trivial⟩
        case measure => simp [intOf]; omega
    · have k1 : ¬ (p : Int) < 3 := by omega
      obtain rfl : p = 3 := by omega
      have HV := Lib.hid (pagV_no HN.out)
      go_wp2
      go_ret
      exact ⟨by rw [HV.out]; rfl, Below.refl _ _⟩
end Go.Proofs.YtcpmgnejbfnnjaaDoor
