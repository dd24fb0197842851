/- vocab: VocabOne, the walk. No condition but the library's table. -/
import Derived.Test.YtcpmgnejbfnnjaaDoorVcW
namespace Go.Proofs.YtcpmgnejbfnnjaaDoor
open Go.RowKit Go.Shelf

theorem words_once (k : Int) (hk : k = 0 ∨ k = 1 ∨ k = 2) : (spW (txt k).data.toList).Nodup := by
  have : decide (spW (txt k).data.toList).Nodup = true := by
    rcases hk with rfl | rfl | rfl <;> kernel_rfl
  exact of_decide_eq_true this
theorem wds_once (k : Int) (hk : k = 0 ∨ k = 1 ∨ k = 2) (i j : Nat) (hi : i < (wdsE (txt k)).length) (hj : j < (wdsE (txt k)).length) (hij : i < j) : (wdsE (txt k))[i] ≠ (wdsE (txt k))[j] := by
  have hw := wdsE_of (txt_pos hk)
  have hi' : i < (spW (txt k).data.toList).length := by rw [hw, List.length_map] at hi; exact hi
  have hj' : j < (spW (txt k).data.toList).length := by rw [hw, List.length_map] at hj; exact hj
  have hn := List.pairwise_iff_getElem.1 (words_once k hk) i j hi' hj' hij
  simp only [hw, List.getElem_map]
  exact fun e => hn (mkB_inj e)

/-- what a token that has a name is -/
theorem name_back (k : Int) (hk : k = 0 ∨ k = 1 ∨ k = 2) (t : Nat) (h : nameV k t ≠ ⟨#[]⟩) : tokV k (nameV k t) = t := by
  by_cases hx : ∃ j, ∃ hj : j < (wdsE (txt k)).length, t = 5 + j ∧ (wdsE (txt k))[j] ≠ gapB
  · obtain ⟨j, hj, rfl, hg⟩ := hx
    rw [nameV_at hj hg]
    exact tokV_at hj rfl hg (fun i hi hij => wds_once k hk i j hi hj hij)
  · refine absurd (nameV_no (fun j hj => ?_)) h
    by_cases e : t = 5 + j
    · right
      refine Classical.byContradiction fun hg => hx ⟨j, hj, e, hg⟩
    · exact .inl e
/-- what a name that has a token is -/
theorem tok_back (k : Int) (s : ByteArray) (h : tokV k s ≠ 0) : nameV k (tokV k s) = s := by
  by_cases hx : ∃ j, ∃ hj : j < (wdsE (txt k)).length, (wdsE (txt k))[j] = s ∧ s ≠ gapB
  · have hx2 : ∃ j, (∃ hj : j < (wdsE (txt k)).length, (wdsE (txt k))[j] = s ∧ s ≠ gapB) ∧ ∀ i, i < j → ¬ ∃ hj : i < (wdsE (txt k)).length, (wdsE (txt k))[i] = s ∧ s ≠ gapB := by
      obtain ⟨j, hj⟩ := hx
      have hind : ∀ n, (∃ hj : n < (wdsE (txt k)).length, (wdsE (txt k))[n] = s ∧ s ≠ gapB) → ∃ j, (∃ hj : j < (wdsE (txt k)).length, (wdsE (txt k))[j] = s ∧ s ≠ gapB) ∧ ∀ i, i < j → ¬ ∃ hj : i < (wdsE (txt k)).length, (wdsE (txt k))[i] = s ∧ s ≠ gapB := by
        intro n
        induction n using Nat.strongRecOn with
        | ind n ih =>
          intro hn
          by_cases hm : ∃ m, m < n ∧ ∃ hj : m < (wdsE (txt k)).length, (wdsE (txt k))[m] = s ∧ s ≠ gapB
          · obtain ⟨m, hmn, hm⟩ := hm
            exact ih m hmn hm
          · exact ⟨n, hn, fun i hi hc => hm ⟨i, hi, hc⟩⟩
      exact hind j hj
    obtain ⟨j, ⟨hj, he, hg⟩, hn⟩ := hx2
    rw [tokV_at hj he hg (fun i hi hij e => hn i hij ⟨hi, e, hg⟩)]
    rw [nameV_at hj (by rw [he]; exact hg), he]
  · refine absurd (tokV_no (fun j hj => ?_)) h
    by_cases e : (wdsE (txt k))[j] = s
    · right
      refine Classical.byContradiction fun hg => hx ⟨j, hj, e, hg⟩
    · exact .inl e
theorem off_page (k : Int) (h : k < 0 ∨ 2 < k) (s : ByteArray) (t : Nat) : tokV k s = 0 ∧ nameV k t = ⟨#[]⟩ := by
  have hE : wdsE (txt k) = [] := by
    rw [txt_else (by omega) (by omega) (by omega)]; unfold wdsE; rw [if_pos (show (txtN 4).size = 0 by kernel_rfl)]
  exact ⟨tokV_no (fun j hj => by rw [hE] at hj; simp at hj), nameV_no (fun j hj => by rw [hE] at hj; simp at hj)⟩
theorem page_space (k : Int) (hk : k = 0 ∨ k = 1 ∨ k = 2) : pagV (spc k) = k := by
  have h01 : spc 0 ≠ spc 1 := of_decide_eq_true (show decide (spc 0 ≠ spc 1) = true by kernel_rfl)
  have h02 : spc 0 ≠ spc 2 := of_decide_eq_true (show decide (spc 0 ≠ spc 2) = true by kernel_rfl)
  have h12 : spc 1 ≠ spc 2 := of_decide_eq_true (show decide (spc 1 ≠ spc 2) = true by kernel_rfl)
  unfold pagV
  rcases hk with rfl | rfl | rfl
  · rw [if_pos rfl]
  · rw [if_neg h01, if_pos rfl]
  · rw [if_neg h02, if_neg h12, if_pos rfl]
theorem tokV_lt (k : Int) (s : ByteArray) : tokV k s < 256 := by
  have hn := wdsE_len k
  by_cases h : tokV k s = 0
  · omega
  · unfold tokV at h ⊢
    cases hf : List.find? (fun p => decide (p.2 = s)) (tks k) with
    | none => rw [hf] at h; simp at h
    | some p =>
      obtain ⟨j, hj, rfl, _⟩ := mem_tkL (List.mem_of_find?_eq_some hf)
      simp; omega

theorem spt_next {a b : World} (hb : Below a.heap.size a b) (h : SpT a) : SpT b := h.below hb h.lt

set_option maxRecDepth 100000 in
set_option maxHeartbeats 4000000 in
theorem one_walk (k : Int) (s : ByteArray) (t : Nat) (_ : t < 256) (w : World) (hT : SpT w) : Calls Tryd.prog 8 #[.int .i64 k, .string s, .int .u8 (t : Int)] w fun e w' => e = .returned (.bool true) ∧ Below w.heap.size w w' := by
  have c22 := Lib.hid (fun w h => token_any k s w h)
  have c14 := Lib.hid (fun w h => vname_any k t w h)
  have hB0 : Below w.heap.size w w := Below.refl _ _
  by_cases hk : k < 0 ∨ 2 < k
  · obtain ⟨e1, e2⟩ := off_page k hk s t
    rw [e1] at c22
    rw [e2] at c14
    clear e1 e2
    by_cases hk0 : k < 0
    · clear hk
      go_enter Tryd.func8, Tryd.ntmps8
      go_wp2_with (first | (go_at_call 14; (with_reducible refine (c14.out _ (by assumption)).mono ?_); rintro e w1 ⟨rfl, hb1⟩; have hT1 := spt_next hb1 (by assumption); have hB1 : Below w.heap.size w w1 := bel_next (by assumption) hb1) | (go_at_call 22; (with_reducible refine (c22.out _ (by assumption)).mono ?_); rintro e w1 ⟨rfl, hb1⟩; have hT1 := spt_next hb1 (by assumption); have hB1 : Below w.heap.size w w1 := bel_next (by assumption) hb1))
      go_ret
      exact ⟨rfl, by assumption⟩
    · have hk2 : 2 < k := by omega
      clear hk
      go_enter Tryd.func8, Tryd.ntmps8
      go_wp2_with (first | (go_at_call 14; (with_reducible refine (c14.out _ (by assumption)).mono ?_); rintro e w1 ⟨rfl, hb1⟩; have hT1 := spt_next hb1 (by assumption); have hB1 : Below w.heap.size w w1 := bel_next (by assumption) hb1) | (go_at_call 22; (with_reducible refine (c22.out _ (by assumption)).mono ?_); rintro e w1 ⟨rfl, hb1⟩; have hT1 := spt_next hb1 (by assumption); have hB1 : Below w.heap.size w w1 := bel_next (by assumption) hb1))
      go_ret
      exact ⟨rfl, by assumption⟩
  · have hkk : k = 0 ∨ k = 1 ∨ k = 2 := by omega
    have hk0 : ¬ k < 0 := by omega
    have hk2 : ¬ 2 < k := by omega
    have hps := page_space k hkk
    have c24 := Lib.hid (fun w => space_any k w)
    have c26 := Lib.hid (fun w => page_any (spc k) w)
    rw [hps] at c26
    have c22c := Lib.hid (fun w h => token_any 2 { data := #[68, 101, 118, 73, 110, 102] } w h)
    have c22d := Lib.hid (fun w h => token_any 0 { data := #[65, 110, 99, 104, 111, 114] } w h)
    rw [tok_devinf] at c22c
    rw [tok_anchor] at c22d
    have H1 : Hid (nameV k t ≠ ⟨#[]⟩ → tokV k (nameV k t) = t) := name_back k hkk t
    have H2 : Hid (tokV k s ≠ 0 → nameV k (tokV k s) = s) := tok_back k s
    have c22b := Lib.hid (fun w h => token_any k (nameV k t) w h)
    have c14b := Lib.hid (fun w h => vname_any k (tokV k s) w h)
    have hss := (str_is s s).2 rfl
    generalize spc k = sp at *
    clear hps hk hkk
    by_cases h1 : nameV k t = ⟨#[]⟩
    · rw [h1] at c14
      clear H1 c22b h1
      by_cases h2 : tokV k s = 0
      · rw [h2] at c22
        clear H2 c14b h2
        go_enter Tryd.func8, Tryd.ntmps8
        go_wp2_with (first | (go_at_call 14; (first | (with_reducible refine (c14.out _ (by assumption)).mono ?_)); rintro e w1 ⟨rfl, hb1⟩; have hT1 := spt_next hb1 (by assumption); have hB1 : Below w.heap.size w w1 := bel_next (by assumption) hb1) | (go_at_call 22; (first | (with_reducible refine (c22.out _ (by assumption)).mono ?_) | (with_reducible refine (c22c.out _ (by assumption)).mono ?_) | (with_reducible refine (c22d.out _ (by assumption)).mono ?_)); rintro e w1 ⟨rfl, hb1⟩; have hT1 := spt_next hb1 (by assumption); have hB1 : Below w.heap.size w w1 := bel_next (by assumption) hb1) | (go_at_call 24; refine (c24.out _).mono ?_; rintro e w1 ⟨rfl, rfl⟩) | (go_at_call 26; refine (c26.out _).mono ?_; rintro e w1 ⟨rfl, hb1⟩; have hT1 := spt_next hb1 (by assumption); have hB1 : Below w.heap.size w w1 := bel_next (by assumption) hb1))
        go_ret
        exact ⟨rfl, by assumption⟩
      · rw [H2.out h2] at c14b
        clear H2
        generalize tokV k s = v1 at *
        have hv : ((v1 : Int) != 0) = true := by rw [bne_iff_ne]; omega
        clear h2
        go_enter Tryd.func8, Tryd.ntmps8
        go_wp2_with (first | (go_at_call 14; (first | (with_reducible refine (c14.out _ (by assumption)).mono ?_) | (with_reducible refine (c14b.out _ (by assumption)).mono ?_)); rintro e w1 ⟨rfl, hb1⟩; have hT1 := spt_next hb1 (by assumption); have hB1 : Below w.heap.size w w1 := bel_next (by assumption) hb1) | (go_at_call 22; (first | (with_reducible refine (c22.out _ (by assumption)).mono ?_) | (with_reducible refine (c22c.out _ (by assumption)).mono ?_) | (with_reducible refine (c22d.out _ (by assumption)).mono ?_)); rintro e w1 ⟨rfl, hb1⟩; have hT1 := spt_next hb1 (by assumption); have hB1 : Below w.heap.size w w1 := bel_next (by assumption) hb1) | (go_at_call 24; refine (c24.out _).mono ?_; rintro e w1 ⟨rfl, rfl⟩) | (go_at_call 26; refine (c26.out _).mono ?_; rintro e w1 ⟨rfl, hb1⟩; have hT1 := spt_next hb1 (by assumption); have hB1 : Below w.heap.size w w1 := bel_next (by assumption) hb1))
        go_ret
        exact ⟨rfl, by assumption⟩
    · rw [H1.out h1] at c22b
      clear H1
      generalize nameV k t = v2 at *
      have he : v2.toList.isEmpty = false := isEmpty_no v2 (fun h => h1 (by
        have := List.eq_nil_of_length_eq_zero (l := v2.data.toList) (by rw [len_toList]; exact h)
        exact Go.WideShapes.bytes_inj (by rw [this])))
      clear h1
      by_cases h2 : tokV k s = 0
      · rw [h2] at c22
        clear H2 c14b h2
        go_enter Tryd.func8, Tryd.ntmps8
        go_wp2_with (first | (go_at_call 14; (first | (with_reducible refine (c14.out _ (by assumption)).mono ?_)); rintro e w1 ⟨rfl, hb1⟩; have hT1 := spt_next hb1 (by assumption); have hB1 : Below w.heap.size w w1 := bel_next (by assumption) hb1) | (go_at_call 22; (first | (with_reducible refine (c22.out _ (by assumption)).mono ?_) | (with_reducible refine (c22b.out _ (by assumption)).mono ?_) | (with_reducible refine (c22c.out _ (by assumption)).mono ?_) | (with_reducible refine (c22d.out _ (by assumption)).mono ?_)); rintro e w1 ⟨rfl, hb1⟩; have hT1 := spt_next hb1 (by assumption); have hB1 : Below w.heap.size w w1 := bel_next (by assumption) hb1) | (go_at_call 24; refine (c24.out _).mono ?_; rintro e w1 ⟨rfl, rfl⟩) | (go_at_call 26; refine (c26.out _).mono ?_; rintro e w1 ⟨rfl, hb1⟩; have hT1 := spt_next hb1 (by assumption); have hB1 : Below w.heap.size w w1 := bel_next (by assumption) hb1))
        go_ret
        exact ⟨rfl, by assumption⟩
      · rw [H2.out h2] at c14b
        clear H2
        generalize tokV k s = v1 at *
        have hv : ((v1 : Int) != 0) = true := by rw [bne_iff_ne]; omega
        clear h2
        go_enter Tryd.func8, Tryd.ntmps8
        go_wp2_with (first | (go_at_call 14; (first | (with_reducible refine (c14.out _ (by assumption)).mono ?_) | (with_reducible refine (c14b.out _ (by assumption)).mono ?_)); rintro e w1 ⟨rfl, hb1⟩; have hT1 := spt_next hb1 (by assumption); have hB1 : Below w.heap.size w w1 := bel_next (by assumption) hb1) | (go_at_call 22; (first | (with_reducible refine (c22.out _ (by assumption)).mono ?_) | (with_reducible refine (c22b.out _ (by assumption)).mono ?_) | (with_reducible refine (c22c.out _ (by assumption)).mono ?_) | (with_reducible refine (c22d.out _ (by assumption)).mono ?_)); rintro e w1 ⟨rfl, hb1⟩; have hT1 := spt_next hb1 (by assumption); have hB1 : Below w.heap.size w w1 := bel_next (by assumption) hb1) | (go_at_call 24; refine (c24.out _).mono ?_; rintro e w1 ⟨rfl, rfl⟩) | (go_at_call 26; refine (c26.out _).mono ?_; rintro e w1 ⟨rfl, hb1⟩; have hT1 := spt_next hb1 (by assumption); have hB1 : Below w.heap.size w w1 := bel_next (by assumption) hb1))
        go_ret
        exact ⟨rfl, by assumption⟩
end Go.Proofs.YtcpmgnejbfnnjaaDoor
