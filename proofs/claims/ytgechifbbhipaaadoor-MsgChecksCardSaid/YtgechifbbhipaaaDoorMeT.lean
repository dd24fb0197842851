/- tree: an element's first kid of a name, both. No condition but how many kids. -/
import Derived.Test.YtgechifbbhipaaaDoorGrX
import Derived.Test.YtgechifbbhipaaaDoorMeN
set_option linter.unusedVariables false
set_option linter.unusedSimpArgs false
namespace Go.Proofs.YtgechifbbhipaaaDoor
open Go.RowKit

def flK (key : ByteArray) (ks : List Tr) : List Tr := ks.filter fun k => decide (k.name = key)
/-- a row whose first element is the first kid of a name, if there is one -/
def FirstK (key : ByteArray) (ks : List Tr) (a : Option Addr) (n : Nat) (w : World) : Prop := match flK key ks with
  | [] => n = 0
  | k :: _ => 0 < n ∧ ∃ g, a = some ⟨g, 0, none⟩ ∧ w.cell? ⟨g, 2, none⟩ = some (.string k.text)
theorem first_snoc {F F2 : List Tr} {ke : Tr} {xs GL : List Value} (hF : F2 = F ++ [ke]) (h0 : F.length = 0 → xs = []) (hX : ∀ k l, F = k :: l → xs[2]? = some (.string k.text)) (hg : GL[2]? = some (.string ke.text)) : ∀ k l, F2 = k :: l → (xs ++ GL)[2]? = some (.string k.text) := by
  intro k l h
  rw [hF] at h
  cases F with
  | nil =>
    rw [h0 rfl]
    injection h with h1 _
    rw [← h1]; exact hg
  | cons f F =>
    injection h with h1 _
    have h2 := hX f F rfl
    rw [← h1, List.getElem?_append_left (List.getElem?_eq_some_iff.1 h2).1]; exact h2
theorem firstK_own {key : ByteArray} {ks : List Tr} {a : Option Addr} {B n c : Nat} {xs : List Value} {X : World} (h : X.ownsRow B 46 5 (.slice a n c) n xs) (hn : n = (flK key ks).length) (hx : ∀ k l, flK key ks = k :: l → xs[2]? = some (.string k.text)) : FirstK key ks a n X := by
  unfold FirstK
  cases hf : flK key ks with
  | nil => rw [hf] at hn; exact hn
  | cons k l =>
    rw [hf] at hn
    have hpos : 0 < n := by rw [hn]; simp
    refine ⟨hpos, ?_⟩
    rcases h.2 with ⟨_, h0⟩ | ⟨g, cap, cur, hv, hg, hh, _⟩
    · omega
    · simp only [Value.slice.injEq] at hv
      obtain ⟨rfl, _, rfl⟩ := hv
      exact ⟨g, rfl, h.cells (g := g) rfl 2 _ (hx k l hf)⟩

set_option maxRecDepth 100000 in
set_option maxHeartbeats 2000000 in
theorem kidsP_any (p : Int) (nm tx : ByteArray) (o : Bool) (a : Option Addr) (c M : Nat) (ks : List Tr) (key : ByteArray) (w : World) (hM : M ≤ w.heap.size) (hk : AtL w M a 0 ks) (hl : ks.length ≤ 3000) :
    Calls Tryd.prog 184 #[.agg #[.int .i64 p, .string nm, .string tx, .bool o, .slice a ks.length c], .string key] w fun e w' => (∃ a' n' c', e = .returned (.slice a' n' c') ∧ FirstK key ks a' n' w') ∧ Below w.heap.size w w' := by
  have HKs := Lib.hid hk
  have HM := Lib.hid hM
  have HLl := Lib.hid hl
  obtain ⟨i0, hin, hz0, hz1, hz2⟩ := info24
  have HBox : Hid (Below w.heap.size w (w.alloc (.cells #[.int .i64 p, .string nm, .string tx, .bool o, .slice a ks.length c] 46))) := (Below.refl _ w).alloc (Nat.le_refl _) _
  have HOwn0 : Hid ((w.alloc (.cells #[.int .i64 p, .string nm, .string tx, .bool o, .slice a ks.length c] 46)).ownsRow (w.heap.size + 1) 46 5 (.slice none 0 0) 0 []) := World.ownsRow_nil _ _ _ _
  have HBox4 : Hid (∀ X, Below (w.heap.size + 1) (w.alloc (.cells #[.int .i64 p, .string nm, .string tx, .bool o, .slice a ks.length c] 46)) X → X.cell? ⟨w.heap.size, 4, none⟩ = some (.slice a ks.length c)) := fun X hX => (y5_ofG hX).2.2.2.2
  have HSz0 : Hid ((w.alloc (.cells #[.int .i64 p, .string nm, .string tx, .bool o, .slice a ks.length c] 46)).heap.size = w.heap.size + 1) := World.size_alloc _ _
  have HF : Hid (∀ a' n' c' xs X, X.ownsRow (w.heap.size + 1) 46 5 (.slice a' n' c') n' xs → n' = (flK key ks).length → (∀ k l, flK key ks = k :: l → xs[2]? = some (.string k.text)) → FirstK key ks a' n' X) := fun a' n' c' xs X h1 h2 h3 => firstK_own h1 h2 h3
  clear hk hM hl
  generalize hnk : ks.length = nk at *
  have HNK := Lib.hid hnk
  clear hnk
  go_enter Tryd.func184, Tryd.ntmps184
  go_wp2_with fail
  generalize w.alloc (.cells #[.int .i64 p, .string nm, .string tx, .bool o, .slice a nk c] 46) = W0 at *
  go_loopw [5, 7, 11] (fun lv _ iv wr => ∃ (i n' : Nat) (a' : Option Addr) (c' : Nat) (xs : List Value), i ≤ nk ∧ n' ≤ i ∧ lv = .slice a' n' c' ∧ iv = .int .i64 (i : Int) ∧ Hid (wr.ownsRow (w.heap.size + 1) 46 5 (.slice a' n' c') n' xs) ∧ Hid (n' = (flK key (ks.take i)).length) ∧ Hid (n' = 0 → xs = []) ∧ Hid (∀ k l, flK key (ks.take i) = k :: l → xs[2]? = some (.string k.text)) ∧ Hid (Below (w.heap.size + 1) W0 wr) ∧ Hid (w.heap.size + 1 ≤ wr.heap.size)) (fun _ _ iv _ => nk - (intOf iv).toNat)
  case atStart => exact ⟨0, 0, none, 0, [], Nat.zero_le _, Nat.le_refl _, rfl, rfl, HOwn0.out, rfl, fun _ => rfl, fun k l h => by simp [flK] at h, Below.refl _ _, Nat.le_of_eq HSz0.out.symm⟩
  case round =>
    obtain ⟨i, n', a', c', xs, hi, hn, rfl, rfl, HO, HN, HZ, HX, HB, HS⟩ := hrel
    have HNi := Lib.hid hn
    by_cases hlt : i < nk
    · have j3 : (i : Int) < (nk : Int) := by omega
      have d3 : decide (i < nk) = true := by simp; omega
      have HMs : Hid (nk - (intOf (.int .i64 ((i : Int) + 1))).toNat < nk - (intOf (.int .i64 (i : Int))).toNat) := by unfold Hid; simp [intOf]; omega
      have HI1 : Hid (i + 1 ≤ nk) := hlt
      have hik : i < ks.length := by rw [HNK.out]; exact hlt
      have hw1 : wrap64 ((i : Int) + 1) = (i : Int) + 1 := by
        have h1 := HLl.out
        unfold Hid at h1
        unfold wrap64; omega
      have HW1 := Lib.hid hw1
      have h63 : n' + 1 ≤ maxLen := by
        have h1 := HLl.out
        unfold Hid at h1
        simp [maxLen]; omega
      have hby : (n' + 1) * 72 ≤ 140737488355328 := by
        have h1 := HLl.out
        unfold Hid at h1
        omega
      have H63 := Lib.hid h63
      have HBY := Lib.hid hby
      have HBw : Hid (Below w.heap.size w wr) := HBox.out.trans (HB.out.mono (Nat.le_succ _))
      obtain ⟨bb, oo, a2, c2, rfl, hrg, hat⟩ := kid_at2 HKs.out (HBw.out.mono HM.out) i hik
      obtain ⟨x0, x1, x2, x3, x4⟩ := elem_cells hrg
      have HTk : Hid (ks.take (i + 1) = ks.take i ++ [ks[i]]) := List.take_succ_eq_append_getElem hik
      have hq : Hid ((ks[i].name = key → flK key (ks.take (i + 1)) = flK key (ks.take i) ++ [ks[i]]) ∧ (ks[i].name ≠ key → flK key (ks.take (i + 1)) = flK key (ks.take i))) := by
        unfold Hid
        rw [HTk.out]
        exact ⟨fun h => by unfold flK; rw [List.filter_append, List.filter_cons, if_pos (decide_eq_true h)]; rfl, fun h => by unfold flK; rw [List.filter_append, List.filter_cons, if_neg (by simp [h])]; simp⟩
      have HTx : Hid (∀ k : Tr, k = ks[i] → k.text = ks[i].text) := fun k h => by rw [h]
      clear hrg hat hw1 h63 hby HTk hi hn hlt
      generalize hke : ks[i] = ke at *
      have hkt : ke.text = ke.text := rfl
      generalize hkp : ke.page = kp at *
      generalize hkn : ke.name = kn at *
      generalize hktt : ke.text = kt at *
      generalize hko : ke.opq = ko at *
      generalize hkl : ke.kids.length = kl at *
      have HTT := Lib.hid hktt
      clear hke hkp hkn hktt hko hkl hkt HTx hik
      by_cases hkey : kn = key
      · have hqe := (strU_is kn key).2 hkey
        have HQ := Lib.hid (hq.out.1 hkey)
        have hnew := cells_new (wr.alloc (.cells #[.int .i64 kp, .string kn, .string kt, .bool ko, .slice a2 kl c2] 46)) [.int .i64 kp, .string kn, .string kt, .bool ko, .slice a2 kl c2] 46
        rw [World.size_alloc] at hnew
        have HNew := Lib.hid hnew
        have hw1 := HW1.out
        clear hnew hq hkey
        go_wp2_with (at_builtin; go_must (refine wpList_append_own_at _ rfl _ _ 44 rfl (w.heap.size + 1) 46 i0 _ 5 72 Tryd.underlying44 hin hz0 hz1 hz2 rfl (by decide) _ _ xs rfl ((HO.out.alloc _).alloc _) ⟨wr.heap.size + 1, 0, none⟩ 1 1 [.int .i64 kp, .string kn, .string kt, .bool ko, .slice a2 kl c2] rfl rfl HNew.out (by simp [Value.oneCell']) H63.out HBY.out (by have := HS.out; unfold Hid at this; simp; omega) ?_); intro v' w3 hown3 hgr3 _ hob3)
        obtain ⟨a1, c1, rfl⟩ := own_form hown3
        have HO3 := Lib.hid hown3
        have HB3 : Hid (Below (w.heap.size + 1) W0 w3) := HB.out.trans (((((Below.refl _ wr).alloc (by have := HS.out; unfold Hid at this; omega) _).alloc (by have := HS.out; unfold Hid at this; simp; omega) _) : Below (w.heap.size + 1) wr ((wr.alloc (.cells #[.int .i64 kp, .string kn, .string kt, .bool ko, .slice a2 kl c2] 46)).alloc (.cells #[.int .i64 kp, .string kn, .string kt, .bool ko, .slice a2 kl c2] 46))).trans (below_row ((HO.out.alloc _).alloc _) hgr3 (by have := HS.out; unfold Hid at this; simp; omega)))
        have HS3 : Hid (w.heap.size + 1 ≤ w3.heap.size) := by have h1 := hgr3.size; have h2 := HS.out; unfold Hid at h2 ⊢; simp only [World.size_alloc] at h1; omega
        clear hown3 hgr3 hob3
        go_roundw
        case rel => exact ⟨i + 1, n' + 1, a1, c1, _, HI1.out, Nat.succ_le_succ HNi.out, rfl, by go_num, HO3.out, by unfold Hid; rw [HQ.out, List.length_append, ← HN.out]; rfl, fun h => absurd h (Nat.succ_ne_zero _), first_snoc HQ.out (fun h => HZ.out (HN.out.trans h)) HX.out (by rw [HTT.out]; rfl), HB3.out, HS3.out⟩
        case measure => first | exact HMs.out | (rw [HW1.out]; exact HMs.out)
      · have hqe := strU_not hkey
        have HQ := Lib.hid (hq.out.2 hkey)
        have hw1 := HW1.out
        clear hq hkey
        go_wp2_with fail
        go_roundw
        case rel => exact ⟨i + 1, n', a', c', xs, HI1.out, Nat.le_succ_of_le HNi.out, rfl, by go_num, HO.out.alloc _, by unfold Hid; rw [HQ.out]; exact HN.out, HZ.out, by unfold Hid; rw [HQ.out]; exact HX.out, HB.out.alloc (by have h1 := HS.out; unfold Hid at h1; omega) _, by have h1 := HS.out; unfold Hid at h1 ⊢; rw [World.size_alloc]; omega⟩
        case measure => first | exact HMs.out | (rw [HW1.out]; exact HMs.out)
    · have j3 : ¬ (i : Int) < (nk : Int) := by omega
      obtain rfl : i = nk := by omega
      have hfin := HF.out a' n' c' xs wr HO.out (by rw [HN.out, ← HNK.out, List.take_length]) (fun k l h => HX.out k l (by rw [← HNK.out, List.take_length]; exact h))
      have HFin := Lib.hid hfin
      clear hi hn hlt hfin
      go_wp2_with fail
      go_ret
      exact ⟨⟨a', n', ⟨c', rfl⟩, HFin.out⟩, HBox.out.trans (HB.out.mono (Nat.le_succ _))⟩

set_option maxRecDepth 100000 in
set_option maxHeartbeats 2000000 in
theorem kidsR_any (p : Int) (nm tx : ByteArray) (o : Bool) (a : Option Addr) (c M : Nat) (ks : List Tr) (key : ByteArray) (w : World) (hM : M ≤ w.heap.size) (hk : AtL w M a 0 ks) (hl : ks.length ≤ 3000) :
    Calls Tryd.prog 153 #[.agg #[.int .i64 p, .string nm, .string tx, .bool o, .slice a ks.length c], .string key] w fun e w' => (∃ a' n' c', e = .returned (.slice a' n' c') ∧ FirstK key ks a' n' w') ∧ Below w.heap.size w w' := by
  have HKs := Lib.hid hk
  have HM := Lib.hid hM
  have HLl := Lib.hid hl
  obtain ⟨i0, hin, hz0, hz1, hz2⟩ := info24
  have HBox : Hid (Below w.heap.size w (w.alloc (.cells #[.int .i64 p, .string nm, .string tx, .bool o, .slice a ks.length c] 46))) := (Below.refl _ w).alloc (Nat.le_refl _) _
  have HOwn0 : Hid ((w.alloc (.cells #[.int .i64 p, .string nm, .string tx, .bool o, .slice a ks.length c] 46)).ownsRow (w.heap.size + 1) 46 5 (.slice none 0 0) 0 []) := World.ownsRow_nil _ _ _ _
  have HBox4 : Hid (∀ X, Below (w.heap.size + 1) (w.alloc (.cells #[.int .i64 p, .string nm, .string tx, .bool o, .slice a ks.length c] 46)) X → X.cell? ⟨w.heap.size, 4, none⟩ = some (.slice a ks.length c)) := fun X hX => (y5_ofG hX).2.2.2.2
  have HSz0 : Hid ((w.alloc (.cells #[.int .i64 p, .string nm, .string tx, .bool o, .slice a ks.length c] 46)).heap.size = w.heap.size + 1) := World.size_alloc _ _
  have HF : Hid (∀ a' n' c' xs X, X.ownsRow (w.heap.size + 1) 46 5 (.slice a' n' c') n' xs → n' = (flK key ks).length → (∀ k l, flK key ks = k :: l → xs[2]? = some (.string k.text)) → FirstK key ks a' n' X) := fun a' n' c' xs X h1 h2 h3 => firstK_own h1 h2 h3
  clear hk hM hl
  generalize hnk : ks.length = nk at *
  have HNK := Lib.hid hnk
  clear hnk
  go_enter Tryd.func153, Tryd.ntmps153
  go_wp2_with fail
  generalize w.alloc (.cells #[.int .i64 p, .string nm, .string tx, .bool o, .slice a nk c] 46) = W0 at *
  go_loopw [5, 6] (fun lv iv wr => ∃ (i n' : Nat) (a' : Option Addr) (c' : Nat) (xs : List Value), i ≤ nk ∧ n' ≤ i ∧ lv = .slice a' n' c' ∧ iv = .int .i64 (i : Int) ∧ Hid (wr.ownsRow (w.heap.size + 1) 46 5 (.slice a' n' c') n' xs) ∧ Hid (n' = (flK key (ks.take i)).length) ∧ Hid (n' = 0 → xs = []) ∧ Hid (∀ k l, flK key (ks.take i) = k :: l → xs[2]? = some (.string k.text)) ∧ Hid (Below (w.heap.size + 1) W0 wr) ∧ Hid (w.heap.size + 1 ≤ wr.heap.size)) (fun _ iv _ => nk - (intOf iv).toNat)
  case atStart => exact ⟨0, 0, none, 0, [], Nat.zero_le _, Nat.le_refl _, rfl, rfl, HOwn0.out, rfl, fun _ => rfl, fun k l h => by simp [flK] at h, Below.refl _ _, Nat.le_of_eq HSz0.out.symm⟩
  case round =>
    obtain ⟨i, n', a', c', xs, hi, hn, rfl, rfl, HO, HN, HZ, HX, HB, HS⟩ := hrel
    have HNi := Lib.hid hn
    have y4 := HBox4.out wr HB.out
    by_cases hlt : i < nk
    · have j3 : (i : Int) < (nk : Int) := by omega
      have d3 : decide (i < nk) = true := by simp; omega
      have HMs : Hid (nk - (intOf (.int .i64 ((i : Int) + 1))).toNat < nk - (intOf (.int .i64 (i : Int))).toNat) := by unfold Hid; simp [intOf]; omega
      have HI1 : Hid (i + 1 ≤ nk) := hlt
      have hik : i < ks.length := by rw [HNK.out]; exact hlt
      have hw1 : wrap64 ((i : Int) + 1) = (i : Int) + 1 := by
        have h1 := HLl.out
        unfold Hid at h1
        unfold wrap64; omega
      have HW1 := Lib.hid hw1
      have h63 : n' + 1 ≤ maxLen := by
        have h1 := HLl.out
        unfold Hid at h1
        simp [maxLen]; omega
      have hby : (n' + 1) * 72 ≤ 140737488355328 := by
        have h1 := HLl.out
        unfold Hid at h1
        omega
      have H63 := Lib.hid h63
      have HBY := Lib.hid hby
      have HBw : Hid (Below w.heap.size w wr) := HBox.out.trans (HB.out.mono (Nat.le_succ _))
      obtain ⟨bb, oo, a2, c2, rfl, hrg, hat⟩ := kid_at2 HKs.out (HBw.out.mono HM.out) i hik
      obtain ⟨x0, x1, x2, x3, x4⟩ := elem_cells hrg
      have HTk : Hid (ks.take (i + 1) = ks.take i ++ [ks[i]]) := List.take_succ_eq_append_getElem hik
      have hq : Hid ((ks[i].name = key → flK key (ks.take (i + 1)) = flK key (ks.take i) ++ [ks[i]]) ∧ (ks[i].name ≠ key → flK key (ks.take (i + 1)) = flK key (ks.take i))) := by
        unfold Hid
        rw [HTk.out]
        exact ⟨fun h => by unfold flK; rw [List.filter_append, List.filter_cons, if_pos (decide_eq_true h)]; rfl, fun h => by unfold flK; rw [List.filter_append, List.filter_cons, if_neg (by simp [h])]; simp⟩
      have HTx : Hid (∀ k : Tr, k = ks[i] → k.text = ks[i].text) := fun k h => by rw [h]
      clear hrg hat hw1 h63 hby HTk hi hn hlt
      generalize hke : ks[i] = ke at *
      have hkt : ke.text = ke.text := rfl
      generalize hkp : ke.page = kp at *
      generalize hkn : ke.name = kn at *
      generalize hktt : ke.text = kt at *
      generalize hko : ke.opq = ko at *
      generalize hkl : ke.kids.length = kl at *
      have HTT := Lib.hid hktt
      clear hke hkp hkn hktt hko hkl hkt HTx hik
      by_cases hkey : kn = key
      · have hqe := (strU_is kn key).2 hkey
        have HQ := Lib.hid (hq.out.1 hkey)
        have hnew := cells_new wr [.int .i64 kp, .string kn, .string kt, .bool ko, .slice a2 kl c2] 46
        have HNew := Lib.hid hnew
        have hw1 := HW1.out
        clear hnew hq hkey
        go_wp2_with (at_builtin; go_must (refine wpList_append_own_at _ rfl _ _ 44 rfl (w.heap.size + 1) 46 i0 _ 5 72 Tryd.underlying44 hin hz0 hz1 hz2 rfl (by decide) _ _ xs rfl (HO.out.alloc _) ⟨wr.heap.size, 0, none⟩ 1 1 [.int .i64 kp, .string kn, .string kt, .bool ko, .slice a2 kl c2] rfl rfl HNew.out (by simp [Value.oneCell']) H63.out HBY.out (by have := HS.out; unfold Hid at this; simp; omega) ?_); intro v' w3 hown3 hgr3 _ hob3)
        obtain ⟨a1, c1, rfl⟩ := own_form hown3
        have HO3 := Lib.hid hown3
        have HB3 : Hid (Below (w.heap.size + 1) W0 w3) := HB.out.trans ((((Below.refl _ wr).alloc (by have := HS.out; unfold Hid at this; omega) _) : Below (w.heap.size + 1) wr (wr.alloc (.cells #[.int .i64 kp, .string kn, .string kt, .bool ko, .slice a2 kl c2] 46))).trans (below_row (HO.out.alloc _) hgr3 (by have := HS.out; unfold Hid at this; simp; omega)))
        have HS3 : Hid (w.heap.size + 1 ≤ w3.heap.size) := by have h1 := hgr3.size; have h2 := HS.out; unfold Hid at h2 ⊢; simp only [World.size_alloc] at h1; omega
        clear hown3 hgr3 hob3
        go_roundw
        case rel => exact ⟨i + 1, n' + 1, a1, c1, _, HI1.out, Nat.succ_le_succ HNi.out, rfl, by go_num, HO3.out, by unfold Hid; rw [HQ.out, List.length_append, ← HN.out]; rfl, fun h => absurd h (Nat.succ_ne_zero _), first_snoc HQ.out (fun h => HZ.out (HN.out.trans h)) HX.out (by rw [HTT.out]; rfl), HB3.out, HS3.out⟩
        case measure => first | exact HMs.out | (rw [HW1.out]; exact HMs.out)
      · have hqe := strU_not hkey
        have HQ := Lib.hid (hq.out.2 hkey)
        have hw1 := HW1.out
        clear hq hkey
        go_wp2_with fail
        go_roundw
        case rel => exact ⟨i + 1, n', a', c', xs, HI1.out, Nat.le_succ_of_le HNi.out, rfl, by go_num, HO.out, by unfold Hid; rw [HQ.out]; exact HN.out, HZ.out, by unfold Hid; rw [HQ.out]; exact HX.out, HB.out, HS.out⟩
        case measure => first | exact HMs.out | (rw [HW1.out]; exact HMs.out)
    · have j3 : ¬ (i : Int) < (nk : Int) := by omega
      obtain rfl : i = nk := by omega
      have hfin := HF.out a' n' c' xs wr HO.out (by rw [HN.out, ← HNK.out, List.take_length]) (fun k l h => HX.out k l (by rw [← HNK.out, List.take_length]; exact h))
      have HFin := Lib.hid hfin
      clear hi hn hlt hfin
      go_wp2_with fail
      go_ret
      exact ⟨⟨a', n', ⟨c', rfl⟩, HFin.out⟩, HBox.out.trans (HB.out.mono (Nat.le_succ _))⟩
end Go.Proofs.YtgechifbbhipaaaDoor

/- metinf: the text of a kid, both; what a kid says, put to the others (count, take). No condition but how many kids. -/
set_option linter.unusedVariables false
set_option linter.unusedSimpArgs false
namespace Go.Proofs.YtgechifbbhipaaaDoor
open Go.RowKit

def textK (ks : List Tr) (key : ByteArray) : ByteArray × Bool := match flK key ks with
  | [] => (⟨#[]⟩, false)
  | k :: _ => (k.text, true)

set_option maxRecDepth 100000 in
set_option maxHeartbeats 1000000 in
theorem textP_any (p : Int) (nm tx : ByteArray) (o : Bool) (a : Option Addr) (c M : Nat) (ks : List Tr) (key : ByteArray) (w : World) (hM : M ≤ w.heap.size) (hk : AtL w M a 0 ks) (hl : ks.length ≤ 3000) :
    Calls Tryd.prog 151 #[.agg #[.int .i64 p, .string nm, .string tx, .bool o, .slice a ks.length c], .string key] w fun e w' => e = .returned (.tuple #[.string (textK ks key).1, .bool (textK ks key).2]) ∧ Below w.heap.size w w' := by
  have HBox : Hid (Below w.heap.size w (w.alloc (.cells #[.int .i64 p, .string nm, .string tx, .bool o, .slice a ks.length c] 46))) := (Below.refl _ w).alloc (Nat.le_refl _) _
  have cK := Lib.hid (fun X (hX : Below w.heap.size w X) => kidsP_any p nm tx o a c M ks key X (Nat.le_trans hM hX.size) (AtL.below (hX.mono hM) a ks 0 hk) hl)
  clear hk hM hl
  have HR : Hid (textK ks key = match flK key ks with | [] => (⟨#[]⟩, false) | k :: _ => (k.text, true)) := rfl
  unfold FirstK at cK
  generalize textK ks key = R at *
  generalize flK key ks = F at *
  generalize ks.length = nk at *
  go_enter Tryd.func151, Tryd.ntmps151
  go_wp2_with fail
  have cX := cK.out _ HBox.out
  refine cX.mono ?_
  clear cX cK
  rintro e X ⟨⟨a', n', c', rfl, hF⟩, hb⟩
  have HB := Lib.hid (HBox.out.trans (hb.mono HBox.out.size))
  clear hb
  cases F with
  | nil =>
    have hF : n' = 0 := hF
    have HR2 : Hid ((⟨#[]⟩, false) = R) := HR.out.symm
    subst hF
    go_wp2_with fail
    go_ret2
    exact ⟨ret_sb HR2.out, HB.out⟩
  | cons k l =>
    obtain ⟨hp, g, rfl, hc⟩ := hF
    have HR2 : Hid ((k.text, true) = R) := HR.out.symm
    have j1 : (0 : Int) < (n' : Int) := by omega
    have j2 : ((n' : Int) == 0) = false := by rw [beq_eq_false_iff_ne]; omega
    have j3 : decide (0 < n') = true := by simp; omega
    clear HR hp
    go_wp2_with fail
    go_ret2
    exact ⟨ret_sb HR2.out, HB.out⟩

set_option maxRecDepth 100000 in
set_option maxHeartbeats 1000000 in
theorem textR_any (p : Int) (nm tx : ByteArray) (o : Bool) (a : Option Addr) (c M : Nat) (ks : List Tr) (key : ByteArray) (w : World) (hM : M ≤ w.heap.size) (hk : AtL w M a 0 ks) (hl : ks.length ≤ 3000) :
    Calls Tryd.prog 105 #[.agg #[.int .i64 p, .string nm, .string tx, .bool o, .slice a ks.length c], .string key] w fun e w' => e = .returned (.tuple #[.string (textK ks key).1, .bool (textK ks key).2]) ∧ Below w.heap.size w w' := by
  have HBox : Hid (Below w.heap.size w (w.alloc (.cells #[.int .i64 p, .string nm, .string tx, .bool o, .slice a ks.length c] 46))) := (Below.refl _ w).alloc (Nat.le_refl _) _
  have cK := Lib.hid (fun X (hX : Below w.heap.size w X) => kidsR_any p nm tx o a c M ks key X (Nat.le_trans hM hX.size) (AtL.below (hX.mono hM) a ks 0 hk) hl)
  clear hk hM hl
  have HR : Hid (textK ks key = match flK key ks with | [] => (⟨#[]⟩, false) | k :: _ => (k.text, true)) := rfl
  unfold FirstK at cK
  generalize textK ks key = R at *
  generalize flK key ks = F at *
  generalize ks.length = nk at *
  go_enter Tryd.func105, Tryd.ntmps105
  go_wp2_with fail
  have cX := cK.out _ HBox.out
  refine cX.mono ?_
  clear cX cK
  rintro e X ⟨⟨a', n', c', rfl, hF⟩, hb⟩
  have HB := Lib.hid (HBox.out.trans (hb.mono HBox.out.size))
  clear hb
  cases F with
  | nil =>
    have hF : n' = 0 := hF
    have HR2 : Hid ((⟨#[]⟩, false) = R) := HR.out.symm
    subst hF
    go_wp2_with fail
    go_ret2
    exact ⟨ret_sb HR2.out, HB.out⟩
  | cons k l =>
    obtain ⟨hp, g, rfl, hc⟩ := hF
    have HR2 : Hid ((k.text, true) = R) := HR.out.symm
    have j1 : (0 : Int) < (n' : Int) := by omega
    have j2 : ((n' : Int) == 0) = false := by rw [beq_eq_false_iff_ne]; omega
    have j3 : decide (0 < n') = true := by simp; omega
    clear HR hp
    go_wp2_with fail
    go_ret2
    exact ⟨ret_sb HR2.out, HB.out⟩

/-- what is said -/
structure MetV where
  fo : ByteArray
  ty : ByteArray
  sz : Int
  ve : Int
  la : ByteArray
  ne : ByteArray
  no : ByteArray
  mm : Int
  mo : Int
def MetV.cells (m : MetV) : Array Value := #[.string m.fo, .string m.ty, .int .i64 m.sz, .int .i64 m.ve, .string m.la, .string m.ne, .string m.no, .int .i64 m.mm, .int .i64 m.mo]
def met0 : MetV := ⟨⟨#[]⟩, ⟨#[]⟩, 0, 0, ⟨#[]⟩, ⟨#[]⟩, ⟨#[]⟩, 0, 0⟩
/-- a variable that holds it -/
def MetB (b : Nat) (m : MetV) (W : World) : Prop := W.heap[b]? = some (.cells m.cells 23 (0, 0))
theorem MetB.cell {b : Nat} {m : MetV} {W : World} (h : MetB b m W) (j : Nat) (v : Value) (hv : m.cells[j]? = some v) : W.cell? ⟨b, j, none⟩ = some v := by
  simp [World.cell?, show W.heap[b]? = _ from h, hv]
theorem MetB.frozen {b : Nat} {m : MetV} {W : World} (h : MetB b m W) (j : Nat) : W.frozen? ⟨b, j, none⟩ = false := by simp [World.frozen?, show W.heap[b]? = _ from h]
theorem MetB.lt {b : Nat} {m : MetV} {W : World} (h : MetB b m W) : b < W.heap.size := (Array.getElem?_eq_some_iff.1 h).1
theorem MetB.low {b : Nat} {m : MetV} {W X : World} (h : MetB b m W) (hb : Below W.heap.size W X) : MetB b m X := (hb.block b h.lt).trans h
theorem MetB.set {b : Nat} {m m' : MetV} {W : World} (h : MetB b m W) (j : Nat) (v : Value) (hm : m.cells.setIfInBounds j v = m'.cells) : MetB b m' (W.setCell ⟨b, j, none⟩ v) := by
  obtain ⟨hlt, hk⟩ := Array.getElem?_eq_some_iff.1 h
  show (W.heap.modify b _)[b]? = _
  rw [Array.getElem?_eq_getElem (by rw [Array.size_modify]; exact hlt), Array.getElem_modify_self, hk]
  simp [← hm]
/-- only a variable of ours may have changed -/
def OnlyB (b : Nat) (W X : World) : Prop := W.grownBy X (some b)
theorem OnlyB.trans {b : Nat} {A B C : World} (h : OnlyB b A B) (k : OnlyB b B C) : OnlyB b A C :=
  ⟨k.os.trans h.os, k.tape.trans h.tape, k.output.trans h.output, Nat.le_trans h.size k.size, fun i hi hne => (k.block i (Nat.lt_of_lt_of_le hi h.size) hne).trans (h.block i hi hne)⟩
theorem OnlyB.of {b : Nat} {A B : World} (h : Below A.heap.size A B) : OnlyB b A B := ⟨h.os, h.tape, h.output, h.size, fun i hi _ => h.block i hi⟩
theorem OnlyB.set {b : Nat} (W : World) (j : Nat) (v : Value) : OnlyB b W (W.setCell ⟨b, j, none⟩ v) :=
  ⟨rfl, rfl, rfl, by simp [World.setCell], fun i _ hne => Below.heap_setCell _ _ _ i (fun e => hne (by rw [e]))⟩
theorem OnlyB.below {b B : Nat} {A C : World} (h : OnlyB b A C) (hB : B ≤ b) (hs : B ≤ A.heap.size) : Below B A C :=
  ⟨h.os, h.tape, h.output, h.size, fun i hi => h.block i (Nat.lt_of_lt_of_le hi hs) (fun e => by injection e with e; omega)⟩

def cntV (t : ByteArray) : Int × Int := ((rdS t).1, if (rdS t).2 = 0 ∧ (rdS t).1 = 0 then 3 else (rdS t).2)
set_option maxRecDepth 100000 in
set_option maxHeartbeats 1000000 in
theorem count_any (b j : Nat) (p : Int) (nm tx : ByteArray) (o : Bool) (kv u : Value) (w : World) (hs : tx.size ≤ 140737488355328) (hc : w.cell? ⟨b, j, none⟩ = some u) (hf : w.frozen? ⟨b, j, none⟩ = false) :
    Calls Tryd.prog 152 #[.pointer (some ⟨b, j, none⟩), .agg #[.int .i64 p, .string nm, .string tx, .bool o, kv]] w fun e w' => e = .returned (.int .i64 (cntV tx).2) ∧ ∃ X, Below w.heap.size w X ∧ w' = X.setCell ⟨b, j, none⟩ (.int .i64 (cntV tx).1) := by
  have hlt : b < w.heap.size := World.block_lt_of_cell? _ _ hc
  have HBox : Hid (Below w.heap.size w (w.alloc (.cells #[.int .i64 p, .string nm, .string tx, .bool o, kv] 46))) := (Below.refl _ w).alloc (Nat.le_refl _) _
  have cR := Lib.hid (fun X => read_any tx X (by omega))
  have HV : Hid (cntV tx = ((rdS tx).1, if (rdS tx).2 = 0 ∧ (rdS tx).1 = 0 then 3 else (rdS tx).2)) := rfl
  have HC : Hid (∀ X, Below w.heap.size w X → X.cell? ⟨b, j, none⟩ = some u ∧ X.frozen? ⟨b, j, none⟩ = false) := fun X hX => ⟨(hX.cell (p := ⟨b, j, none⟩) hlt).trans hc, by
    have h1 := hX.block b hlt
    unfold World.frozen? at hf ⊢
    rw [show X.heap[(⟨b, j, none⟩ : Addr).block]? = w.heap[(⟨b, j, none⟩ : Addr).block]? from h1]; exact hf⟩
  generalize cntV tx = V at *
  generalize rdS tx = r at *
  obtain ⟨n, f⟩ := r
  simp only [] at cR HV
  clear hs hc hf
  go_enter Tryd.func152, Tryd.ntmps152
  go_wp2_with fail
  have cX := cR.out (w.alloc (.cells #[.int .i64 p, .string nm, .string tx, .bool o, kv] 46))
  refine cX.mono ?_
  clear cX cR
  rintro e X ⟨rfl, hb⟩
  have HB := Lib.hid (HBox.out.trans (hb.mono HBox.out.size))
  clear hb
  obtain ⟨y1, y2⟩ := HC.out _ HB.out
  by_cases hf : f = 0
  · have q1 : (f == 0) = true := by rw [hf]; rfl
    by_cases hn : n = 0
    · have q2 : (n == 0) = true := by rw [hn]; rfl
      have hV : Hid (V = (n, 3)) := by have := HV.out; rw [if_pos ⟨hf, hn⟩] at this; exact this
      clear HV hf hn
      go_wp2_with fail
      go_ret
      exact ⟨by rw [hV.out]; rfl, X, HB.out, by rw [hV.out]⟩
    · have q2 : (n == 0) = false := beq_eq_false_iff_ne.2 hn
      have hV : Hid (V = (n, f)) := by have := HV.out; rw [if_neg (fun h => hn h.2)] at this; exact this
      clear HV hf hn
      go_wp2_with fail
      go_ret
      exact ⟨by rw [hV.out]; rfl, X, HB.out, by rw [hV.out]⟩
  · have q1 : (f == 0) = false := beq_eq_false_iff_ne.2 hf
    have hV : Hid (V = (n, f)) := by have := HV.out; rw [if_neg (fun h => hf h.1)] at this; exact this
    clear HV hf
    go_wp2_with fail
    go_ret
    exact ⟨by rw [hV.out]; rfl, X, HB.out, by rw [hV.out]⟩
end Go.Proofs.YtgechifbbhipaaaDoor

/- metinf: take, each name by itself. No condition but how many kids. -/
set_option linter.unusedVariables false
set_option linter.unusedSimpArgs false
namespace Go.Proofs.YtgechifbbhipaaaDoor
open Go.RowKit

def nFormat : ByteArray := { data := #[70, 111, 114, 109, 97, 116] }
def nType : ByteArray := { data := #[84, 121, 112, 101] }
def nNextNonce : ByteArray := { data := #[78, 101, 120, 116, 78, 111, 110, 99, 101] }
def nAnchor : ByteArray := { data := #[65, 110, 99, 104, 111, 114] }
def nSize : ByteArray := { data := #[83, 105, 122, 101] }
def nVersion : ByteArray := { data := #[86, 101, 114, 115, 105, 111, 110] }
def nMaxMsgSize : ByteArray := { data := #[77, 97, 120, 77, 115, 103, 83, 105, 122, 101] }
def nMaxObjSize : ByteArray := { data := #[77, 97, 120, 79, 98, 106, 83, 105, 122, 101] }
def nLast : ByteArray := { data := #[76, 97, 115, 116] }
def nNext : ByteArray := { data := #[78, 101, 120, 116] }
theorem nameY {x w : ByteArray} {l : List UInt8} (h : x = w) (hl : w.data.toList = l) : (x.toList == l) = true := by rw [h, ByteArray.toList_eq, hl]; simp
theorem nameN {x w : ByteArray} {l : List UInt8} (h : ¬ x = w) (hl : w.data.toList = l) : (x.toList == l) = false := by
  rw [ByteArray.toList_eq, beq_eq_false_iff_ne]
  exact fun e => h (Go.WideShapes.bytes_inj (e.trans hl.symm))
def takeV (m : MetV) (nm tx : ByteArray) (ks : List Tr) : MetV × Int := if nm = nFormat then ({ m with fo := tx }, 0) else if nm = nType then ({ m with ty := tx }, 0) else if nm = nNextNonce then ({ m with no := tx }, 0) else if nm = nAnchor then ({ m with la := (textK ks nLast).1, ne := (textK ks nNext).1 }, 0) else if nm = nSize then ({ m with sz := (cntV tx).1 }, (cntV tx).2) else if nm = nVersion then ({ m with ve := (cntV tx).1 }, (cntV tx).2) else if nm = nMaxMsgSize then ({ m with mm := (cntV tx).1 }, (cntV tx).2) else if nm = nMaxObjSize then ({ m with mo := (cntV tx).1 }, (cntV tx).2) else (m, 0)
def TakeP (b : Nat) (m : MetV) (p : Int) (nm tx : ByteArray) (o : Bool) (a : Option Addr) (c : Nat) (ks : List Tr) (w : World) : Prop :=
  Calls Tryd.prog 102 #[.pointer (some ⟨b, 0, none⟩), .agg #[.int .i64 p, .string nm, .string tx, .bool o, .slice a ks.length c]] w fun e w' => e = .returned (.int .i64 (takeV m nm tx ks).2) ∧ MetB b (takeV m nm tx ks).1 w' ∧ OnlyB b w w'

set_option maxRecDepth 100000 in
set_option maxHeartbeats 1000000 in
theorem take_Format (b : Nat) (m : MetV) (p : Int) (nm tx : ByteArray) (o : Bool) (a : Option Addr) (c M : Nat) (ks : List Tr) (w : World) (hM : M ≤ b) (hk0 : AtL w M a 0 ks) (hl : ks.length ≤ 3000) (hs : tx.size ≤ 140737488355328) (hm : MetB b m w) (hk : nm = nFormat) : TakeP b m p nm tx o a c ks w := by
  unfold TakeP
  have t0 : (nm.toList == [70, 111, 114, 109, 97, 116]) = true := nameY (w := nFormat) hk rfl
  have t1 : (nm.toList == [84, 121, 112, 101]) = false := nameN (show ¬ nm = nType by rw [hk]; decide) rfl
  have t2 : (nm.toList == [78, 101, 120, 116, 78, 111, 110, 99, 101]) = false := nameN (show ¬ nm = nNextNonce by rw [hk]; decide) rfl
  have t3 : (nm.toList == [65, 110, 99, 104, 111, 114]) = false := nameN (show ¬ nm = nAnchor by rw [hk]; decide) rfl
  have t4 : (nm.toList == [83, 105, 122, 101]) = false := nameN (show ¬ nm = nSize by rw [hk]; decide) rfl
  have t5 : (nm.toList == [86, 101, 114, 115, 105, 111, 110]) = false := nameN (show ¬ nm = nVersion by rw [hk]; decide) rfl
  have t6 : (nm.toList == [77, 97, 120, 77, 115, 103, 83, 105, 122, 101]) = false := nameN (show ¬ nm = nMaxMsgSize by rw [hk]; decide) rfl
  have t7 : (nm.toList == [77, 97, 120, 79, 98, 106, 83, 105, 122, 101]) = false := nameN (show ¬ nm = nMaxObjSize by rw [hk]; decide) rfl
  have hV : takeV m nm tx ks = ({ m with fo := tx }, 0) := by unfold takeV; rw [if_pos hk]
  clear hk
  rw [hV]
  clear hV
  have HBox : Hid (Below w.heap.size w (w.alloc (.cells #[.int .i64 p, .string nm, .string tx, .bool o, .slice a ks.length c] 46))) := (Below.refl _ w).alloc (Nat.le_refl _) _
  have HM0 := Lib.hid (hm.low HBox.out)
  have z1 := HM0.out.cell 0 _ rfl
  have z2 := HM0.out.frozen 0
  clear hk0 hl hs hm hM
  generalize ks.length = nk at *
  go_enter Tryd.func102, Tryd.ntmps102
  go_wp2_with fail
  go_ret
  exact ⟨rfl, HM0.out.set 0 _ (by simp [MetV.cells]), (OnlyB.of HBox.out).trans (OnlyB.set _ _ _)⟩

set_option maxRecDepth 100000 in
set_option maxHeartbeats 1000000 in
theorem take_Type (b : Nat) (m : MetV) (p : Int) (nm tx : ByteArray) (o : Bool) (a : Option Addr) (c M : Nat) (ks : List Tr) (w : World) (hM : M ≤ b) (hk0 : AtL w M a 0 ks) (hl : ks.length ≤ 3000) (hs : tx.size ≤ 140737488355328) (hm : MetB b m w) (hk : nm = nType) : TakeP b m p nm tx o a c ks w := by
  unfold TakeP
  have t0 : (nm.toList == [70, 111, 114, 109, 97, 116]) = false := nameN (show ¬ nm = nFormat by rw [hk]; decide) rfl
  have t1 : (nm.toList == [84, 121, 112, 101]) = true := nameY (w := nType) hk rfl
  have t2 : (nm.toList == [78, 101, 120, 116, 78, 111, 110, 99, 101]) = false := nameN (show ¬ nm = nNextNonce by rw [hk]; decide) rfl
  have t3 : (nm.toList == [65, 110, 99, 104, 111, 114]) = false := nameN (show ¬ nm = nAnchor by rw [hk]; decide) rfl
  have t4 : (nm.toList == [83, 105, 122, 101]) = false := nameN (show ¬ nm = nSize by rw [hk]; decide) rfl
  have t5 : (nm.toList == [86, 101, 114, 115, 105, 111, 110]) = false := nameN (show ¬ nm = nVersion by rw [hk]; decide) rfl
  have t6 : (nm.toList == [77, 97, 120, 77, 115, 103, 83, 105, 122, 101]) = false := nameN (show ¬ nm = nMaxMsgSize by rw [hk]; decide) rfl
  have t7 : (nm.toList == [77, 97, 120, 79, 98, 106, 83, 105, 122, 101]) = false := nameN (show ¬ nm = nMaxObjSize by rw [hk]; decide) rfl
  have hV : takeV m nm tx ks = ({ m with ty := tx }, 0) := by unfold takeV; rw [if_neg (show ¬ nm = nFormat by rw [hk]; decide), if_pos hk]
  clear hk
  rw [hV]
  clear hV
  have HBox : Hid (Below w.heap.size w (w.alloc (.cells #[.int .i64 p, .string nm, .string tx, .bool o, .slice a ks.length c] 46))) := (Below.refl _ w).alloc (Nat.le_refl _) _
  have HM0 := Lib.hid (hm.low HBox.out)
  have z1 := HM0.out.cell 1 _ rfl
  have z2 := HM0.out.frozen 1
  clear hk0 hl hs hm hM
  generalize ks.length = nk at *
  go_enter Tryd.func102, Tryd.ntmps102
  go_wp2_with fail
  go_ret
  exact ⟨rfl, HM0.out.set 1 _ (by simp [MetV.cells]), (OnlyB.of HBox.out).trans (OnlyB.set _ _ _)⟩

set_option maxRecDepth 100000 in
set_option maxHeartbeats 1000000 in
theorem take_NextNonce (b : Nat) (m : MetV) (p : Int) (nm tx : ByteArray) (o : Bool) (a : Option Addr) (c M : Nat) (ks : List Tr) (w : World) (hM : M ≤ b) (hk0 : AtL w M a 0 ks) (hl : ks.length ≤ 3000) (hs : tx.size ≤ 140737488355328) (hm : MetB b m w) (hk : nm = nNextNonce) : TakeP b m p nm tx o a c ks w := by
  unfold TakeP
  have t0 : (nm.toList == [70, 111, 114, 109, 97, 116]) = false := nameN (show ¬ nm = nFormat by rw [hk]; decide) rfl
  have t1 : (nm.toList == [84, 121, 112, 101]) = false := nameN (show ¬ nm = nType by rw [hk]; decide) rfl
  have t2 : (nm.toList == [78, 101, 120, 116, 78, 111, 110, 99, 101]) = true := nameY (w := nNextNonce) hk rfl
  have t3 : (nm.toList == [65, 110, 99, 104, 111, 114]) = false := nameN (show ¬ nm = nAnchor by rw [hk]; decide) rfl
  have t4 : (nm.toList == [83, 105, 122, 101]) = false := nameN (show ¬ nm = nSize by rw [hk]; decide) rfl
  have t5 : (nm.toList == [86, 101, 114, 115, 105, 111, 110]) = false := nameN (show ¬ nm = nVersion by rw [hk]; decide) rfl
  have t6 : (nm.toList == [77, 97, 120, 77, 115, 103, 83, 105, 122, 101]) = false := nameN (show ¬ nm = nMaxMsgSize by rw [hk]; decide) rfl
  have t7 : (nm.toList == [77, 97, 120, 79, 98, 106, 83, 105, 122, 101]) = false := nameN (show ¬ nm = nMaxObjSize by rw [hk]; decide) rfl
  have hV : takeV m nm tx ks = ({ m with no := tx }, 0) := by unfold takeV; rw [if_neg (show ¬ nm = nFormat by rw [hk]; decide), if_neg (show ¬ nm = nType by rw [hk]; decide), if_pos hk]
  clear hk
  rw [hV]
  clear hV
  have HBox : Hid (Below w.heap.size w (w.alloc (.cells #[.int .i64 p, .string nm, .string tx, .bool o, .slice a ks.length c] 46))) := (Below.refl _ w).alloc (Nat.le_refl _) _
  have HM0 := Lib.hid (hm.low HBox.out)
  have z1 := HM0.out.cell 6 _ rfl
  have z2 := HM0.out.frozen 6
  clear hk0 hl hs hm hM
  generalize ks.length = nk at *
  go_enter Tryd.func102, Tryd.ntmps102
  go_wp2_with fail
  go_ret
  exact ⟨rfl, HM0.out.set 6 _ (by simp [MetV.cells]), (OnlyB.of HBox.out).trans (OnlyB.set _ _ _)⟩

set_option maxRecDepth 100000 in
set_option maxHeartbeats 1000000 in
theorem take_Anchor (b : Nat) (m : MetV) (p : Int) (nm tx : ByteArray) (o : Bool) (a : Option Addr) (c M : Nat) (ks : List Tr) (w : World) (hM : M ≤ b) (hk0 : AtL w M a 0 ks) (hl : ks.length ≤ 3000) (hs : tx.size ≤ 140737488355328) (hm : MetB b m w) (hk : nm = nAnchor) : TakeP b m p nm tx o a c ks w := by
  unfold TakeP
  have t0 : (nm.toList == [70, 111, 114, 109, 97, 116]) = false := nameN (show ¬ nm = nFormat by rw [hk]; decide) rfl
  have t1 : (nm.toList == [84, 121, 112, 101]) = false := nameN (show ¬ nm = nType by rw [hk]; decide) rfl
  have t2 : (nm.toList == [78, 101, 120, 116, 78, 111, 110, 99, 101]) = false := nameN (show ¬ nm = nNextNonce by rw [hk]; decide) rfl
  have t3 : (nm.toList == [65, 110, 99, 104, 111, 114]) = true := nameY (w := nAnchor) hk rfl
  have t4 : (nm.toList == [83, 105, 122, 101]) = false := nameN (show ¬ nm = nSize by rw [hk]; decide) rfl
  have t5 : (nm.toList == [86, 101, 114, 115, 105, 111, 110]) = false := nameN (show ¬ nm = nVersion by rw [hk]; decide) rfl
  have t6 : (nm.toList == [77, 97, 120, 77, 115, 103, 83, 105, 122, 101]) = false := nameN (show ¬ nm = nMaxMsgSize by rw [hk]; decide) rfl
  have t7 : (nm.toList == [77, 97, 120, 79, 98, 106, 83, 105, 122, 101]) = false := nameN (show ¬ nm = nMaxObjSize by rw [hk]; decide) rfl
  have hV : takeV m nm tx ks = ({ m with la := (textK ks nLast).1, ne := (textK ks nNext).1 }, 0) := by unfold takeV; rw [if_neg (show ¬ nm = nFormat by rw [hk]; decide), if_neg (show ¬ nm = nType by rw [hk]; decide), if_neg (show ¬ nm = nNextNonce by rw [hk]; decide), if_pos hk]
  clear hk
  rw [hV]
  clear hV
  have HBox : Hid (Below w.heap.size w (w.alloc (.cells #[.int .i64 p, .string nm, .string tx, .bool o, .slice a ks.length c] 46))) := (Below.refl _ w).alloc (Nat.le_refl _) _
  have HM0 := Lib.hid (hm.low HBox.out)
  have hbl := hm.lt
  have cT := Lib.hid (fun (key : ByteArray) X (hX : OnlyB b w X) => textP_any p nm tx o a c M ks key X (Nat.le_trans (Nat.le_trans hM (Nat.le_of_lt hbl)) hX.size) (AtL.below (hX.below hM (Nat.le_trans hM (Nat.le_of_lt hbl))) a ks 0 hk0) hl)
  have HSz : Hid ((w.alloc (.cells #[.int .i64 p, .string nm, .string tx, .bool o, .slice a ks.length c] 46)).heap.size = w.heap.size + 1) := World.size_alloc _ _
  have HBk : Hid ((w.alloc (.cells #[.int .i64 p, .string nm, .string tx, .bool o, .slice a ks.length c] 46)).heap[w.heap.size]? = some (.cells #[.int .i64 p, .string nm, .string tx, .bool o, .slice a ks.length c] 46 (0, 0))) := World.alloc_heap_new w _
  have HBl := Lib.hid hbl
  clear hk0 hl hs hm hM hbl
  have cL := Lib.hid (cT.out nLast)
  have cN := Lib.hid (cT.out nNext)
  clear cT
  generalize hL1 : textK ks nLast = L1 at *
  generalize hN1 : textK ks nNext = N1 at *
  obtain ⟨la, lb⟩ := L1
  obtain ⟨na, nb⟩ := N1
  simp only [] at cL cN
  unfold nLast at cL
  unfold nNext at cN
  clear hL1 hN1
  generalize ks.length = nk at *
  go_enter Tryd.func102, Tryd.ntmps102
  go_wp2_with fail
  generalize w.alloc (.cells #[.int .i64 p, .string nm, .string tx, .bool o, .slice a nk c] 46) = W0 at *
  have cX := cL.out _ (OnlyB.of HBox.out)
  refine cX.mono ?_
  clear cX cL
  rintro e X1 ⟨rfl, hb1⟩
  have HX1 := Lib.hid ((OnlyB.of HBox.out).trans (OnlyB.of (b := b) hb1))
  have HM1 := Lib.hid (HM0.out.low hb1)
  have z1 := HM1.out.cell 4 _ rfl
  have z2 := HM1.out.frozen 4
  have HM2 : Hid (MetB b { m with la := la } (X1.setCell ⟨b, 4, none⟩ (.string la))) := HM1.out.set 4 _ (by simp [MetV.cells])
  have HX2 : Hid (OnlyB b w (X1.setCell ⟨b, 4, none⟩ (.string la))) := HX1.out.trans (OnlyB.set _ _ _)
  have hblk : (X1.setCell ⟨b, 4, none⟩ (.string la)).heap[w.heap.size]? = some (.cells #[.int .i64 p, .string nm, .string tx, .bool o, .slice a nk c] 46 (0, 0)) := (Below.heap_setCell _ _ _ _ (by show w.heap.size ≠ b; have := HBl.out; unfold Hid at this; omega)).trans ((hb1.block w.heap.size (by have := HSz.out; unfold Hid at this; omega)).trans HBk.out)
  have y0 := cell_block hblk 0 _ rfl
  have y1 := cell_block hblk 1 _ rfl
  have y2 := cell_block hblk 2 _ rfl
  have y3 := cell_block hblk 3 _ rfl
  have y4 := cell_block hblk 4 _ rfl
  clear hb1 hblk
  go_wp2_with fail
  clear z1 z2
  generalize X1.setCell ⟨b, 4, none⟩ (.string la) = X2 at *
  have cX := cN.out _ HX2.out
  refine cX.mono ?_
  clear cX cN
  rintro e X3 ⟨rfl, hb1⟩
  have HX3 := Lib.hid (HX2.out.trans (OnlyB.of (b := b) hb1))
  have HM3 := Lib.hid (HM2.out.low hb1)
  have z1 := HM3.out.cell 5 _ rfl
  have z2 := HM3.out.frozen 5
  clear hb1 y0 y1 y2 y3 y4
  go_wp2_with fail
  go_ret
  exact ⟨rfl, HM3.out.set 5 _ (by simp [MetV.cells]), HX3.out.trans (OnlyB.set _ _ _)⟩

set_option maxRecDepth 100000 in
set_option maxHeartbeats 1000000 in
theorem take_Size (b : Nat) (m : MetV) (p : Int) (nm tx : ByteArray) (o : Bool) (a : Option Addr) (c M : Nat) (ks : List Tr) (w : World) (hM : M ≤ b) (hk0 : AtL w M a 0 ks) (hl : ks.length ≤ 3000) (hs : tx.size ≤ 140737488355328) (hm : MetB b m w) (hk : nm = nSize) : TakeP b m p nm tx o a c ks w := by
  unfold TakeP
  have t0 : (nm.toList == [70, 111, 114, 109, 97, 116]) = false := nameN (show ¬ nm = nFormat by rw [hk]; decide) rfl
  have t1 : (nm.toList == [84, 121, 112, 101]) = false := nameN (show ¬ nm = nType by rw [hk]; decide) rfl
  have t2 : (nm.toList == [78, 101, 120, 116, 78, 111, 110, 99, 101]) = false := nameN (show ¬ nm = nNextNonce by rw [hk]; decide) rfl
  have t3 : (nm.toList == [65, 110, 99, 104, 111, 114]) = false := nameN (show ¬ nm = nAnchor by rw [hk]; decide) rfl
  have t4 : (nm.toList == [83, 105, 122, 101]) = true := nameY (w := nSize) hk rfl
  have t5 : (nm.toList == [86, 101, 114, 115, 105, 111, 110]) = false := nameN (show ¬ nm = nVersion by rw [hk]; decide) rfl
  have t6 : (nm.toList == [77, 97, 120, 77, 115, 103, 83, 105, 122, 101]) = false := nameN (show ¬ nm = nMaxMsgSize by rw [hk]; decide) rfl
  have t7 : (nm.toList == [77, 97, 120, 79, 98, 106, 83, 105, 122, 101]) = false := nameN (show ¬ nm = nMaxObjSize by rw [hk]; decide) rfl
  have hV : takeV m nm tx ks = ({ m with sz := (cntV tx).1 }, (cntV tx).2) := by unfold takeV; rw [if_neg (show ¬ nm = nFormat by rw [hk]; decide), if_neg (show ¬ nm = nType by rw [hk]; decide), if_neg (show ¬ nm = nNextNonce by rw [hk]; decide), if_neg (show ¬ nm = nAnchor by rw [hk]; decide), if_pos hk]
  clear hk
  rw [hV]
  clear hV
  have HBox : Hid (Below w.heap.size w (w.alloc (.cells #[.int .i64 p, .string nm, .string tx, .bool o, .slice a ks.length c] 46))) := (Below.refl _ w).alloc (Nat.le_refl _) _
  have HM0 := Lib.hid (hm.low HBox.out)
  have HC := Lib.hid (fun (W : World) (hW : Below w.heap.size w W) => count_any b 2 p nm tx o (.slice a ks.length c) _ W hs ((hm.low hW).cell 2 _ rfl) ((hm.low hW).frozen 2))
  have HL := Lib.hid (fun (W : World) (hW : Below w.heap.size w W) => hm.low hW)
  clear hk0 hl hs hm hM
  generalize cntV tx = V at *
  obtain ⟨n, f⟩ := V
  simp only [] at HC
  generalize ks.length = nk at *
  go_enter Tryd.func102, Tryd.ntmps102
  go_wp2_with fail
  go_region_with (go_at_call 152; refine (HC.out _ (by first | exact HBox.out | exact HBox.out.drew)).mono ?_; rintro e w' ⟨rfl, X, hX, rfl⟩; have HX := Lib.hid hX; clear hX)
  all_goals
    go_wp2_with fail
    go_ret
    exact ⟨rfl, (HL.out X ((by first | exact HBox.out.trans (HX.out.mono HBox.out.size) | exact HBox.out.drew.trans (HX.out.mono HBox.out.size) : Below w.heap.size w X))).set 2 _ (by simp [MetV.cells]), ((OnlyB.of (b := b) (by first | exact HBox.out.trans (HX.out.mono HBox.out.size) | exact HBox.out.drew.trans (HX.out.mono HBox.out.size) : Below w.heap.size w X)).trans (OnlyB.set _ _ _))⟩

set_option maxRecDepth 100000 in
set_option maxHeartbeats 1000000 in
theorem take_Version (b : Nat) (m : MetV) (p : Int) (nm tx : ByteArray) (o : Bool) (a : Option Addr) (c M : Nat) (ks : List Tr) (w : World) (hM : M ≤ b) (hk0 : AtL w M a 0 ks) (hl : ks.length ≤ 3000) (hs : tx.size ≤ 140737488355328) (hm : MetB b m w) (hk : nm = nVersion) : TakeP b m p nm tx o a c ks w := by
  unfold TakeP
  have t0 : (nm.toList == [70, 111, 114, 109, 97, 116]) = false := nameN (show ¬ nm = nFormat by rw [hk]; decide) rfl
  have t1 : (nm.toList == [84, 121, 112, 101]) = false := nameN (show ¬ nm = nType by rw [hk]; decide) rfl
  have t2 : (nm.toList == [78, 101, 120, 116, 78, 111, 110, 99, 101]) = false := nameN (show ¬ nm = nNextNonce by rw [hk]; decide) rfl
  have t3 : (nm.toList == [65, 110, 99, 104, 111, 114]) = false := nameN (show ¬ nm = nAnchor by rw [hk]; decide) rfl
  have t4 : (nm.toList == [83, 105, 122, 101]) = false := nameN (show ¬ nm = nSize by rw [hk]; decide) rfl
  have t5 : (nm.toList == [86, 101, 114, 115, 105, 111, 110]) = true := nameY (w := nVersion) hk rfl
  have t6 : (nm.toList == [77, 97, 120, 77, 115, 103, 83, 105, 122, 101]) = false := nameN (show ¬ nm = nMaxMsgSize by rw [hk]; decide) rfl
  have t7 : (nm.toList == [77, 97, 120, 79, 98, 106, 83, 105, 122, 101]) = false := nameN (show ¬ nm = nMaxObjSize by rw [hk]; decide) rfl
  have hV : takeV m nm tx ks = ({ m with ve := (cntV tx).1 }, (cntV tx).2) := by unfold takeV; rw [if_neg (show ¬ nm = nFormat by rw [hk]; decide), if_neg (show ¬ nm = nType by rw [hk]; decide), if_neg (show ¬ nm = nNextNonce by rw [hk]; decide), if_neg (show ¬ nm = nAnchor by rw [hk]; decide), if_neg (show ¬ nm = nSize by rw [hk]; decide), if_pos hk]
  clear hk
  rw [hV]
  clear hV
  have HBox : Hid (Below w.heap.size w (w.alloc (.cells #[.int .i64 p, .string nm, .string tx, .bool o, .slice a ks.length c] 46))) := (Below.refl _ w).alloc (Nat.le_refl _) _
  have HM0 := Lib.hid (hm.low HBox.out)
  have HC := Lib.hid (fun (W : World) (hW : Below w.heap.size w W) => count_any b 3 p nm tx o (.slice a ks.length c) _ W hs ((hm.low hW).cell 3 _ rfl) ((hm.low hW).frozen 3))
  have HL := Lib.hid (fun (W : World) (hW : Below w.heap.size w W) => hm.low hW)
  clear hk0 hl hs hm hM
  generalize cntV tx = V at *
  obtain ⟨n, f⟩ := V
  simp only [] at HC
  generalize ks.length = nk at *
  go_enter Tryd.func102, Tryd.ntmps102
  go_wp2_with fail
  go_region_with (go_at_call 152; refine (HC.out _ (by first | exact HBox.out | exact HBox.out.drew)).mono ?_; rintro e w' ⟨rfl, X, hX, rfl⟩; have HX := Lib.hid hX; clear hX)
  all_goals
    go_wp2_with fail
    go_ret
    exact ⟨rfl, (HL.out X ((by first | exact HBox.out.trans (HX.out.mono HBox.out.size) | exact HBox.out.drew.trans (HX.out.mono HBox.out.size) : Below w.heap.size w X))).set 3 _ (by simp [MetV.cells]), ((OnlyB.of (b := b) (by first | exact HBox.out.trans (HX.out.mono HBox.out.size) | exact HBox.out.drew.trans (HX.out.mono HBox.out.size) : Below w.heap.size w X)).trans (OnlyB.set _ _ _))⟩

set_option maxRecDepth 100000 in
set_option maxHeartbeats 1000000 in
theorem take_MaxMsgSize (b : Nat) (m : MetV) (p : Int) (nm tx : ByteArray) (o : Bool) (a : Option Addr) (c M : Nat) (ks : List Tr) (w : World) (hM : M ≤ b) (hk0 : AtL w M a 0 ks) (hl : ks.length ≤ 3000) (hs : tx.size ≤ 140737488355328) (hm : MetB b m w) (hk : nm = nMaxMsgSize) : TakeP b m p nm tx o a c ks w := by
  unfold TakeP
  have t0 : (nm.toList == [70, 111, 114, 109, 97, 116]) = false := nameN (show ¬ nm = nFormat by rw [hk]; decide) rfl
  have t1 : (nm.toList == [84, 121, 112, 101]) = false := nameN (show ¬ nm = nType by rw [hk]; decide) rfl
  have t2 : (nm.toList == [78, 101, 120, 116, 78, 111, 110, 99, 101]) = false := nameN (show ¬ nm = nNextNonce by rw [hk]; decide) rfl
  have t3 : (nm.toList == [65, 110, 99, 104, 111, 114]) = false := nameN (show ¬ nm = nAnchor by rw [hk]; decide) rfl
  have t4 : (nm.toList == [83, 105, 122, 101]) = false := nameN (show ¬ nm = nSize by rw [hk]; decide) rfl
  have t5 : (nm.toList == [86, 101, 114, 115, 105, 111, 110]) = false := nameN (show ¬ nm = nVersion by rw [hk]; decide) rfl
  have t6 : (nm.toList == [77, 97, 120, 77, 115, 103, 83, 105, 122, 101]) = true := nameY (w := nMaxMsgSize) hk rfl
  have t7 : (nm.toList == [77, 97, 120, 79, 98, 106, 83, 105, 122, 101]) = false := nameN (show ¬ nm = nMaxObjSize by rw [hk]; decide) rfl
  have hV : takeV m nm tx ks = ({ m with mm := (cntV tx).1 }, (cntV tx).2) := by unfold takeV; rw [if_neg (show ¬ nm = nFormat by rw [hk]; decide), if_neg (show ¬ nm = nType by rw [hk]; decide), if_neg (show ¬ nm = nNextNonce by rw [hk]; decide), if_neg (show ¬ nm = nAnchor by rw [hk]; decide), if_neg (show ¬ nm = nSize by rw [hk]; decide), if_neg (show ¬ nm = nVersion by rw [hk]; decide), if_pos hk]
  clear hk
  rw [hV]
  clear hV
  have HBox : Hid (Below w.heap.size w (w.alloc (.cells #[.int .i64 p, .string nm, .string tx, .bool o, .slice a ks.length c] 46))) := (Below.refl _ w).alloc (Nat.le_refl _) _
  have HM0 := Lib.hid (hm.low HBox.out)
  have HC := Lib.hid (fun (W : World) (hW : Below w.heap.size w W) => count_any b 7 p nm tx o (.slice a ks.length c) _ W hs ((hm.low hW).cell 7 _ rfl) ((hm.low hW).frozen 7))
  have HL := Lib.hid (fun (W : World) (hW : Below w.heap.size w W) => hm.low hW)
  clear hk0 hl hs hm hM
  generalize cntV tx = V at *
  obtain ⟨n, f⟩ := V
  simp only [] at HC
  generalize ks.length = nk at *
  go_enter Tryd.func102, Tryd.ntmps102
  go_wp2_with fail
  go_region_with (go_at_call 152; refine (HC.out _ (by first | exact HBox.out | exact HBox.out.drew)).mono ?_; rintro e w' ⟨rfl, X, hX, rfl⟩; have HX := Lib.hid hX; clear hX)
  all_goals
    go_wp2_with fail
    go_ret
    exact ⟨rfl, (HL.out X ((by first | exact HBox.out.trans (HX.out.mono HBox.out.size) | exact HBox.out.drew.trans (HX.out.mono HBox.out.size) : Below w.heap.size w X))).set 7 _ (by simp [MetV.cells]), ((OnlyB.of (b := b) (by first | exact HBox.out.trans (HX.out.mono HBox.out.size) | exact HBox.out.drew.trans (HX.out.mono HBox.out.size) : Below w.heap.size w X)).trans (OnlyB.set _ _ _))⟩

set_option maxRecDepth 100000 in
set_option maxHeartbeats 1000000 in
theorem take_MaxObjSize (b : Nat) (m : MetV) (p : Int) (nm tx : ByteArray) (o : Bool) (a : Option Addr) (c M : Nat) (ks : List Tr) (w : World) (hM : M ≤ b) (hk0 : AtL w M a 0 ks) (hl : ks.length ≤ 3000) (hs : tx.size ≤ 140737488355328) (hm : MetB b m w) (hk : nm = nMaxObjSize) : TakeP b m p nm tx o a c ks w := by
  unfold TakeP
  have t0 : (nm.toList == [70, 111, 114, 109, 97, 116]) = false := nameN (show ¬ nm = nFormat by rw [hk]; decide) rfl
  have t1 : (nm.toList == [84, 121, 112, 101]) = false := nameN (show ¬ nm = nType by rw [hk]; decide) rfl
  have t2 : (nm.toList == [78, 101, 120, 116, 78, 111, 110, 99, 101]) = false := nameN (show ¬ nm = nNextNonce by rw [hk]; decide) rfl
  have t3 : (nm.toList == [65, 110, 99, 104, 111, 114]) = false := nameN (show ¬ nm = nAnchor by rw [hk]; decide) rfl
  have t4 : (nm.toList == [83, 105, 122, 101]) = false := nameN (show ¬ nm = nSize by rw [hk]; decide) rfl
  have t5 : (nm.toList == [86, 101, 114, 115, 105, 111, 110]) = false := nameN (show ¬ nm = nVersion by rw [hk]; decide) rfl
  have t6 : (nm.toList == [77, 97, 120, 77, 115, 103, 83, 105, 122, 101]) = false := nameN (show ¬ nm = nMaxMsgSize by rw [hk]; decide) rfl
  have t7 : (nm.toList == [77, 97, 120, 79, 98, 106, 83, 105, 122, 101]) = true := nameY (w := nMaxObjSize) hk rfl
  have hV : takeV m nm tx ks = ({ m with mo := (cntV tx).1 }, (cntV tx).2) := by unfold takeV; rw [if_neg (show ¬ nm = nFormat by rw [hk]; decide), if_neg (show ¬ nm = nType by rw [hk]; decide), if_neg (show ¬ nm = nNextNonce by rw [hk]; decide), if_neg (show ¬ nm = nAnchor by rw [hk]; decide), if_neg (show ¬ nm = nSize by rw [hk]; decide), if_neg (show ¬ nm = nVersion by rw [hk]; decide), if_neg (show ¬ nm = nMaxMsgSize by rw [hk]; decide), if_pos hk]
  clear hk
  rw [hV]
  clear hV
  have HBox : Hid (Below w.heap.size w (w.alloc (.cells #[.int .i64 p, .string nm, .string tx, .bool o, .slice a ks.length c] 46))) := (Below.refl _ w).alloc (Nat.le_refl _) _
  have HM0 := Lib.hid (hm.low HBox.out)
  have HC := Lib.hid (fun (W : World) (hW : Below w.heap.size w W) => count_any b 8 p nm tx o (.slice a ks.length c) _ W hs ((hm.low hW).cell 8 _ rfl) ((hm.low hW).frozen 8))
  have HL := Lib.hid (fun (W : World) (hW : Below w.heap.size w W) => hm.low hW)
  clear hk0 hl hs hm hM
  generalize cntV tx = V at *
  obtain ⟨n, f⟩ := V
  simp only [] at HC
  generalize ks.length = nk at *
  go_enter Tryd.func102, Tryd.ntmps102
  go_wp2_with fail
  go_region_with (go_at_call 152; refine (HC.out _ (by first | exact HBox.out | exact HBox.out.drew)).mono ?_; rintro e w' ⟨rfl, X, hX, rfl⟩; have HX := Lib.hid hX; clear hX)
  all_goals
    go_wp2_with fail
    go_ret
    exact ⟨rfl, (HL.out X ((by first | exact HBox.out.trans (HX.out.mono HBox.out.size) | exact HBox.out.drew.trans (HX.out.mono HBox.out.size) : Below w.heap.size w X))).set 8 _ (by simp [MetV.cells]), ((OnlyB.of (b := b) (by first | exact HBox.out.trans (HX.out.mono HBox.out.size) | exact HBox.out.drew.trans (HX.out.mono HBox.out.size) : Below w.heap.size w X)).trans (OnlyB.set _ _ _))⟩

set_option maxRecDepth 100000 in
set_option maxHeartbeats 1000000 in
theorem take_none (b : Nat) (m : MetV) (p : Int) (nm tx : ByteArray) (o : Bool) (a : Option Addr) (c M : Nat) (ks : List Tr) (w : World) (hM : M ≤ b) (hk0 : AtL w M a 0 ks) (hl : ks.length ≤ 3000) (hs : tx.size ≤ 140737488355328) (hm : MetB b m w) (h0 : ¬ nm = nFormat) (h1 : ¬ nm = nType) (h2 : ¬ nm = nNextNonce) (h3 : ¬ nm = nAnchor) (h4 : ¬ nm = nSize) (h5 : ¬ nm = nVersion) (h6 : ¬ nm = nMaxMsgSize) (h7 : ¬ nm = nMaxObjSize) : TakeP b m p nm tx o a c ks w := by
  unfold TakeP
  have t0 : (nm.toList == [70, 111, 114, 109, 97, 116]) = false := nameN (w := nFormat) h0 rfl
  have t1 : (nm.toList == [84, 121, 112, 101]) = false := nameN (w := nType) h1 rfl
  have t2 : (nm.toList == [78, 101, 120, 116, 78, 111, 110, 99, 101]) = false := nameN (w := nNextNonce) h2 rfl
  have t3 : (nm.toList == [65, 110, 99, 104, 111, 114]) = false := nameN (w := nAnchor) h3 rfl
  have t4 : (nm.toList == [83, 105, 122, 101]) = false := nameN (w := nSize) h4 rfl
  have t5 : (nm.toList == [86, 101, 114, 115, 105, 111, 110]) = false := nameN (w := nVersion) h5 rfl
  have t6 : (nm.toList == [77, 97, 120, 77, 115, 103, 83, 105, 122, 101]) = false := nameN (w := nMaxMsgSize) h6 rfl
  have t7 : (nm.toList == [77, 97, 120, 79, 98, 106, 83, 105, 122, 101]) = false := nameN (w := nMaxObjSize) h7 rfl
  have hV : takeV m nm tx ks = (m, 0) := by unfold takeV; rw [if_neg h0, if_neg h1, if_neg h2, if_neg h3, if_neg h4, if_neg h5, if_neg h6, if_neg h7]
  clear h0 h1 h2 h3 h4 h5 h6 h7
  rw [hV]
  clear hV
  have HBox : Hid (Below w.heap.size w (w.alloc (.cells #[.int .i64 p, .string nm, .string tx, .bool o, .slice a ks.length c] 46))) := (Below.refl _ w).alloc (Nat.le_refl _) _
  have HM0 := Lib.hid (hm.low HBox.out)
  clear hk0 hl hs hm hM
  generalize ks.length = nk at *
  go_enter Tryd.func102, Tryd.ntmps102
  go_wp2_with fail
  go_ret
  exact ⟨rfl, HM0.out, OnlyB.of HBox.out⟩

theorem take_any (b : Nat) (m : MetV) (p : Int) (nm tx : ByteArray) (o : Bool) (a : Option Addr) (c M : Nat) (ks : List Tr) (w : World) (hM : M ≤ b) (hk0 : AtL w M a 0 ks) (hl : ks.length ≤ 3000) (hs : tx.size ≤ 140737488355328) (hm : MetB b m w) : TakeP b m p nm tx o a c ks w := by
  by_cases h0 : nm = nFormat
  · exact take_Format b m p nm tx o a c M ks w hM hk0 hl hs hm h0
  by_cases h1 : nm = nType
  · exact take_Type b m p nm tx o a c M ks w hM hk0 hl hs hm h1
  by_cases h2 : nm = nNextNonce
  · exact take_NextNonce b m p nm tx o a c M ks w hM hk0 hl hs hm h2
  by_cases h3 : nm = nAnchor
  · exact take_Anchor b m p nm tx o a c M ks w hM hk0 hl hs hm h3
  by_cases h4 : nm = nSize
  · exact take_Size b m p nm tx o a c M ks w hM hk0 hl hs hm h4
  by_cases h5 : nm = nVersion
  · exact take_Version b m p nm tx o a c M ks w hM hk0 hl hs hm h5
  by_cases h6 : nm = nMaxMsgSize
  · exact take_MaxMsgSize b m p nm tx o a c M ks w hM hk0 hl hs hm h6
  by_cases h7 : nm = nMaxObjSize
  · exact take_MaxObjSize b m p nm tx o a c M ks w hM hk0 hl hs hm h7
  exact take_none b m p nm tx o a c M ks w hM hk0 hl hs hm h0 h1 h2 h3 h4 h5 h6 h7
end Go.Proofs.YtgechifbbhipaaaDoor
