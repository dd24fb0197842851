/- grammar: is an element one of a word's? Both. No condition but sizes. -/
import Derived.Test.YtgechifbbhipaaaDoorGrL
import Derived.Test.YtgechifbbhipaaaDoorShelfG
import Derived.Deep.QuietTactic
import Derived.BigQuiet
set_option linter.unusedVariables false
set_option linter.unusedSimpArgs false
namespace Go.Proofs.YtgechifbbhipaaaDoor
open Go.RowKit

theorem splitK_cut (c : UInt8) : ∀ (k : Nat) (s : List UInt8), s.count c = k → Lib.splitK [c] 0 k s = cutB c s
  | 0, s, h => by
    have : c ∉ s := List.count_eq_zero.1 h
    rw [cutB_free this]; rfl
  | k + 1, s, h => by
    have hm : c ∈ s := List.count_pos_iff.1 (by omega)
    obtain ⟨p, q, rfl, hp⟩ := List.eq_append_cons_of_mem hm
    have hi : Lib.index (p ++ c :: q) [c] = p.length := Lib.index_first (by simp) (by unfold Lib.occAt; rw [List.drop_left]; simp [List.isPrefixOf]) (fun j hj => by
      cases e : Lib.occAt (p ++ c :: q) [c] j with
      | false => rfl
      | true =>
        have := Lib.occAt_head rfl e
        rw [List.getElem?_append_left hj] at this
        exact absurd (List.mem_of_getElem? this) hp)
    rw [Lib.splitK, hi, if_neg (by simp), cutB_at hp]
    have h1 : (p ++ c :: q).take ((p.length : Int).toNat + 0) = p := by simp
    have h2 : (p ++ c :: q).drop ((p.length : Int).toNat + [c].length) = q := by
      rw [show (p.length : Int).toNat + [c].length = (p ++ [c]).length from by simp, show p ++ c :: q = (p ++ [c]) ++ q from by simp, List.drop_left]
    rw [h1, h2, splitK_cut c k q (by rw [List.count_append, List.count_eq_zero.2 hp, List.count_cons_self] at h; omega)]
theorem splitB_cut (c : UInt8) (s : ByteArray) : Lib.splitB ⟨#[c]⟩ 0 (Lib.countB s ⟨#[c]⟩) s = (cutB c s.data.toList).map mkB := by
  have h1 := Lib.splitB_data ⟨#[c]⟩ 0 (Lib.countB s ⟨#[c]⟩) s
  have h2 : Lib.countB s ⟨#[c]⟩ = s.data.toList.count c := by
    rw [← Lib.count_one]
  rw [show (⟨#[c]⟩ : ByteArray).data.toList = [c] from rfl, splitK_cut c _ _ h2.symm] at h1
  rw [← h1, List.map_map]
  conv => lhs; rw [← List.map_id (Lib.splitB ⟨#[c]⟩ 0 (Lib.countB s ⟨#[c]⟩) s)]
  refine List.map_congr_left fun x _ => ?_
  exact (mkB_of x).symm
theorem cutB_mem_len (c : UInt8) (l : List UInt8) : ∀ x ∈ cutB c l, x.length ≤ l.length := by
  induction l with
  | nil => intro x hx; simp [cutB] at hx; subst hx; simp
  | cons a l ih =>
    intro x hx
    rw [cutB] at hx
    split at hx
    · rcases List.mem_cons.1 hx with rfl | hx
      · simp
      · have := ih x hx; simp; omega
    · split at hx
      · simp at hx; subst hx; simp
      · rename_i p ps he
        rcases List.mem_cons.1 hx with rfl | hx
        · have := ih p (by rw [he]; simp); simp; omega
        · have := ih x (by rw [he]; simp [hx]); simp; omega
theorem any_take {α : Type} (q : α → Bool) (l : List α) (i : Nat) (h : ∀ j (hj : j < l.length), j < i → q l[j] = false) (hi : l.length ≤ i) : l.any q = false := by
  rw [List.any_eq_false]
  intro x hx
  obtain ⟨j, hj, rfl⟩ := List.getElem_of_mem hx
  rw [h j hj (by omega)]; decide
theorem any_at {α : Type} (q : α → Bool) (l : List α) (i : Nat) (hi : i < l.length) (h : q l[i] = true) : l.any q = true := List.any_eq_true.2 ⟨_, List.getElem_mem hi, h⟩
/-- the ways in which a piece tells an element, or not -/
theorem take_ways (pg : Int) (n : ByteArray) (p : Int) (nm : ByteArray) :
    (∃ (h : 1 < n.size), n[1] = 46 ∧ takes1 pg n.data.toList p nm.data.toList = (decide (p = (((n[0].toNat : Int) - 48) % 256)) && decide (nm = n.extract 2 n.size))) ∨
    ((¬ 1 < n.size ∨ ∃ (h : 1 < n.size), n[1] ≠ 46) ∧ takes1 pg n.data.toList p nm.data.toList = (decide (p = pg) && decide (nm = n))) := by
  have hl := len_toList n
  have e1 : ∀ a b : ByteArray, decide (a.data.toList = b.data.toList) = decide (a = b) := fun a b => by
    rw [decide_eq_decide]; exact ⟨fun h => Go.WideShapes.bytes_inj h, fun h => by rw [h]⟩
  by_cases h : 1 < n.size
  · have g1 : n.data.toList[1]? = some n[1] := bat_get n 1 h
    have g0 : n.data.toList[0]? = some n[0] := bat_get n 0 (by omega)
    by_cases h2 : n[1] = 46
    · refine .inl ⟨h, h2, ?_⟩
      unfold takes1
      rw [if_pos ⟨by omega, by rw [g1, h2]⟩, g0]
      have e2 : n.data.toList.drop 2 = (n.extract 2 n.size).data.toList := by
        rw [ByteArray.data_extract, Array.toList_extract, List.extract]
        exact (List.take_of_length_le (by rw [List.length_drop, hl]; exact Nat.le_refl _)).symm
      rw [e2, e1]; rfl
    · refine .inr ⟨.inr ⟨h, h2⟩, ?_⟩
      unfold takes1
      rw [if_neg (by rintro ⟨_, h3⟩; rw [g1] at h3; exact h2 (Option.some.inj h3)), e1]
  · refine .inr ⟨.inl h, ?_⟩
    unfold takes1
    rw [if_neg (by rintro ⟨h3, _⟩; omega), e1]

set_option maxRecDepth 100000 in
set_option maxHeartbeats 4000000 in
theorem gOne_any (pg : Int) (names : ByteArray) (p : Int) (nm tx : ByteArray) (o : Bool) (a : Option Addr) (nk c : Nat) (w : World) (m : Int) (hm : w.cell? ⟨0, 0, none⟩ = some (.int .i64 m)) (hs : names.size ≤ 100000) :
    Calls Tryd.prog 143 #[.int .i64 pg, .string names, .agg #[.int .i64 p, .string nm, .string tx, .bool o, .slice a nk c]] w fun e w' => e = .returned (.bool (takesV pg names.data.toList p nm.data.toList)) ∧ Below w.heap.size w w' := by
  have hLl := cutB_len 124 names.data.toList
  have hSz : ∀ x ∈ cutB 124 names.data.toList, x.length ≤ 100000 := fun x hx => by
    have h1 := cutB_mem_len 124 names.data.toList x hx
    rw [len_toList] at h1; omega
  have cS : ∀ X, X.cell? ⟨0, 0, none⟩ = some (.int .i64 m) → Calls Tryd.prog 178 #[.string names, .string { data := #[124] }] X fun e w' => e = .returned (.slice (some ⟨X.heap.size, 0, none⟩) (cutB 124 names.data.toList).length (cutB 124 names.data.toList).length) ∧ w' = X.alloc (.cells (strVs (cutB 124 names.data.toList)).toArray 9) := fun X hX => by
    have h1 := Tryd.strings_Split names ⟨#[124]⟩ m X (by omega) hX (by decide)
    have h2 := splitB_cut 124 names
    have h3 : Lib.countB names ⟨#[124]⟩ + 1 = (cutB 124 names.data.toList).length := by
      have := Lib.splitB_all ⟨#[124]⟩ (by decide) 0 _ names rfl
      rw [h2, List.length_map] at this
      exact this.symm
    rw [h2, h3] at h1
    rw [List.map_map] at h1
    exact h1
  have hRes : takesV pg names.data.toList p nm.data.toList = (cutB 124 names.data.toList).any fun n => takes1 pg n p nm.data.toList := rfl
  rw [hRes]
  clear hRes
  rw [len_toList] at hLl
  have hL : (cutB 124 names.data.toList).length ≤ 100001 := by omega
  clear hLl
  have HS := Lib.hid cS
  clear cS
  generalize cutB 124 names.data.toList = L at *
  have hm1 : (w.alloc (.cells #[.int .i64 p, .string nm, .string tx, .bool o, .slice a nk c] 46)).cell? ⟨0, 0, none⟩ = some (.int .i64 m) := by
    rw [← hm]; exact World.cell?_of_block (Below.heap_alloc _ _ _ (World.block_lt_of_cell? _ _ hm))
  have HM1 := Lib.hid hm1
  clear hm1 hm hs
  have HXs : Hid (∀ i x, L[i]? = some x → ((w.alloc (.cells #[.int .i64 p, .string nm, .string tx, .bool o, .slice a nk c] 46)).alloc (.cells (strVs L).toArray 9)).cell? ⟨w.heap.size + 1, i, none⟩ = some (.string (mkB x))) := fun i x h => by
    rw [World.cell?_alloc_at _ _ _ _ (by simp)]
    simp [strVs, h]
  have HSz := Lib.hid hSz
  clear hSz
  generalize hn : L.length = n at *
  have HN := Lib.hid hn
  clear hn
  go_enter Tryd.func143, Tryd.ntmps143
  go_wp2_with (go_at_call 178; (with_reducible refine (HS.out _ HM1.out).mono ?_); rintro e w1 ⟨rfl, hw1⟩; rw [hw1]; clear hw1)
  (try simp only [World.size_alloc])
  have HB0 : Hid (Below w.heap.size w ((w.alloc (.cells #[.int .i64 p, .string nm, .string tx, .bool o, .slice a nk c] 46)).alloc (.cells (strVs L).toArray 9))) := ((Below.refl _ w).alloc (Nat.le_refl _) _).alloc (by simp) _
  have HY : Hid (∀ k u, (#[.int .i64 p, .string nm, .string tx, .bool o, .slice a nk c] : Array Value)[k]? = some u → ((w.alloc (.cells #[.int .i64 p, .string nm, .string tx, .bool o, .slice a nk c] 46)).alloc (.cells (strVs L).toArray 9)).cell? ⟨w.heap.size, k, none⟩ = some u) := fun k u h => by
    rw [World.cell?_of_block (w := w.alloc (.cells #[.int .i64 p, .string nm, .string tx, .bool o, .slice a nk c] 46)) (Below.heap_alloc _ _ _ (by simp))]
    rw [World.cell?_alloc_at _ _ _ _ rfl]; exact h
  obtain ⟨W0, hW0⟩ : ∃ W0, ((w.alloc (.cells #[.int .i64 p, .string nm, .string tx, .bool o, .slice a nk c] 46)).alloc (.cells (strVs L).toArray 9)) = W0 := ⟨_, rfl⟩
  rw [hW0] at HB0 HY HXs
  rw [hW0]
  clear hW0
  have y0 := HY.out 0 _ rfl
  have y1 := HY.out 1 _ rfl
  go_loopw [13] (fun iv wr => ∃ i : Nat, i ≤ n ∧ iv = .int .i64 (i : Int) ∧ Hid (∀ j (h : j < L.length), j < i → takes1 pg L[j] p nm.data.toList = false) ∧ Hid (Below w.heap.size w wr) ∧ wr.cell? ⟨w.heap.size, 0, none⟩ = some (.int .i64 p) ∧ wr.cell? ⟨w.heap.size, 1, none⟩ = some (.string nm) ∧ Hid (∀ j x, L[j]? = some x → wr.cell? ⟨w.heap.size + 1, j, none⟩ = some (.string (mkB x)))) (fun iv _ => n - (intOf iv).toNat)
  case atStart => exact ⟨0, Nat.zero_le _, rfl, fun _ _ h => absurd h (Nat.not_lt_zero _), HB0.out, y0, y1, HXs.out⟩
  case round =>
    clear y0 y1 HXs HB0 HY
    obtain ⟨i, hi, rfl, HJ, HB, y0, y1, HX⟩ := hrel
    by_cases hlt : i < n
    · have j3 : (i : Int) < (n : Int) := by omega
      have d3 : decide (i < n) = true := by simp; omega
      have HW1 : Hid (wrap64 ((i : Int) + 1) = (i : Int) + 1) := by unfold Hid wrap64; omega
      have HMs : Hid (n - (intOf (.int .i64 ((i : Int) + 1))).toNat < n - (intOf (.int .i64 (i : Int))).toNat) := by unfold Hid; simp [intOf]; omega
      have hik : i < L.length := by rw [HN.out]; exact hlt
      have hxc := HX.out i _ (List.getElem?_eq_getElem hik)
      have HAll : Hid (takes1 pg L[i] p nm.data.toList = true → (L.any fun n => takes1 pg n p nm.data.toList) = true) := fun h => any_at _ L i hik h
      have HNext : Hid (takes1 pg L[i] p nm.data.toList = false → ∀ j (h : j < L.length), j < i + 1 → takes1 pg L[j] p nm.data.toList = false) := fun h j hj hji => by
        by_cases e : j = i
        · subst e; exact h
        · exact HJ.out j hj (by omega)
      have hNs : (mkB L[i]).size ≤ 100000 := by rw [mkB_size]; exact HSz.out _ (List.getElem_mem hik)
      have hTW := take_ways pg (mkB L[i]) p nm
      rw [mkB_list] at hTW
      generalize takes1 pg L[i] p nm.data.toList = tk at *
      generalize mkB L[i] = NB at *
      clear HJ hik
      rcases hTW with ⟨q1, q2, q3⟩ | ⟨q1, q3⟩
      · have t1 : (1 : Int) < (NB.size : Int) := by omega
        have t2 : (2 : Int) ≤ (NB.size : Int) := by omega
        have a1 : ∀ w, (Instr.index 9 (.string NB) (.int .i64 1)).run Tryd.prog w = .ok (.int .u8 (NB[1].toNat : Int)) w := run_at9 NB 1 q1
        have a0 : ∀ w, (Instr.index 9 (.string NB) (.int .i64 0)).run Tryd.prog w = .ok (.int .u8 (NB[0].toNat : Int)) w := run_at9 NB 0 (by omega)
        have t3 : ((NB[1].toNat : Int) == 46) = true := by rw [q2]; rfl
        have hub : NB[0].toNat < 256 := UInt8.toNat_lt _
        have hwr : IntKind.u8.wrap ((NB[0].toNat : Int) - 48) = ((NB[0].toNat : Int) - 48) % 256 := by simp [IntKind.wrap, IntKind.signed, IntKind.bits]
        have HQ := Lib.hid q3
        have hq0 : 0 ≤ ((NB[0].toNat : Int) - 48) % 256 := by omega
        have hq1 : ((NB[0].toNat : Int) - 48) % 256 < 256 := by omega
        generalize hqq : ((NB[0].toNat : Int) - 48) % 256 = qq at *
        have hq64 : wrap64 qq = qq := by unfold wrap64; omega
        generalize hNN : NB.extract 2 NB.size = NN at *
        clear q2 q3 hqq
        generalize NB[1] = c1 at *
        generalize NB[0] = c0 at *
        clear q1
        by_cases e1 : p = qq
        · by_cases e2 : nm = NN
          · have HV : Hid (tk = true) := by unfold Hid; rw [HQ.out, decide_eq_true e1, decide_eq_true e2]; rfl
            have s1 : (p == qq) = true := by rw [beq_iff_eq]; exact e1
            have s2 := str_beq e2
            clear e1 e2 HQ
            go_wp2_with fail
            go_quiet (fail)
            go_wp2_with fail
            go_ret
            exact ⟨by rw [HAll.out HV.out]; rfl, HB.out.trans (below_dr0 _ _ _)⟩
          · have HV : Hid (tk = false) := by unfold Hid; rw [HQ.out, decide_eq_false e2, Bool.and_false]
            have s1 : (p == qq) = true := by rw [beq_iff_eq]; exact e1
            have s2 := str_bne e2
            clear e1 e2 HQ
            go_wp2_with fail
            go_quiet (fail)
            have hw1 := HW1.out
            go_wp2_with fail
            go_roundw
            case rel => exact ⟨i + 1, by omega, by go_num, HNext.out HV.out, HB.out.trans (below_dr0 _ _ _), y0, y1, HX.out⟩
            case measure => first | exact HMs.out | (rw [hw1]; exact HMs.out)
        · have HV : Hid (tk = false) := by unfold Hid; rw [HQ.out, decide_eq_false e1, Bool.false_and]
          have s1 : (p == qq) = false := by rw [beq_eq_false_iff_ne]; exact e1
          clear e1 HQ
          go_wp2_with fail
          go_quiet (fail)
          have hw1 := HW1.out
          go_wp2_with fail
          go_roundw
          case rel => exact ⟨i + 1, by omega, by go_num, HNext.out HV.out, HB.out.trans (below_dr0 _ _ _), y0, y1, HX.out⟩
          case measure => first | exact HMs.out | (rw [hw1]; exact HMs.out)
      · have HQ := Lib.hid q3
        clear q3
        have hk : (¬ (1 : Int) < (NB.size : Int)) ∨ ((1 : Int) < (NB.size : Int) ∧ ∃ ch : Int, (∀ w, (Instr.index 9 (.string NB) (.int .i64 1)).run Tryd.prog w = .ok (.int .u8 ch) w) ∧ (ch == 46) = false) := by
          rcases q1 with q1 | ⟨q1, q2⟩
          · exact .inl (by omega)
          · exact .inr ⟨by omega, _, run_at9 NB 1 q1, by rw [beq_eq_false_iff_ne]; intro e; exact q2 (byte_eq 46 rfl e)⟩
        clear q1
        rcases hk with t1 | ⟨t1, ch, a1, t3⟩
        all_goals
          by_cases e1 : p = pg
          · by_cases e2 : nm = NB
            · have HV : Hid (tk = true) := by unfold Hid; rw [HQ.out, decide_eq_true e1, decide_eq_true e2]; rfl
              have s1 : (p == pg) = true := by rw [beq_iff_eq]; exact e1
              have s2 := str_beq e2
              clear e1 e2 HQ
              go_wp2_with fail
              go_ret
              exact ⟨by rw [HAll.out HV.out]; rfl, HB.out⟩
            · have HV : Hid (tk = false) := by unfold Hid; rw [HQ.out, decide_eq_false e2, Bool.and_false]
              have s1 : (p == pg) = true := by rw [beq_iff_eq]; exact e1
              have s2 := str_bne e2
              clear e1 e2 HQ
              have hw1 := HW1.out
              go_wp2_with fail
              go_roundw
              case rel => exact ⟨i + 1, by omega, by go_num, HNext.out HV.out, HB.out, y0, y1, HX.out⟩
              case measure => first | exact HMs.out | (rw [hw1]; exact HMs.out)
          · have HV : Hid (tk = false) := by unfold Hid; rw [HQ.out, decide_eq_false e1, Bool.false_and]
            have s1 : (p == pg) = false := by rw [beq_eq_false_iff_ne]; exact e1
            clear e1 HQ
            have hw1 := HW1.out
            go_wp2_with fail
            go_roundw
            case rel => exact ⟨i + 1, by omega, by go_num, HNext.out HV.out, HB.out, y0, y1, HX.out⟩
            case measure => first | exact HMs.out | (rw [hw1]; exact HMs.out)
    · have j3 : ¬ (i : Int) < (n : Int) := by omega
      have d3 : decide (i < n) = false := by simp; omega
      have hR := any_take (fun n => takes1 pg n p nm.data.toList) L i HJ.out (by rw [HN.out]; omega)
      have HR := Lib.hid hR
      clear hR HJ
      go_wp2_with fail
      go_ret
      exact ⟨by rw [HR.out]; rfl, HB.out⟩

set_option maxRecDepth 100000 in
set_option maxHeartbeats 4000000 in
theorem gTakes_any (pg : Int) (g oo cp : Nat) (L : List (List UInt8)) (p : Int) (nm tx : ByteArray) (o : Bool) (a : Option Addr) (nk c : Nat) (w : World) (hL : L.length ≤ 100000) (hsz : ∀ x ∈ L, x.length ≤ 100000) (hc : ∀ i x, L[i]? = some x → w.cell? ⟨g, oo + i, none⟩ = some (.string (mkB x))) :
    Calls Tryd.prog 144 #[.int .i64 pg, .slice (some ⟨g, oo, none⟩) L.length cp, .agg #[.int .i64 p, .string nm, .string tx, .bool o, .slice a nk c]] w fun e w' => e = .returned (.bool (L.any fun n => takes1 pg n p nm.data.toList)) ∧ Below w.heap.size w w' := by
  have hSz := hsz
  clear hsz
  have HXs : Hid (∀ i x, L[i]? = some x → (w.alloc (.cells #[.int .i64 p, .string nm, .string tx, .bool o, .slice a nk c] 46)).cell? ⟨g, oo + i, none⟩ = some (.string (mkB x))) := fun i x h => by
    rw [← hc i x h]; exact World.cell?_of_block (Below.heap_alloc _ _ _ (World.block_lt_of_cell? _ _ (hc i x h)))
  clear hc
  have HSz := Lib.hid hSz
  clear hSz
  generalize hn : L.length = n at *
  have HN := Lib.hid hn
  clear hn
  go_enter Tryd.func144, Tryd.ntmps144
  go_wp2_with fail
  have HB0 : Hid (Below w.heap.size w (w.alloc (.cells #[.int .i64 p, .string nm, .string tx, .bool o, .slice a nk c] 46))) := (Below.refl _ w).alloc (Nat.le_refl _) _
  have HY : Hid (∀ k u, (#[.int .i64 p, .string nm, .string tx, .bool o, .slice a nk c] : Array Value)[k]? = some u → (w.alloc (.cells #[.int .i64 p, .string nm, .string tx, .bool o, .slice a nk c] 46)).cell? ⟨w.heap.size, k, none⟩ = some u) := fun k u h => by
    skip
    rw [World.cell?_alloc_at _ _ _ _ rfl]; exact h
  obtain ⟨W0, hW0⟩ : ∃ W0, (w.alloc (.cells #[.int .i64 p, .string nm, .string tx, .bool o, .slice a nk c] 46)) = W0 := ⟨_, rfl⟩
  rw [hW0] at HB0 HY HXs
  rw [hW0]
  clear hW0
  have y0 := HY.out 0 _ rfl
  have y1 := HY.out 1 _ rfl
  go_loopw [7] (fun iv wr => ∃ i : Nat, i ≤ n ∧ iv = .int .i64 (i : Int) ∧ Hid (∀ j (h : j < L.length), j < i → takes1 pg L[j] p nm.data.toList = false) ∧ Hid (Below w.heap.size w wr) ∧ wr.cell? ⟨w.heap.size, 0, none⟩ = some (.int .i64 p) ∧ wr.cell? ⟨w.heap.size, 1, none⟩ = some (.string nm) ∧ Hid (∀ j x, L[j]? = some x → wr.cell? ⟨g, oo + j, none⟩ = some (.string (mkB x)))) (fun iv _ => n - (intOf iv).toNat)
  case atStart => exact ⟨0, Nat.zero_le _, rfl, fun _ _ h => absurd h (Nat.not_lt_zero _), HB0.out, y0, y1, HXs.out⟩
  case round =>
    clear y0 y1 HXs HB0 HY
    obtain ⟨i, hi, rfl, HJ, HB, y0, y1, HX⟩ := hrel
    by_cases hlt : i < n
    · have j3 : (i : Int) < (n : Int) := by omega
      have d3 : decide (i < n) = true := by simp; omega
      have HW1 : Hid (wrap64 ((i : Int) + 1) = (i : Int) + 1) := by unfold Hid wrap64; omega
      have HMs : Hid (n - (intOf (.int .i64 ((i : Int) + 1))).toNat < n - (intOf (.int .i64 (i : Int))).toNat) := by unfold Hid; simp [intOf]; omega
      have hik : i < L.length := by rw [HN.out]; exact hlt
      have hxc := HX.out i _ (List.getElem?_eq_getElem hik)
      have HAll : Hid (takes1 pg L[i] p nm.data.toList = true → (L.any fun n => takes1 pg n p nm.data.toList) = true) := fun h => any_at _ L i hik h
      have HNext : Hid (takes1 pg L[i] p nm.data.toList = false → ∀ j (h : j < L.length), j < i + 1 → takes1 pg L[j] p nm.data.toList = false) := fun h j hj hji => by
        by_cases e : j = i
        · subst e; exact h
        · exact HJ.out j hj (by omega)
      have hNs : (mkB L[i]).size ≤ 100000 := by rw [mkB_size]; exact HSz.out _ (List.getElem_mem hik)
      have hTW := take_ways pg (mkB L[i]) p nm
      rw [mkB_list] at hTW
      generalize takes1 pg L[i] p nm.data.toList = tk at *
      generalize mkB L[i] = NB at *
      clear HJ hik
      rcases hTW with ⟨q1, q2, q3⟩ | ⟨q1, q3⟩
      · have t1 : (1 : Int) < (NB.size : Int) := by omega
        have t2 : (2 : Int) ≤ (NB.size : Int) := by omega
        have a1 : ∀ w, (Instr.index 9 (.string NB) (.int .i64 1)).run Tryd.prog w = .ok (.int .u8 (NB[1].toNat : Int)) w := run_at9 NB 1 q1
        have a0 : ∀ w, (Instr.index 9 (.string NB) (.int .i64 0)).run Tryd.prog w = .ok (.int .u8 (NB[0].toNat : Int)) w := run_at9 NB 0 (by omega)
        have t3 : ((NB[1].toNat : Int) == 46) = true := by rw [q2]; rfl
        have hub : NB[0].toNat < 256 := UInt8.toNat_lt _
        have hwr : IntKind.u8.wrap ((NB[0].toNat : Int) - 48) = ((NB[0].toNat : Int) - 48) % 256 := by simp [IntKind.wrap, IntKind.signed, IntKind.bits]
        have HQ := Lib.hid q3
        have hq0 : 0 ≤ ((NB[0].toNat : Int) - 48) % 256 := by omega
        have hq1 : ((NB[0].toNat : Int) - 48) % 256 < 256 := by omega
        generalize hqq : ((NB[0].toNat : Int) - 48) % 256 = qq at *
        have hq64 : wrap64 qq = qq := by unfold wrap64; omega
        generalize hNN : NB.extract 2 NB.size = NN at *
        clear q2 q3 hqq
        generalize NB[1] = c1 at *
        generalize NB[0] = c0 at *
        clear q1
        by_cases e1 : p = qq
        · by_cases e2 : nm = NN
          · have HV : Hid (tk = true) := by unfold Hid; rw [HQ.out, decide_eq_true e1, decide_eq_true e2]; rfl
            have s1 : (p == qq) = true := by rw [beq_iff_eq]; exact e1
            have s2 := str_beq e2
            clear e1 e2 HQ
            go_wp2_with fail
            go_ret
            exact ⟨by rw [HAll.out HV.out]; rfl, HB.out⟩
          · have HV : Hid (tk = false) := by unfold Hid; rw [HQ.out, decide_eq_false e2, Bool.and_false]
            have s1 : (p == qq) = true := by rw [beq_iff_eq]; exact e1
            have s2 := str_bne e2
            clear e1 e2 HQ
            have hw1 := HW1.out
            go_wp2_with fail
            go_roundw
            case rel => exact ⟨i + 1, by omega, by go_num, HNext.out HV.out, HB.out, y0, y1, HX.out⟩
            case measure => first | exact HMs.out | (rw [hw1]; exact HMs.out)
        · have HV : Hid (tk = false) := by unfold Hid; rw [HQ.out, decide_eq_false e1, Bool.false_and]
          have s1 : (p == qq) = false := by rw [beq_eq_false_iff_ne]; exact e1
          clear e1 HQ
          have hw1 := HW1.out
          go_wp2_with fail
          go_roundw
          case rel => exact ⟨i + 1, by omega, by go_num, HNext.out HV.out, HB.out, y0, y1, HX.out⟩
          case measure => first | exact HMs.out | (rw [hw1]; exact HMs.out)
      · have HQ := Lib.hid q3
        clear q3
        have hk : (¬ (1 : Int) < (NB.size : Int)) ∨ ((1 : Int) < (NB.size : Int) ∧ ∃ ch : Int, (∀ w, (Instr.index 9 (.string NB) (.int .i64 1)).run Tryd.prog w = .ok (.int .u8 ch) w) ∧ (ch == 46) = false) := by
          rcases q1 with q1 | ⟨q1, q2⟩
          · exact .inl (by omega)
          · exact .inr ⟨by omega, _, run_at9 NB 1 q1, by rw [beq_eq_false_iff_ne]; intro e; exact q2 (byte_eq 46 rfl e)⟩
        clear q1
        rcases hk with t1 | ⟨t1, ch, a1, t3⟩
        all_goals
          by_cases e1 : p = pg
          · by_cases e2 : nm = NB
            · have HV : Hid (tk = true) := by unfold Hid; rw [HQ.out, decide_eq_true e1, decide_eq_true e2]; rfl
              have s1 : (p == pg) = true := by rw [beq_iff_eq]; exact e1
              have s2 := str_beq e2
              clear e1 e2 HQ
              go_wp2_with fail
              go_ret
              exact ⟨by rw [HAll.out HV.out]; rfl, HB.out⟩
            · have HV : Hid (tk = false) := by unfold Hid; rw [HQ.out, decide_eq_false e2, Bool.and_false]
              have s1 : (p == pg) = true := by rw [beq_iff_eq]; exact e1
              have s2 := str_bne e2
              clear e1 e2 HQ
              have hw1 := HW1.out
              go_wp2_with fail
              go_roundw
              case rel => exact ⟨i + 1, by omega, by go_num, HNext.out HV.out, HB.out, y0, y1, HX.out⟩
              case measure => first | exact HMs.out | (rw [hw1]; exact HMs.out)
          · have HV : Hid (tk = false) := by unfold Hid; rw [HQ.out, decide_eq_false e1, Bool.false_and]
            have s1 : (p == pg) = false := by rw [beq_eq_false_iff_ne]; exact e1
            clear e1 HQ
            have hw1 := HW1.out
            go_wp2_with fail
            go_roundw
            case rel => exact ⟨i + 1, by omega, by go_num, HNext.out HV.out, HB.out, y0, y1, HX.out⟩
            case measure => first | exact HMs.out | (rw [hw1]; exact HMs.out)
    · have j3 : ¬ (i : Int) < (n : Int) := by omega
      have d3 : decide (i < n) = false := by simp; omega
      have hR := any_take (fun n => takes1 pg n p nm.data.toList) L i HJ.out (by rw [HN.out]; omega)
      have HR := Lib.hid hR
      clear hR HJ
      go_wp2_with fail
      go_ret
      exact ⟨by rw [HR.out]; rfl, HB.out⟩
end Go.Proofs.YtgechifbbhipaaaDoor
