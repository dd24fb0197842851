/- grammar: is an element one of a word's? Both. No condition but sizes. -/
import Derived.Test.YtgechifbbhipaaaDoorGrP
import Derived.Test.YtgechifbbhipaaaDoorShelf
import Derived.Deep.QuietTactic
import Derived.BigQuiet
import Derived.Test.YtgechifbbhipaaaDoorTrP
import Derived.Test.YtgechifbbhipaaaDoorTrN
import Derived.Lib.CutLaws
set_option linter.unusedVariables false
set_option linter.unusedSimpArgs false
namespace Go.Proofs.YtgechifbbhipaaaDoor
open Go.RowKit

theorem splitK_cut (c : UInt8) : ∀ (k : Nat) (s : List UInt8), s.count c = k → Lib.splitK [c] 0 k s = cutB c s
  | 0, s, h => by
    have : c ∉ s := List.count_eq_zero.1 h
    rw [cutB_free this]; rfl
  | k + 1, s, h => by
    have hm : c ∈ s := List.count_pos_iff.1 (by omega)
    obtain ⟨p, q, rfl, hp⟩ := List.eq_append_cons_of_mem hm
    have hi : Lib.index (p ++ c :: q) [c] = p.length := Lib.index_first (by simp) (by unfold Lib.occAt; rw [List.drop_left]; simp [List.isPrefixOf]) (fun j hj => by
      cases e : Lib.occAt (p ++ c :: q) [c] j with
      | false => rfl
      | true =>
        have := Lib.occAt_head rfl e
        rw [List.getElem?_append_left hj] at this
        exact absurd (List.mem_of_getElem? this) hp)
    rw [Lib.splitK, hi, if_neg (by simp), cutB_at hp]
    have h1 : (p ++ c :: q).take ((p.length : Int).toNat + 0) = p := by simp
    have h2 : (p ++ c :: q).drop ((p.length : Int).toNat + [c].length) = q := by
      rw [show (p.length : Int).toNat + [c].length = (p ++ [c]).length from by simp, show p ++ c :: q = (p ++ [c]) ++ q from by simp, List.drop_left]
    rw [h1, h2, splitK_cut c k q (by rw [List.count_append, List.count_eq_zero.2 hp, List.count_cons_self] at h; omega)]
theorem splitB_cut (c : UInt8) (s : ByteArray) : Lib.splitB ⟨#[c]⟩ 0 (Lib.countB s ⟨#[c]⟩) s = (cutB c s.data.toList).map mkB := by
  have h1 := Lib.splitB_data ⟨#[c]⟩ 0 (Lib.countB s ⟨#[c]⟩) s
  have h2 : Lib.countB s ⟨#[c]⟩ = s.data.toList.count c := by
    rw [← Lib.count_one]
  rw [show (⟨#[c]⟩ : ByteArray).data.toList = [c] from rfl, splitK_cut c _ _ h2.symm] at h1
  rw [← h1, List.map_map]
  conv => lhs; rw [← List.map_id (Lib.splitB ⟨#[c]⟩ 0 (Lib.countB s ⟨#[c]⟩) s)]
  refine List.map_congr_left fun x _ => ?_
  exact (mkB_of x).symm
theorem cutB_mem_len (c : UInt8) (l : List UInt8) : ∀ x ∈ cutB c l, x.length ≤ l.length := by
  induction l with
  | nil => intro x hx; simp [cutB] at hx; subst hx; simp
  | cons a l ih =>
    intro x hx
    rw [cutB] at hx
    split at hx
    · rcases List.mem_cons.1 hx with rfl | hx
      · simp
      · have := ih x hx; simp; omega
    · split at hx
      · simp at hx; subst hx; simp
      · rename_i p ps he
        rcases List.mem_cons.1 hx with rfl | hx
        · have := ih p (by rw [he]; simp); simp; omega
        · have := ih x (by rw [he]; simp [hx]); simp; omega
theorem any_take {α : Type} (q : α → Bool) (l : List α) (i : Nat) (h : ∀ j (hj : j < l.length), j < i → q l[j] = false) (hi : l.length ≤ i) : l.any q = false := by
  rw [List.any_eq_false]
  intro x hx
  obtain ⟨j, hj, rfl⟩ := List.getElem_of_mem hx
  rw [h j hj (by omega)]; decide
theorem any_at {α : Type} (q : α → Bool) (l : List α) (i : Nat) (hi : i < l.length) (h : q l[i] = true) : l.any q = true := List.any_eq_true.2 ⟨_, List.getElem_mem hi, h⟩
/-- the ways in which a piece tells an element, or not -/
theorem take_ways (pg : Int) (n : ByteArray) (p : Int) (nm : ByteArray) :
    (∃ (h : 1 < n.size), n[1] = 46 ∧ takes1 pg n.data.toList p nm.data.toList = (decide (p = (((n[0].toNat : Int) - 48) % 256)) && decide (nm = n.extract 2 n.size))) ∨
    ((¬ 1 < n.size ∨ ∃ (h : 1 < n.size), n[1] ≠ 46) ∧ takes1 pg n.data.toList p nm.data.toList = (decide (p = pg) && decide (nm = n))) := by
  have hl := len_toList n
  have e1 : ∀ a b : ByteArray, decide (a.data.toList = b.data.toList) = decide (a = b) := fun a b => by
    rw [decide_eq_decide]; exact ⟨fun h => Go.WideShapes.bytes_inj h, fun h => by rw [h]⟩
  by_cases h : 1 < n.size
  · have g1 : n.data.toList[1]? = some n[1] := bat_get n 1 h
    have g0 : n.data.toList[0]? = some n[0] := bat_get n 0 (by omega)
    by_cases h2 : n[1] = 46
    · refine .inl ⟨h, h2, ?_⟩
      unfold takes1
      rw [if_pos ⟨by omega, by rw [g1, h2]⟩, g0]
      have e2 : n.data.toList.drop 2 = (n.extract 2 n.size).data.toList := by
        rw [ByteArray.data_extract, Array.toList_extract, List.extract]
        exact (List.take_of_length_le (by rw [List.length_drop, hl]; exact Nat.le_refl _)).symm
      rw [e2, e1]; rfl
    · refine .inr ⟨.inr ⟨h, h2⟩, ?_⟩
      unfold takes1
      rw [if_neg (by rintro ⟨_, h3⟩; rw [g1] at h3; exact h2 (Option.some.inj h3)), e1]
  · refine .inr ⟨.inl h, ?_⟩
    unfold takes1
    rw [if_neg (by rintro ⟨h3, _⟩; omega), e1]

set_option maxRecDepth 100000 in
set_option maxHeartbeats 4000000 in
theorem gOne_any (pg : Int) (names : ByteArray) (p : Int) (nm tx : ByteArray) (o : Bool) (a : Option Addr) (nk c : Nat) (w : World) (m : Int) (hm : w.cell? ⟨0, 0, none⟩ = some (.int .i64 m)) (hs : names.size ≤ 100000) :
    Calls Tryd.prog 143 #[.int .i64 pg, .string names, .agg #[.int .i64 p, .string nm, .string tx, .bool o, .slice a nk c]] w fun e w' => e = .returned (.bool (takesV pg names.data.toList p nm.data.toList)) ∧ Below w.heap.size w w' := by
  have hLl := cutB_len 124 names.data.toList
  have hSz : ∀ x ∈ cutB 124 names.data.toList, x.length ≤ 100000 := fun x hx => by
    have h1 := cutB_mem_len 124 names.data.toList x hx
    rw [len_toList] at h1; omega
  have cS : ∀ X, X.cell? ⟨0, 0, none⟩ = some (.int .i64 m) → Calls Tryd.prog 178 #[.string names, .string { data := #[124] }] X fun e w' => e = .returned (.slice (some ⟨X.heap.size, 0, none⟩) (cutB 124 names.data.toList).length (cutB 124 names.data.toList).length) ∧ w' = X.alloc (.cells (strVs (cutB 124 names.data.toList)).toArray 9) := fun X hX => by
    have h1 := Tryd.strings_Split names ⟨#[124]⟩ m X (by omega) hX (by decide)
    have h2 := splitB_cut 124 names
    have h3 : Lib.countB names ⟨#[124]⟩ + 1 = (cutB 124 names.data.toList).length := by
      have := Lib.splitB_all ⟨#[124]⟩ (by decide) 0 _ names rfl
      rw [h2, List.length_map] at this
      exact this.symm
    rw [h2, h3] at h1
    rw [List.map_map] at h1
    exact h1
  have hRes : takesV pg names.data.toList p nm.data.toList = (cutB 124 names.data.toList).any fun n => takes1 pg n p nm.data.toList := rfl
  rw [hRes]
  clear hRes
  rw [len_toList] at hLl
  have hL : (cutB 124 names.data.toList).length ≤ 100001 := by omega
  clear hLl
  have HS := Lib.hid cS
  clear cS
  generalize cutB 124 names.data.toList = L at *
  have hm1 : (w.alloc (.cells #[.int .i64 p, .string nm, .string tx, .bool o, .slice a nk c] 46)).cell? ⟨0, 0, none⟩ = some (.int .i64 m) := by
    rw [← hm]; exact World.cell?_of_block (Below.heap_alloc _ _ _ (World.block_lt_of_cell? _ _ hm))
  have HM1 := Lib.hid hm1
  clear hm1 hm hs
  have HXs : Hid (∀ i x, L[i]? = some x → ((w.alloc (.cells #[.int .i64 p, .string nm, .string tx, .bool o, .slice a nk c] 46)).alloc (.cells (strVs L).toArray 9)).cell? ⟨w.heap.size + 1, i, none⟩ = some (.string (mkB x))) := fun i x h => by
    rw [World.cell?_alloc_at _ _ _ _ (by simp)]
    simp [strVs, h]
  have HSz := Lib.hid hSz
  clear hSz
  generalize hn : L.length = n at *
  have HN := Lib.hid hn
  clear hn
  go_enter Tryd.func143, Tryd.ntmps143
  go_wp2_with (go_at_call 178; (with_reducible refine (HS.out _ HM1.out).mono ?_); rintro e w1 ⟨rfl, hw1⟩; rw [hw1]; clear hw1)
  (try simp only [World.size_alloc])
  have HB0 : Hid (Below w.heap.size w ((w.alloc (.cells #[.int .i64 p, .string nm, .string tx, .bool o, .slice a nk c] 46)).alloc (.cells (strVs L).toArray 9))) := ((Below.refl _ w).alloc (Nat.le_refl _) _).alloc (by simp) _
  have HY : Hid (∀ k u, (#[.int .i64 p, .string nm, .string tx, .bool o, .slice a nk c] : Array Value)[k]? = some u → ((w.alloc (.cells #[.int .i64 p, .string nm, .string tx, .bool o, .slice a nk c] 46)).alloc (.cells (strVs L).toArray 9)).cell? ⟨w.heap.size, k, none⟩ = some u) := fun k u h => by
    rw [World.cell?_of_block (w := w.alloc (.cells #[.int .i64 p, .string nm, .string tx, .bool o, .slice a nk c] 46)) (Below.heap_alloc _ _ _ (by simp))]
    rw [World.cell?_alloc_at _ _ _ _ rfl]; exact h
  obtain ⟨W0, hW0⟩ : ∃ W0, ((w.alloc (.cells #[.int .i64 p, .string nm, .string tx, .bool o, .slice a nk c] 46)).alloc (.cells (strVs L).toArray 9)) = W0 := ⟨_, rfl⟩
  rw [hW0] at HB0 HY HXs
  rw [hW0]
  clear hW0
  have y0 := HY.out 0 _ rfl
  have y1 := HY.out 1 _ rfl
  go_loopw [13] (fun iv wr => ∃ i : Nat, i ≤ n ∧ iv = .int .i64 (i : Int) ∧ Hid (∀ j (h : j < L.length), j < i → takes1 pg L[j] p nm.data.toList = false) ∧ Hid (Below w.heap.size w wr) ∧ wr.cell? ⟨w.heap.size, 0, none⟩ = some (.int .i64 p) ∧ wr.cell? ⟨w.heap.size, 1, none⟩ = some (.string nm) ∧ Hid (∀ j x, L[j]? = some x → wr.cell? ⟨w.heap.size + 1, j, none⟩ = some (.string (mkB x)))) (fun iv _ => n - (intOf iv).toNat)
  case atStart => exact ⟨0, Nat.zero_le _, rfl, fun _ _ h => absurd h (Nat.not_lt_zero _), HB0.out, y0, y1, HXs.out⟩
  case round =>
    clear y0 y1 HXs HB0 HY
    obtain ⟨i, hi, rfl, HJ, HB, y0, y1, HX⟩ := hrel
    by_cases hlt : i < n
    · have j3 : (i : Int) < (n : Int) := by omega
      have d3 : decide (i < n) = true := by simp; omega
      have HW1 : Hid (wrap64 ((i : Int) + 1) = (i : Int) + 1) := by unfold Hid wrap64; omega
      have HMs : Hid (n - (intOf (.int .i64 ((i : Int) + 1))).toNat < n - (intOf (.int .i64 (i : Int))).toNat) := by unfold Hid; simp [intOf]; omega
      have hik : i < L.length := by rw [HN.out]; exact hlt
      have hxc := HX.out i _ (List.getElem?_eq_getElem hik)
      have HAll : Hid (takes1 pg L[i] p nm.data.toList = true → (L.any fun n => takes1 pg n p nm.data.toList) = true) := fun h => any_at _ L i hik h
      have HNext : Hid (takes1 pg L[i] p nm.data.toList = false → ∀ j (h : j < L.length), j < i + 1 → takes1 pg L[j] p nm.data.toList = false) := fun h j hj hji => by
        by_cases e : j = i
        · subst e; exact h
        · exact HJ.out j hj (by omega)
      have hNs : (mkB L[i]).size ≤ 100000 := by rw [mkB_size]; exact HSz.out _ (List.getElem_mem hik)
      have hTW := take_ways pg (mkB L[i]) p nm
      rw [mkB_list] at hTW
      generalize takes1 pg L[i] p nm.data.toList = tk at *
      generalize mkB L[i] = NB at *
      clear HJ hik
      rcases hTW with ⟨q1, q2, q3⟩ | ⟨q1, q3⟩
      · have t1 : (1 : Int) < (NB.size : Int) := by omega
        have t2 : (2 : Int) ≤ (NB.size : Int) := by omega
        have a1 : ∀ w, (Instr.index 9 (.string NB) (.int .i64 1)).run Tryd.prog w = .ok (.int .u8 (NB[1].toNat : Int)) w := run_at9 NB 1 q1
        have a0 : ∀ w, (Instr.index 9 (.string NB) (.int .i64 0)).run Tryd.prog w = .ok (.int .u8 (NB[0].toNat : Int)) w := run_at9 NB 0 (by omega)
        have t3 : ((NB[1].toNat : Int) == 46) = true := by rw [q2]; rfl
        have hub : NB[0].toNat < 256 := UInt8.toNat_lt _
        have hwr : IntKind.u8.wrap ((NB[0].toNat : Int) - 48) = ((NB[0].toNat : Int) - 48) % 256 := by simp [IntKind.wrap, IntKind.signed, IntKind.bits]
        have HQ := Lib.hid q3
        have hq0 : 0 ≤ ((NB[0].toNat : Int) - 48) % 256 := by omega
        have hq1 : ((NB[0].toNat : Int) - 48) % 256 < 256 := by omega
        generalize hqq : ((NB[0].toNat : Int) - 48) % 256 = qq at *
        have hq64 : wrap64 qq = qq := by unfold wrap64; omega
        generalize hNN : NB.extract 2 NB.size = NN at *
        clear q2 q3 hqq
        generalize NB[1] = c1 at *
        generalize NB[0] = c0 at *
        clear q1
        by_cases e1 : p = qq
        · by_cases e2 : nm = NN
          · have HV : Hid (tk = true) := by unfold Hid; rw [HQ.out, decide_eq_true e1, decide_eq_true e2]; rfl
            have s1 : (p == qq) = true := by rw [beq_iff_eq]; exact e1
            have s2 := str_beq e2
            clear e1 e2 HQ
            go_wp2_with fail
            go_quiet (fail)
            go_wp2_with fail
            go_ret
            exact ⟨by rw [HAll.out HV.out]; rfl, HB.out.trans (below_dr0 _ _ _)⟩
          · have HV : Hid (tk = false) := by unfold Hid; rw [HQ.out, decide_eq_false e2, Bool.and_false]
            have s1 : (p == qq) = true := by rw [beq_iff_eq]; exact e1
            have s2 := str_bne e2
            clear e1 e2 HQ
            go_wp2_with fail
            go_quiet (fail)
            have hw1 := HW1.out
            go_wp2_with fail
            go_roundw
            case rel => exact ⟨i + 1, by omega, by go_num, HNext.out HV.out, HB.out.trans (below_dr0 _ _ _), y0, y1, HX.out⟩
            case measure => first | exact HMs.out | (rw [hw1]; exact HMs.out)
        · have HV : Hid (tk = false) := by unfold Hid; rw [HQ.out, decide_eq_false e1, Bool.false_and]
          have s1 : (p == qq) = false := by rw [beq_eq_false_iff_ne]; exact e1
          clear e1 HQ
          go_wp2_with fail
          go_quiet (fail)
          have hw1 := HW1.out
          go_wp2_with fail
          go_roundw
          case rel => exact ⟨i + 1, by omega, by go_num, HNext.out HV.out, HB.out.trans (below_dr0 _ _ _), y0, y1, HX.out⟩
          case measure => first | exact HMs.out | (rw [hw1]; exact HMs.out)
      · have HQ := Lib.hid q3
        clear q3
        have hk : (¬ (1 : Int) < (NB.size : Int)) ∨ ((1 : Int) < (NB.size : Int) ∧ ∃ ch : Int, (∀ w, (Instr.index 9 (.string NB) (.int .i64 1)).run Tryd.prog w = .ok (.int .u8 ch) w) ∧ (ch == 46) = false) := by
          rcases q1 with q1 | ⟨q1, q2⟩
          · exact .inl (by omega)
          · exact .inr ⟨by omega, _, run_at9 NB 1 q1, by rw [beq_eq_false_iff_ne]; intro e; exact q2 (byte_eq 46 rfl e)⟩
        clear q1
        rcases hk with t1 | ⟨t1, ch, a1, t3⟩
        all_goals
          by_cases e1 : p = pg
          · by_cases e2 : nm = NB
            · have HV : Hid (tk = true) := by unfold Hid; rw [HQ.out, decide_eq_true e1, decide_eq_true e2]; rfl
              have s1 : (p == pg) = true := by rw [beq_iff_eq]; exact e1
              have s2 := str_beq e2
              clear e1 e2 HQ
              go_wp2_with fail
              go_ret
              exact ⟨by rw [HAll.out HV.out]; rfl, HB.out⟩
            · have HV : Hid (tk = false) := by unfold Hid; rw [HQ.out, decide_eq_false e2, Bool.and_false]
              have s1 : (p == pg) = true := by rw [beq_iff_eq]; exact e1
              have s2 := str_bne e2
              clear e1 e2 HQ
              have hw1 := HW1.out
              go_wp2_with fail
              go_roundw
              case rel => exact ⟨i + 1, by omega, by go_num, HNext.out HV.out, HB.out, y0, y1, HX.out⟩
              case measure => first | exact HMs.out | (rw [hw1]; exact HMs.out)
          · have HV : Hid (tk = false) := by unfold Hid; rw [HQ.out, decide_eq_false e1, Bool.false_and]
            have s1 : (p == pg) = false := by rw [beq_eq_false_iff_ne]; exact e1
            clear e1 HQ
            have hw1 := HW1.out
            go_wp2_with fail
            go_roundw
            case rel => exact ⟨i + 1, by omega, by go_num, HNext.out HV.out, HB.out, y0, y1, HX.out⟩
            case measure => first | exact HMs.out | (rw [hw1]; exact HMs.out)
    · have j3 : ¬ (i : Int) < (n : Int) := by omega
      have d3 : decide (i < n) = false := by simp; omega
      have hR := any_take (fun n => takes1 pg n p nm.data.toList) L i HJ.out (by rw [HN.out]; omega)
      have HR := Lib.hid hR
      clear hR HJ
      go_wp2_with fail
      go_ret
      exact ⟨by rw [HR.out]; rfl, HB.out⟩

set_option maxRecDepth 100000 in
set_option maxHeartbeats 4000000 in
theorem gTakes_any (pg : Int) (g oo cp : Nat) (L : List (List UInt8)) (p : Int) (nm tx : ByteArray) (o : Bool) (a : Option Addr) (nk c : Nat) (w : World) (hL : L.length ≤ 100000) (hsz : ∀ x ∈ L, x.length ≤ 100000) (hc : ∀ i x, L[i]? = some x → w.cell? ⟨g, oo + i, none⟩ = some (.string (mkB x))) :
    Calls Tryd.prog 144 #[.int .i64 pg, .slice (some ⟨g, oo, none⟩) L.length cp, .agg #[.int .i64 p, .string nm, .string tx, .bool o, .slice a nk c]] w fun e w' => e = .returned (.bool (L.any fun n => takes1 pg n p nm.data.toList)) ∧ Below w.heap.size w w' := by
  have hSz := hsz
  clear hsz
  have HXs : Hid (∀ i x, L[i]? = some x → (w.alloc (.cells #[.int .i64 p, .string nm, .string tx, .bool o, .slice a nk c] 46)).cell? ⟨g, oo + i, none⟩ = some (.string (mkB x))) := fun i x h => by
    rw [← hc i x h]; exact World.cell?_of_block (Below.heap_alloc _ _ _ (World.block_lt_of_cell? _ _ (hc i x h)))
  clear hc
  have HSz := Lib.hid hSz
  clear hSz
  generalize hn : L.length = n at *
  have HN := Lib.hid hn
  clear hn
  go_enter Tryd.func144, Tryd.ntmps144
  go_wp2_with fail
  have HB0 : Hid (Below w.heap.size w (w.alloc (.cells #[.int .i64 p, .string nm, .string tx, .bool o, .slice a nk c] 46))) := (Below.refl _ w).alloc (Nat.le_refl _) _
  have HY : Hid (∀ k u, (#[.int .i64 p, .string nm, .string tx, .bool o, .slice a nk c] : Array Value)[k]? = some u → (w.alloc (.cells #[.int .i64 p, .string nm, .string tx, .bool o, .slice a nk c] 46)).cell? ⟨w.heap.size, k, none⟩ = some u) := fun k u h => by
    skip
    rw [World.cell?_alloc_at _ _ _ _ rfl]; exact h
  obtain ⟨W0, hW0⟩ : ∃ W0, (w.alloc (.cells #[.int .i64 p, .string nm, .string tx, .bool o, .slice a nk c] 46)) = W0 := ⟨_, rfl⟩
  rw [hW0] at HB0 HY HXs
  rw [hW0]
  clear hW0
  have y0 := HY.out 0 _ rfl
  have y1 := HY.out 1 _ rfl
  go_loopw [7] (fun iv wr => ∃ i : Nat, i ≤ n ∧ iv = .int .i64 (i : Int) ∧ Hid (∀ j (h : j < L.length), j < i → takes1 pg L[j] p nm.data.toList = false) ∧ Hid (Below w.heap.size w wr) ∧ wr.cell? ⟨w.heap.size, 0, none⟩ = some (.int .i64 p) ∧ wr.cell? ⟨w.heap.size, 1, none⟩ = some (.string nm) ∧ Hid (∀ j x, L[j]? = some x → wr.cell? ⟨g, oo + j, none⟩ = some (.string (mkB x)))) (fun iv _ => n - (intOf iv).toNat)
  case atStart => exact ⟨0, Nat.zero_le _, rfl, fun _ _ h => absurd h (Nat.not_lt_zero _), HB0.out, y0, y1, HXs.out⟩
  case round =>
    clear y0 y1 HXs HB0 HY
    obtain ⟨i, hi, rfl, HJ, HB, y0, y1, HX⟩ := hrel
    by_cases hlt : i < n
    · have j3 : (i : Int) < (n : Int) := by omega
      have d3 : decide (i < n) = true := by simp; omega
      have HW1 : Hid (wrap64 ((i : Int) + 1) = (i : Int) + 1) := by unfold Hid wrap64; omega
      have HMs : Hid (n - (intOf (.int .i64 ((i : Int) + 1))).toNat < n - (intOf (.int .i64 (i : Int))).toNat) := by unfold Hid; simp [intOf]; omega
      have hik : i < L.length := by rw [HN.out]; exact hlt
      have hxc := HX.out i _ (List.getElem?_eq_getElem hik)
      have HAll : Hid (takes1 pg L[i] p nm.data.toList = true → (L.any fun n => takes1 pg n p nm.data.toList) = true) := fun h => any_at _ L i hik h
      have HNext : Hid (takes1 pg L[i] p nm.data.toList = false → ∀ j (h : j < L.length), j < i + 1 → takes1 pg L[j] p nm.data.toList = false) := fun h j hj hji => by
        by_cases e : j = i
        · subst e; exact h
        · exact HJ.out j hj (by omega)
      have hNs : (mkB L[i]).size ≤ 100000 := by rw [mkB_size]; exact HSz.out _ (List.getElem_mem hik)
      have hTW := take_ways pg (mkB L[i]) p nm
      rw [mkB_list] at hTW
      generalize takes1 pg L[i] p nm.data.toList = tk at *
      generalize mkB L[i] = NB at *
      clear HJ hik
      rcases hTW with ⟨q1, q2, q3⟩ | ⟨q1, q3⟩
      · have t1 : (1 : Int) < (NB.size : Int) := by omega
        have t2 : (2 : Int) ≤ (NB.size : Int) := by omega
        have a1 : ∀ w, (Instr.index 9 (.string NB) (.int .i64 1)).run Tryd.prog w = .ok (.int .u8 (NB[1].toNat : Int)) w := run_at9 NB 1 q1
        have a0 : ∀ w, (Instr.index 9 (.string NB) (.int .i64 0)).run Tryd.prog w = .ok (.int .u8 (NB[0].toNat : Int)) w := run_at9 NB 0 (by omega)
        have t3 : ((NB[1].toNat : Int) == 46) = true := by rw [q2]; rfl
        have hub : NB[0].toNat < 256 := UInt8.toNat_lt _
        have hwr : IntKind.u8.wrap ((NB[0].toNat : Int) - 48) = ((NB[0].toNat : Int) - 48) % 256 := by simp [IntKind.wrap, IntKind.signed, IntKind.bits]
        have HQ := Lib.hid q3
        have hq0 : 0 ≤ ((NB[0].toNat : Int) - 48) % 256 := by omega
        have hq1 : ((NB[0].toNat : Int) - 48) % 256 < 256 := by omega
        generalize hqq : ((NB[0].toNat : Int) - 48) % 256 = qq at *
        have hq64 : wrap64 qq = qq := by unfold wrap64; omega
        generalize hNN : NB.extract 2 NB.size = NN at *
        clear q2 q3 hqq
        generalize NB[1] = c1 at *
        generalize NB[0] = c0 at *
        clear q1
        by_cases e1 : p = qq
        · by_cases e2 : nm = NN
          · have HV : Hid (tk = true) := by unfold Hid; rw [HQ.out, decide_eq_true e1, decide_eq_true e2]; rfl
            have s1 : (p == qq) = true := by rw [beq_iff_eq]; exact e1
            have s2 := str_beq e2
            clear e1 e2 HQ
            go_wp2_with fail
            go_ret
            exact ⟨by rw [HAll.out HV.out]; rfl, HB.out⟩
          · have HV : Hid (tk = false) := by unfold Hid; rw [HQ.out, decide_eq_false e2, Bool.and_false]
            have s1 : (p == qq) = true := by rw [beq_iff_eq]; exact e1
            have s2 := str_bne e2
            clear e1 e2 HQ
            have hw1 := HW1.out
            go_wp2_with fail
            go_roundw
            case rel => exact ⟨i + 1, by omega, by go_num, HNext.out HV.out, HB.out, y0, y1, HX.out⟩
            case measure => first | exact HMs.out | (rw [hw1]; exact HMs.out)
        · have HV : Hid (tk = false) := by unfold Hid; rw [HQ.out, decide_eq_false e1, Bool.false_and]
          have s1 : (p == qq) = false := by rw [beq_eq_false_iff_ne]; exact e1
          clear e1 HQ
          have hw1 := HW1.out
          go_wp2_with fail
          go_roundw
          case rel => exact ⟨i + 1, by omega, by go_num, HNext.out HV.out, HB.out, y0, y1, HX.out⟩
          case measure => first | exact HMs.out | (rw [hw1]; exact HMs.out)
      · have HQ := Lib.hid q3
        clear q3
        have hk : (¬ (1 : Int) < (NB.size : Int)) ∨ ((1 : Int) < (NB.size : Int) ∧ ∃ ch : Int, (∀ w, (Instr.index 9 (.string NB) (.int .i64 1)).run Tryd.prog w = .ok (.int .u8 ch) w) ∧ (ch == 46) = false) := by
          rcases q1 with q1 | ⟨q1, q2⟩
          · exact .inl (by omega)
          · exact .inr ⟨by omega, _, run_at9 NB 1 q1, by rw [beq_eq_false_iff_ne]; intro e; exact q2 (byte_eq 46 rfl e)⟩
        clear q1
        rcases hk with t1 | ⟨t1, ch, a1, t3⟩
        all_goals
          by_cases e1 : p = pg
          · by_cases e2 : nm = NB
            · have HV : Hid (tk = true) := by unfold Hid; rw [HQ.out, decide_eq_true e1, decide_eq_true e2]; rfl
              have s1 : (p == pg) = true := by rw [beq_iff_eq]; exact e1
              have s2 := str_beq e2
              clear e1 e2 HQ
              go_wp2_with fail
              go_ret
              exact ⟨by rw [HAll.out HV.out]; rfl, HB.out⟩
            · have HV : Hid (tk = false) := by unfold Hid; rw [HQ.out, decide_eq_false e2, Bool.and_false]
              have s1 : (p == pg) = true := by rw [beq_iff_eq]; exact e1
              have s2 := str_bne e2
              clear e1 e2 HQ
              have hw1 := HW1.out
              go_wp2_with fail
              go_roundw
              case rel => exact ⟨i + 1, by omega, by go_num, HNext.out HV.out, HB.out, y0, y1, HX.out⟩
              case measure => first | exact HMs.out | (rw [hw1]; exact HMs.out)
          · have HV : Hid (tk = false) := by unfold Hid; rw [HQ.out, decide_eq_false e1, Bool.false_and]
            have s1 : (p == pg) = false := by rw [beq_eq_false_iff_ne]; exact e1
            clear e1 HQ
            have hw1 := HW1.out
            go_wp2_with fail
            go_roundw
            case rel => exact ⟨i + 1, by omega, by go_num, HNext.out HV.out, HB.out, y0, y1, HX.out⟩
            case measure => first | exact HMs.out | (rw [hw1]; exact HMs.out)
    · have j3 : ¬ (i : Int) < (n : Int) := by omega
      have d3 : decide (i < n) = false := by simp; omega
      have hR := any_take (fun n => takes1 pg n p nm.data.toList) L i HJ.out (by rw [HN.out]; omega)
      have HR := Lib.hid hR
      clear hR HJ
      go_wp2_with fail
      go_ret
      exact ⟨by rw [HR.out]; rfl, HB.out⟩
end Go.Proofs.YtgechifbbhipaaaDoor

/- grammar: the reference's words of a name; the program's Rule of a name that is one. No condition but the library's variable. -/
set_option linter.unusedVariables false
set_option linter.unusedSimpArgs false
namespace Go.Proofs.YtgechifbbhipaaaDoor
open Go.RowKit

/-- a slice from an index on -/
theorem run_from {P : Program} (t : TypeId) (sz : Nat) (ht : P.underlying t = some (.slice (P.elem t))) (hs : ∀ w, (sizeOf (P.elem t)).run P w = .ok sz w) (a : Option Addr) (n c k : Nat) (hk : k ≤ n) :
    ∃ a', (∀ w, (Instr.slice t (.slice a n c) (some (.int .i64 (k : Int))) none none).run P w = .ok (.slice a' (n - k) (c - k)) w) ∧ (k < c → a' = a.map (·.add (k * sz))) := by
  refine ⟨if c = k then a else a.map (·.add (k * sz)), fun w => ?_, fun h => if_neg (by omega)⟩
  rw [run_slice_l w t a n c ht .i64 k (by omega) (by omega), hs]
  simp [Result.andThen, sliced]

theorem words_no (pg : Int) (nm : ByteArray) (hn : nameB nm = true) (hs : nm.size ≤ 1000) (h : ruleF pg nm.data.toList = none) (w : World) :
    Calls Tryd.prog 89 #[.int .i64 pg, .string nm] w fun e w' => e = .returned (.tuple #[.slice none 0 0, .bool false]) ∧ Below w.heap.size w w' := by
  have hl : lineF pg nm.data.toList = [] := by
    rcases line_cases pg nm.data.toList (nameB_free hn 32 (by decide)) with ⟨_, b⟩ | ⟨a, _⟩ | ⟨r, _, a, _⟩
    · exact b
    · rw [h] at a; cases a
    · rw [h] at a; cases a
  have cN := refName_any nm
  rw [hn] at cN
  have CN := Lib.hid cN
  have cL := line_any pg nm
  rw [hl] at cL
  have CL := Lib.hid (fun w => cL w hs)
  have i1 := emptyB (mkB []) rfl
  clear cN cL hl h hn hs
  generalize mkB [] = LB at *
  go_enter Tryd.func89, Tryd.ntmps89
  go_wp2_with (first | (go_at_call 100; refine (CN.out _).mono ?_; rintro e w1 ⟨rfl, rfl⟩) | (go_at_call 139; refine (CL.out _).mono ?_; rintro e w1 ⟨rfl, rfl⟩))
  go_ret2
  exact ⟨rfl, Below.refl _ _⟩

theorem hdL_ne (pg : Int) (nm : List UInt8) : hdL pg nm ≠ [] := by unfold hdL; simp
set_option maxHeartbeats 1000000 in
theorem words_yes (pg : Int) (nm : ByteArray) (hn : nameB nm = true) (hs : nm.size ≤ 1000) (r : List UInt8) (h : ruleF pg nm.data.toList = some r) (w : World) :
    Calls Tryd.prog 89 #[.int .i64 pg, .string nm] w fun e w' => (∃ a c, e = .returned (.tuple #[.slice a (wordsR r).length c, .bool true]) ∧ ∀ i x, (wordsR r)[i]? = some x → ∃ g o, a = some ⟨g, o, none⟩ ∧ w.heap.size ≤ g ∧ g < w'.heap.size ∧ w'.cell? ⟨g, o + i, none⟩ = some (.string (mkB x))) ∧ Below w.heap.size w w' := by
  obtain ⟨LN, hLN, hne, hcut, hll⟩ : ∃ LN : List UInt8, lineF pg nm.data.toList = LN ∧ LN ≠ [] ∧ cutB 32 LN = digL pg :: nm.data.toList :: wordsR r ∧ LN.length ≤ 2000 := by
    have hmem : ∀ l ∈ ruleLs, l.length ≤ 2000 := fun l hl => by
      have := cutB_mem_len 10 rulesQ.data.toList l hl
      rw [len_toList, rulesQ_size] at this; omega
    rcases find_both (hdL pg nm.data.toList) ruleLs with ⟨a, _⟩ | ⟨_, b, c⟩ | ⟨r2, _, b, c⟩
    · rw [show ruleF pg nm.data.toList = none from a] at h; cases h
    · rcases line_cases pg nm.data.toList (nameB_free hn 32 (by decide)) with ⟨a, _⟩ | ⟨a, b2, d⟩ | ⟨r3, k1, a, b2, d, _⟩
      · rw [h] at a; cases a
      · rw [h] at a; cases a
        exact ⟨_, rfl, by rw [b2]; exact hdL_ne _ _, d, by rw [show lineF pg nm.data.toList = _ from b]; exact hmem _ c⟩
      · rw [h] at a; cases a
        exact ⟨_, rfl, by rw [b2]; simp, d, by rw [show lineF pg nm.data.toList = _ from b]; exact hmem _ c⟩
    · rcases line_cases pg nm.data.toList (nameB_free hn 32 (by decide)) with ⟨a, _⟩ | ⟨a, b2, d⟩ | ⟨r3, k1, a, b2, d, _⟩
      · rw [h] at a; cases a
      · rw [h] at a; cases a
        exact ⟨_, rfl, by rw [b2]; exact hdL_ne _ _, d, by rw [show lineF pg nm.data.toList = _ from b]; exact hmem _ c⟩
      · rw [h] at a; cases a
        exact ⟨_, rfl, by rw [b2]; simp, d, by rw [show lineF pg nm.data.toList = _ from b]; exact hmem _ c⟩
  have cN := refName_any nm
  rw [hn] at cN
  have CN := Lib.hid cN
  have cL := line_any pg nm
  rw [hLN] at cL
  have CL := Lib.hid (fun w => cL w hs)
  have hLs : (mkB LN).size ≤ 2000 := by rw [mkB_size]; exact hll
  have hLz : (mkB LN).size ≠ 0 := by rw [mkB_size]; intro e; exact hne (List.eq_nil_of_length_eq_zero e)
  have cC := fun w => cut_any (mkB LN) 32 w (by omega)
  rw [mkB_list, hcut] at cC
  have CC := Lib.hid cC
  have i1 := not_empty _ hLz
  clear cN cL cC hcut hll hne hLN h hn hs hLs hLz
  generalize mkB LN = LB at *
  generalize hws : wordsR r = ws at *
  clear hws
  have hlen : (digL pg :: nm.data.toList :: ws).length = ws.length + 2 := rfl
  rw [hlen] at CC
  clear hlen
  go_enter Tryd.func89, Tryd.ntmps89
  go_wp2_with (first | (go_at_call 100; refine (CN.out _).mono ?_; rintro e w1 ⟨rfl, rfl⟩) | (go_at_call 139; refine (CL.out _).mono ?_; rintro e w1 ⟨rfl, rfl⟩) | fail)
  refine (CC.out _).mono ?_
  rintro e w2 ⟨a, cp, rfl, hown, hb⟩
  have HB := Lib.hid hb
  obtain ⟨a', hsl, ha'⟩ := run_from (P := Tryd.prog) 81 1 (by kernel_rfl) (fun w => by kernel_rfl) a (ws.length + 2) cp 2 (by omega)
  have hsl2 : ∀ w, (Instr.slice 81 (.slice a (ws.length + 2) cp) (some (.int .i64 2)) none none).run Tryd.prog w = .ok (.slice a' ws.length (cp - 2)) w := hsl
  have HC : Hid (∀ i x, ws[i]? = some x → ∃ g o, a' = some ⟨g, o, none⟩ ∧ w.heap.size ≤ g ∧ g < w2.heap.size ∧ w2.cell? ⟨g, o + i, none⟩ = some (.string (mkB x))) := fun i x hx => by
    obtain ⟨hi, rfl⟩ := List.getElem?_eq_some_iff.1 hx
    obtain ⟨g, rfl, h1, h2, h3⟩ := extract_tail hown (by rfl) (i + 2) (by simp; omega)
    have hcp : ws.length + 2 ≤ cp := by
      rcases hown.2 with ⟨h4, _⟩ | ⟨g', cap, cur, h4, _, _, h5, _⟩
      · cases h4
      · simp only [Value.slice.injEq] at h4; omega
    rw [ha' (by omega)]
    refine ⟨g, 2, by simp [addr_addN], h1, h2, ?_⟩
    rw [show 2 + i = i + 2 from by omega]
    simpa using h3
  clear hsl ha' hown hb
  go_wp2_with fail
  go_ret2
  exact ⟨⟨a', _, rfl, HC.out⟩, HB.out⟩
end Go.Proofs.YtgechifbbhipaaaDoor

/- grammar: the program's Rule of a name that is one. No condition but the library's variable. -/
set_option linter.unusedVariables false
set_option linter.unusedSimpArgs false
namespace Go.Proofs.YtgechifbbhipaaaDoor
open Go.RowKit

theorem indexAny_no (chars : List UInt8) : ∀ l : List UInt8, (∀ b ∈ l, b ∉ chars) → Lib.indexAny l chars = -1
  | [], _ => rfl
  | b :: l, h => by
    have h1 : chars.contains b = false := by
      cases e : chars.contains b with
      | false => rfl
      | true => exact absurd (List.contains_iff_mem.1 e) (h b (by simp))
    rw [Lib.indexAny, h1, indexAny_no chars l (fun x hx => h x (by simp [hx]))]
    rfl
/-- what is found, as a value -/
def ruleVal (o : Option (List UInt8)) : ByteArray × Bool := match o with
  | none => (⟨#[]⟩, false)
  | some r => (mkB r, true)
theorem ret_sb {R : ByteArray × Bool} {s : ByteArray} {a : Bool} (h : (s, a) = R) : Ending.returned (.tuple #[.string s, .bool a]) = .returned (.tuple #[.string R.1, .bool R.2]) := by rw [← h]

set_option maxRecDepth 100000 in
set_option maxHeartbeats 4000000 in
theorem rule_any (pg : Int) (nm : ByteArray) (hn : nameB nm = true) (hs : nm.size ≤ 1000) (m : Int) (w : World) (hm : w.cell? ⟨0, 0, none⟩ = some (.int .i64 m)) :
    Calls Tryd.prog 28 #[.int .i64 pg, .string nm] w fun e w' => e = .returned (.tuple #[.string (ruleVal (ruleF pg nm.data.toList)).1, .bool (ruleVal (ruleF pg nm.data.toList)).2]) ∧ ∃ n w1, Below w.heap.size w w1 ∧ w' = w1.drewN n := by
  have hname : ∀ c ∈ nm.data.toList, namB c.toNat = true := fun c hc => by
    cases e : namB c.toNat with
    | true => rfl
    | false => exact absurd hc (nameB_free hn c e)
  have hascii : ∀ (j : Nat) b, nm.data.toList[j]? = some b → b.toNat < 128 := fun j b hb => by
    have h1 := hname b (List.mem_of_getElem? hb)
    unfold namB letB at h1
    simp only [Bool.or_eq_true, Bool.and_eq_true, decide_eq_true_eq] at h1
    omega
  have hca : Lib.containsAny nm.data.toList [32, 10] = false := by
    unfold Lib.containsAny
    rw [indexAny_no [32, 10] nm.data.toList (fun b hb h => by
      have h1 := hname b hb
      simp only [List.mem_cons, List.not_mem_nil, or_false] at h
      rcases h with rfl | rfl <;> exact absurd h1 (by decide))]
    rfl
  have cA := fun w => Tryd.strings_ContainsAny_laid nm ⟨#[32, 10]⟩ w (by omega) (by decide) hascii (fun j b hb => by
    have h1 : b ∈ ([32, 10] : List UInt8) := List.mem_of_getElem? hb
    simp only [List.mem_cons, List.not_mem_nil, or_false] at h1
    rcases h1 with rfl | rfl <;> decide)
  rw [show (⟨#[32, 10]⟩ : ByteArray).data.toList = [32, 10] from rfl, hca] at cA
  have CA := Lib.hid cA
  have hnz : nm.size ≠ 0 := by
    unfold nameB at hn
    simp only [Bool.and_eq_true, decide_eq_true_eq] at hn
    exact hn.1
  have i1 := not_empty nm hnz
  have cD := Lib.hid (fun w => digit_any pg w)
  have hds : (digS pg).size = 1 := by unfold digS; rw [mkB_size]; unfold digL; (repeat' split) <;> rfl
  have hn32 := nameB_free hn 32 (by decide)
  have hn10 : 10 ∉ hdL pg nm.data.toList := by
    unfold hdL
    simp only [List.mem_append, List.mem_cons, not_or]
    exact ⟨digL_free pg 10 (.inl rfl), by decide, nameB_free hn 10 (by decide)⟩
  have HHd : Hid (((({ data := #[10] } ++ digS pg) ++ { data := #[32] }) ++ nm : ByteArray).data.toList = 10 :: hdL pg nm.data.toList) := by
    unfold Hid hdL; simp [ByteArray.data_append, digS, mkB]
  have hhs : ((({ data := #[10] } ++ digS pg) ++ { data := #[32] }) ++ nm : ByteArray).size ≤ 1003 ∧ 1 ≤ ((({ data := #[10] } ++ digS pg) ++ { data := #[32] }) ++ nm : ByteArray).size := by
    rw [ByteArray.size_append, ByteArray.size_append, ByteArray.size_append, hds]
    constructor
    · show 1 + 1 + 1 + nm.size ≤ 1003; omega
    · show 1 ≤ 1 + 1 + 1 + nm.size; omega
  obtain ⟨R, hR⟩ : ∃ R, ruleF pg nm.data.toList = R := ⟨_, rfl⟩
  rw [hR]
  have HR0 : Hid (searchR 2000 rulesP.data.toList ((({ data := #[10] } ++ digS pg) ++ { data := #[32] }) ++ nm : ByteArray).data.toList = R) := by
    unfold Hid
    rw [HHd.out, ← hR, rulesP_text]
    have := search_eq hn10 ruleLs [] 2000 (by have := ruleLs_len; omega) (by simp) ruleLs_free
    rw [List.nil_append] at this
    exact this
  clear hR HHd hn10 hn32 hn hname hascii hca cA hnz
  generalize digS pg = D at *
  have hcat1 : ∀ w, (Op.stringOp .add { data := #[10] } D).run Tryd.prog w = .ok (.string ({ data := #[10] } ++ D)) w := fun w => Go.run_string_add_sum w _ _ (by rw [hds]; show 1 + 1 ≤ _; omega)
  have hcat2 : ∀ w, (Op.stringOp .add ({ data := #[10] } ++ D) { data := #[32] }).run Tryd.prog w = .ok (.string (({ data := #[10] } ++ D) ++ { data := #[32] })) w := fun w => Go.run_string_add_sum w _ _ (by rw [ByteArray.size_append, hds]; show 1 + 1 + 1 ≤ _; omega)
  have hcat3 : ∀ w, (Op.stringOp .add (({ data := #[10] } ++ D) ++ { data := #[32] }) nm).run Tryd.prog w = .ok (.string ((({ data := #[10] } ++ D) ++ { data := #[32] }) ++ nm)) w := fun w => Go.run_string_add_sum w _ _ (by rw [ByteArray.size_append, ByteArray.size_append, hds]; show 1 + 1 + 1 + nm.size ≤ _; omega)
  generalize hH : (({ data := #[10] } ++ D) ++ { data := #[32] } ++ nm : ByteArray) = H at *
  clear hds hH
  have hps := rulesP_size
  have HPS := Lib.hid hps
  clear hps
  have HM := Lib.hid hm
  have hm0 := World.block_lt_of_cell? _ _ hm
  clear hm
  go_enter Tryd.func28, Tryd.ntmps28
  rw [lit_p]
  rotate_left
  · kernel_rfl
  generalize rulesP = Q at *
  go_wp2_with (first | (go_at_call 85; refine (CA.out _).mono ?_; rintro e w1 ⟨rfl, hb1⟩) | (go_at_call 86; refine (cD.out _).mono ?_; rintro e w2 ⟨rfl, hb2⟩) | fail)
  have HB2 : Hid (Below w.heap.size w w2) := hb1.trans (hb2.mono hb1.size)
  have HM2 : Hid (w2.cell? ⟨0, 0, none⟩ = some (.int .i64 m)) := (HB2.out.cell (p := ⟨0, 0, none⟩) hm0).trans HM.out
  clear hcat1 hcat2 hcat3 CA cD hb1 hb2 HM
  go_loop [7] (fun tv => ∃ (n : Nat) (T : ByteArray), tv = .string T ∧ T.size ≤ 1607 ∧ Hid (T.size < n) ∧ Hid (searchR n T.data.toList H.data.toList = R)) (fun tv => szOf tv)
  case atStart => exact ⟨2000, Q, rfl, by rw [HPS.out]; omega, by unfold Hid; rw [HPS.out]; omega, HR0.out⟩
  case round =>
    obtain ⟨n, T, rfl, hT, HN, HS⟩ := hrel
    clear HR0
    obtain ⟨n, rfl⟩ : ∃ k, n = k + 1 := ⟨n - 1, by have := HN.out; omega⟩
    have cI := fun w hw => Tryd.strings_Index T H m w (by omega) hw
    have hic := Lib.indexB_cases T H
    rw [show Lib.indexB T H = Lib.index T.data.toList H.data.toList from rfl] at hic
    have hsr := HS.out
    rw [searchR] at hsr
    rcases hic with hi | ⟨k, hi, hk⟩
    · rw [hi] at cI hsr
      have HR : Hid ((⟨#[]⟩, false) = ruleVal R) := by
        unfold Hid; rw [if_pos (by omega)] at hsr; rw [← hsr]; rfl
      have CI := Lib.hid (cI w2 HM2.out)
      clear cI hsr hi
      go_wp2_with (go_at_call 87; refine CI.out.mono ?_; rintro e w3 ⟨rfl, rfl⟩)
      go_ret2
      exact ⟨ret_sb HR.out, 0, _, HB2.out, rfl⟩
    · rw [hi] at cI hsr
      rw [if_neg (by omega)] at hsr
      have CI := Lib.hid (cI w2 HM2.out)
      have k0 : (0 : Int) ≤ (k : Int) := by omega
      have k1 : ¬ (k : Int) < 0 := by omega
      have k2 : (k : Int) + (H.size : Int) ≤ (T.size : Int) := by omega
      have k3 : (0 : Int) ≤ (k : Int) + (H.size : Int) := by omega
      have k4 : wrap64 ((k : Int) + (H.size : Int)) = (k : Int) + (H.size : Int) := by unfold wrap64; omega
      have k5 : ((k : Int) + (H.size : Int)).toNat = k + H.size := by omega
      obtain ⟨T2, hT2⟩ : ∃ T2, T.extract (k + H.size) T.size = T2 := ⟨_, rfl⟩
      have hT2l : T2.data.toList = T.data.toList.drop (k + H.size) := by
        rw [← hT2, ByteArray.data_extract, Array.toList_extract, List.extract]
        exact List.take_of_length_le (by rw [List.length_drop, len_toList]; exact Nat.le_refl _)
      have hT2s : T2.size < T.size := by
        rw [← hT2, ByteArray.size_extract]; omega
      rw [show ((k : Int)).toNat + H.data.toList.length = k + H.size from by rw [len_toList]; omega, ← hT2l] at hsr
      have HSr := Lib.hid hsr
      clear cI hsr hi hT2l
      by_cases hz : T2.size = 0
      · have hT2e : T2.data.toList = [] := List.eq_nil_of_length_eq_zero (by rw [len_toList]; exact hz)
        have HR : Hid ((⟨#[]⟩, true) = ruleVal R) := by
          have := HSr.out
          rw [hT2e] at this
          unfold Hid; rw [← this]; rfl
        have i2 := emptyB T2 hz
        clear HSr hT2e hz
        go_wp2_with (go_at_call 87; refine CI.out.mono ?_; rintro e w3 ⟨rfl, rfl⟩)
        go_ret2
        exact ⟨ret_sb HR.out, 0, _, HB2.out, rfl⟩
      · have i2 := not_empty T2 hz
        have h0 : 0 < T2.size := by omega
        have k6 : (1 : Int) ≤ (T2.size : Int) := by omega
        have hat : ∀ w, (Instr.index 9 (.string T2) (.int .i64 0)).run Tryd.prog w = .ok (.int .u8 (T2[0].toNat : Int)) w := run_at9 T2 0 h0
        have hdr : T2.data.toList = T2[0] :: T2.data.toList.drop 1 := by
          have := drop_cons_at T2 0 h0
          simpa using this
        have hsr := HSr.out
        rw [hdr] at hsr
        simp only [] at hsr
        have HNx := Lib.hid (fun (h10 : ¬ T2[0] = 10) (h32 : ¬ T2[0] = 32) => (show searchR n T2.data.toList H.data.toList = R by rw [hdr]; rw [if_neg h10, if_neg h32] at hsr; exact hsr))
        by_cases h10 : T2[0] = 10
        · have HR : Hid ((⟨#[]⟩, true) = ruleVal R) := by
            rw [if_pos h10] at hsr
            unfold Hid; rw [← hsr]; rfl
          have j4 : ((T2[0].toNat : Int) == 10) = true := by rw [h10]; rfl
          clear HSr hsr hdr HNx h10
          generalize T2[0] = ch at *
          go_wp2_with (go_at_call 87; refine CI.out.mono ?_; rintro e w3 ⟨rfl, rfl⟩)
          go_ret2
          exact ⟨ret_sb HR.out, 0, _, HB2.out, rfl⟩
        · have j4 : ((T2[0].toNat : Int) == 10) = false := by rw [beq_eq_false_iff_ne]; intro e; exact h10 (byte_eq 10 rfl e)
          by_cases h32 : T2[0] = 32
          · have j5 : ((T2[0].toNat : Int) == 32) = true := by rw [h32]; rfl
            obtain ⟨T3, hT3⟩ : ∃ T3, T2.extract 1 T2.size = T3 := ⟨_, rfl⟩
            have hT3l : T3.data.toList = T2.data.toList.drop 1 := by
              rw [← hT3, ByteArray.data_extract, Array.toList_extract, List.extract]
              exact List.take_of_length_le (by rw [List.length_drop, len_toList]; exact Nat.le_refl _)
            have hT3s : T3.size ≤ 1607 := by rw [← hT3, ByteArray.size_extract]; omega
            have HR : Hid ((mkB (Lib.cut T3.data.toList [10]).1, true) = ruleVal R) := by
              rw [if_neg h10, if_pos h32, ← hT3l] at hsr
              unfold Hid; rw [← hsr]; rfl
            have cC := Lib.hid (Tryd.strings_Cut T3 ⟨#[10]⟩ m w2 (by omega) HM2.out)
            rw [show (⟨#[10]⟩ : ByteArray).data.toList = [10] from rfl] at cC
            clear HSr hsr hdr HNx h10 h32 hT3l
            generalize T2[0] = ch at *
            generalize Lib.cut T3.data.toList [10] = ct at *
            obtain ⟨ca, cb, cc⟩ := ct
            go_wp2_with (first | (go_at_call 87; refine CI.out.mono ?_; rintro e w3 ⟨rfl, rfl⟩) | (go_at_call 88; refine cC.out.mono ?_; rintro e w4 ⟨rfl, nq, rfl⟩))
            go_ret2
            exact ⟨ret_sb HR.out, nq, _, HB2.out, rfl⟩
          · have j5 : ((T2[0].toNat : Int) == 32) = false := by rw [beq_eq_false_iff_ne]; intro e; exact h32 (byte_eq 32 rfl e)
            have HS2 := Lib.hid (HNx.out h10 h32)
            have HN2 : Hid (T2.size < n) := by have := HN.out; unfold Hid; omega
            clear HSr hsr hdr HNx h10 h32
            generalize T2[0] = ch at *
            go_wp2_with (go_at_call 87; refine CI.out.mono ?_; rintro e w3 ⟨rfl, rfl⟩)
            go_round
            case rel => exact ⟨n, T2, rfl, by omega, HN2.out, HS2.out⟩
            case measure => simp [szOf]; omega
end Go.Proofs.YtgechifbbhipaaaDoor
