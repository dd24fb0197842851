/- vocab: the reference's list. No condition. -/
import Derived.Test.YtcpmgnejbfnnjaaDoorVcT
namespace Go.Proofs.YtcpmgnejbfnnjaaDoor
open Go.RowKit Go.Shelf

theorem Sw52 : Sl1 Tryd.prog 52 9 (.string ByteArray.empty) 16 := ⟨Tryd.underlying52, by kernel_rfl, rfl⟩

/-- where the reference's loop stands -/
def LR (s : ByteArray) (f i : Nat) (pre : List ByteArray) : Prop := VR s f i pre ∨ (i = s.size + 1 ∧ pre = wds s)

def ListP (k : Int) (w : World) (e : Ending) (w' : World) : Prop :=
  ∃ a c, e = .returned (.slice a (wdsE (txt k)).length c) ∧ w'.ownsRow w.heap.size 9 1 (.slice a (wdsE (txt k)).length c) (wdsE (txt k)).length ((wdsE (txt k)).map Value.string) ∧ Below w.heap.size w w'

theorem txt_pos {k : Int} (h : k = 0 ∨ k = 1 ∨ k = 2) : (txt k).size ≠ 0 := by
  have : decide ((txt k).size ≠ 0) = true := by
    rcases h with rfl | rfl | rfl <;> kernel_rfl
  exact of_decide_eq_true this
theorem isEmpty_no (s : ByteArray) (h : s.size ≠ 0) : s.toList.isEmpty = false := by
  rw [ByteArray.toList_eq, List.isEmpty_eq_false_iff]; intro e; apply h; rw [← len_toList, e]; rfl
theorem wp_swap {P : Program} {c : Code} {Q : Exit → Act → World → Prop} {T : Array Value} {d : List Deferred} {w : World} (i : Nat) (v v' : Value) (hT : T[i]? = some v) (hv : v = v') (h : Code.wp P c Q { tmps := T.setIfInBounds i v', defers := d } w) : Code.wp P c Q { tmps := T, defers := d } w := by
  subst hv
  have e : T.setIfInBounds i v = T := by
    apply Array.ext_getElem?
    intro j
    rw [Array.getElem?_setIfInBounds]
    split
    · rename_i hj; subst hj
      split
      · exact hT.symm
      · rename_i hn; rw [Array.getElem?_eq_none (by omega)]
    · rfl
  rwa [e] at h
theorem LR.len {s : ByteArray} {f i : Nat} {pre : List ByteArray} (h : LR s f i pre) : pre.length ≤ s.size + 1 := by
  have hl := wds_len s
  rcases h with h | ⟨_, rfl⟩
  · exact Nat.le_trans h.pre.length_le hl
  · exact hl

set_option maxRecDepth 100000 in
set_option maxHeartbeats 8000000 in
theorem list_any0 (w : World) : Calls Tryd.prog 35 #[.int .i64 0] w (ListP 0 w) := by
  unfold ListP
  obtain ⟨s, hs⟩ : ∃ s, txt 0 = s := ⟨_, rfl⟩
  have hz0 := txt_pos (k := 0) (.inl rfl)
  have hsz := txt_size 0
  have HT : Hid (txt 0 = s) := hs
  rw [hs] at hz0 hsz ⊢
  have hwE : wdsE s = wds s := by unfold wdsE; rw [if_neg hz0]
  rw [hwE]
  have hem := isEmpty_no s hz0
  clear hs hwE hz0
  go_enter Tryd.func35, Tryd.ntmps35
  go_wp2_with fail
  refine wp_swap 3 _ (.string s) rfl (congrArg Value.string ((show _ = txt 0 by kernel_rfl).trans HT.out)) ?_
  simp only [List.setIfInBounds_toArray, List.set_cons_succ, List.set_cons_zero]
  go_loopw [4, 5, 6] (fun lv fv iv wr => ∃ (f i : Nat) (pre : List ByteArray) (a1 : Option Addr) (c1 : Nat), lv = .slice a1 pre.length c1 ∧ fv = .int .i64 (f : Int) ∧ iv = .int .i64 (i : Int) ∧ i ≤ s.size + 1 ∧ Hid (LR s f i pre) ∧ Hid (wr.ownsRow w.heap.size 9 1 (.slice a1 pre.length c1) pre.length (pre.map Value.string)) ∧ Hid (Below w.heap.size w wr)) (fun _ _ iv _ => s.size + 2 - (intOf iv).toNat)
  case atStart => exact ⟨0, 0, [], none, 0, rfl, rfl, rfl, Nat.zero_le _, .inl (VR.start s), World.ownsRow_nil _ _ _ _, Below.refl _ _⟩
  case round =>
    obtain ⟨f, i, pre, a1, c1, rfl, rfl, rfl, hi, HR, HO, HB⟩ := hrel
    have hpl := HR.out.len
    have hbs := HB.out.size
    have g1 : pre.length + 1 ≤ maxLen := by simp [maxLen]; omega
    have g2 : (pre.length + 1) * 16 ≤ 140737488355328 := by omega
    by_cases hle : i ≤ s.size
    · have hV : VR s f i pre := by
        rcases HR.out with h | ⟨h, _⟩
        · exact h
        · omega
      have k0 : (0 : Int) ≤ (f : Int) := by omega
      have k1 : (f : Int) ≤ (i : Int) := by have := hV.le; omega
      have k2 : (i : Int) ≤ (s.size : Int) := by omega
      by_cases hlt : i < s.size
      · have j1 : ((i : Int) == (s.size : Int)) = false := by rw [beq_eq_false_iff_ne]; omega
        have hrd := run_gB s i hlt
        have hge := gB_eq s i hlt
        by_cases h32 : s[i] = 32
        · have hv : gB s i = 32 := by rw [← hge, h32]; rfl
          have hrd2 : ∀ w, (Instr.index 9 (.string s) (.int .i64 (i : Int))).run Tryd.prog w = .ok (.int .u8 32) w := by rw [hv] at hrd; exact hrd
          have HR2 : Hid (LR s (i + 1) (i + 1) (pre ++ [s.extract f i])) := .inl (hV.blank hlt h32)
          have HLen : Hid ((pre ++ [s.extract f i]).length = pre.length + 1) := by unfold Hid; simp
          clear hrd hge hv h32 HR hV
          go_wp2_with (at_builtin; go_must (refine wpList_app1 _ _ rfl _ _ 52 9 _ _ Sw52 rfl w.heap.size _ _ _ rfl rfl rfl HO.out g1 g2 hbs ?_); intro a' c' w4 hown4 hgr4 _ hb4)
          have HO4 : Hid (w4.ownsRow w.heap.size 9 1 (.slice a' (pre.length + 1) c') (pre.length + 1) ((pre ++ [s.extract f i]).map Value.string)) := by unfold Hid; rw [List.map_append]; exact hown4
          have HB4 := Lib.hid (HB.out.trans hb4)
          go_roundw
          case rel => exact ⟨i + 1, i + 1, pre ++ [s.extract f i], a', c', by rw [HLen.out], by go_num, by go_num, by omega, HR2, by rw [HLen.out]; exact HO4, HB4⟩
          case measure => simp [intOf] <;> omega
        · have hq : ((gB s i : Int) == 32) = false := by
            rw [beq_eq_false_iff_ne, ← hge]
            intro h
            exact h32 (UInt8.toNat_inj.1 (by have : (s[i]).toNat = 32 := by omega
                                             rw [this]; rfl))
          have HR2 : Hid (LR s f (i + 1) pre) := .inl (hV.step hlt h32)
          clear hge h32 HR hV
          generalize gB s i = c at *
          go_wp2_with fail
          go_roundw
          case rel => exact ⟨f, i + 1, pre, a1, c1, rfl, rfl, by go_num, by omega, HR2, HO, HB⟩
          case measure => simp [intOf] <;> omega
      · obtain rfl : i = s.size := by omega
        have j1 : ((s.size : Int) == (s.size : Int)) = true := by simp
        have HR2 : Hid (LR s (s.size + 1) (s.size + 1) (pre ++ [s.extract f s.size])) := .inr ⟨rfl, hV.fin⟩
        have HLen : Hid ((pre ++ [s.extract f s.size]).length = pre.length + 1) := by unfold Hid; simp
        clear HR hV hlt
        go_wp2_with (at_builtin; go_must (refine wpList_app1 _ _ rfl _ _ 52 9 _ _ Sw52 rfl w.heap.size _ _ _ rfl rfl rfl HO.out g1 g2 hbs ?_); intro a' c' w4 hown4 hgr4 _ hb4)
        have HO4 : Hid (w4.ownsRow w.heap.size 9 1 (.slice a' (pre.length + 1) c') (pre.length + 1) ((pre ++ [s.extract f s.size]).map Value.string)) := by unfold Hid; rw [List.map_append]; exact hown4
        have HB4 := Lib.hid (HB.out.trans hb4)
        go_roundw
        case rel => exact ⟨s.size + 1, s.size + 1, pre ++ [s.extract f s.size], a', c', by rw [HLen.out], by go_num, by go_num, by omega, HR2, by rw [HLen.out]; exact HO4, HB4⟩
        case measure => simp [intOf] <;> omega
    · have j1 : ¬ (i : Int) ≤ (s.size : Int) := by omega
      have HE : Hid (pre = wds s) := by
        rcases HR.out with h | ⟨_, h⟩
        · have := h.top; omega
        · exact h
      clear HR
      go_wp2_with fail
      go_ret
      exact ⟨a1, c1, by rw [HE.out]; rfl, by rw [← HE.out]; exact HO.out, HB.out⟩

set_option maxRecDepth 100000 in
set_option maxHeartbeats 8000000 in
theorem list_any1 (w : World) : Calls Tryd.prog 35 #[.int .i64 1] w (ListP 1 w) := by
  unfold ListP
  obtain ⟨s, hs⟩ : ∃ s, txt 1 = s := ⟨_, rfl⟩
  have hz0 := txt_pos (k := 1) (.inr (.inl rfl))
  have hsz := txt_size 1
  have HT : Hid (txt 1 = s) := hs
  rw [hs] at hz0 hsz ⊢
  have hwE : wdsE s = wds s := by unfold wdsE; rw [if_neg hz0]
  rw [hwE]
  have hem := isEmpty_no s hz0
  clear hs hwE hz0
  go_enter Tryd.func35, Tryd.ntmps35
  go_wp2_with fail
  refine wp_swap 3 _ (.string s) rfl (congrArg Value.string ((show _ = txt 1 by kernel_rfl).trans HT.out)) ?_
  simp only [List.setIfInBounds_toArray, List.set_cons_succ, List.set_cons_zero]
  go_loopw [4, 5, 6] (fun lv fv iv wr => ∃ (f i : Nat) (pre : List ByteArray) (a1 : Option Addr) (c1 : Nat), lv = .slice a1 pre.length c1 ∧ fv = .int .i64 (f : Int) ∧ iv = .int .i64 (i : Int) ∧ i ≤ s.size + 1 ∧ Hid (LR s f i pre) ∧ Hid (wr.ownsRow w.heap.size 9 1 (.slice a1 pre.length c1) pre.length (pre.map Value.string)) ∧ Hid (Below w.heap.size w wr)) (fun _ _ iv _ => s.size + 2 - (intOf iv).toNat)
  case atStart => exact ⟨0, 0, [], none, 0, rfl, rfl, rfl, Nat.zero_le _, .inl (VR.start s), World.ownsRow_nil _ _ _ _, Below.refl _ _⟩
  case round =>
    obtain ⟨f, i, pre, a1, c1, rfl, rfl, rfl, hi, HR, HO, HB⟩ := hrel
    have hpl := HR.out.len
    have hbs := HB.out.size
    have g1 : pre.length + 1 ≤ maxLen := by simp [maxLen]; omega
    have g2 : (pre.length + 1) * 16 ≤ 140737488355328 := by omega
    by_cases hle : i ≤ s.size
    · have hV : VR s f i pre := by
        rcases HR.out with h | ⟨h, _⟩
        · exact h
        · omega
      have k0 : (0 : Int) ≤ (f : Int) := by omega
      have k1 : (f : Int) ≤ (i : Int) := by have := hV.le; omega
      have k2 : (i : Int) ≤ (s.size : Int) := by omega
      by_cases hlt : i < s.size
      · have j1 : ((i : Int) == (s.size : Int)) = false := by rw [beq_eq_false_iff_ne]; omega
        have hrd := run_gB s i hlt
        have hge := gB_eq s i hlt
        by_cases h32 : s[i] = 32
        · have hv : gB s i = 32 := by rw [← hge, h32]; rfl
          have hrd2 : ∀ w, (Instr.index 9 (.string s) (.int .i64 (i : Int))).run Tryd.prog w = .ok (.int .u8 32) w := by rw [hv] at hrd; exact hrd
          have HR2 : Hid (LR s (i + 1) (i + 1) (pre ++ [s.extract f i])) := .inl (hV.blank hlt h32)
          have HLen : Hid ((pre ++ [s.extract f i]).length = pre.length + 1) := by unfold Hid; simp
          clear hrd hge hv h32 HR hV
          go_wp2_with (at_builtin; go_must (refine wpList_app1 _ _ rfl _ _ 52 9 _ _ Sw52 rfl w.heap.size _ _ _ rfl rfl rfl HO.out g1 g2 hbs ?_); intro a' c' w4 hown4 hgr4 _ hb4)
          have HO4 : Hid (w4.ownsRow w.heap.size 9 1 (.slice a' (pre.length + 1) c') (pre.length + 1) ((pre ++ [s.extract f i]).map Value.string)) := by unfold Hid; rw [List.map_append]; exact hown4
          have HB4 := Lib.hid (HB.out.trans hb4)
          go_roundw
          case rel => exact ⟨i + 1, i + 1, pre ++ [s.extract f i], a', c', by rw [HLen.out], by go_num, by go_num, by omega, HR2, by rw [HLen.out]; exact HO4, HB4⟩
          case measure => simp [intOf] <;> omega
        · have hq : ((gB s i : Int) == 32) = false := by
            rw [beq_eq_false_iff_ne, ← hge]
            intro h
            exact h32 (UInt8.toNat_inj.1 (by have : (s[i]).toNat = 32 := by omega
                                             rw [this]; rfl))
          have HR2 : Hid (LR s f (i + 1) pre) := .inl (hV.step hlt h32)
          clear hge h32 HR hV
          generalize gB s i = c at *
          go_wp2_with fail
          go_roundw
          case rel => exact ⟨f, i + 1, pre, a1, c1, rfl, rfl, by go_num, by omega, HR2, HO, HB⟩
          case measure => simp [intOf] <;> omega
      · obtain rfl : i = s.size := by omega
        have j1 : ((s.size : Int) == (s.size : Int)) = true := by simp
        have HR2 : Hid (LR s (s.size + 1) (s.size + 1) (pre ++ [s.extract f s.size])) := .inr ⟨rfl, hV.fin⟩
        have HLen : Hid ((pre ++ [s.extract f s.size]).length = pre.length + 1) := by unfold Hid; simp
        clear HR hV hlt
        go_wp2_with (at_builtin; go_must (refine wpList_app1 _ _ rfl _ _ 52 9 _ _ Sw52 rfl w.heap.size _ _ _ rfl rfl rfl HO.out g1 g2 hbs ?_); intro a' c' w4 hown4 hgr4 _ hb4)
        have HO4 : Hid (w4.ownsRow w.heap.size 9 1 (.slice a' (pre.length + 1) c') (pre.length + 1) ((pre ++ [s.extract f s.size]).map Value.string)) := by unfold Hid; rw [List.map_append]; exact hown4
        have HB4 := Lib.hid (HB.out.trans hb4)
        go_roundw
        case rel => exact ⟨s.size + 1, s.size + 1, pre ++ [s.extract f s.size], a', c', by rw [HLen.out], by go_num, by go_num, by omega, HR2, by rw [HLen.out]; exact HO4, HB4⟩
        case measure => simp [intOf] <;> omega
    · have j1 : ¬ (i : Int) ≤ (s.size : Int) := by omega
      have HE : Hid (pre = wds s) := by
        rcases HR.out with h | ⟨_, h⟩
        · have := h.top; omega
        · exact h
      clear HR
      go_wp2_with fail
      go_ret
      exact ⟨a1, c1, by rw [HE.out]; rfl, by rw [← HE.out]; exact HO.out, HB.out⟩

set_option maxRecDepth 100000 in
set_option maxHeartbeats 8000000 in
theorem list_any2 (w : World) : Calls Tryd.prog 35 #[.int .i64 2] w (ListP 2 w) := by
  unfold ListP
  obtain ⟨s, hs⟩ : ∃ s, txt 2 = s := ⟨_, rfl⟩
  have hz0 := txt_pos (k := 2) (.inr (.inr rfl))
  have hsz := txt_size 2
  have HT : Hid (txt 2 = s) := hs
  rw [hs] at hz0 hsz ⊢
  have hwE : wdsE s = wds s := by unfold wdsE; rw [if_neg hz0]
  rw [hwE]
  have hem := isEmpty_no s hz0
  clear hs hwE hz0
  go_enter Tryd.func35, Tryd.ntmps35
  go_wp2_with fail
  refine wp_swap 3 _ (.string s) rfl (congrArg Value.string ((show _ = txt 2 by kernel_rfl).trans HT.out)) ?_
  simp only [List.setIfInBounds_toArray, List.set_cons_succ, List.set_cons_zero]
  go_loopw [4, 5, 6] (fun lv fv iv wr => ∃ (f i : Nat) (pre : List ByteArray) (a1 : Option Addr) (c1 : Nat), lv = .slice a1 pre.length c1 ∧ fv = .int .i64 (f : Int) ∧ iv = .int .i64 (i : Int) ∧ i ≤ s.size + 1 ∧ Hid (LR s f i pre) ∧ Hid (wr.ownsRow w.heap.size 9 1 (.slice a1 pre.length c1) pre.length (pre.map Value.string)) ∧ Hid (Below w.heap.size w wr)) (fun _ _ iv _ => s.size + 2 - (intOf iv).toNat)
  case atStart => exact ⟨0, 0, [], none, 0, rfl, rfl, rfl, Nat.zero_le _, .inl (VR.start s), World.ownsRow_nil _ _ _ _, Below.refl _ _⟩
  case round =>
    obtain ⟨f, i, pre, a1, c1, rfl, rfl, rfl, hi, HR, HO, HB⟩ := hrel
    have hpl := HR.out.len
    have hbs := HB.out.size
    have g1 : pre.length + 1 ≤ maxLen := by simp [maxLen]; omega
    have g2 : (pre.length + 1) * 16 ≤ 140737488355328 := by omega
    by_cases hle : i ≤ s.size
    · have hV : VR s f i pre := by
        rcases HR.out with h | ⟨h, _⟩
        · exact h
        · omega
      have k0 : (0 : Int) ≤ (f : Int) := by omega
      have k1 : (f : Int) ≤ (i : Int) := by have := hV.le; omega
      have k2 : (i : Int) ≤ (s.size : Int) := by omega
      by_cases hlt : i < s.size
      · have j1 : ((i : Int) == (s.size : Int)) = false := by rw [beq_eq_false_iff_ne]; omega
        have hrd := run_gB s i hlt
        have hge := gB_eq s i hlt
        by_cases h32 : s[i] = 32
        · have hv : gB s i = 32 := by rw [← hge, h32]; rfl
          have hrd2 : ∀ w, (Instr.index 9 (.string s) (.int .i64 (i : Int))).run Tryd.prog w = .ok (.int .u8 32) w := by rw [hv] at hrd; exact hrd
          have HR2 : Hid (LR s (i + 1) (i + 1) (pre ++ [s.extract f i])) := .inl (hV.blank hlt h32)
          have HLen : Hid ((pre ++ [s.extract f i]).length = pre.length + 1) := by unfold Hid; simp
          clear hrd hge hv h32 HR hV
          go_wp2_with (at_builtin; go_must (refine wpList_app1 _ _ rfl _ _ 52 9 _ _ Sw52 rfl w.heap.size _ _ _ rfl rfl rfl HO.out g1 g2 hbs ?_); intro a' c' w4 hown4 hgr4 _ hb4)
          have HO4 : Hid (w4.ownsRow w.heap.size 9 1 (.slice a' (pre.length + 1) c') (pre.length + 1) ((pre ++ [s.extract f i]).map Value.string)) := by unfold Hid; rw [List.map_append]; exact hown4
          have HB4 := Lib.hid (HB.out.trans hb4)
          go_roundw
          case rel => exact ⟨i + 1, i + 1, pre ++ [s.extract f i], a', c', by rw [HLen.out], by go_num, by go_num, by omega, HR2, by rw [HLen.out]; exact HO4, HB4⟩
          case measure => simp [intOf] <;> omega
        · have hq : ((gB s i : Int) == 32) = false := by
            rw [beq_eq_false_iff_ne, ← hge]
            intro h
            exact h32 (UInt8.toNat_inj.1 (by have : (s[i]).toNat = 32 := by omega
                                             rw [this]; rfl))
          have HR2 : Hid (LR s f (i + 1) pre) := .inl (hV.step hlt h32)
          clear hge h32 HR hV
          generalize gB s i = c at *
          go_wp2_with fail
          go_roundw
          case rel => exact ⟨f, i + 1, pre, a1, c1, rfl, rfl, by go_num, by omega, HR2, HO, HB⟩
          case measure => simp [intOf] <;> omega
      · obtain rfl : i = s.size := by omega
        have j1 : ((s.size : Int) == (s.size : Int)) = true := by simp
        have HR2 : Hid (LR s (s.size + 1) (s.size + 1) (pre ++ [s.extract f s.size])) := .inr ⟨rfl, hV.fin⟩
        have HLen : Hid ((pre ++ [s.extract f s.size]).length = pre.length + 1) := by unfold Hid; simp
        clear HR hV hlt
        go_wp2_with (at_builtin; go_must (refine wpList_app1 _ _ rfl _ _ 52 9 _ _ Sw52 rfl w.heap.size _ _ _ rfl rfl rfl HO.out g1 g2 hbs ?_); intro a' c' w4 hown4 hgr4 _ hb4)
        have HO4 : Hid (w4.ownsRow w.heap.size 9 1 (.slice a' (pre.length + 1) c') (pre.length + 1) ((pre ++ [s.extract f s.size]).map Value.string)) := by unfold Hid; rw [List.map_append]; exact hown4
        have HB4 := Lib.hid (HB.out.trans hb4)
        go_roundw
        case rel => exact ⟨s.size + 1, s.size + 1, pre ++ [s.extract f s.size], a', c', by rw [HLen.out], by go_num, by go_num, by omega, HR2, by rw [HLen.out]; exact HO4, HB4⟩
        case measure => simp [intOf] <;> omega
    · have j1 : ¬ (i : Int) ≤ (s.size : Int) := by omega
      have HE : Hid (pre = wds s) := by
        rcases HR.out with h | ⟨_, h⟩
        · have := h.top; omega
        · exact h
      clear HR
      go_wp2_with fail
      go_ret
      exact ⟨a1, c1, by rw [HE.out]; rfl, by rw [← HE.out]; exact HO.out, HB.out⟩

set_option maxRecDepth 100000 in
theorem list_any (k : Int) (w : World) : Calls Tryd.prog 35 #[.int .i64 k] w (ListP k w) := by
  by_cases h0 : k = 0
  · subst h0; exact list_any0 w
  · by_cases h1 : k = 1
    · subst h1; exact list_any1 w
    · by_cases h2 : k = 2
      · subst h2; exact list_any2 w
      · have e0 : (k == 0) = false := by simpa using h0
        have e1 : (k == 1) = false := by simpa using h1
        have e2 : (k == 2) = false := by simpa using h2
        have hE : wdsE (txt k) = [] := by
          rw [txt_else h0 h1 h2]; unfold wdsE; rw [if_pos (show (txtN 4).size = 0 by kernel_rfl)]
        unfold ListP
        rw [hE]
        clear hE
        go_enter Tryd.func35, Tryd.ntmps35
        go_wp2_with fail
        go_loopw [4, 6] (fun lv iv wr => lv = .slice none 0 0 ∧ iv = .int .i64 0 ∧ w = wr) (fun _ _ _ => 0)
        case atStart => exact ⟨rfl, rfl, rfl⟩
        case round =>
          obtain ⟨rfl, rfl, rfl⟩ := hrel
          go_wp2_with fail
          go_ret
          exact ⟨none, 0, rfl, World.ownsRow_nil _ _ _ _, Below.refl _ _⟩
end Go.Proofs.YtcpmgnejbfnnjaaDoor
