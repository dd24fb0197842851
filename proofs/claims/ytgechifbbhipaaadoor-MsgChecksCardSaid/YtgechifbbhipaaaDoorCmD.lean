/- msg: what is wrong with a command, the program. No condition but the tables and sizes. -/
import Derived.Test.YtgechifbbhipaaaDoorCmC
set_option linter.unusedVariables false
set_option linter.unusedSimpArgs false
namespace Go.Proofs.YtgechifbbhipaaaDoor
open Go.RowKit

/-- what is left of a command: nothing but its kind -/
def rzB (h : Hd) (nk : Nat) : Bool := if h.kd = 1 then zB h.mr h.cr h.fr 0 h.ta h.so h.me.fo h.me.ty h.me.sz h.me.ve h.me.la h.me.ne h.me.no h.me.mm h.me.mo 0 nk else if h.kd = 2 then zB h.mr h.cr h.fr 0 ⟨#[]⟩ ⟨#[]⟩ h.me.fo h.me.ty h.me.sz h.me.ve h.me.la h.me.ne h.me.no h.me.mm h.me.mo h.its.length 0 else if h.kd = 6 then zB h.mr h.cr h.fr h.co ⟨#[]⟩ ⟨#[]⟩ h.me.fo h.me.ty h.me.sz h.me.ve h.me.la h.me.ne h.me.no h.me.mm h.me.mo 0 nk else if h.kd = 7 then zB 0 0 ⟨#[]⟩ 0 ⟨#[]⟩ ⟨#[]⟩ ⟨#[]⟩ ⟨#[]⟩ h.me.sz h.me.ve h.me.la h.me.ne ⟨#[]⟩ h.me.mm h.me.mo 0 nk else if h.kd = 10 then zB 0 0 h.fr h.co h.ta h.so ⟨#[]⟩ ⟨#[]⟩ 0 0 ⟨#[]⟩ ⟨#[]⟩ ⟨#[]⟩ 0 0 0 nk else zB h.mr h.cr h.fr h.co h.ta h.so ⟨#[]⟩ ⟨#[]⟩ 0 0 ⟨#[]⟩ ⟨#[]⟩ ⟨#[]⟩ 0 0 0 nk
noncomputable def okH (h : Hd) (nk : Nat) (kb : Bool) : Bool := (cntB h.id 1 && ((chkMV h.me == 0) && rzB h nk)) && tailB h.kd h.mr h.cr h.fr h.co h.ta h.so h.its nk kb
/-- what is wrong with a command; kb: its kids are as they should be -/
noncomputable def chkH (h : Hd) (nk : Nat) (kb : Bool) : Int := if (nameK h.kd).toList.isEmpty = true then 5 else dec0 (okH h nk kb)
def SmallH (h : Hd) : Prop := SmallMe h.me ∧ SmallIs h.its
set_option maxRecDepth 100000 in
theorem chk_none (C1 : Array Value) (kd : Int) (w : World) (h0 : C1[0]? = some (.int .i64 kd)) (hn : (nameK kd).toList.isEmpty = true) : Calls Tryd.prog 11 #[.agg C1] w fun r w' => r = .returned (.int .i64 5) ∧ Below w.heap.size w w' := by
  have cN := Lib.hid (fun X => kname_any kd X)
  generalize nameK kd = nm at *
  have HF0 := Lib.hid (Sb.start w C1 27)
  go_enter Tryd.func11, Tryd.ntmps11
  go_upto_region 1 with fail
  generalize w.alloc (.cells C1 27) = W at *
  have y0 := cell_block HF0.out.blk 0 _ h0
  go_wp2_with (go_at_call 15; (with_reducible refine (cN.out _).mono ?_); rintro r X ⟨rfl, rfl⟩)
  go_ret
  exact ⟨rfl, HF0.out.bel⟩
theorem checkH_any (h : Hd) (hs : SmallH h) (ai : Option Addr) (ci : Nat) (ak : Option Addr) (nk ck : Nat) (w : World) (hT : Lib.Utf8Tabs 2 3 w) (hai : AtIs w w.heap.size ai h.its) (kb : Bool)
    (hK : h.kd = 2 → nk ≤ 100 → ∀ X, Below w.heap.size w X → Calls Tryd.prog 47 #[.slice ak nk ck, .func (.func 48) #[] #[]] X fun r w' => r = .returned (.bool (!kb)) ∧ Below X.heap.size X w') :
    Calls Tryd.prog 11 #[.agg (cellsH h ai ci ak nk ck)] w fun r w' => r = .returned (.int .i64 (chkH h nk kb)) ∧ Below w.heap.size w w' := by
  obtain ⟨kd, id, mr, cr, fr, co, ta, so, ⟨fo, ty, sz, ve, la, ne, no, mm, mo⟩, its⟩ := h
  obtain ⟨hm, hms⟩ := hs
  by_cases hn : (nameK kd).toList.isEmpty = true
  · rw [show chkH ⟨kd, id, mr, cr, fr, co, ta, so, ⟨fo, ty, sz, ve, la, ne, no, mm, mo⟩, its⟩ nk kb = 5 from if_pos hn]
    exact chk_none _ kd w rfl hn
  · have hnm : (nameK kd).toList.isEmpty = false := by simpa using hn
    rw [show chkH ⟨kd, id, mr, cr, fr, co, ta, so, ⟨fo, ty, sz, ve, la, ne, no, mm, mo⟩, its⟩ nk kb = dec0 (okH ⟨kd, id, mr, cr, fr, co, ta, so, ⟨fo, ty, sz, ve, la, ne, no, mm, mo⟩, its⟩ nk kb) from if_neg hn]
    unfold okH rzB
    simp only [] at hK hai hm hms ⊢
    by_cases g1 : kd = 1
    · subst g1
      rw [if_pos rfl]
      exact chk_aux _ _ _ 1 id mr cr fr co ta so fo ty sz ve la ne no mm mo its ai ci ak nk ck w hT hm hms hai kb hK (fun X => rest1_any 0 id mr cr fr co ta so fo ty sz ve la ne no mm mo ai its.length ci ak nk ck X) (fun X => sameZ_any 1 mr cr fr 0 ta so fo ty sz ve la ne no mm mo none 0 0 ak nk ck X) hnm rfl
    have e1 : (kd == 1) = false := by simpa using g1
    rw [if_neg g1]
    by_cases g2 : kd = 2
    · subst g2
      rw [if_pos rfl]
      exact chk_aux _ _ _ 2 id mr cr fr co ta so fo ty sz ve la ne no mm mo its ai ci ak nk ck w hT hm hms hai kb hK (fun X => rest2_any 0 id mr cr fr co ta so fo ty sz ve la ne no mm mo ai its.length ci ak nk ck X) (fun X => sameZ_any 2 mr cr fr 0 ⟨#[]⟩ ⟨#[]⟩ fo ty sz ve la ne no mm mo ai its.length ci none 0 0 X) hnm rfl
    have e2 : (kd == 2) = false := by simpa using g2
    rw [if_neg g2]
    by_cases g6 : kd = 6
    · subst g6
      rw [if_pos rfl]
      exact chk_aux _ _ _ 6 id mr cr fr co ta so fo ty sz ve la ne no mm mo its ai ci ak nk ck w hT hm hms hai kb hK (fun X => rest6_any 0 id mr cr fr co ta so fo ty sz ve la ne no mm mo ai its.length ci ak nk ck X) (fun X => sameZ_any 6 mr cr fr co ⟨#[]⟩ ⟨#[]⟩ fo ty sz ve la ne no mm mo none 0 0 ak nk ck X) hnm rfl
    have e6 : (kd == 6) = false := by simpa using g6
    rw [if_neg g6]
    by_cases g7 : kd = 7
    · subst g7
      rw [if_pos rfl]
      exact chk_aux _ _ _ 7 id mr cr fr co ta so fo ty sz ve la ne no mm mo its ai ci ak nk ck w hT hm hms hai kb hK (fun X => rest7_any 0 id mr cr fr co ta so fo ty sz ve la ne no mm mo ai its.length ci ak nk ck X) (fun X => sameZ_any 7 0 0 ⟨#[]⟩ 0 ⟨#[]⟩ ⟨#[]⟩ ⟨#[]⟩ ⟨#[]⟩ sz ve la ne ⟨#[]⟩ mm mo none 0 0 ak nk ck X) hnm rfl
    have e7 : (kd == 7) = false := by simpa using g7
    rw [if_neg g7]
    by_cases g10 : kd = 10
    · subst g10
      rw [if_pos rfl]
      exact chk_aux _ _ _ 10 id mr cr fr co ta so fo ty sz ve la ne no mm mo its ai ci ak nk ck w hT hm hms hai kb hK (fun X => rest10_any 0 id mr cr fr co ta so fo ty sz ve la ne no mm mo ai its.length ci ak nk ck X) (fun X => sameZ_any 10 0 0 fr co ta so ⟨#[]⟩ ⟨#[]⟩ 0 0 ⟨#[]⟩ ⟨#[]⟩ ⟨#[]⟩ 0 0 none 0 0 ak nk ck X) hnm rfl
    have e10 : (kd == 10) = false := by simpa using g10
    rw [if_neg g10]
    exact chk_aux _ _ _ kd id mr cr fr co ta so fo ty sz ve la ne no mm mo its ai ci ak nk ck w hT hm hms hai kb hK (fun X => rest0_any kd id mr cr fr co ta so fo ty sz ve la ne no mm mo ai its.length ci ak nk ck e1 e2 e6 e7 e10 X) (fun X => sameZ_any kd mr cr fr co ta so ⟨#[]⟩ ⟨#[]⟩ 0 0 ⟨#[]⟩ ⟨#[]⟩ ⟨#[]⟩ 0 0 none 0 0 ak nk ck X) hnm rfl
noncomputable def kidB (k : Cm) : Bool := chgB k.hd.kd && (chkH k.hd k.ks.length false == 0)
attribute [local go_sem] undef rowOk_drew rowOf_drew run_rowSem in
attribute [local go_sem ↓] lc_row in
attribute [local irreducible] wpList in
theorem clos48_aux (C1 : Array Value) (kd q : Int) (w : World) (h0 : C1[0]? = some (.int .i64 kd)) (hs : C1.size = 19) (c11 : chgB kd = true → ∀ X, Below w.heap.size w X → Calls Tryd.prog 11 #[.agg C1] X fun r w' => r = .returned (.int .i64 q) ∧ Below X.heap.size X w') :
    Calls Tryd.prog 48 #[.agg C1] w fun r w' => r = .returned (.bool (!(chgB kd && (q == 0)))) ∧ Below w.heap.size w w' := by
  have cG := Lib.hid (fun X => change_any kd X)
  have HF0 := Lib.hid (Sb.start w C1 27)
  have c1 := Lib.hid c11
  clear c11
  generalize chgB kd = g at *
  cases g with
  | false =>
    clear c1
    go_enter Tryd.func48, Tryd.ntmps48
    go_upto_region 1 with fail
    generalize w.alloc (.cells C1 27) = W at *
    have y0 := cell_block HF0.out.blk 0 _ h0
    go_wp2_with (go_at_call 49; (with_reducible refine (cG.out _).mono ?_); rintro r X ⟨rfl, rfl⟩)
    go_ret
    exact ⟨rfl, HF0.out.bel⟩
  | true =>
    have c2 := Lib.hid (c1.out rfl)
    clear c1
    go_enter Tryd.func48, Tryd.ntmps48
    go_upto_region 1 with fail
    generalize w.alloc (.cells C1 27) = W at *
    have y0 := cell_block HF0.out.blk 0 _ h0
    have KB := HF0.out.bel
    have ro := rowOk_of HF0.out.blk hs
    have rf := rowOf_of HF0.out.blk
    go_wp2_with (first | (go_at_call 49; (with_reducible refine (cG.out _).mono ?_); rintro r X ⟨rfl, rfl⟩) | (go_at_call 11; (with_reducible refine (c2.out _ KB).mono ?_); rintro r X ⟨rfl, hb⟩))
    go_ret
    exact ⟨by simp [bne], KB.trans (hb.mono KB.size)⟩
theorem clos48_any (h : Hd) (hs : SmallH h) (ai : Option Addr) (ci : Nat) (ak : Option Addr) (nk ck : Nat) (w : World) (hT : Lib.Utf8Tabs 2 3 w) (hai : AtIs w w.heap.size ai h.its) : Calls Tryd.prog 48 #[.agg (cellsH h ai ci ak nk ck)] w fun r w' => r = .returned (.bool (!(chgB h.kd && (chkH h nk false == 0)))) ∧ Below w.heap.size w w' :=
  clos48_aux _ h.kd _ w rfl rfl (fun hc X hX => checkH_any h hs ai ci ak nk ck X (Utf8Tabs_below hT hX) ((hai.below hX).mono hX.size) false (fun h2 => by rw [h2] at hc; exact absurd hc (by decide)))
set_option maxRecDepth 100000 in
set_option maxHeartbeats 4000000 in
attribute [local irreducible] wpList in
theorem idxC_any (q : Cm → Bool) (l : List Cm) (a : Option Addr) (cap : Nat) (hs : l.length ≤ 1000000) (w : World) (hS : AtCs w w.heap.size a 0 l)
    (cF : ∀ i (h : i < l.length) (X : World), Below w.heap.size w X → ∀ cs, AtC X X.heap.size l[i] cs → Calls Tryd.prog 48 #[.agg cs] X fun r w' => r = .returned (.bool (q l[i])) ∧ Below X.heap.size X w') :
    Calls Tryd.prog 120 #[.slice a l.length cap, .func (.func 48) #[] #[]] w fun e w' => (∃ r : Int, e = .returned (.int .i64 r) ∧ decide (0 ≤ r) = l.any q) ∧ Below w.heap.size w w' := by
  have hY : Hid (∀ i (h : i < l.length), q l[i] = true → l.any q = true) := fun i h hp => List.any_eq_true.2 ⟨l[i], List.getElem_mem h, hp⟩
  have hN : Hid ((∀ i (h : i < l.length), q l[i] = false) → l.any q = false) := fun h => any_false h
  generalize l.any q = v at *
  have HS := Lib.hid hS
  have HF := Lib.hid cF
  clear hS cF
  generalize hnn : l.length = n at hs ⊢
  have HNN := Lib.hid hnn
  clear hnn
  have hnl : n ≤ 140737488355328 := Nat.le_trans hs (by decide)
  go_enter Tryd.func120, Tryd.ntmps120
  go_wp2_with fail
  go_loopw [5, 8] (fun _ iv wr => ∃ i : Nat, i ≤ n ∧ iv = .int .i64 (i : Int) ∧ Hid (∀ j (h : j < l.length), j < i → q l[j] = false) ∧ Hid (Below w.heap.size w wr)) (fun _ iv _ => n - (intOf iv).toNat)
  case atStart => exact ⟨0, Nat.zero_le _, rfl, fun _ _ h => absurd h (Nat.not_lt_zero _), Below.refl _ _⟩
  case round =>
    obtain ⟨i, hi, rfl, HI, HB⟩ := hrel
    by_cases hlt : i < n
    · have hil : i < l.length := by rw [HNN.out]; exact hlt
      obtain ⟨b, o, ai, ci, ak, ck, rfl, hbl, hc0, hI, hKK⟩ := HS.out.kid i hil
      have c1 := Lib.hid (HF.out i hil wr HB.out _ (AtC.mono HB.out.size _ _ (AtC.below HB.out _ _ (AtC.of (ci := ci) (ck := ck) hI hKK))))
      have k0 : (0 : Int) ≤ (i : Int) := by omega
      have k1 : (i : Int) < (n : Int) := by omega
      have k2 : decide (i < n) = true := by simp; omega
      have hst : Hid (q l[i] = false → ∀ j (h : j < l.length), j < i + 1 → q l[j] = false) := fun hp j h hj => by
        by_cases e : j = i
        · subst e; exact hp
        · exact HI.out j h (by omega)
      have hyi := Lib.hid (hY.out i hil)
      have HR : Hid (wr.rangeAt b (o + i * 19) (cellsH l[i].hd ai ci ak l[i].ks.length ck).toList) := fun j u hu => (HB.out.cell (p := ⟨b, o + i * 19 + j, none⟩) hbl).trans (hc0 j u hu)
      have HL : Hid ((Tryd.prog.info? 27).map (·.size) = some (cellsH l[i].hd ai ci ak l[i].ks.length ck).toList.length) := size27c
      have HC : Hid ((cellsH l[i].hd ai ci ak l[i].ks.length ck).toList.toArray = cellsH l[i].hd ai ci ak l[i].ks.length ck) := Array.toArray_toList ..
      clear hc0 hbl HI hI hKK
      rw [← HC.out] at c1
      clear HC
      generalize (cellsH l[i].hd ai ci ak l[i].ks.length ck).toList = L at *
      generalize q l[i] = t at *
      cases t with
      | true =>
        have HV := Lib.hid (hyi.out rfl)
        clear hst hyi
        go_wp2_with (first | (go_at_call 48; (with_reducible refine c1.out.mono ?_); rintro e w1 ⟨rfl, hb1⟩) | (refine wpList_load_mid rfl 27 (.tmp 14) rfl b (o + i * 19) rfl L _ HR.out Tryd.underlying27 rfl HL.out ?_))
        go_ret
        exact ⟨⟨_, rfl, by rw [HV.out]; simp⟩, HB.out.trans (hb1.mono HB.out.size)⟩
      | false =>
        have HI2 := Lib.hid (hst.out rfl)
        have HW1 : Hid (wrap64 ((i : Int) + 1) = (i : Int) + 1) := by unfold Hid wrap64; omega
        clear hst hyi
        go_wp2_with (first | (go_at_call 48; (with_reducible refine c1.out.mono ?_); rintro e w1 ⟨rfl, hb1⟩) | (refine wpList_load_mid rfl 27 (.tmp 14) rfl b (o + i * 19) rfl L _ HR.out Tryd.underlying27 rfl HL.out ?_))
        go_roundw
        case rel => exact ⟨i + 1, by omega, by go_num, HI2, HB.out.trans (hb1.mono HB.out.size)⟩
        case measure => simp [intOf]; omega
    · have k1 : ¬ (i : Int) < (n : Int) := by omega
      have k2 : decide (i < n) = false := by simp; omega
      have HV := Lib.hid (hN.out (fun j h => HI.out j h (by rw [HNN.out] at h; omega)))
      go_wp2_with fail
      go_ret
      exact ⟨⟨_, rfl, by rw [HV.out]; decide⟩, HB.out⟩
theorem conC_any (q : Cm → Bool) (l : List Cm) (a : Option Addr) (cap : Nat) (hs : l.length ≤ 1000000) (w : World) (hS : AtCs w w.heap.size a 0 l)
    (cF : ∀ i (h : i < l.length) (X : World), Below w.heap.size w X → ∀ cs, AtC X X.heap.size l[i] cs → Calls Tryd.prog 48 #[.agg cs] X fun r w' => r = .returned (.bool (q l[i])) ∧ Below X.heap.size X w') :
    Calls Tryd.prog 47 #[.slice a l.length cap, .func (.func 48) #[] #[]] w fun e w' => e = .returned (.bool (l.any q)) ∧ Below w.heap.size w w' := by
  have c1 := Lib.hid (idxC_any q l a cap hs w hS cF)
  generalize l.any q = v at *
  clear hS cF
  generalize l.length = n at *
  go_enter Tryd.func47, Tryd.ntmps47
  go_wp2_with (go_at_call 120; refine c1.out.mono ?_; rintro e w1 ⟨⟨r, rfl, hr⟩, hb1⟩)
  go_ret
  exact ⟨by rw [← hr]; rfl, hb1⟩
noncomputable def kidsB (l : List Cm) : Bool := !l.any fun k => !kidB k
/-- what is wrong with a command -/
noncomputable def chkC (c : Cm) : Int := chkH c.hd c.ks.length (kidsB c.ks)
def SmallC (c : Cm) : Prop := SmallH c.hd ∧ ∀ k ∈ c.ks, SmallH k.hd
theorem checkC_any (c : Cm) (hs : SmallC c) (cs : Array Value) (w : World) (hT : Lib.Utf8Tabs 2 3 w) (hat : AtC w w.heap.size c cs) : Calls Tryd.prog 11 #[.agg cs] w fun r w' => r = .returned (.int .i64 (chkC c)) ∧ Below w.heap.size w w' := by
  obtain ⟨ai, ci, ak, ck, rfl, hai, hak⟩ := hat.parts
  refine checkH_any c.hd hs.1 ai ci ak c.ks.length ck w hT hai (kidsB c.ks) (fun _ hn X hX => ?_)
  have h := conC_any (fun k => !kidB k) c.ks ak ck (by omega) X (AtCs.mono hX.size _ _ _ (AtCs.below hX _ _ _ hak)) (fun i hi Y hY cs hcs => by
    obtain ⟨ai2, ci2, ak2, ck2, rfl, h1, _⟩ := hcs.parts
    exact clos48_any c.ks[i].hd (hs.2 _ (List.getElem_mem hi)) ai2 ci2 ak2 _ ck2 Y (Utf8Tabs_below (Utf8Tabs_below hT hX) hY) h1)
  unfold kidsB
  rw [Bool.not_not]
  exact h
end Go.Proofs.YtgechifbbhipaaaDoor
