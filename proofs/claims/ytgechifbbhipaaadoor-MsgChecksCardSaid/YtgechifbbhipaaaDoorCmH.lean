/- msg: both sides ask the same of a command; the reference, all kinds but Sync. No condition but the sizes. -/
import Derived.Test.YtgechifbbhipaaaDoorCmG
set_option linter.unusedVariables false
set_option linter.unusedSimpArgs false
namespace Go.Proofs.YtgechifbbhipaaaDoor
open Go.RowKit

theorem emptyE : (⟨#[]⟩ : ByteArray).toList.isEmpty = true := by rw [ByteArray.toList_eq]; rfl
theorem emptyM0 : emptyMV ⟨⟨#[]⟩, ⟨#[]⟩, 0, 0, ⟨#[]⟩, ⟨#[]⟩, ⟨#[]⟩, 0, 0⟩ = true := by simp [emptyMV]
theorem zeroE : ((0 : Int) == 0) = true := rfl
theorem zeroN : (((0 : Nat) : Int) == 0) = true := rfl
theorem z_bare1 (mr cr : Int) (fr : ByteArray) (co : Int) (ta so : ByteArray) (fo ty : ByteArray) (sz ve : Int) (la ne no : ByteArray) (mm mo : Int) (li lk : Nat) : zB mr cr fr 0 ta so fo ty sz ve la ne no mm mo 0 lk = bareB false false true false false true false mr cr fr co ta so fo ty sz ve la ne no mm mo li lk := by
  unfold zB bareB
  simp only [emptyE, emptyM0, zeroE, zeroN]
  generalize (mr == 0) = a0
  generalize (cr == 0) = a1
  generalize fr.toList.isEmpty = a2
  generalize (co == 0) = a3
  generalize ta.toList.isEmpty = a4
  generalize so.toList.isEmpty = a5
  generalize emptyMV ⟨fo, ty, sz, ve, la, ne, no, mm, mo⟩ = a6
  generalize ((li : Int) == 0) = a7
  generalize ((lk : Int) == 0) = a8
  revert a0 a1 a2 a3 a4 a5 a6 a7 a8
  decide
theorem z_bare2 (mr cr : Int) (fr : ByteArray) (co : Int) (ta so : ByteArray) (fo ty : ByteArray) (sz ve : Int) (la ne no : ByteArray) (mm mo : Int) (li lk : Nat) : zB mr cr fr 0 ⟨#[]⟩ ⟨#[]⟩ fo ty sz ve la ne no mm mo li 0 = bareB false false true true false false true mr cr fr co ta so fo ty sz ve la ne no mm mo li lk := by
  unfold zB bareB
  simp only [emptyE, emptyM0, zeroE, zeroN]
  generalize (mr == 0) = a0
  generalize (cr == 0) = a1
  generalize fr.toList.isEmpty = a2
  generalize (co == 0) = a3
  generalize ta.toList.isEmpty = a4
  generalize so.toList.isEmpty = a5
  generalize emptyMV ⟨fo, ty, sz, ve, la, ne, no, mm, mo⟩ = a6
  generalize ((li : Int) == 0) = a7
  generalize ((lk : Int) == 0) = a8
  revert a0 a1 a2 a3 a4 a5 a6 a7 a8
  decide
theorem z_bare6 (mr cr : Int) (fr : ByteArray) (co : Int) (ta so : ByteArray) (fo ty : ByteArray) (sz ve : Int) (la ne no : ByteArray) (mm mo : Int) (li lk : Nat) : zB mr cr fr co ⟨#[]⟩ ⟨#[]⟩ fo ty sz ve la ne no mm mo 0 lk = bareB false false false true false true false mr cr fr co ta so fo ty sz ve la ne no mm mo li lk := by
  unfold zB bareB
  simp only [emptyE, emptyM0, zeroE, zeroN]
  generalize (mr == 0) = a0
  generalize (cr == 0) = a1
  generalize fr.toList.isEmpty = a2
  generalize (co == 0) = a3
  generalize ta.toList.isEmpty = a4
  generalize so.toList.isEmpty = a5
  generalize emptyMV ⟨fo, ty, sz, ve, la, ne, no, mm, mo⟩ = a6
  generalize ((li : Int) == 0) = a7
  generalize ((lk : Int) == 0) = a8
  revert a0 a1 a2 a3 a4 a5 a6 a7 a8
  decide
theorem z_bare10 (mr cr : Int) (fr : ByteArray) (co : Int) (ta so : ByteArray) (fo ty : ByteArray) (sz ve : Int) (la ne no : ByteArray) (mm mo : Int) (li lk : Nat) : zB 0 0 fr co ta so ⟨#[]⟩ ⟨#[]⟩ 0 0 ⟨#[]⟩ ⟨#[]⟩ ⟨#[]⟩ 0 0 0 lk = bareB true false false false true true false mr cr fr co ta so fo ty sz ve la ne no mm mo li lk := by
  unfold zB bareB
  simp only [emptyE, emptyM0, zeroE, zeroN]
  generalize (mr == 0) = a0
  generalize (cr == 0) = a1
  generalize fr.toList.isEmpty = a2
  generalize (co == 0) = a3
  generalize ta.toList.isEmpty = a4
  generalize so.toList.isEmpty = a5
  generalize emptyMV ⟨fo, ty, sz, ve, la, ne, no, mm, mo⟩ = a6
  generalize ((li : Int) == 0) = a7
  generalize ((lk : Int) == 0) = a8
  revert a0 a1 a2 a3 a4 a5 a6 a7 a8
  decide
theorem z_bare0 (mr cr : Int) (fr : ByteArray) (co : Int) (ta so : ByteArray) (fo ty : ByteArray) (sz ve : Int) (la ne no : ByteArray) (mm mo : Int) (li lk : Nat) : zB mr cr fr co ta so ⟨#[]⟩ ⟨#[]⟩ 0 0 ⟨#[]⟩ ⟨#[]⟩ ⟨#[]⟩ 0 0 0 lk = bareB false false false false true true false mr cr fr co ta so fo ty sz ve la ne no mm mo li lk := by
  unfold zB bareB
  simp only [emptyE, emptyM0, zeroE, zeroN]
  generalize (mr == 0) = a0
  generalize (cr == 0) = a1
  generalize fr.toList.isEmpty = a2
  generalize (co == 0) = a3
  generalize ta.toList.isEmpty = a4
  generalize so.toList.isEmpty = a5
  generalize emptyMV ⟨fo, ty, sz, ve, la, ne, no, mm, mo⟩ = a6
  generalize ((li : Int) == 0) = a7
  generalize ((lk : Int) == 0) = a8
  revert a0 a1 a2 a3 a4 a5 a6 a7 a8
  decide
theorem z_bare7 (mr cr : Int) (fr : ByteArray) (co : Int) (ta so : ByteArray) (fo ty : ByteArray) (sz ve : Int) (la ne no : ByteArray) (mm mo : Int) (li lk : Nat) : zB 0 0 ⟨#[]⟩ 0 ⟨#[]⟩ ⟨#[]⟩ ⟨#[]⟩ ⟨#[]⟩ sz ve la ne ⟨#[]⟩ mm mo 0 lk = (emptyMV (askM ⟨fo, ty, sz, ve, la, ne, no, mm, mo⟩) && bareB true true true true true true false mr cr fr co ta so fo ty sz ve la ne no mm mo li lk) := by
  unfold zB bareB askM
  simp only [emptyE, emptyM0, zeroE, zeroN]
  simp only [Bool.true_or, Bool.true_and, Bool.false_or]
theorem okE (c q b t : Bool) : ((c && q) && (b && t)) = ((c && (q && b)) && t) := by cases c <;> cases q <;> cases b <;> cases t <;> rfl
theorem okE7 (c q b e m r a g k x y i : Bool) : ((c && q) && (b && (m && (r && (a && (g && (k && (x && (y && (e && i)))))))))) = ((c && (q && (e && b))) && (m && (r && (a && (g && (k && (x && (y && i)))))))) := by
  cases c <;> cases q <;> cases b <;> cases e <;> cases m <;> cases r <;> simp
set_option maxRecDepth 100000 in
theorem rchk_none (C1 : Array Value) (kd : Int) (w : World) (h0 : C1[0]? = some (.int .i64 kd)) (hn : (nameK kd).toList.isEmpty = true) : Calls Tryd.prog 12 #[.agg C1] w fun r w' => r = .returned (.int .i64 5) ∧ Below w.heap.size w w' := by
  have cN := Lib.hid (fun X => refKname_any kd X)
  generalize nameK kd = nm at *
  have HF0 := Lib.hid (Sb.start w C1 27)
  go_enter Tryd.func12, Tryd.ntmps12
  go_upto_region 1 with fail
  generalize w.alloc (.cells C1 27) = W at *
  have y0 := cell_block HF0.out.blk 0 _ h0
  go_wp2_with (go_at_call 16; (with_reducible refine (cN.out _).mono ?_); rintro r X ⟨rfl, hb⟩; have KK := Lib.hid (HF0.out.below hb))
  go_ret
  exact ⟨rfl, KK.out.bel⟩
theorem refCheck0_any (h : Hd) (hs : SmallH h) (ai : Option Addr) (ci : Nat) (ak : Option Addr) (nk ck : Nat) (w : World) (hai : AtIs w w.heap.size ai h.its) (kb : Bool) (h2 : h.kd ≠ 2) :
    Calls Tryd.prog 12 #[.agg (cellsH h ai ci ak nk ck)] w fun r w' => r = .returned (.int .i64 (chkH h nk kb)) ∧ Below w.heap.size w w' := by
  obtain ⟨kd, id, mr, cr, fr, co, ta, so, ⟨fo, ty, sz, ve, la, ne, no, mm, mo⟩, its⟩ := h
  obtain ⟨hm, hms⟩ := hs
  by_cases hn : (nameK kd).toList.isEmpty = true
  · rw [show chkH ⟨kd, id, mr, cr, fr, co, ta, so, ⟨fo, ty, sz, ve, la, ne, no, mm, mo⟩, its⟩ nk kb = 5 from if_pos hn]
    exact rchk_none _ kd w rfl hn
  · have hnm : (nameK kd).toList.isEmpty = false := by simpa using hn
    rw [show chkH ⟨kd, id, mr, cr, fr, co, ta, so, ⟨fo, ty, sz, ve, la, ne, no, mm, mo⟩, its⟩ nk kb = dec0 (okH ⟨kd, id, mr, cr, fr, co, ta, so, ⟨fo, ty, sz, ve, la, ne, no, mm, mo⟩, its⟩ nk kb) from if_neg hn]
    unfold okH rzB tailB
    simp only [] at hai hm hms h2 ⊢
    have e2 : (kd == 2) = false := by simpa using h2
    by_cases g1 : kd = 1
    · have h := rchk1_aux _ kd id mr cr fr co ta so fo ty sz ve la ne no mm mo its ai ci ak nk ck w hm hms hai g1 hnm rfl
      subst g1
      rw [okE, ← z_bare1] at h
      exact h
    have e1 : (kd == 1) = false := by simpa using g1
    by_cases g6 : kd = 6
    · have h := rchk6_aux _ kd id mr cr fr co ta so fo ty sz ve la ne no mm mo its ai ci ak nk ck w hm hms hai g6 hnm rfl
      subst g6
      rw [okE, ← z_bare6] at h
      exact h
    have e6 : (kd == 6) = false := by simpa using g6
    by_cases g7 : kd = 7
    · have h := rchk7_aux _ kd id mr cr fr co ta so fo ty sz ve la ne no mm mo its ai ci ak nk ck w hm hms hai g7 hnm rfl
      subst g7
      rw [okE7, ← z_bare7] at h
      exact h
    have e7 : (kd == 7) = false := by simpa using g7
    by_cases g10 : kd = 10
    · have h := rchk10_aux _ kd id mr cr fr co ta so fo ty sz ve la ne no mm mo its ai ci ak nk ck w hm hms hai g10 hnm rfl
      subst g10
      rw [okE, ← z_bare10] at h
      exact h
    have e10 : (kd == 10) = false := by simpa using g10
    rw [if_neg g1, if_neg h2, if_neg g6, if_neg g7, if_neg g10, if_neg g1, if_neg h2, if_neg g6, if_neg g7, if_neg g10]
    have h := rchk0_aux _ kd id mr cr fr co ta so fo ty sz ve la ne no mm mo its ai ci ak nk ck w hm hms hai e1 e2 e6 e7 e10 hnm rfl
    rw [okE, ← z_bare0] at h
    exact h
end Go.Proofs.YtgechifbbhipaaaDoor
