/- metinf: the program's Of. No condition but the tables. -/
import Derived.Test.YtgechifbbhipaaaDoorMeP
import Derived.Test.YtgechifbbhipaaaDoorGrM
import Derived.Test.YtgechifbbhipaaaDoorGrX
set_option linter.unusedVariables false
set_option linter.unusedSimpArgs false
namespace Go.Proofs.YtgechifbbhipaaaDoor
open Go.RowKit Go.Shelf

attribute [local go_sem] Oper.semAt_some

set_option maxRecDepth 100000 in
set_option maxHeartbeats 700000 in
theorem metOf_early (e : Tr) (v : Value) (w : World) (m : Int) (hv : AtT w w.heap.size e v) (hT : TabG m w) (hbad : (e.page ≠ 0 ∨ e.name ≠ metaN) ∨ (chkG e).2 ≠ 0) :
    Calls Tryd.prog 35 #[v] w fun r w' => r = .returned (.tuple #[.agg (ofV e).1.cells, .int .i64 (ofV e).2]) ∧ Below w.heap.size w w' := by
  obtain ⟨hz1, hz2, hz3, a, c, rfl, hk⟩ := hv.parts
  have HBox : Hid (Below w.heap.size w (((w.alloc (.cells #[.int .i64 e.page, .string e.name, .string e.text, .bool e.opq, .slice a e.kids.length c] 46)).alloc (.cells #[.string ⟨#[]⟩, .string ⟨#[]⟩, .int .i64 0, .int .i64 0, .string ⟨#[]⟩, .string ⟨#[]⟩, .string ⟨#[]⟩, .int .i64 0, .int .i64 0] 23)).alloc (.cells #[.int .i64 0] 35))) := ((((Below.refl _ w).alloc (Nat.le_refl _) _).alloc (by simp) _).alloc (by simp; omega) _)
  have HZ : Hid ((((w.alloc (.cells #[.int .i64 e.page, .string e.name, .string e.text, .bool e.opq, .slice a e.kids.length c] 46)).alloc (.cells #[.string ⟨#[]⟩, .string ⟨#[]⟩, .int .i64 0, .int .i64 0, .string ⟨#[]⟩, .string ⟨#[]⟩, .string ⟨#[]⟩, .int .i64 0, .int .i64 0] 23)).alloc (.cells #[.int .i64 0] 35)).heap[w.heap.size + 1]? = some (.cells #[.string ⟨#[]⟩, .string ⟨#[]⟩, .int .i64 0, .int .i64 0, .string ⟨#[]⟩, .string ⟨#[]⟩, .string ⟨#[]⟩, .int .i64 0, .int .i64 0] 23 (0, 0))) := by
    refine (Below.heap_alloc _ _ _ (by simp)).trans ?_
    have h := World.alloc_heap_new (w.alloc (.cells #[.int .i64 e.page, .string e.name, .string e.text, .bool e.opq, .slice a e.kids.length c] 46)) (.cells #[.string ⟨#[]⟩, .string ⟨#[]⟩, .int .i64 0, .int .i64 0, .string ⟨#[]⟩, .string ⟨#[]⟩, .string ⟨#[]⟩, .int .i64 0, .int .i64 0] 23)
    rw [World.size_alloc] at h; exact h
  have HB2 : Hid (Boxed (((w.alloc (.cells #[.int .i64 e.page, .string e.name, .string e.text, .bool e.opq, .slice a e.kids.length c] 46)).alloc (.cells #[.string ⟨#[]⟩, .string ⟨#[]⟩, .int .i64 0, .int .i64 0, .string ⟨#[]⟩, .string ⟨#[]⟩, .string ⟨#[]⟩, .int .i64 0, .int .i64 0] 23)).alloc (.cells #[.int .i64 0] 35)) (w.heap.size + 1 + 1) 35 (.int .i64 0)) := by
    have h := Boxed.new ((w.alloc (.cells #[.int .i64 e.page, .string e.name, .string e.text, .bool e.opq, .slice a e.kids.length c] 46)).alloc (.cells #[.string ⟨#[]⟩, .string ⟨#[]⟩, .int .i64 0, .int .i64 0, .string ⟨#[]⟩, .string ⟨#[]⟩, .string ⟨#[]⟩, .int .i64 0, .int .i64 0] 23)) 35 (.int .i64 0)
    rw [World.size_alloc, World.size_alloc] at h; exact h
  by_cases hpn : e.page ≠ 0 ∨ e.name ≠ metaN
  · have hV : ofV e = (met0, 5) := by unfold ofV; rw [if_pos hpn]
    rw [hV]
    have key : (¬ e.page = 0) ∨ (e.page = 0 ∧ (e.name.toList == [77, 101, 116, 97]) = false) := by
      by_cases h : e.page = 0
      · refine .inr ⟨h, nameN (w := metaN) (hpn.resolve_left (fun h2 => h2 h)) rfl⟩
      · exact .inl h
    clear hv hk hV hpn hz1 hz2 hz3 hbad hT
    generalize e.page = p at *
    generalize e.name = nm at *
    generalize e.text = tx at *
    generalize e.opq = o at *
    generalize e.kids.length = nk at *
    have c2 := HB2.out.cell
    have f2 := HB2.out.frozen
    rcases key with h1 | ⟨h1, h2⟩
    · go_enter Tryd.func35, Tryd.ntmps35
      go_upto_region 2 with fail
      generalize (((w.alloc (.cells #[.int .i64 p, .string nm, .string tx, .bool o, .slice a nk c] 46)).alloc (.cells #[.string ⟨#[]⟩, .string ⟨#[]⟩, .int .i64 0, .int .i64 0, .string ⟨#[]⟩, .string ⟨#[]⟩, .string ⟨#[]⟩, .int .i64 0, .int .i64 0] 23)).alloc (.cells #[.int .i64 0] 35)) = W0 at *
      go_wp2_with (refine wpList_store_row rfl 23 (.tmp 2) (.tmp 21) rfl (w.heap.size + 1) #[.string ⟨#[]⟩, .string ⟨#[]⟩, .int .i64 0, .int .i64 0, .string ⟨#[]⟩, .string ⟨#[]⟩, .string ⟨#[]⟩, .int .i64 0, .int .i64 0] rfl rfl 23 _ HZ.out (by kernel_rfl) rfl (by simp [Value.oneCell']) ?_; rw [setRow_self _ _ _ _ _ HZ.out])
      have B2 := HB2.out
      exact bodyPost_ret (results_cell2 rfl rfl rfl (run_loadVar_row _ (w.heap.size + 1) 23 23 met0.cells (0, 0) _ ((Below.heap_setCell _ _ _ _ (by show w.heap.size + 1 ≠ w.heap.size + 1 + 1; omega)).trans HZ.out) Tryd.underlying23 rfl (by kernel_rfl)) (run_loadVar_cell (HB2.out.set _).cell (by kernel_rfl))) rfl ⟨rfl, HBox.out.setCell (p := ⟨w.heap.size + 1 + 1, 0, none⟩) (by show w.heap.size ≤ w.heap.size + 1 + 1; omega) _⟩
    · subst h1
      go_enter Tryd.func35, Tryd.ntmps35
      go_upto_region 2 with fail
      generalize (((w.alloc (.cells #[.int .i64 0, .string nm, .string tx, .bool o, .slice a nk c] 46)).alloc (.cells #[.string ⟨#[]⟩, .string ⟨#[]⟩, .int .i64 0, .int .i64 0, .string ⟨#[]⟩, .string ⟨#[]⟩, .string ⟨#[]⟩, .int .i64 0, .int .i64 0] 23)).alloc (.cells #[.int .i64 0] 35)) = W0 at *
      go_wp2_with (refine wpList_store_row rfl 23 (.tmp 2) (.tmp 21) rfl (w.heap.size + 1) #[.string ⟨#[]⟩, .string ⟨#[]⟩, .int .i64 0, .int .i64 0, .string ⟨#[]⟩, .string ⟨#[]⟩, .string ⟨#[]⟩, .int .i64 0, .int .i64 0] rfl rfl 23 _ HZ.out (by kernel_rfl) rfl (by simp [Value.oneCell']) ?_; rw [setRow_self _ _ _ _ _ HZ.out])
      have B2 := HB2.out
      exact bodyPost_ret (results_cell2 rfl rfl rfl (run_loadVar_row _ (w.heap.size + 1) 23 23 met0.cells (0, 0) _ ((Below.heap_setCell _ _ _ _ (by show w.heap.size + 1 ≠ w.heap.size + 1 + 1; omega)).trans HZ.out) Tryd.underlying23 rfl (by kernel_rfl)) (run_loadVar_cell (HB2.out.set _).cell (by kernel_rfl))) rfl ⟨rfl, HBox.out.setCell (p := ⟨w.heap.size + 1 + 1, 0, none⟩) (by show w.heap.size ≤ w.heap.size + 1 + 1; omega) _⟩
  · have hg := hbad.resolve_left hpn
    have hp : e.page = 0 := Classical.byContradiction fun h => hpn (.inl h)
    have hn : e.name = metaN := Classical.byContradiction fun h => hpn (.inr h)
    have hnm : (e.name.toList == [77, 101, 116, 97]) = true := nameY (w := metaN) hn rfl
    have cC := Lib.hid (fun X (hX : Below w.heap.size w X) => gCheckT_any e _ X m (AtT.mono hX.size _ _ (AtT.below hX _ _ hv)) (hT.below hX))
    have hV : ofV e = (met0, (chkG e).2) := by unfold ofV; rw [if_neg hpn, if_pos hg]
    rw [hV]
    have q1 : ((chkG e).2 != 0) = true := bne_iff_ne.2 hg
    clear hV hg hpn hn hz1 hz2 hz3 hk hv hbad hT
    have HSz0 : Hid ((((w.alloc (.cells #[.int .i64 e.page, .string e.name, .string e.text, .bool e.opq, .slice a e.kids.length c] 46)).alloc (.cells #[.string ⟨#[]⟩, .string ⟨#[]⟩, .int .i64 0, .int .i64 0, .string ⟨#[]⟩, .string ⟨#[]⟩, .string ⟨#[]⟩, .int .i64 0, .int .i64 0] 23)).alloc (.cells #[.int .i64 0] 35)).heap.size = w.heap.size + 3) := by unfold Hid; rw [World.size_alloc, World.size_alloc, World.size_alloc]
    generalize (chkG e).1 = n at *
    generalize (chkG e).2 = f at *
    generalize e.page = p at *
    generalize e.name = nm at *
    generalize e.text = tx at *
    generalize e.opq = o at *
    generalize e.kids.length = nk at *
    subst hp
    go_enter Tryd.func35, Tryd.ntmps35
    go_wp2_with fail
    have cX := cC.out _ HBox.out
    refine cX.mono ?_
    clear cX cC
    rintro r X1 ⟨rfl, hb1⟩
    have HX1 := Lib.hid (HBox.out.trans (hb1.mono HBox.out.size))
    have HZ1 : Hid (X1.heap[w.heap.size + 1]? = some (.cells #[.string ⟨#[]⟩, .string ⟨#[]⟩, .int .i64 0, .int .i64 0, .string ⟨#[]⟩, .string ⟨#[]⟩, .string ⟨#[]⟩, .int .i64 0, .int .i64 0] 23 (0, 0))) := (hb1.block (w.heap.size + 1) (by have := HSz0.out; unfold Hid at this; omega)).trans HZ.out
    have HB3 : Hid (Boxed X1 (w.heap.size + 1 + 1) 35 (.int .i64 0)) := (hb1.block (w.heap.size + 1 + 1) (by have := HSz0.out; unfold Hid at this; omega)).trans HB2.out
    have c2 := HB3.out.cell
    have f2 := HB3.out.frozen
    clear hb1 HZ HB2 HBox HSz0
    go_upto_region 5 with fail
    go_wp2_with (refine wpList_store_row rfl 23 (.tmp 2) (.tmp 29) rfl (w.heap.size + 1) #[.string ⟨#[]⟩, .string ⟨#[]⟩, .int .i64 0, .int .i64 0, .string ⟨#[]⟩, .string ⟨#[]⟩, .string ⟨#[]⟩, .int .i64 0, .int .i64 0] rfl rfl 23 _ HZ1.out (by kernel_rfl) rfl (by simp [Value.oneCell']) ?_; rw [setRow_self _ _ _ _ _ HZ1.out])
    have B2 := HB3.out
    exact bodyPost_ret (results_cell2 rfl rfl rfl (run_loadVar_row _ (w.heap.size + 1) 23 23 met0.cells (0, 0) _ ((Below.heap_setCell _ _ _ _ (by show w.heap.size + 1 ≠ w.heap.size + 1 + 1; omega)).trans HZ1.out) Tryd.underlying23 rfl (by kernel_rfl)) (run_loadVar_cell (HB3.out.set _).cell (by kernel_rfl))) rfl ⟨rfl, HX1.out.setCell (p := ⟨w.heap.size + 1 + 1, 0, none⟩) (by show w.heap.size ≤ w.heap.size + 1 + 1; omega) _⟩
end Go.Proofs.YtgechifbbhipaaaDoor

/- metinf: the program's Of of an element that is as its rule has it. No condition but the tables. -/
set_option linter.unusedVariables false
set_option linter.unusedSimpArgs false
namespace Go.Proofs.YtgechifbbhipaaaDoor
open Go.RowKit Go.Shelf

attribute [local go_sem] Oper.semAt_some

/-- the element, the results -/
def PSt (z h1 : Nat) (w : World) (cb : Array Value) (v2 : Value) (X : World) : Prop :=
  X.heap[z]? = some (.cells cb 46 (0, 0)) ∧ X.heap[z + 1]? = some (.cells #[.string ⟨#[]⟩, .string ⟨#[]⟩, .int .i64 0, .int .i64 0, .string ⟨#[]⟩, .string ⟨#[]⟩, .string ⟨#[]⟩, .int .i64 0, .int .i64 0] 23 (0, 0)) ∧ Boxed X (z + 1 + 1) 35 v2 ∧ Below z w X ∧ h1 ≤ X.heap.size
theorem PSt.grow {z h1 h : Nat} {w : World} {cb : Array Value} {v2 : Value} {X Y : World} {row : Option Nat} (k : PSt z h1 w cb v2 X) (hz : z + 3 ≤ h) (hg : X.grownBy Y row) (hr : ∀ r, row = some r → h ≤ r) : PSt z h1 w cb v2 Y := by
  have hzX := (Array.getElem?_eq_some_iff.1 k.1).1
  exact ⟨(hg.block z hzX (fun e => by have := hr _ e.symm; omega)).trans k.1, (hg.block (z + 1) (Array.getElem?_eq_some_iff.1 k.2.1).1 (fun e => by have := hr _ e.symm; omega)).trans k.2.1, k.2.2.1.kept hg (fun e => by have := hr _ e.symm; omega),
    k.2.2.2.1.trans ⟨hg.os, hg.tape, hg.output, hg.size, fun q hq => hg.block q (by omega) (fun e => by have := hr _ e.symm; omega)⟩, Nat.le_trans k.2.2.2.2 hg.size⟩
/-- what is seen so far is not bad -/
def okP (pre : List Xe) : Prop := ∀ p ∈ pre, 1 < p.1.1 → badE p.1.2 = false
def badP (pre : List Xe) : Prop := ∃ p ∈ pre, 1 < p.1.1 ∧ badE p.1.2 = true

theorem wpListIn_store_row {F : Fence} {n : Nat} {P : Program} (w : World) {ops : Array Oper} {rest : List Oper} {o : Oper} {a : Act} {Q : Exit → Act → World → Prop} (hg : o.guard = none) (ty : TypeId) (x y : Operand) (hop : o.op = .store ty x y)
    (g : Nat) (cells : Array Value) (hx : a.eval x = .pointer (some ⟨g, 0, none⟩)) (hy : a.eval y = .agg cells) (t : TypeId) (old : Array Value) (hh : w.heap[g]? = some (.cells old t (0, 0))) (hi : (P.info? ty).map (·.size) = some cells.size)
    (hold : old.size = cells.size) (h1 : cells.all (·.oneCell') = true) (h : wpListIn F n P ops Q rest (a.put o.dst undef) (w.setRow g cells)) : wpListIn F n P ops Q (o :: rest) a w := by
  refine wpListIn_plain hg fun K hK' => ?_
  unfold Oper.wpIn
  refine ⟨?_, ?_⟩
  · simp [Oper.about, hop]
  · rw [Oper.semAt_plain F _ _ (by rw [hop]; intro c hc'; cases hc')]
    simp only [execOp, hop, hx, hy, Instr.storeAt, Instr.sureAddr, Sem.run_bind, Sem.run_pure, Result.andThen_ok, run_storeVar_row w g t ty old cells hh hi hold h1]
    exact hK' _ _ h
mutual
theorem preT_dep (m : Nat) : ∀ (d : Nat) (e : Tr), ∀ p ∈ preT m d e, d ≤ p.1
  | d, .mk p n t o ks => fun q hq => by
    rw [preT] at hq
    by_cases h : m < d
    · rw [if_pos h] at hq; cases hq
    · rw [if_neg h] at hq
      rcases List.mem_cons.1 hq with rfl | hq
      · exact Nat.le_refl _
      · exact Nat.le_trans (Nat.le_succ _) (preL_dep m (d + 1) ks q hq)
theorem preL_dep (m : Nat) : ∀ (d : Nat) (ks : List Tr), ∀ p ∈ preL m d ks, d ≤ p.1
  | d, [] => fun q hq => by rw [preL] at hq; cases hq
  | d, k :: ks => fun q hq => by
    rw [preL] at hq
    rcases List.mem_append.1 hq with hq | hq
    · exact preT_dep m d k q hq
    · exact preL_dep m d ks q hq
end
theorem ofV_if {e : Tr} (hp : e.page = 0) (hn : e.name = metaN) (hg : (chkG e).2 = 0) : ofV e = if ((preT 20 1 e).drop 1).any (fun p => badE p.2) = true then (met0, 3) else sayV e := by
  unfold ofV
  rw [if_neg (by rintro (h | h); exact h hp; exact h hn), if_neg (fun h => h hg)]
theorem ofV_bad {e : Tr} (hp : e.page = 0) (hn : e.name = metaN) (hg : (chkG e).2 = 0) (h : ∃ p ∈ preT 20 1 e, 1 < p.1 ∧ badE p.2 = true) : ofV e = (met0, 3) := by
  obtain ⟨p, h1, h2, h3⟩ := h
  rw [ofV_if hp hn hg, if_pos]
  rw [preT_in (by omega)] at h1 ⊢
  refine List.any_eq_true.2 ⟨p, ?_, h3⟩
  rcases List.mem_cons.1 h1 with rfl | h1
  · exact absurd h2 (Nat.lt_irrefl 1)
  · exact h1
theorem ofV_say {e : Tr} (hp : e.page = 0) (hn : e.name = metaN) (hg : (chkG e).2 = 0) (h : ∀ p ∈ preT 20 1 e, 1 < p.1 → badE p.2 = false) : ofV e = sayV e := by
  rw [ofV_if hp hn hg, if_neg]
  rw [Bool.not_eq_true, List.any_eq_false]
  intro l hl
  rw [preT_in (by omega)] at hl h
  have h2 := preL_dep 20 2 e.kids l hl
  rw [h l (List.mem_cons_of_mem _ hl) (by omega)]
  simp
theorem takeV_small {m : MetV} {nm tx : ByteArray} {ks : List Tr} (h : SmallM m) (ht : tx.size ≤ 4000) (hk : ∀ q ∈ ks, q.text.size ≤ 4000) : SmallM (takeV m nm tx ks).1 := by
  have h1 := textK_small hk nLast
  have h2 := textK_small hk nNext
  obtain ⟨a, b, c, d, e⟩ := h
  unfold takeV
  (repeat' split) <;> exact ⟨by assumption, by assumption, by assumption, by assumption, by assumption⟩
/-- the variables behind the range: the results, the deferred, what is said so far -/
def OSt (z D bm : Nat) (m : MetV) (X : World) : Prop :=
  True ∧ X.heap[z + 1]? = some (.cells #[.string ⟨#[]⟩, .string ⟨#[]⟩, .int .i64 0, .int .i64 0, .string ⟨#[]⟩, .string ⟨#[]⟩, .string ⟨#[]⟩, .int .i64 0, .int .i64 0] 23 (0, 0)) ∧ Boxed X (z + 1 + 1) 35 (.int .i64 0) ∧ X.heap[D]? = some (.deferred (some [])) ∧ MetB bm m X ∧ z + 3 ≤ bm ∧ D < bm
theorem OSt.only {z D bm : Nat} {m m' : MetV} {X Y : World} (h : OSt z D bm m X) (ho : OnlyB bm X Y) (hm : MetB bm m' Y) : OSt z D bm m' Y := by
  obtain ⟨_, h1, h2, h3, h4, h5, h6⟩ := h
  exact ⟨trivial, (ho.block _ (Array.getElem?_eq_some_iff.1 h1).1 (fun e => by injection e with e; omega)).trans h1, (ho.block _ h2.lt (fun e => by injection e with e; omega)).trans h2, (ho.block _ (Array.getElem?_eq_some_iff.1 h3).1 (fun e => by injection e with e; omega)).trans h3, hm, h5, h6⟩
theorem OSt.below {z D bm : Nat} {m : MetV} {X Y : World} (h : OSt z D bm m X) (hb : Below X.heap.size X Y) : OSt z D bm m Y := h.only (OnlyB.of hb) (h.2.2.2.2.1.low hb)

attribute [local go_sem] undef in
set_option maxRecDepth 100000 in
set_option maxHeartbeats 4000000 in
theorem metOf_main (e : Tr) (v : Value) (w : World) (m : Int) (hv : AtT w w.heap.size e v) (hT : TabG m w) (hp : e.page = 0) (hn : e.name = metaN) (hg : (chkG e).2 = 0) :
    Calls Tryd.prog 35 #[v] w fun r w' => r = .returned (.tuple #[.agg (ofV e).1.cells, .int .i64 (ofV e).2]) ∧ Below w.heap.size w w' := by
  obtain ⟨hz1, hz2, hz3, a, c, rfl, hk⟩ := hv.parts
  have HBox : Hid (Below w.heap.size w (((w.alloc (.cells #[.int .i64 e.page, .string e.name, .string e.text, .bool e.opq, .slice a e.kids.length c] 46)).alloc (.cells #[.string ⟨#[]⟩, .string ⟨#[]⟩, .int .i64 0, .int .i64 0, .string ⟨#[]⟩, .string ⟨#[]⟩, .string ⟨#[]⟩, .int .i64 0, .int .i64 0] 23)).alloc (.cells #[.int .i64 0] 35))) := ((((Below.refl _ w).alloc (Nat.le_refl _) _).alloc (by simp) _).alloc (by simp; omega) _)
  have HZ : Hid ((((w.alloc (.cells #[.int .i64 e.page, .string e.name, .string e.text, .bool e.opq, .slice a e.kids.length c] 46)).alloc (.cells #[.string ⟨#[]⟩, .string ⟨#[]⟩, .int .i64 0, .int .i64 0, .string ⟨#[]⟩, .string ⟨#[]⟩, .string ⟨#[]⟩, .int .i64 0, .int .i64 0] 23)).alloc (.cells #[.int .i64 0] 35)).heap[w.heap.size + 1]? = some (.cells #[.string ⟨#[]⟩, .string ⟨#[]⟩, .int .i64 0, .int .i64 0, .string ⟨#[]⟩, .string ⟨#[]⟩, .string ⟨#[]⟩, .int .i64 0, .int .i64 0] 23 (0, 0))) := by
    refine (Below.heap_alloc _ _ _ (by simp)).trans ?_
    have h := World.alloc_heap_new (w.alloc (.cells #[.int .i64 e.page, .string e.name, .string e.text, .bool e.opq, .slice a e.kids.length c] 46)) (.cells #[.string ⟨#[]⟩, .string ⟨#[]⟩, .int .i64 0, .int .i64 0, .string ⟨#[]⟩, .string ⟨#[]⟩, .string ⟨#[]⟩, .int .i64 0, .int .i64 0] 23)
    rw [World.size_alloc] at h; exact h
  have HB2 : Hid (Boxed (((w.alloc (.cells #[.int .i64 e.page, .string e.name, .string e.text, .bool e.opq, .slice a e.kids.length c] 46)).alloc (.cells #[.string ⟨#[]⟩, .string ⟨#[]⟩, .int .i64 0, .int .i64 0, .string ⟨#[]⟩, .string ⟨#[]⟩, .string ⟨#[]⟩, .int .i64 0, .int .i64 0] 23)).alloc (.cells #[.int .i64 0] 35)) (w.heap.size + 1 + 1) 35 (.int .i64 0)) := by
    have h := Boxed.new ((w.alloc (.cells #[.int .i64 e.page, .string e.name, .string e.text, .bool e.opq, .slice a e.kids.length c] 46)).alloc (.cells #[.string ⟨#[]⟩, .string ⟨#[]⟩, .int .i64 0, .int .i64 0, .string ⟨#[]⟩, .string ⟨#[]⟩, .string ⟨#[]⟩, .int .i64 0, .int .i64 0] 23)) 35 (.int .i64 0)
    rw [World.size_alloc, World.size_alloc] at h; exact h
  have HBk0 : Hid ((((w.alloc (.cells #[.int .i64 e.page, .string e.name, .string e.text, .bool e.opq, .slice a e.kids.length c] 46)).alloc (.cells #[.string ⟨#[]⟩, .string ⟨#[]⟩, .int .i64 0, .int .i64 0, .string ⟨#[]⟩, .string ⟨#[]⟩, .string ⟨#[]⟩, .int .i64 0, .int .i64 0] 23)).alloc (.cells #[.int .i64 0] 35)).heap[w.heap.size]? = some (.cells #[.int .i64 e.page, .string e.name, .string e.text, .bool e.opq, .slice a e.kids.length c] 46 (0, 0))) := (Below.heap_alloc _ _ _ (by simp; omega)).trans ((Below.heap_alloc _ _ _ (by simp)).trans (World.alloc_heap_new w _))
  have HSz0 : Hid ((((w.alloc (.cells #[.int .i64 e.page, .string e.name, .string e.text, .bool e.opq, .slice a e.kids.length c] 46)).alloc (.cells #[.string ⟨#[]⟩, .string ⟨#[]⟩, .int .i64 0, .int .i64 0, .string ⟨#[]⟩, .string ⟨#[]⟩, .string ⟨#[]⟩, .int .i64 0, .int .i64 0] 23)).alloc (.cells #[.int .i64 0] 35)).heap.size = w.heap.size + 3) := by unfold Hid; rw [World.size_alloc, World.size_alloc, World.size_alloc]
  have cC := Lib.hid (fun X (hX : Below w.heap.size w X) => gCheckT_any e _ X m (AtT.mono hX.size _ _ (AtT.below hX _ _ hv)) (hT.below hX))
  rw [hg] at cC
  have cW := Lib.hid (fun X => walkT_any e.page e.name e.text e.opq a e.kids.length c X)
  have hnm : (e.name.toList == [77, 101, 116, 97]) = true := nameY (w := metaN) hn rfl
  have HV := Lib.hid hv
  have HT := Lib.hid (fun X (hX : Below w.heap.size w X) => hT.below hX)
  have HKs := Lib.hid hk
  have HN := Lib.hid hn
  have HG := Lib.hid hg
  clear hk hv hT hz1 hz2 hz3 hn hg
  have HP := Lib.hid hp
  rw [hp] at HBox HZ HB2 HBk0 HSz0 cC cW ⊢
  clear hp
  generalize (chkG e).1 = n1 at *
  refine (callsIn_wide (n := 9)).1 ?_
  refine callsIn_of_wp_marks Tryd.func35 rfl trivial ?_ rfl
  simp only [Tryd.ntmps35, List.size_toArray, List.length_cons, List.length_nil, Nat.reduceAdd, Nat.reduceSub, Array.replicate_succ, Array.replicate_zero, List.push_toArray, List.append_toArray, List.nil_append, List.cons_append]
  gi_wp2_with fail
  refine ⟨trivial, (callsIn_wide.2 (cC.out _ HBox.out)).mono ?_⟩
  rintro r X1 ⟨rfl, hb1⟩
  have HX1 := Lib.hid (HBox.out.trans (hb1.mono HBox.out.size))
  have HZ1 : Hid (X1.heap[w.heap.size + 1]? = some (.cells #[.string ⟨#[]⟩, .string ⟨#[]⟩, .int .i64 0, .int .i64 0, .string ⟨#[]⟩, .string ⟨#[]⟩, .string ⟨#[]⟩, .int .i64 0, .int .i64 0] 23 (0, 0))) := (hb1.block (w.heap.size + 1) (by have := HSz0.out; unfold Hid at this; omega)).trans HZ.out
  have HB21 : Hid (Boxed X1 (w.heap.size + 1 + 1) 35 (.int .i64 0)) := (hb1.block (w.heap.size + 1 + 1) (by have := HSz0.out; unfold Hid at this; omega)).trans HB2.out
  have HBk1 : Hid (X1.heap[w.heap.size]? = some (.cells #[.int .i64 0, .string e.name, .string e.text, .bool e.opq, .slice a e.kids.length c] 46 (0, 0))) := (hb1.block w.heap.size (by have := HSz0.out; unfold Hid at this; omega)).trans HBk0.out
  have HSz1 : Hid (w.heap.size + 3 ≤ X1.heap.size) := by have h1 := HSz0.out; have h2 := hb1.size; unfold Hid at *; omega
  have y0 := cell_block HBk1.out 0 _ rfl
  have y1 := cell_block HBk1.out 1 _ rfl
  have y2 := cell_block HBk1.out 2 _ rfl
  have y3 := cell_block HBk1.out 3 _ rfl
  have y4 := cell_block HBk1.out 4 _ rfl
  clear hb1 HZ HB2 HBk0 HSz0 HBox cC
  gi_wp2_with fail
  refine ⟨trivial, (callsIn_wide.2 (cW.out X1)).mono ?_⟩
  rintro r w2 ⟨rfl, hrg, hc2, hz2, hb2⟩
  gi_wp2_with fail
  rename_i Kc hKc
  have HKc := Lib.hid hKc
  clear hKc
  have HX2 := Lib.hid (HX1.out.trans (hb2.mono HX1.out.size))
  have P2 : PSt w.heap.size (X1.heap.size + 3) w #[.int .i64 0, .string e.name, .string e.text, .bool e.opq, .slice a e.kids.length c] (.int .i64 0) w2 := ⟨(hb2.block w.heap.size (by have := HSz1.out; unfold Hid at this; omega)).trans HBk1.out, (hb2.block (w.heap.size + 1) (by have := HSz1.out; unfold Hid at this; omega)).trans HZ1.out, (hb2.block (w.heap.size + 1 + 1) (by have := HSz1.out; unfold Hid at this; omega)).trans HB21.out, HX2.out, by omega⟩
  have hG : ∀ n, SeqG Fence.wide n 0 Tryd.prog 179 #[.pointer (some ⟨X1.heap.size + 1, 0, none⟩), .pointer (some ⟨X1.heap.size + 1 + 1, 0, none⟩)] encX w.heap.size (fun xs => xs.map (·.1) = preT 20 1 e) (fun pre => pre.map (·.1) <+: preT 20 1 e) (NxX w2 w.heap.size (preT 20 1 e)) w2 :=
    fun n => within_seqG n w.heap.size 20 (by decide) e _ (X1.heap.size + 1) (X1.heap.size + 1 + 1) w2 (by have := HSz1.out; unfold Hid at this; omega) (AtT.below HX2.out _ _ HV.out) ⟨a, c, rfl, by rw [HP.out]; exact hrg⟩ hc2 (by omega) (by omega)
  have HP2 := Lib.hid P2
  have HSz2 : Hid (w2.heap.size = X1.heap.size + 3) := by unfold Hid; omega
  generalize hh1 : X1.heap.size = h1 at *
  have HH1 := Lib.hid hh1
  clear hrg hc2 hb2 hz2 P2 y0 y1 y2 y3 y4 hh1 HZ1 HB21 HBk1 HX1 cW
  refine wpIn_range_cellsA rfl (by decide) (gf := 179) (lb := #[.pointer (some ⟨h1 + 1, 0, none⟩), .pointer (some ⟨h1 + 1 + 1, 0, none⟩)]) rfl trivial (enters_of Tryd.func179 (by kernel_rfl) rfl)
    (hG 8) (by have h2 := HSz2.out; have h3 := HSz1.out; unfold Hid at *; omega) (Below.refl _ _) (fun _ => rfl)
    (fun O (pre : List Xe) X => okP pre ∧ PSt w.heap.size (h1 + 3) w #[.int .i64 0, .string e.name, .string e.text, .bool e.opq, .slice a e.kids.length c] (.int .i64 0) X ∧ ∀ b ∈ O, h1 + 3 ≤ b)
    (fun cc (pre : List Xe) X => cc = .ret ∧ badP pre ∧ PSt w.heap.size (h1 + 3) w #[.int .i64 0, .string e.name, .string e.text, .bool e.opq, .slice a e.kids.length c] (.int .i64 3) X)
    ?own1 ?own2
    ⟨(fun p hp => by cases hp), HP2.out, (fun b hb => by cases hb)⟩
    gX (fun x W => (Below.refl _ W).alloc (Nat.le_refl _) _)
    (fun x W => { tmps := #[.agg #[.int .i64 0, .string e.name, .string e.text, .bool e.opq, .slice a e.kids.length c], .pointer (some ⟨w.heap.size, 0, none⟩), .pointer (some ⟨w.heap.size + 1, 0, none⟩), .pointer (some ⟨w.heap.size + 1 + 1, 0, none⟩), .int .i64 (n1 : Int), .int .i64 0, .int .i64 (x.1.1 : Int), .pointer (some ⟨W.heap.size, 0, none⟩), undef, undef, undef, undef, undef, .pointer (some ⟨w.heap.size, 0, none⟩), .int .i64 0, .bool false, .bool false, .pointer (some ⟨w.heap.size, 1, none⟩), .string e.name, .bool false, .bool false, undef, .tuple #[.int .i64 (n1 : Int), .int .i64 0], .agg #[.int .i64 0, .string e.name, .string e.text, .bool e.opq, .slice a e.kids.length c], .tuple #[.int .i64 (n1 : Int), .int .i64 0], .int .i64 (n1 : Int), .int .i64 0, .int .i64 0, .bool false, undef, undef, .agg #[.int .i64 0, .string e.name, .string e.text, .bool e.opq, .slice a e.kids.length c], .func (.func 179) #[] #[.pointer (some ⟨h1 + 1, 0, none⟩), .pointer (some ⟨h1 + 1 + 1, 0, none⟩)], .int .i64 (x.1.1 : Int), x.2, undef, undef, undef, undef, undef, undef, undef, undef, undef, undef, undef, undef, undef, undef, undef, undef, undef, undef, undef, undef, undef, undef, undef, undef, undef, undef, undef, undef, undef, undef, undef, undef, undef, undef, undef, undef, undef, undef, undef], defers := [] }) ?assign ?body ?done ?stop
  case assign =>
    rintro l pre ⟨⟨d, x⟩, u⟩ W K hnx hK
    have hat : AtT w2 w.heap.size x u := hnx.2
    obtain ⟨_, _, _, a', c', rfl, _⟩ := hat.parts
    clear hnx hat
    unfold encX
    unfold gX cellsX at hK
    simp only at hK
    gi_wp2
    exact hK
  case own1 =>
    rintro O O' pre X Y row ⟨k1, k2, k3⟩ hg hr hO
    have hs := HSz2.out
    have hs1 := HSz1.out
    unfold Hid at hs hs1
    refine ⟨k1, k2.grow (h := w2.heap.size) (by omega) hg (fun r e => (hr r e).1), fun b hb => ?_⟩
    rcases hO b hb with h | h
    · exact k3 b h
    · have := k2.2.2.2.2; omega
  case own2 =>
    rintro cc pre X Y row ⟨k0, k1, k2⟩ hg hr
    have hs := HSz2.out
    have hs1 := HSz1.out
    unfold Hid at hs hs1
    exact ⟨k0, k1, k2.grow (h := w2.heap.size) (by omega) hg (fun r e => (hr r e).1)⟩
  case body =>
    rintro l' O pre ⟨⟨d, x⟩, u⟩ W X hW ⟨k1, k2, k3⟩ hnx hXs hXn
    have hat : AtT w2 w.heap.size x u := hnx.2
    obtain ⟨_, _, _, a', c', rfl, _⟩ := hat.parts
    have hnew := hXn W.heap.size hW
    unfold gX cellsX at hnew
    rw [World.alloc_heap_new] at hnew
    have hnew2 : X.heap[W.heap.size]? = some (.cells #[.int .i64 x.page, .string x.name, .string x.text, .bool x.opq, .slice a' x.kids.length c'] 46 (0, 0)) := hnew
    have y2 : X.cell? ⟨W.heap.size, 2, none⟩ = some (.string x.text) := cell_block hnew2 2 _ rfl
    have y3 : X.cell? ⟨W.heap.size, 3, none⟩ = some (.bool x.opq) := cell_block hnew2 3 _ rfl
    have y4 : X.cell? ⟨W.heap.size, 4, none⟩ = some (.slice a' x.kids.length c') := cell_block hnew2 4 _ rfl
    have b2 := k2.2.2.1.cell
    have f2 := k2.2.2.1.frozen
    have HPs := Lib.hid k2
    have HO := Lib.hid k3
    have hgood : (1 < d → badE x = false) → ∀ u : Value, okP (pre ++ [((d, x), u)]) := fun h u p hm => by
      rcases List.mem_append.1 hm with h2 | h2
      · exact k1 p h2
      · rw [List.mem_singleton] at h2; subst h2; exact h
    have hbad : (1 < d ∧ badE x = true) → ∀ u : Value, badP (pre ++ [((d, x), u)]) := fun h u => ⟨_, List.mem_append_right _ List.mem_cons_self, h⟩
    have hbe : badE x = (x.opq || (decide (x.text.size = 0) && decide (x.kids.length = 0))) := rfl
    rw [hbe] at hgood hbad
    clear hnx hat hXs hXn hnew hnew2 k1 k2 k3 hbe hW
    show Code.wpIn _ _ _ _ _ _ _
    by_cases hd : 1 < d
    · have d1 : (1 : Int) < (d : Int) := by omega
      cases ho : x.opq with
      | true =>
        have HBad := Lib.hid (hbad ⟨hd, by rw [ho]; rfl⟩)
        rw [ho] at y3
        clear hgood hbad hd
        gi_upto_region 10 with fail
        gi_wp2_with (refine wpListIn_store_row _ rfl 23 (.tmp 2) (.tmp 52) rfl (w.heap.size + 1) #[.string ⟨#[]⟩, .string ⟨#[]⟩, .int .i64 0, .int .i64 0, .string ⟨#[]⟩, .string ⟨#[]⟩, .string ⟨#[]⟩, .int .i64 0, .int .i64 0] rfl rfl 23 _ HPs.out.2.1 (by kernel_rfl) rfl (by simp [Value.oneCell']) ?_; rw [setRow_self _ _ _ _ _ HPs.out.2.1])
        exact ⟨(KeepsOthers.setCell _ _ _).from _, rfl, HBad.out _, (Below.heap_setCell _ _ _ _ (by show w.heap.size ≠ w.heap.size + 1 + 1; omega)).trans HPs.out.1, (Below.heap_setCell _ _ _ _ (by show w.heap.size + 1 ≠ w.heap.size + 1 + 1; omega)).trans HPs.out.2.1, HPs.out.2.2.1.set _, HPs.out.2.2.2.1.setCell (p := ⟨w.heap.size + 1 + 1, 0, none⟩) (by show w.heap.size ≤ w.heap.size + 1 + 1; omega) _, by rw [size_setCell]; exact HPs.out.2.2.2.2⟩
      | false =>
        rw [ho] at y3
        by_cases hs : x.text.size = 0
        · have i1 := emptyB x.text hs
          by_cases hk0 : x.kids.length = 0
          · have q0 : ((x.kids.length : Int) == 0) = true := by rw [hk0]; rfl
            have HBad := Lib.hid (hbad ⟨hd, by rw [ho, decide_eq_true hs, decide_eq_true hk0]; rfl⟩)
            clear hgood hbad hd hs hk0
            generalize x.kids.length = kl at *
            gi_upto_region 10 with fail
            gi_wp2_with (refine wpListIn_store_row _ rfl 23 (.tmp 2) (.tmp 52) rfl (w.heap.size + 1) #[.string ⟨#[]⟩, .string ⟨#[]⟩, .int .i64 0, .int .i64 0, .string ⟨#[]⟩, .string ⟨#[]⟩, .string ⟨#[]⟩, .int .i64 0, .int .i64 0] rfl rfl 23 _ HPs.out.2.1 (by kernel_rfl) rfl (by simp [Value.oneCell']) ?_; rw [setRow_self _ _ _ _ _ HPs.out.2.1])
            exact ⟨(KeepsOthers.setCell _ _ _).from _, rfl, HBad.out _, (Below.heap_setCell _ _ _ _ (by show w.heap.size ≠ w.heap.size + 1 + 1; omega)).trans HPs.out.1, (Below.heap_setCell _ _ _ _ (by show w.heap.size + 1 ≠ w.heap.size + 1 + 1; omega)).trans HPs.out.2.1, HPs.out.2.2.1.set _, HPs.out.2.2.2.1.setCell (p := ⟨w.heap.size + 1 + 1, 0, none⟩) (by show w.heap.size ≤ w.heap.size + 1 + 1; omega) _, by rw [size_setCell]; exact HPs.out.2.2.2.2⟩
          · have q0 : ((x.kids.length : Int) == 0) = false := by rw [beq_eq_false_iff_ne]; omega
            have HGood := Lib.hid (hgood (fun _ => by rw [ho, decide_eq_false hk0, Bool.and_false]; rfl))
            clear hgood hbad hd hs hk0
            gi_wp2_with fail
            exact ⟨KeepsFrom.refl _ _, KpG.refl _ _ _, HGood.out _, HPs.out, HO.out⟩
        · have i1 := not_empty x.text hs
          have HGood := Lib.hid (hgood (fun _ => by rw [ho, decide_eq_false hs, Bool.false_and]; rfl))
          clear hgood hbad hd hs
          gi_wp2_with fail
          exact ⟨KeepsFrom.refl _ _, KpG.refl _ _ _, HGood.out _, HPs.out, HO.out⟩
    · have d1 : ¬ (1 : Int) < (d : Int) := by omega
      have HGood := Lib.hid (hgood (fun h => absurd h hd))
      clear hgood hbad hd
      gi_wp2_with fail
      exact ⟨KeepsFrom.refl _ _, KpG.refl _ _ _, HGood.out _, HPs.out, HO.out⟩
  case done =>
    rintro D O ys X hD hys ⟨k1, k2, k3⟩ hK
    have hV : ofV e = sayV e := ofV_say HP.out HN.out HG.out (fun q hq h => by
      rw [← hys] at hq
      obtain ⟨y, hy, rfl⟩ := List.mem_map.1 hq
      exact k1 y hy h)
    have HR : Hid (ofV e = if (foldV met0 e.kids).2 = 0 then endV (foldV met0 e.kids).1 else (met0, (foldV met0 e.kids).2)) := hV
    have HKf : Hid (∀ k ∈ e.kids, SmallK k) := fun k hk2 => smallK HG.out hk2
    have HKl : Hid (e.kids.length ≤ 200) := by obtain ⟨_, _, _, _, _, _, _, h⟩ := chkG_self HG.out; exact h
    have HDz : Hid (w.heap.size + 3 ≤ D) := by have h2 := HSz2.out; have h3 := HSz1.out; unfold Hid at *; omega
    have y4 : (X.alloc (.cells #[.string ⟨#[]⟩, .string ⟨#[]⟩, .int .i64 0, .int .i64 0, .string ⟨#[]⟩, .string ⟨#[]⟩, .string ⟨#[]⟩, .int .i64 0, .int .i64 0] 23)).cell? ⟨w.heap.size, 4, none⟩ = some (.slice a e.kids.length c) := cell_block ((Below.heap_alloc _ _ _ (Array.getElem?_eq_some_iff.1 k2.1).1).trans k2.1) 4 _ rfl
    have HOS : Hid (OSt w.heap.size D X.heap.size met0 (X.alloc (.cells #[.string ⟨#[]⟩, .string ⟨#[]⟩, .int .i64 0, .int .i64 0, .string ⟨#[]⟩, .string ⟨#[]⟩, .string ⟨#[]⟩, .int .i64 0, .int .i64 0] 23))) := by
      have hz3 := k2.2.2.1.lt
      have hDl := (Array.getElem?_eq_some_iff.1 hK).1
      have h1' := (Array.getElem?_eq_some_iff.1 k2.2.1).1
      exact ⟨trivial, (Below.heap_alloc _ _ _ h1').trans k2.2.1, k2.2.2.1.alloc _, (Below.heap_alloc _ _ _ hDl).trans hK, World.alloc_heap_new X _, by omega, hDl⟩
    have HXm : Hid (Below w.heap.size w (X.alloc (.cells #[.string ⟨#[]⟩, .string ⟨#[]⟩, .int .i64 0, .int .i64 0, .string ⟨#[]⟩, .string ⟨#[]⟩, .string ⟨#[]⟩, .int .i64 0, .int .i64 0] 23))) := k2.2.2.2.1.alloc k2.2.2.2.1.size _
    clear hV hys k1 k2 k3 hK hD HN HG HV HX2 HP2 hG HP
    generalize hRo : ofV e = R at *
    have HRo := Lib.hid hRo
    clear hRo
    obtain ⟨ks, hks⟩ : ∃ ks, e.kids = ks := ⟨_, rfl⟩
    rw [hks] at HR HKf HKl HKs y4 ⊢
    clear hks
    generalize e.name = nm at *
    generalize e.text = tx at *
    generalize e.opq = o at *
    generalize hnk : ks.length = nk at *
    have HNK := Lib.hid hnk
    clear hnk
    simp only [Exit.inBlock, Exit.then]
    refine HKc.out _ _ ?_
    gi_wp2_with fail
    generalize hbm : X.heap.size = bm at *
    generalize X.alloc (.cells #[.string ⟨#[]⟩, .string ⟨#[]⟩, .int .i64 0, .int .i64 0, .string ⟨#[]⟩, .string ⟨#[]⟩, .string ⟨#[]⟩, .int .i64 0, .int .i64 0] 23) = wm at *
    clear hbm y4
    gi_loopw [10, 11, 56] (fun _ _ iv wr => ∃ (i : Nat) (m : MetV), i ≤ nk ∧ iv = .int .i64 (i : Int) ∧ Hid (OSt w.heap.size D bm m wr) ∧ Hid (Below w.heap.size w wr) ∧ Hid (foldV met0 ks = foldV m (ks.drop i)) ∧ Hid (SmallM m)) (fun _ _ iv _ => nk - (intOf iv).toNat)
    case atStart => exact ⟨0, met0, Nat.zero_le _, rfl, HOS.out, HXm.out, rfl, by unfold Hid SmallM met0; decide⟩
    case round =>
      obtain ⟨i, m, hi, rfl, HO, HX, HFo, HSm⟩ := hrel
      clear HOS HXm
      by_cases hlt : i < nk
      · have j3 : (i : Int) < (nk : Int) := by omega
        have d3 : decide (i < nk) = true := by simp; omega
        have HMs : Hid (nk - (intOf (.int .i64 ((i : Int) + 1))).toNat < nk - (intOf (.int .i64 (i : Int))).toNat) := by unfold Hid; simp [intOf]; omega
        have HI1 : Hid (i + 1 ≤ nk) := hlt
        have hik : i < ks.length := by rw [HNK.out]; exact hlt
        have hw1 : wrap64 ((i : Int) + 1) = (i : Int) + 1 := by
          have h1 := HKl.out
          unfold Hid at h1
          unfold wrap64; omega
        have HW1 := Lib.hid hw1
        obtain ⟨bb, oo, a2, c2, rfl, hbb, hrg0, hat⟩ := HKs.out.kid i hik
        have hrg := range_below hrg0 HX.out hbb
        obtain ⟨x0, x1, x2, x3, x4⟩ := elem_cells hrg
        obtain ⟨hk1, hk2, hk3⟩ := HKf.out ks[i] (List.getElem_mem hik)
        obtain ⟨_, _, _, a2', c2', he2, hkk0⟩ := hat.parts
        have hkk : AtL w w.heap.size a2 0 ks[i].kids := by
          have h2 : a2 = a2' ∧ c2 = c2' := by simpa using he2
          rw [h2.1]; exact hkk0
        have HSm2 : Hid (SmallM (takeV m ks[i].name ks[i].text ks[i].kids).1) := takeV_small HSm.out hk2 hk3
        have cT := Lib.hid (fun X (hX : Below w.heap.size w X) (hm : MetB bm m X) => take_any bm m ks[i].page ks[i].name ks[i].text ks[i].opq a2 c2 w.heap.size ks[i].kids X (Nat.le_trans (Nat.le_add_right _ 3) HO.out.2.2.2.2.2.1) (AtL.below hX a2 ks[i].kids 0 hkk) (by omega) (by omega) hm)
        have hdrop : ks.drop i = ks[i] :: ks.drop (i + 1) := List.drop_eq_getElem_cons hik
        have hst : Hid ((takeV m ks[i].name ks[i].text ks[i].kids).2 = 0 → foldV met0 ks = foldV (takeV m ks[i].name ks[i].text ks[i].kids).1 (ks.drop (i + 1))) := fun h => by
          rw [HFo.out, hdrop, foldV]; exact if_pos h
        have herr : Hid ((takeV m ks[i].name ks[i].text ks[i].kids).2 ≠ 0 → foldV met0 ks = takeV m ks[i].name ks[i].text ks[i].kids) := fun h => by
          rw [HFo.out, hdrop, foldV]; exact if_neg h
        clear hrg hrg0 hbb hat hk1 hk2 hk3 he2 hkk0 hkk hdrop HFo hlt hi hw1
        unfold TakeP at cT
        generalize ks[i] = ke at *
        clear hik
        generalize takeV m ke.name ke.text ke.kids = tv at *
        obtain ⟨m2, f⟩ := tv
        generalize ke.page = kp at *
        generalize ke.name = kn at *
        generalize ke.text = kt at *
        generalize ke.opq = ko at *
        generalize ke.kids.length = kl at *
        have HXk : Hid (Below w.heap.size w (wr.alloc (.cells #[.int .i64 kp, .string kn, .string kt, .bool ko, .slice a2 kl c2] 46))) := HX.out.alloc HX.out.size _
        have HO1 : Hid (OSt w.heap.size D bm m (wr.alloc (.cells #[.int .i64 kp, .string kn, .string kt, .bool ko, .slice a2 kl c2] 46))) := HO.out.below ((Below.refl _ _).alloc (Nat.le_refl _) _)
        simp only [] at cT hst herr HSm2
        gi_wp2_with fail
        refine ⟨trivial, (callsIn_wide.2 (cT.out _ HXk.out HO1.out.2.2.2.2.1)).mono ?_⟩
        rintro r Y ⟨rfl, hmY, hoY⟩
        have HXY : Hid (Below w.heap.size w Y) := HXk.out.trans (hoY.below (Nat.le_trans (Nat.le_add_right _ 3) HO1.out.2.2.2.2.2.1) HXk.out.size)
        have HOY : Hid (OSt w.heap.size D bm m2 Y) := HO1.out.only hoY hmY
        clear hmY hoY x0 x1 x2 x3 x4 cT
        have hw1 := HW1.out
        by_cases hf : f = 0
        · have HFo2 := Lib.hid (hst.out hf)
          subst hf
          gi_wp2_with fail
          go_roundw
          case rel => exact ⟨i + 1, m2, HI1.out, by go_num, HOY.out, HXY.out, HFo2.out, HSm2.out⟩
          case measure => first | exact HMs.out | (rw [HW1.out]; exact HMs.out)
        · have q1 : (f != 0) = true := bne_iff_ne.2 hf
          have HRR : Hid (R = (met0, f)) := by unfold Hid; rw [HR.out, herr.out hf, if_neg hf]
          clear hst herr hf
          have HB2 : Hid (Boxed Y (w.heap.size + 1 + 1) 35 (.int .i64 0)) := HOY.out.2.2.1
          have b2 := HOY.out.2.2.1.cell
          have f2 := HOY.out.2.2.1.frozen
          have HYf : Hid ((Y.setCell ⟨w.heap.size + 1 + 1, 0, none⟩ (.int .i64 f)).heap[D]? = some (.deferred (some []))) := (Below.heap_setCell _ _ _ _ (by show D ≠ w.heap.size + 1 + 1; have := HDz.out; unfold Hid at this; omega)).trans (HOY.out.2.2.2.1)
          have e1 : ((Y.setCell ⟨w.heap.size + 1 + 1, 0, none⟩ (.int .i64 f)).putObj D (.deferred none)).heap[w.heap.size + 1]? = some (.cells #[.string ⟨#[]⟩, .string ⟨#[]⟩, .int .i64 0, .int .i64 0, .string ⟨#[]⟩, .string ⟨#[]⟩, .string ⟨#[]⟩, .int .i64 0, .int .i64 0] 23 (0, 0)) := (World.putObj_heap_other (by have := HDz.out; unfold Hid at this; omega)).trans ((Below.heap_setCell _ _ _ _ (by show w.heap.size + 1 ≠ w.heap.size + 1 + 1; omega)).trans (HOY.out.2.1))
          have e2 : Boxed ((Y.setCell ⟨w.heap.size + 1 + 1, 0, none⟩ (.int .i64 f)).putObj D (.deferred none)) (w.heap.size + 1 + 1) 35 (.int .i64 f) := (World.putObj_heap_other (by have := HDz.out; unfold Hid at this; omega)).trans (Boxed.set _ HB2.out)
          have E1 := Lib.hid e1
          have E2 := Lib.hid e2
          clear e1 e2
          gi_upto_region 17 with fail
          gi_wp2_with (refine wpListIn_store_row _ rfl 23 (.tmp 2) (.tmp 64) rfl (w.heap.size + 1) #[.string ⟨#[]⟩, .string ⟨#[]⟩, .int .i64 0, .int .i64 0, .string ⟨#[]⟩, .string ⟨#[]⟩, .string ⟨#[]⟩, .int .i64 0, .int .i64 0] rfl rfl 23 _ HOY.out.2.1 (by kernel_rfl) rfl (by simp [Value.oneCell']) ?_; rw [setRow_self _ _ _ _ _ HOY.out.2.1])
          refine ⟨by simp, .inl ⟨_, _, rfl, run_takeDeferred HYf.out, ?_⟩⟩
          refine ⟨_, results_cell2 rfl rfl rfl (run_loadVar_row _ (w.heap.size + 1) 23 23 #[.string ⟨#[]⟩, .string ⟨#[]⟩, .int .i64 0, .int .i64 0, .string ⟨#[]⟩, .string ⟨#[]⟩, .string ⟨#[]⟩, .int .i64 0, .int .i64 0] (0, 0) _ E1.out Tryd.underlying23 rfl (by kernel_rfl)) (run_loadVar_cell (Boxed.cell E2.out) (by kernel_rfl)), ?_, ?_⟩
          · first | (rw [HRo.out, HRR.out]; done) | (rw [HRo.out, HRR.out]; rfl)
          · exact (HXY.out.setCell (p := ⟨w.heap.size + 1 + 1, 0, none⟩) (by show w.heap.size ≤ w.heap.size + 1 + 1; omega) _).trans (below_put _ D _ (by have := HDz.out; unfold Hid at this; omega))
      · have j3 : ¬ (i : Int) < (nk : Int) := by omega
        obtain rfl : i = nk := by omega
        have hdr : ks.drop i = [] := List.drop_of_length_le (by rw [HNK.out]; exact Nat.le_refl _)
        have hF : foldV met0 ks = (m, 0) := by rw [HFo.out, hdr]; rfl
        have hR : R = endV m := by rw [HR.out, hF, if_pos rfl]
        have hE : endV m = if chkMV m = 0 then (m, 0) else (met0, chkMV m) := rfl
        rw [hE] at hR
        obtain ⟨s1, s2, s3, s4, s5⟩ := HSm.out
        have cK := Lib.hid (fun X (hX : Below w.heap.size w X) => metCheck_any m.fo m.ty m.sz m.ve m.la m.ne m.no m.mm m.mo (by omega) (by omega) (by omega) (by omega) (by omega) X (HT.out X hX).1)
        have HCk : Hid (chkM m.fo m.ty m.sz m.ve m.la m.ne m.no m.mm m.mo = chkMV m) := rfl
        rw [HCk.out] at cK
        have v0 := HO.out.2.2.2.2.1.cell 0 _ rfl
        have v1 := HO.out.2.2.2.2.1.cell 1 _ rfl
        have v2 := HO.out.2.2.2.2.1.cell 2 _ rfl
        have v3 := HO.out.2.2.2.2.1.cell 3 _ rfl
        have v4 := HO.out.2.2.2.2.1.cell 4 _ rfl
        have v5 := HO.out.2.2.2.2.1.cell 5 _ rfl
        have v6 := HO.out.2.2.2.2.1.cell 6 _ rfl
        have v7 := HO.out.2.2.2.2.1.cell 7 _ rfl
        have v8 := HO.out.2.2.2.2.1.cell 8 _ rfl
        clear hdr hF hE s1 s2 s3 s4 s5 HR HKf HFo hi hlt
        generalize chkMV m = f at *
        clear HCk
        by_cases hf : f = 0
        · have HRR : Hid (R = (m, 0)) := by rw [hR, if_pos hf]; rfl
          subst hf
          clear hR
          gi_wp2_with fail
          refine ⟨trivial, (callsIn_wide.2 (cK.out wr HX.out)).mono ?_⟩
          rintro r Y ⟨rfl, hb1⟩
          have HOY := Lib.hid (HO.out.below hb1)
          have HXY := Lib.hid (HX.out.trans (hb1.mono HX.out.size))
          have u0 := HOY.out.2.2.2.2.1.cell 0 _ rfl
          have u1 := HOY.out.2.2.2.2.1.cell 1 _ rfl
          have u2 := HOY.out.2.2.2.2.1.cell 2 _ rfl
          have u3 := HOY.out.2.2.2.2.1.cell 3 _ rfl
          have u4 := HOY.out.2.2.2.2.1.cell 4 _ rfl
          have u5 := HOY.out.2.2.2.2.1.cell 5 _ rfl
          have u6 := HOY.out.2.2.2.2.1.cell 6 _ rfl
          have u7 := HOY.out.2.2.2.2.1.cell 7 _ rfl
          have u8 := HOY.out.2.2.2.2.1.cell 8 _ rfl
          clear hb1 v0 v1 v2 v3 v4 v5 v6 v7 v8 cK
          have HB2 : Hid (Boxed (Y.setRow (w.heap.size + 1) m.cells) (w.heap.size + 1 + 1) 35 (.int .i64 0)) := (setRow_other _ _ _ _ (by omega)).trans HOY.out.2.2.1
          have b2 := Boxed.cell HB2.out
          have f2 := Boxed.frozen HB2.out
          have HYf : Hid (((Y.setRow (w.heap.size + 1) m.cells).setCell ⟨w.heap.size + 1 + 1, 0, none⟩ (.int .i64 0)).heap[D]? = some (.deferred (some []))) := (Below.heap_setCell _ _ _ _ (by show D ≠ w.heap.size + 1 + 1; have := HDz.out; unfold Hid at this; omega)).trans ((setRow_other _ _ _ _ (by have := HDz.out; unfold Hid at this; omega)).trans HOY.out.2.2.2.1)
          have e1 : (((Y.setRow (w.heap.size + 1) m.cells).setCell ⟨w.heap.size + 1 + 1, 0, none⟩ (.int .i64 0)).putObj D (.deferred none)).heap[w.heap.size + 1]? = some (.cells m.cells 23 (0, 0)) := (World.putObj_heap_other (by have := HDz.out; unfold Hid at this; omega)).trans ((Below.heap_setCell _ _ _ _ (by show w.heap.size + 1 ≠ w.heap.size + 1 + 1; omega)).trans (setRow_heap _ _ _ _ _ _ HOY.out.2.1))
          have e2 : Boxed (((Y.setRow (w.heap.size + 1) m.cells).setCell ⟨w.heap.size + 1 + 1, 0, none⟩ (.int .i64 0)).putObj D (.deferred none)) (w.heap.size + 1 + 1) 35 (.int .i64 0) := (World.putObj_heap_other (by have := HDz.out; unfold Hid at this; omega)).trans (Boxed.set _ HB2.out)
          have E1 := Lib.hid e1
          have E2 := Lib.hid e2
          clear e1 e2
          gi_upto_region 22 with fail
          gi_wp2_with (refine wpListIn_store_row _ rfl 23 (.tmp 2) (.tmp 73) rfl (w.heap.size + 1) m.cells rfl rfl 23 _ HOY.out.2.1 (by kernel_rfl) rfl (by simp [MetV.cells, Value.oneCell']) ?_)
          refine ⟨by simp, .inl ⟨_, _, rfl, run_takeDeferred HYf.out, ?_⟩⟩
          refine ⟨_, results_cell2 rfl rfl rfl (run_loadVar_row _ (w.heap.size + 1) 23 23 m.cells (0, 0) _ E1.out Tryd.underlying23 rfl (by kernel_rfl)) (run_loadVar_cell (Boxed.cell E2.out) (by kernel_rfl)), ?_, ?_⟩
          · first | (rw [HRo.out, HRR.out]; done) | (rw [HRo.out, HRR.out]; rfl)
          · exact ((HXY.out.trans (below_setRow _ _ (Nat.le_succ _))).setCell (p := ⟨w.heap.size + 1 + 1, 0, none⟩) (by show w.heap.size ≤ w.heap.size + 1 + 1; omega) _).trans (below_put _ D _ (by have := HDz.out; unfold Hid at this; omega))
        · have HRR : Hid (R = (met0, f)) := by rw [hR, if_neg hf]; rfl
          have q1 : (f != 0) = true := bne_iff_ne.2 hf
          clear hR hf
          gi_wp2_with fail
          refine ⟨trivial, (callsIn_wide.2 (cK.out wr HX.out)).mono ?_⟩
          rintro r Y ⟨rfl, hb1⟩
          have HOY := Lib.hid (HO.out.below hb1)
          have HXY := Lib.hid (HX.out.trans (hb1.mono HX.out.size))
          clear hb1 v0 v1 v2 v3 v4 v5 v6 v7 v8 cK
          have HB2 : Hid (Boxed Y (w.heap.size + 1 + 1) 35 (.int .i64 0)) := HOY.out.2.2.1
          have b2 := HOY.out.2.2.1.cell
          have f2 := HOY.out.2.2.1.frozen
          have HYf : Hid ((Y.setCell ⟨w.heap.size + 1 + 1, 0, none⟩ (.int .i64 f)).heap[D]? = some (.deferred (some []))) := (Below.heap_setCell _ _ _ _ (by show D ≠ w.heap.size + 1 + 1; have := HDz.out; unfold Hid at this; omega)).trans (HOY.out.2.2.2.1)
          have e1 : ((Y.setCell ⟨w.heap.size + 1 + 1, 0, none⟩ (.int .i64 f)).putObj D (.deferred none)).heap[w.heap.size + 1]? = some (.cells #[.string ⟨#[]⟩, .string ⟨#[]⟩, .int .i64 0, .int .i64 0, .string ⟨#[]⟩, .string ⟨#[]⟩, .string ⟨#[]⟩, .int .i64 0, .int .i64 0] 23 (0, 0)) := (World.putObj_heap_other (by have := HDz.out; unfold Hid at this; omega)).trans ((Below.heap_setCell _ _ _ _ (by show w.heap.size + 1 ≠ w.heap.size + 1 + 1; omega)).trans (HOY.out.2.1))
          have e2 : Boxed ((Y.setCell ⟨w.heap.size + 1 + 1, 0, none⟩ (.int .i64 f)).putObj D (.deferred none)) (w.heap.size + 1 + 1) 35 (.int .i64 f) := (World.putObj_heap_other (by have := HDz.out; unfold Hid at this; omega)).trans (Boxed.set _ HB2.out)
          have E1 := Lib.hid e1
          have E2 := Lib.hid e2
          clear e1 e2
          gi_upto_region 21 with fail
          gi_wp2_with (refine wpListIn_store_row _ rfl 23 (.tmp 2) (.tmp 71) rfl (w.heap.size + 1) #[.string ⟨#[]⟩, .string ⟨#[]⟩, .int .i64 0, .int .i64 0, .string ⟨#[]⟩, .string ⟨#[]⟩, .string ⟨#[]⟩, .int .i64 0, .int .i64 0] rfl rfl 23 _ HOY.out.2.1 (by kernel_rfl) rfl (by simp [Value.oneCell']) ?_; rw [setRow_self _ _ _ _ _ HOY.out.2.1])
          refine ⟨by simp, .inl ⟨_, _, rfl, run_takeDeferred HYf.out, ?_⟩⟩
          refine ⟨_, results_cell2 rfl rfl rfl (run_loadVar_row _ (w.heap.size + 1) 23 23 #[.string ⟨#[]⟩, .string ⟨#[]⟩, .int .i64 0, .int .i64 0, .string ⟨#[]⟩, .string ⟨#[]⟩, .string ⟨#[]⟩, .int .i64 0, .int .i64 0] (0, 0) _ E1.out Tryd.underlying23 rfl (by kernel_rfl)) (run_loadVar_cell (Boxed.cell E2.out) (by kernel_rfl)), ?_, ?_⟩
          · first | (rw [HRo.out, HRR.out]; done) | (rw [HRo.out, HRR.out]; rfl)
          · exact (HXY.out.setCell (p := ⟨w.heap.size + 1 + 1, 0, none⟩) (by show w.heap.size ≤ w.heap.size + 1 + 1; omega) _).trans (below_put _ D _ (by have := HDz.out; unfold Hid at this; omega))
  case stop =>
    rintro D cc pre X hD hpre ⟨rfl, ⟨q, hq, hq1, hq2⟩, k2⟩ hK
    have HRR : Hid (ofV e = (met0, 3)) := ofV_bad HP.out HN.out HG.out ⟨q.1, hpre.subset (List.mem_map.2 ⟨q, hq, rfl⟩), hq1, hq2⟩
    have HDz : Hid (w.heap.size + 3 ≤ D) := by have h2 := HSz2.out; have h3 := HSz1.out; unfold Hid at *; omega
    have e1 : (X.putObj D (.deferred none)).heap[w.heap.size + 1]? = some (.cells #[.string ⟨#[]⟩, .string ⟨#[]⟩, .int .i64 0, .int .i64 0, .string ⟨#[]⟩, .string ⟨#[]⟩, .string ⟨#[]⟩, .int .i64 0, .int .i64 0] 23 (0, 0)) := (World.putObj_heap_other (by have := HDz.out; unfold Hid at this; omega)).trans k2.2.1
    have e2 : Boxed (X.putObj D (.deferred none)) (w.heap.size + 1 + 1) 35 (.int .i64 3) := (World.putObj_heap_other (by have := HDz.out; unfold Hid at this; omega)).trans k2.2.2.1
    have E1 := Lib.hid e1
    have E2 := Lib.hid e2
    have HXY := Lib.hid k2.2.2.2.1
    clear e1 e2 hpre hq hq1 hq2 k2
    gi_wp2
    refine ⟨by simp, .inl ⟨_, _, rfl, run_takeDeferred hK, ?_⟩⟩
    refine ⟨_, results_cell2 rfl rfl rfl (run_loadVar_row _ (w.heap.size + 1) 23 23 #[.string ⟨#[]⟩, .string ⟨#[]⟩, .int .i64 0, .int .i64 0, .string ⟨#[]⟩, .string ⟨#[]⟩, .string ⟨#[]⟩, .int .i64 0, .int .i64 0] (0, 0) _ E1.out Tryd.underlying23 rfl (by kernel_rfl)) (run_loadVar_cell (Boxed.cell E2.out) (by kernel_rfl)), ?_, ?_⟩
    · rw [HRR.out]; rfl
    · exact HXY.out.trans (below_put _ D _ (by have := HDz.out; unfold Hid at this; omega))
end Go.Proofs.YtgechifbbhipaaaDoor

/- MetinfReads: the law's walk, and the law. No condition but the tables. -/
set_option linter.unusedVariables false
set_option linter.unusedSimpArgs false
namespace Go.Proofs.YtgechifbbhipaaaDoor
open Go.RowKit Go.Shelf

theorem metOf_any (e : Tr) (v : Value) (w : World) (m : Int) (hv : AtT w w.heap.size e v) (hT : TabG m w) :
    Calls Tryd.prog 35 #[v] w fun r w' => r = .returned (.tuple #[.agg (ofV e).1.cells, .int .i64 (ofV e).2]) ∧ Below w.heap.size w w' := by
  by_cases h : (e.page ≠ 0 ∨ e.name ≠ metaN) ∨ (chkG e).2 ≠ 0
  · exact metOf_early e v w m hv hT h
  · have h1 : e.page = 0 := Decidable.byContradiction fun k => h (.inl (.inl k))
    have h2 : e.name = metaN := Decidable.byContradiction fun k => h (.inl (.inr k))
    have h3 : (chkG e).2 = 0 := Decidable.byContradiction fun k => h (.inr k)
    exact metOf_main e v w m hv hT h1 h2 h3

set_option maxHeartbeats 2000000 in
theorem run_eq23 (a0 b0 : ByteArray) (a1 b1 : ByteArray) (a2 b2 : Int) (a3 b3 : Int) (a4 b4 : ByteArray) (a5 b5 : ByteArray) (a6 b6 : ByteArray) (a7 b7 : Int) (a8 b8 : Int) (w : World) : (binOp .eql 23 (.agg #[.string a0, .string a1, .int .i64 a2, .int .i64 a3, .string a4, .string a5, .string a6, .int .i64 a7, .int .i64 a8]) (.agg #[.string b0, .string b1, .int .i64 b2, .int .i64 b3, .string b4, .string b5, .string b6, .int .i64 b7, .int .i64 b8])).run Tryd.prog w = .ok (.bool (decide (a0 = b0 ∧ a1 = b1 ∧ a2 = b2 ∧ a3 = b3 ∧ a4 = b4 ∧ a5 = b5 ∧ a6 = b6 ∧ a7 = b7 ∧ a8 = b8))) w := by
  rw [run_eql_struct, run_equalIn_struct w _ 23 _ _ (by kernel_rfl) (by kernel_rfl)]
  have e : ∀ a b : ByteArray, a.toList = b.toList ↔ a = b := fun a b => by
    rw [ByteArray.toList_eq, ByteArray.toList_eq]
    exact ⟨fun h => ByteArray.ext (Array.toList_inj.1 h), fun h => by rw [h]⟩
  simp [go_sem, e]
  by_cases h0 : a0 = b0
  case neg => simp [h0]
  by_cases h1 : a1 = b1
  case neg => simp [h0, h1]
  by_cases h2 : a2 = b2
  case neg => simp [h0, h1, h2]
  by_cases h3 : a3 = b3
  case neg => simp [h0, h1, h2, h3]
  by_cases h4 : a4 = b4
  case neg => simp [h0, h1, h2, h3, h4]
  by_cases h5 : a5 = b5
  case neg => simp [h0, h1, h2, h3, h4, h5]
  by_cases h6 : a6 = b6
  case neg => simp [h0, h1, h2, h3, h4, h5, h6]
  by_cases h7 : a7 = b7
  case neg => simp [h0, h1, h2, h3, h4, h5, h6, h7]
  by_cases h8 : a8 = b8
  case neg => simp [h0, h1, h2, h3, h4, h5, h6, h7, h8]
  simp [h0, h1, h2, h3, h4, h5, h6, h7, h8]
theorem run_same23 (a0 a1 : ByteArray) (a2 a3 : Int) (a4 a5 a6 : ByteArray) (a7 a8 : Int) (w : World) : (binOp .eql 23 (.agg #[.string a0, .string a1, .int .i64 a2, .int .i64 a3, .string a4, .string a5, .string a6, .int .i64 a7, .int .i64 a8]) (.agg #[.string a0, .string a1, .int .i64 a2, .int .i64 a3, .string a4, .string a5, .string a6, .int .i64 a7, .int .i64 a8])).run Tryd.prog w = .ok (.bool true) w := by
  rw [run_eq23]; simp

set_option maxRecDepth 100000 in
set_option maxHeartbeats 2000000 in
theorem metinfReads_walk (e : Tr) (v : Value) (w : World) (m : Int) (hv : AtT w w.heap.size e v) (hT : TabG m w) :
    Calls Tryd.prog 7 #[v] w fun r w' => r = .returned (.bool true) ∧ Below w.heap.size w w' := by
  obtain ⟨hz1, hz2, hz3, a, c, rfl, hk⟩ := hv.parts
  have cG := Lib.hid (fun X (hX : Below w.heap.size w X) => great_any e _ X (AtT.mono hX.size _ _ (AtT.below hX _ _ hv)))
  have cO := Lib.hid (fun X (hX : Below w.heap.size w X) => metOf_any e _ X m (AtT.mono hX.size _ _ (AtT.below hX _ _ hv)) (hT.below hX))
  have cR := Lib.hid (fun X (hX : Below w.heap.size w X) => refOf_any e _ X (AtT.mono hX.size _ _ (AtT.below hX _ _ hv)))
  have HBox : Hid (Below w.heap.size w (w.alloc (.cells #[.int .i64 e.page, .string e.name, .string e.text, .bool e.opq, .slice a e.kids.length c] 46))) := (Below.refl _ w).alloc (Nat.le_refl _) _
  clear hv hT hk hz1 hz2 hz3
  generalize ofV e = R at *
  obtain ⟨⟨fo, ty, sz, ve, la, ne, no, mm, mo⟩, f⟩ := R
  simp only [MetV.cells] at cO cR
  generalize greatV e = g at *
  generalize e.page = p at *
  generalize e.name = nm at *
  generalize e.text = tx at *
  generalize e.opq = o at *
  generalize e.kids.length = nk at *
  have hq := fun w => run_same23 fo ty sz ve la ne no mm mo w
  cases g with
  | true =>
    go_enter Tryd.func7, Tryd.ntmps7
    go_wp2_with fail
    refine (cG.out _ HBox.out).mono ?_
    rintro r X ⟨rfl, hb1⟩
    go_wp2_with fail
    go_ret
    exact ⟨rfl, HBox.out.trans (hb1.mono HBox.out.size)⟩
  | false =>
    go_enter Tryd.func7, Tryd.ntmps7
    go_wp2_with fail
    refine (cG.out _ HBox.out).mono ?_
    rintro r X ⟨rfl, hb1⟩
    have HX1 := Lib.hid (HBox.out.trans (hb1.mono HBox.out.size))
    have HB1 : Hid (Below (w.heap.size + 1) (w.alloc (.cells #[.int .i64 p, .string nm, .string tx, .bool o, .slice a nk c] 46)) X) := hb1.mono (by simp)
    obtain ⟨y0, y1, y2, y3, y4⟩ := y5_ofG (v0 := .int .i64 p) (v1 := .string nm) (v2 := .string tx) (v3 := .bool o) (v4 := .slice a nk c) (t := 46) (w := w) (X := X) HB1.out
    clear hb1 cG
    go_wp2_with fail
    refine (cO.out _ HX1.out).mono ?_
    rintro r X2 ⟨rfl, hb2⟩
    have HX2 := Lib.hid (HX1.out.trans (hb2.mono HX1.out.size))
    have HS1 : Hid (w.heap.size + 1 ≤ X.heap.size) := by have h := HB1.out.size; rw [World.size_alloc] at h; exact h
    have HB2 := Lib.hid (HB1.out.trans (hb2.mono HS1.out))
    have HS2 : Hid (w.heap.size + 1 ≤ X2.heap.size) := Nat.le_trans HS1.out hb2.size
    clear hb2 y0 y1 y2 y3 y4
    have HX3 : Hid (Below w.heap.size w (X2.alloc (.cells #[.string fo, .string ty, .int .i64 sz, .int .i64 ve, .string la, .string ne, .string no, .int .i64 mm, .int .i64 mo] 23))) := HX2.out.alloc HX2.out.size _
    have HB3 : Hid (Below (w.heap.size + 1) (w.alloc (.cells #[.int .i64 p, .string nm, .string tx, .bool o, .slice a nk c] 46)) (X2.alloc (.cells #[.string fo, .string ty, .int .i64 sz, .int .i64 ve, .string la, .string ne, .string no, .int .i64 mm, .int .i64 mo] 23))) := HB2.out.alloc HS2.out _
    obtain ⟨y0, y1, y2, y3, y4⟩ := y5_ofG (v0 := .int .i64 p) (v1 := .string nm) (v2 := .string tx) (v3 := .bool o) (v4 := .slice a nk c) (t := 46) (w := w) (X := X2.alloc (.cells #[.string fo, .string ty, .int .i64 sz, .int .i64 ve, .string la, .string ne, .string no, .int .i64 mm, .int .i64 mo] 23)) HB3.out
    go_wp2_with fail
    refine (cR.out _ HX3.out).mono ?_
    rintro r X3 ⟨rfl, hb3⟩
    have HX4 := Lib.hid (HX3.out.trans (hb3.mono HX3.out.size))
    have HM : X3.heap[X2.heap.size]? = some (.cells #[.string fo, .string ty, .int .i64 sz, .int .i64 ve, .string la, .string ne, .string no, .int .i64 mm, .int .i64 mo] 23 (0, 0)) := (hb3.block _ (by rw [World.size_alloc]; exact Nat.lt_succ_self _)).trans (World.alloc_heap_new _ _)
    have HM2 : (X3.alloc (.cells #[.string fo, .string ty, .int .i64 sz, .int .i64 ve, .string la, .string ne, .string no, .int .i64 mm, .int .i64 mo] 23)).heap[X2.heap.size]? = some (.cells #[.string fo, .string ty, .int .i64 sz, .int .i64 ve, .string la, .string ne, .string no, .int .i64 mm, .int .i64 mo] 23 (0, 0)) := (Below.heap_alloc _ _ _ (Array.getElem?_eq_some_iff.1 HM).1).trans HM
    have u0 := cell_block HM2 0 _ rfl
    have u1 := cell_block HM2 1 _ rfl
    have u2 := cell_block HM2 2 _ rfl
    have u3 := cell_block HM2 3 _ rfl
    have u4 := cell_block HM2 4 _ rfl
    have u5 := cell_block HM2 5 _ rfl
    have u6 := cell_block HM2 6 _ rfl
    have u7 := cell_block HM2 7 _ rfl
    have u8 := cell_block HM2 8 _ rfl
    have HX5 : Hid (Below w.heap.size w (X3.alloc (.cells #[.string fo, .string ty, .int .i64 sz, .int .i64 ve, .string la, .string ne, .string no, .int .i64 mm, .int .i64 mo] 23))) := HX4.out.alloc HX4.out.size _
    clear hb3 y0 y1 y2 y3 y4 HM HM2 HB1 HB2 HB3 HS1 HS2 cO cR HX1 HX2 HX3 HX4
    go_wp2_with fail
    go_ret
    exact ⟨rfl, HX5.out⟩

set_option maxRecDepth 100000 in
theorem metinfReads_law {H : Type} {enc : TypeId × Value → H} {W : World} (v : Value) (d : DataW H) (p : List MemPlace) (k : DataW.Trod enc Tryd.prog W 0 (fun _ => true) true 46 v d p) {base : Nat} (ok : Value.okWide Tryd.prog W .any base 46 v)
    (hz : ∀ q ∈ d.weights Tryd.prog 46, q ≤ reachBytes) (m : Int) (hT : TabG m W) : Calls Tryd.prog 7 #[v] W fun e w' => e = .returned (.bool true) ∧ Below W.heap.size W w' := by
  obtain ⟨e, he⟩ := elem_ofG k ok hz
  exact metinfReads_walk e v W m he hT
end Go.Proofs.YtgechifbbhipaaaDoor
