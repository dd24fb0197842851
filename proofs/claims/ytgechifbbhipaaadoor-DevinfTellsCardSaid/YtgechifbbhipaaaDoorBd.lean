/- A builder whose row lies from block C on: what a written byte leaves as it was. No condition but the bytes' number. -/
import Derived.Test.YtgechifbbhipaaaDoorBld
import Derived.Test.YtgechifbbhipaaaDoorKit
import Derived.Lib.BufferWrite
import Derived.Deep.WholeRow
set_option linter.unusedVariables false
set_option linter.unusedSimpArgs false
namespace Go.Proofs.YtgechifbbhipaaaDoor
open Go.RowKit Go.Shelf

def Bd (C b : Nat) (bs : List Value) (w : World) : Prop :=
  ∃ p v, (p = .pointer none ∨ p = .pointer (some ⟨b, 0, none⟩)) ∧ w.heap[b]? = some (.cells #[p, v] 139 (0, 0)) ∧ w.ownsRow C 5 1 v bs.length bs ∧ v.ownBlock ≠ some b

theorem own_base' {w : World} {B C : Nat} {e : TypeId} {sz : Nat} {v : Value} {n : Nat} {xs : List Value} (h : w.ownsRow B e sz v n xs) (hC : C ≤ B) : w.ownsRow C e sz v n xs := by
  refine ⟨h.1, ?_⟩
  rcases h.2 with h2 | ⟨g, cap, cur, hv, hg, r⟩
  · exact .inl h2
  · exact .inr ⟨g, cap, cur, hv, by omega, r⟩

theorem Bd.is {C b B : Nat} {bs : List Value} {w : World} (h : Bd C b bs w) (h1 : B ≤ C) (h2 : B ≤ b) : Lib.IsBuilder 139 5 B b bs w := by
  obtain ⟨p, v, hp | hp, hb, ho, hne⟩ := h
  · subst hp; exact .inl ⟨h2, v, hb, own_base' ho h1, hne⟩
  · subst hp; exact .inr ⟨h2, v, hb, own_base' ho h1, hne⟩

theorem Bd.lt {C b : Nat} {bs : List Value} {w : World} (h : Bd C b bs w) : b < w.heap.size := by
  obtain ⟨p, v, _, hb, _⟩ := h
  exact (Array.getElem?_eq_some_iff.1 hb).1

theorem Bd.new (w : World) (C : Nat) : Bd C w.heap.size [] (w.alloc (.cells #[.pointer none, .slice none 0 0] 139)) :=
  ⟨_, _, .inl rfl, block_new w _, World.ownsRow_nil _ _ _ _, by simp [Value.ownBlock]⟩

/-- a builder stays one where its block and its row's block stay -/
theorem Bd.keep {C b : Nat} {bs : List Value} {w w' : World} (h : Bd C b bs w) (hk : ∀ (k : Nat) (o : Obj), w.heap[k]? = some o → o.isCells = true → w'.heap[k]? = some o) : Bd C b bs w' := by
  obtain ⟨p, v, hp, hb, ho, hne⟩ := h
  refine ⟨p, v, hp, hk _ _ hb rfl, ⟨ho.1, ?_⟩, hne⟩
  rcases ho.2 with h2 | ⟨g, cap, cur, hv, hg, hh, r⟩
  · exact .inl h2
  · exact .inr ⟨g, cap, cur, hv, hg, hk _ _ hh rfl, r⟩

theorem Bd.below {C b B : Nat} {bs : List Value} {w w' : World} (h : Bd C b bs w) (hb : Below B w w') (hB : w.heap.size ≤ B) : Bd C b bs w' :=
  h.keep fun k o hk _ => (hb.block k (by have := (Array.getElem?_eq_some_iff.1 hk).1; omega)).trans hk

/-- .. with a smaller base of its row, where the row was made since -/
theorem bd_own (C b : Nat) {β : Type} (f : β → List Value) : Own (fun s W => Bd C b (f s) W) := fun s X Y row hs hg hrow => by
  refine hs.keep fun k o hk hc => (hg.block k (Array.getElem?_eq_some_iff.1 hk).1 (fun e => ?_)).trans hk
  obtain ⟨o', ho', hc'⟩ := hrow k e.symm
  rw [hk] at ho'; cases ho'; rw [hc] at hc'; cases hc'

theorem bd_copyCheck (C b : Nat) (bs : List Value) (w : World) (h : Bd C b bs w) :
    Calls Tryd.prog 157 #[.pointer (some ⟨b, 0, none⟩)] w fun e w' => e = .returned (.tuple #[]) ∧ (∃ v, w'.heap[b]? = some (.cells #[.pointer (some ⟨b, 0, none⟩), v] 139 (0, 0)) ∧ w'.ownsRow C 5 1 v bs.length bs ∧ v.ownBlock ≠ some b) ∧ BelowBut C b w w' ∧ w.heap.size = w'.heap.size ∧ KeepsOthers w w' := by
  obtain ⟨p, v, hp, hb, ho, hne⟩ := h
  have c0 : w.cell? ⟨b, 0, none⟩ = some p := by rw [Lib.cell_of_heap hb]; rfl
  rcases hp with rfl | rfl
  · refine (copyCheck_fresh b w c0 (by simp [World.shape?, hb]) (Lib.frozen_of_heap hb 0)).mono ?_
    rintro e w' ⟨rfl, rfl⟩
    have hr : ∀ k, k ≠ b → (w.setCell ⟨b, 0, none⟩ (.pointer (some ⟨b, 0, none⟩))).heap[k]? = w.heap[k]? := fun k hk => Below.heap_setCell _ _ _ _ (by simpa using hk)
    refine ⟨rfl, ⟨v, ?_, ?_, hne⟩, ⟨rfl, rfl, rfl, by simp [World.setCell], fun k _ hk => hr k hk⟩, by simp [World.setCell], KeepsOthers.setCell _ _ _⟩
    · simp [World.setCell, Array.getElem?_modify, hb]
    · exact ho.kept (row := some b) ⟨rfl, rfl, rfl, by simp [World.setCell], fun k _ hk => hr k (fun e => hk (by rw [e]))⟩ (.inr hne)
  · refine (copyCheck_used b w c0).mono ?_
    rintro e w' ⟨rfl, rfl⟩
    exact ⟨rfl, ⟨v, hb, ho, hne⟩, BelowBut.refl _ _ _, rfl, KeepsOthers.refl _⟩

set_option maxHeartbeats 2000000 in
theorem bd_write (C b : Nat) (bs : List Value) (c : Int) (w : World) (h : Bd C b bs w) (hlen : bs.length + 1 ≤ 140737488355328) (hCw : C ≤ w.heap.size) :
    Calls Tryd.prog 189 #[.pointer (some ⟨b, 0, none⟩), .int .u8 c] w fun e w' => e = .returned .nilIface ∧ Bd C b (bs ++ [.int .u8 c]) w' ∧ BelowBut C b w w' ∧ KeepsOthers w w' := by
  obtain ⟨i0, hi, hz0, hz1, hz2⟩ := info_parts (show (Tryd.prog.info? 5).map (fun i => (i.zero, i.size, i.bytes)) = some (some (.int .u8 0), 1, 1) from by kernel_rfl)
  go_enter Tryd.func189, Tryd.ntmps189
  go_wp2_with (go_at_call 157; refine (bd_copyCheck C b bs _ h).mono ?_)
  rintro e w1 ⟨rfl, ⟨v, hbk, hown, hne⟩, hb1, hsz1, hk1⟩
  have c0 : w1.cell? ⟨b, 0, none⟩ = some (.pointer (some ⟨b, 0, none⟩)) := by rw [Lib.cell_of_heap hbk]; rfl
  have c1 : w1.cell? ⟨b, 1, none⟩ = some v := by rw [Lib.cell_of_heap hbk]; rfl
  go_wp2_with (at_builtin; refine wpList_append_own _ rfl _ _ 136 rfl C 5 i0 (.int .u8 0) 1 1 Tryd.underlying136 hi hz0 hz1 hz2 rfl (by decide) _ _ _ rfl (hown.alloc _) ⟨w1.heap.size, 0, none⟩ 1 1 [.int .u8 c] rfl rfl ?c1 ?c2 ?c3 ?c4 ?c5 ?_)
  case c1 =>
    intro j u hj
    match j, hj with
    | 0, hj => simp at hj; subst hj; simp [Addr.add]
  case c2 => intro u hu; simp at hu; subst hu; rfl
  case c3 => unfold maxLen; omega
  case c4 => omega
  case c5 => simp; omega
  intro v' w2 hown' hgrow _
  have hlt : b < w1.heap.size := (Array.getElem?_eq_some_iff.1 hbk).1
  have hb2 : w2.heap[b]? = some (.cells #[.pointer (some ⟨b, 0, none⟩), v] 139 (0, 0)) := by
    rw [hgrow.block b (by simp; omega) (fun e => hne e.symm), Lib.alloc_old w1 _ b hlt]
    exact hbk
  have d0 : w2.cell? ⟨b, 0, none⟩ = some (.pointer (some ⟨b, 0, none⟩)) := by rw [Lib.cell_of_heap hb2]; rfl
  have d1 : w2.cell? ⟨b, 1, none⟩ = some v := by rw [Lib.cell_of_heap hb2]; rfl
  have f1 : w2.frozen? ⟨b, 1, none⟩ = false := Lib.frozen_of_heap hb2 1
  obtain ⟨g, cap, rfl⟩ : ∃ g cap, v' = .slice (some ⟨g, 0, none⟩) (bs.length + 1) cap := by
    rcases hown'.2 with ⟨_, h0⟩ | ⟨g, cap, cur, hv, _⟩
    · omega
    · exact ⟨g, cap, hv⟩
  have hne2 := Lib.ownBlock_ne hown' hb2 (by decide)
  have hr : ∀ k, k ≠ b → (w2.setCell ⟨b, 1, none⟩ (.slice (some ⟨g, 0, none⟩) (bs.length + 1) cap)).heap[k]? = w2.heap[k]? := fun k hk => Below.heap_setCell _ _ _ _ (by simpa using hk)
  go_wp2
  go_ret
  refine ⟨rfl, ⟨_, _, .inr rfl, ?_, ?_, hne2⟩, ?_, ?_⟩
  · simp [World.setCell, Array.getElem?_modify, hb2]
  · have : w2.ownsRow C 5 1 (.slice (some ⟨g, 0, none⟩) (bs.length + 1) cap) (bs ++ [Value.int .u8 c]).length (bs ++ [.int .u8 c]) := by simpa using hown'
    exact this.kept (row := some b) ⟨rfl, rfl, rfl, by simp [World.setCell], fun k _ hk => hr k (fun e => hk (by rw [e]))⟩ (.inr hne2)
  · have s2 := hgrow.size
    simp only [World.size_alloc] at s2
    refine hb1.trans ⟨hgrow.os, hgrow.tape, hgrow.output, by simp [World.setCell]; omega, fun k hk hkb => ?_⟩
    rw [hr k hkb, hgrow.block k (by simp; omega) (fun e => by have := (hown.lt k e.symm).1; omega)]
    exact Below.heap_alloc _ _ _ (by omega)
  · exact ((hk1.trans (KeepsOthers.alloc _ _)).trans (keeps_row hgrow (hown.alloc _))).trans (KeepsOthers.setCell _ _ _)

theorem bd_string (C b : Nat) (l : List UInt8) (w : World) (B : Nat) (h : Bd C b (Lib.byteCells l) w) (h1 : B ≤ C) (h2 : B ≤ b) (hB : B ≤ w.heap.size) :
    Calls Tryd.prog 130 #[.pointer (some ⟨b, 0, none⟩)] w fun e w' => e = .returned (.string ⟨l.toArray⟩) ∧ Below B w w' ∧ (∀ (k : Nat) (o : Obj), w.heap[k]? = some o → o.isCells = false → w'.heap[k]? = some o) := by
  refine (Tryd.Builder_String_any_k B b l w (.of (h.is h1 h2)) hB).mono ?_
  rintro e w' ⟨he, _, hb, hk⟩
  refine ⟨he, hb, fun k o ho hc => hk k o ho ?_ ?_⟩
  · obtain ⟨p, v, _, hbb, _⟩ := h
    intro e; cases e; rw [hbb] at ho; cases ho; cases hc
  · rintro c fz rfl; cases hc

/-- 'copy(d, s)' in a fenced walk, its run known. -/
theorem wpListIn_copy_run {F : Fence} {m : Nat} {P : Program} (w : World) {ops : Array Oper} {rest : List Oper} {o : Oper} {a : Act} {Q : Exit → Act → World → Prop} (hgd : o.guard = none) (d s : Operand) (t t' : TypeId)
    (hop : o.op = .call { callee := .builtin .copy, args := #[d, s], argTypes := #[t, t'] }) (v u : Value) (hd : a.eval d = v) (hs : a.eval s = u) {v' : Value} {w' : World}
    (hrun : (Builtin.copy_ #[t, t'] o.type #[v, u]).run P w = .ok v' w') (h : wpListIn F m P ops Q rest (a.put o.dst v') w') : wpListIn F m P ops Q (o :: rest) a w := by
  refine wpListIn_plain hgd fun K hK' => ?_
  unfold Oper.wpIn
  refine ⟨?_, ?_⟩
  · simp [Oper.about, hop, resolve, Target.leads, Sem.run_pure]
  · rw [Oper.semAt_plain F _ _ (by rw [hop]; intro c hc'; cases hc')]
    simp [execOp, hop, resolve, invoke, builtin, hd, hs, hrun, Result.andThen]
    exact hK' _ _ h
end Go.Proofs.YtgechifbbhipaaaDoor
