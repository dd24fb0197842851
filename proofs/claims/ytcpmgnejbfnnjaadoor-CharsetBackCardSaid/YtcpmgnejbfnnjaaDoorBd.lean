/- A builder whose row lies from block C on: what a written byte leaves as it was. No condition but the bytes' number. -/
import Derived.Test.YtcpmgnejbfnnjaaDoorBld
import Derived.Test.YtcpmgnejbfnnjaaDoorRKit
import Derived.Lib.BufferWrite
import Derived.Deep.WholeRow
namespace Go.Proofs.YtcpmgnejbfnnjaaDoor
open Go.RowKit Go.Shelf

def Bd (C b : Nat) (bs : List Value) (w : World) : Prop :=
  ∃ p v, (p = .pointer none ∨ p = .pointer (some ⟨b, 0, none⟩)) ∧ w.heap[b]? = some (.cells #[p, v] 58 (0, 0)) ∧ w.ownsRow C 5 1 v bs.length bs ∧ v.ownBlock ≠ some b

theorem own_base' {w : World} {B C : Nat} {e : TypeId} {sz : Nat} {v : Value} {n : Nat} {xs : List Value} (h : w.ownsRow B e sz v n xs) (hC : C ≤ B) : w.ownsRow C e sz v n xs := by
  refine ⟨h.1, ?_⟩
  rcases h.2 with h2 | ⟨g, cap, cur, hv, hg, r⟩
  · exact .inl h2
  · exact .inr ⟨g, cap, cur, hv, by omega, r⟩

theorem Bd.is {C b B : Nat} {bs : List Value} {w : World} (h : Bd C b bs w) (h1 : B ≤ C) (h2 : B ≤ b) : Lib.IsBuilder 58 5 B b bs w := by
  obtain ⟨p, v, hp | hp, hb, ho, hne⟩ := h
  · subst hp; exact .inl ⟨h2, v, hb, own_base' ho h1, hne⟩
  · subst hp; exact .inr ⟨h2, v, hb, own_base' ho h1, hne⟩

theorem Bd.lt {C b : Nat} {bs : List Value} {w : World} (h : Bd C b bs w) : b < w.heap.size := by
  obtain ⟨p, v, _, hb, _⟩ := h
  exact (Array.getElem?_eq_some_iff.1 hb).1

theorem Bd.new (w : World) (C : Nat) : Bd C w.heap.size [] (w.alloc (.cells #[.pointer none, .slice none 0 0] 58)) :=
  ⟨_, _, .inl rfl, block_new w _, World.ownsRow_nil _ _ _ _, by simp [Value.ownBlock]⟩

/-- a builder stays one where its block and its row's block stay -/
theorem Bd.keep {C b : Nat} {bs : List Value} {w w' : World} (h : Bd C b bs w) (hk : ∀ (k : Nat) (o : Obj), w.heap[k]? = some o → o.isCells = true → w'.heap[k]? = some o) : Bd C b bs w' := by
  obtain ⟨p, v, hp, hb, ho, hne⟩ := h
  refine ⟨p, v, hp, hk _ _ hb rfl, ⟨ho.1, ?_⟩, hne⟩
  rcases ho.2 with h2 | ⟨g, cap, cur, hv, hg, hh, r⟩
  · exact .inl h2
  · exact .inr ⟨g, cap, cur, hv, hg, hk _ _ hh rfl, r⟩

theorem Bd.below {C b B : Nat} {bs : List Value} {w w' : World} (h : Bd C b bs w) (hb : Below B w w') (hB : w.heap.size ≤ B) : Bd C b bs w' :=
  h.keep fun k o hk _ => (hb.block k (by have := (Array.getElem?_eq_some_iff.1 hk).1; omega)).trans hk

/-- .. with a smaller base of its row, where the row was made since -/
theorem bd_own (C b : Nat) {β : Type} (f : β → List Value) : Own (fun s W => Bd C b (f s) W) := fun s X Y row hs hg hrow => by
  refine hs.keep fun k o hk hc => (hg.block k (Array.getElem?_eq_some_iff.1 hk).1 (fun e => ?_)).trans hk
  obtain ⟨o', ho', hc'⟩ := hrow k e.symm
  rw [hk] at ho'; cases ho'; rw [hc] at hc'; cases hc'

set_option maxRecDepth 100000 in
theorem bd_copyCheck (C b : Nat) (bs : List Value) (w : World) (h : Bd C b bs w) :
    Calls Tryd.prog 46 #[.pointer (some ⟨b, 0, none⟩)] w fun e w' => e = .returned (.tuple #[]) ∧ (∃ v, w'.heap[b]? = some (.cells #[.pointer (some ⟨b, 0, none⟩), v] 58 (0, 0)) ∧ w'.ownsRow C 5 1 v bs.length bs ∧ v.ownBlock ≠ some b) ∧ BelowBut C b w w' ∧ w.heap.size = w'.heap.size ∧ KeepsOthers w w' := by
  obtain ⟨p, v, hp, hb, ho, hne⟩ := h
  have c0 : w.cell? ⟨b, 0, none⟩ = some p := by rw [Lib.cell_of_heap hb]; rfl
  rcases hp with rfl | rfl
  · refine (copyCheck_fresh b w c0 (by simp [World.shape?, hb]) (Lib.frozen_of_heap hb 0)).mono ?_
    rintro e w' ⟨rfl, rfl⟩
    have hr : ∀ k, k ≠ b → (w.setCell ⟨b, 0, none⟩ (.pointer (some ⟨b, 0, none⟩))).heap[k]? = w.heap[k]? := fun k hk => Below.heap_setCell _ _ _ _ (by simpa using hk)
    refine ⟨rfl, ⟨v, ?_, ?_, hne⟩, ⟨rfl, rfl, rfl, by simp [World.setCell], fun k _ hk => hr k hk⟩, by simp [World.setCell], KeepsOthers.setCell _ _ _⟩
    · simp [World.setCell, Array.getElem?_modify, hb]
    · exact ho.kept (row := some b) ⟨rfl, rfl, rfl, by simp [World.setCell], fun k _ hk => hr k (fun e => hk (by rw [e]))⟩ (.inr hne)
  · refine (copyCheck_used b w c0).mono ?_
    rintro e w' ⟨rfl, rfl⟩
    exact ⟨rfl, ⟨v, hb, ho, hne⟩, BelowBut.refl _ _ _, rfl, KeepsOthers.refl _⟩

theorem bd_string (C b : Nat) (l : List UInt8) (w : World) (B : Nat) (h : Bd C b (Lib.byteCells l) w) (h1 : B ≤ C) (h2 : B ≤ b) (hB : B ≤ w.heap.size) :
    Calls Tryd.prog 38 #[.pointer (some ⟨b, 0, none⟩)] w fun e w' => e = .returned (.string ⟨l.toArray⟩) ∧ Below B w w' ∧ (∀ (k : Nat) (o : Obj), w.heap[k]? = some o → o.isCells = false → w'.heap[k]? = some o) := by
  refine (Tryd.Builder_String_any_k B b l w (.of (h.is h1 h2)) hB).mono ?_
  rintro e w' ⟨he, _, hb, hk⟩
  refine ⟨he, hb, fun k o ho hc => hk k o ho ?_ ?_⟩
  · obtain ⟨p, v, _, hbb, _⟩ := h
    intro e; cases e; rw [hbb] at ho; cases ho; cases hc
  · rintro c fz rfl; cases hc

/-- 'copy(d, s)' in a fenced walk, its run known. -/
theorem wpListIn_copy_run {F : Fence} {m : Nat} {P : Program} (w : World) {ops : Array Oper} {rest : List Oper} {o : Oper} {a : Act} {Q : Exit → Act → World → Prop} (hgd : o.guard = none) (d s : Operand) (t t' : TypeId)
    (hop : o.op = .call { callee := .builtin .copy, args := #[d, s], argTypes := #[t, t'] }) (v u : Value) (hd : a.eval d = v) (hs : a.eval s = u) {v' : Value} {w' : World}
    (hrun : (Builtin.copy_ #[t, t'] o.type #[v, u]).run P w = .ok v' w') (h : wpListIn F m P ops Q rest (a.put o.dst v') w') : wpListIn F m P ops Q (o :: rest) a w := by
  refine wpListIn_plain hgd fun K hK' => ?_
  unfold Oper.wpIn
  refine ⟨?_, ?_⟩
  · simp [Oper.about, hop, resolve, Target.leads, Sem.run_pure]
  · rw [Oper.semAt_plain F _ _ (by rw [hop]; intro c hc'; cases hc')]
    simp [execOp, hop, resolve, invoke, builtin, hd, hs, hrun, Result.andThen]
    exact hK' _ _ h
end Go.Proofs.YtcpmgnejbfnnjaaDoor
