/- A builder whose row is named: what a written byte turns, and nothing else. No condition but the bytes' number. -/
import Derived.Test.YtcpmgnejbfnnjaaBd
namespace Go.Proofs.Ytcpmgnejbfnnjaa
open Go.RowKit Go.Shelf

theorem SBv : Sl1 Try.prog 76 5 (.int .u8 0) 1 := ⟨Try.underlying76, by kernel_rfl, rfl⟩

def Bv (C b : Nat) (v : Value) (bs : List Value) (w : World) : Prop :=
  ∃ p, (p = .pointer none ∨ p = .pointer (some ⟨b, 0, none⟩)) ∧ w.heap[b]? = some (.cells #[p, v] 78 (0, 0)) ∧ w.ownsRow C 5 1 v bs.length bs ∧ v.ownBlock ≠ some b
theorem Bv.bd {C b : Nat} {v : Value} {bs : List Value} {w : World} (h : Bv C b v bs w) : Bd C b bs w := by
  obtain ⟨p, h1, h2, h3, h4⟩ := h
  exact ⟨p, v, h1, h2, h3, h4⟩
theorem Bd.bv {C b : Nat} {bs : List Value} {w : World} (h : Bd C b bs w) : ∃ v, Bv C b v bs w := by
  obtain ⟨p, v, h1, h2, h3, h4⟩ := h
  exact ⟨v, p, h1, h2, h3, h4⟩
theorem Bv.new (w : World) (C : Nat) : Bv C w.heap.size (.slice none 0 0) [] (w.alloc (.cells #[.pointer none, .slice none 0 0] 78)) :=
  ⟨_, .inl rfl, block_new w _, World.ownsRow_nil _ _ _ _, by simp [Value.ownBlock]⟩
theorem Bv.lt {C b : Nat} {v : Value} {bs : List Value} {w : World} (h : Bv C b v bs w) : b < w.heap.size := h.bd.lt
theorem Bv.below {C b : Nat} {v : Value} {bs : List Value} {w w' : World} (h : Bv C b v bs w) (hb : Below w.heap.size w w') : Bv C b v bs w' := by
  obtain ⟨p, h1, h2, h3, h4⟩ := h
  exact ⟨p, h1, (hb.block b (Array.getElem?_eq_some_iff.1 h2).1).trans h2, owns_after h3 hb, h4⟩

/-- a step that turns block b and v's row alone -/
structure Wrote (b : Nat) (v v' : Value) (w w' : World) : Prop where
  os : w'.os = w.os
  tape : w'.tape = w.tape
  output : w'.output = w.output
  size : w.heap.size ≤ w'.heap.size
  block : ∀ k, k < w.heap.size → k ≠ b → v.ownBlock ≠ some k → w'.heap[k]? = w.heap[k]?
  moved : ∀ k, v'.ownBlock = some k → v.ownBlock = some k ∨ w.heap.size ≤ k
theorem Wrote.refl (b : Nat) (v : Value) (w : World) : Wrote b v v w w := ⟨rfl, rfl, rfl, Nat.le_refl _, fun _ _ _ _ => rfl, fun _ h => .inl h⟩
theorem Wrote.trans {b : Nat} {v1 v2 v3 : Value} {w1 w2 w3 : World} (h : Wrote b v1 v2 w1 w2) (k : Wrote b v2 v3 w2 w3) : Wrote b v1 v3 w1 w3 :=
  ⟨k.os.trans h.os, k.tape.trans h.tape, k.output.trans h.output, Nat.le_trans h.size k.size,
    fun i hi hb hv => (k.block i (Nat.lt_of_lt_of_le hi h.size) hb (fun e => by rcases h.moved i e with e2 | e2; exact hv e2; omega)).trans (h.block i hi hb hv),
    fun i hi => by
      rcases k.moved i hi with e | e
      · exact h.moved i e
      · exact .inr (Nat.le_trans h.size e)⟩
theorem Wrote.below {b C m : Nat} {v v' : Value} {bs : List Value} {w w' : World} (h : Wrote b v v' w w') (hv : Bv C b v bs w) (h1 : m ≤ C) (h2 : m ≤ b) (h3 : m ≤ w.heap.size) : Below m w w' :=
  ⟨h.os, h.tape, h.output, h.size, fun k hk => h.block k (by omega) (by omega) (fun e => by
    obtain ⟨p, _, _, ho, _⟩ := hv
    have := (ho.lt k e).1; omega)⟩
/-- another block of bytes stays -/
theorem Wrote.src {b g : Nat} {v v' : Value} {w w' : World} {s : ByteArray} (h : Wrote b v v' w w') (hs : Src w g s) (hb : g ≠ b) (hv : v.ownBlock ≠ some g) : Src w' g s := fun j hj => by
  have hg := World.block_lt_of_cell? _ _ (hs j hj)
  exact (World.cell?_of_block (a := ⟨g, j, none⟩) (h.block g hg hb hv)).trans (hs j hj)
theorem Wrote.ne {b g : Nat} {v v' : Value} {w w' : World} (h : Wrote b v v' w w') (hg : g < w.heap.size) (hv : v.ownBlock ≠ some g) : v'.ownBlock ≠ some g := fun e => by
  rcases h.moved g e with e2 | e2
  · exact hv e2
  · omega

set_option maxRecDepth 100000 in
set_option maxHeartbeats 1000000 in
theorem bv_copyCheck (C b : Nat) (v : Value) (bs : List Value) (w : World) (h : Bv C b v bs w) :
    Calls Try.prog 47 #[.pointer (some ⟨b, 0, none⟩)] w fun e w' => e = .returned (.tuple #[]) ∧ (w'.heap[b]? = some (.cells #[.pointer (some ⟨b, 0, none⟩), v] 78 (0, 0)) ∧ w'.ownsRow C 5 1 v bs.length bs ∧ v.ownBlock ≠ some b) ∧ Wrote b v v w w' ∧ w.heap.size = w'.heap.size := by
  obtain ⟨p, hp, hb, ho, hne⟩ := h
  have c0 : w.cell? ⟨b, 0, none⟩ = some p := by rw [Lib.cell_of_heap hb]; rfl
  rcases hp with rfl | rfl
  · refine (copyCheck_fresh b w c0 (by simp [World.shape?, hb]) (Lib.frozen_of_heap hb 0)).mono ?_
    rintro e w' ⟨rfl, rfl⟩
    have hr : ∀ k, k ≠ b → (w.setCell ⟨b, 0, none⟩ (.pointer (some ⟨b, 0, none⟩))).heap[k]? = w.heap[k]? := fun k hk => Below.heap_setCell _ _ _ _ (by simpa using hk)
    refine ⟨rfl, ⟨?_, ?_, hne⟩, ⟨rfl, rfl, rfl, by simp [World.setCell], fun k _ hk _ => hr k hk, fun _ h => .inl h⟩, by simp [World.setCell]⟩
    · simp [World.setCell, Array.getElem?_modify, hb]
    · exact ho.kept (row := some b) ⟨rfl, rfl, rfl, by simp [World.setCell], fun k _ hk => hr k (fun e => hk (by rw [e]))⟩ (.inr hne)
  · refine (copyCheck_used b w c0).mono ?_
    rintro e w' ⟨rfl, rfl⟩
    exact ⟨rfl, ⟨hb, ho, hne⟩, Wrote.refl _ _ _, rfl⟩

set_option maxRecDepth 100000 in
set_option maxHeartbeats 2000000 in
theorem bv_write (C b : Nat) (v : Value) (bs : List Value) (c : Int) (w : World) (h : Bv C b v bs w) (hlen : bs.length + 1 ≤ 140737488355328) (hCw : C ≤ w.heap.size) :
    Calls Try.prog 40 #[.pointer (some ⟨b, 0, none⟩), .int .u8 c] w fun e w' => e = .returned .nilIface ∧ ∃ v', Bv C b v' (bs ++ [.int .u8 c]) w' ∧ Wrote b v v' w w' := by
  have g1 : bs.length + 1 ≤ maxLen := by simp [maxLen]; omega
  have g2 : (bs.length + 1) * 1 ≤ 140737488355328 := by omega
  go_enter Try.func40, Try.ntmps40
  go_wp2_with (go_at_call 47; refine (bv_copyCheck C b v bs _ h).mono ?_)
  rintro e w1 ⟨rfl, ⟨hbk, hown, hne⟩, hw1, hsz1⟩
  have c0 : w1.cell? ⟨b, 0, none⟩ = some (.pointer (some ⟨b, 0, none⟩)) := by rw [Lib.cell_of_heap hbk]; rfl
  have c1 : w1.cell? ⟨b, 1, none⟩ = some v := by rw [Lib.cell_of_heap hbk]; rfl
  have HW1 := Lib.hid hw1
  have hC1 : C ≤ w1.heap.size := by omega
  have hsz2 : w1.heap.size ≤ w.heap.size := by omega
  have hlt : b < w1.heap.size := (Array.getElem?_eq_some_iff.1 hbk).1
  have HO := Lib.hid hown
  have HBK := Lib.hid hbk
  clear hw1 hsz1 hown hbk
  go_wp2_with (at_builtin; go_must (refine wpList_app1 _ _ rfl _ _ 76 5 _ _ SBv rfl C _ _ _ rfl rfl rfl HO.out g1 g2 hC1 ?_); intro a' c' w4 hown4 hgr4 hmv4 hb4; have hb2 : w4.heap[b]? = some (.cells #[.pointer (some ⟨b, 0, none⟩), v] 78 (0, 0)) := (hgr4.block b hlt (fun e => hne e.symm)).trans HBK.out; have d1 : w4.cell? ⟨b, 1, none⟩ = some v := (by rw [Lib.cell_of_heap hb2]; rfl); have f1 : w4.frozen? ⟨b, 1, none⟩ = false := Lib.frozen_of_heap hb2 1)
  go_ret
  have hne2 := Lib.ownBlock_ne hown4 hb2 (by decide)
  have hr : ∀ k, k ≠ b → (w4.setCell ⟨b, 1, none⟩ (.slice a' (bs.length + 1) c')).heap[k]? = w4.heap[k]? := fun k hk => Below.heap_setCell _ _ _ _ (by simpa using hk)
  refine ⟨rfl, _, ⟨_, .inr rfl, ?_, ?_, hne2⟩, HW1.out.trans ⟨hgr4.os, hgr4.tape, hgr4.output, by simpa [World.setCell] using hgr4.size, fun k hk hkb hv => (hr k hkb).trans (hgr4.block k hk (fun e => hv e.symm)), hmv4⟩⟩
  · simp [World.setCell, Array.getElem?_modify, hb2]
  · have : w4.ownsRow C 5 1 (.slice a' (bs.length + 1) c') (bs ++ [Value.int .u8 c]).length (bs ++ [.int .u8 c]) := by simpa using hown4
    exact this.kept (row := some b) ⟨rfl, rfl, rfl, by simp [World.setCell], fun k _ hk => hr k (fun e => hk (by rw [e]))⟩ (.inr hne2)
end Go.Proofs.Ytcpmgnejbfnnjaa
