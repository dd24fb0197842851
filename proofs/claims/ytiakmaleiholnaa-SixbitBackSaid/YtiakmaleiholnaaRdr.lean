/- The readers of the program and of the reference: the state in memory, and the small methods. No condition. -/
import Derived.Test.YtiakmaleiholnaaProg
import Derived.Test.YtiakmaleiholnaaKit
import Derived.Deep.QuietTactic
import Derived.BigQuiet
import Derived.RegionTactic
import Derived.Outline
namespace Go.Proofs.Ytiakmaleiholnaa
open Go.RowKit

/-- a reader in block b: the text, the place, what is wrong -/
structure Rd (w : World) (b : Nat) (s : ByteArray) (i : Nat) (e : Int) : Prop where
  c0 : w.cell? ⟨b, 0, none⟩ = some (.string s)
  c1 : w.cell? ⟨b, 1, none⟩ = some (.int .i64 (i : Int))
  c2 : w.cell? ⟨b, 2, none⟩ = some (.int .i64 e)
  f1 : w.frozen? ⟨b, 1, none⟩ = false
  f2 : w.frozen? ⟨b, 2, none⟩ = false
  lt : b < w.heap.size

theorem Rd.grown {w w' : World} {b : Nat} {s : ByteArray} {i : Nat} {e : Int} {row : Option Nat} (h : Rd w b s i e) (hg : w.grownBy w' row) (hr : row ≠ some b) : Rd w' b s i e := by
  have hb : w'.heap[b]? = w.heap[b]? := hg.block b h.lt (fun e => hr e.symm)
  exact ⟨(World.cell?_of_block hb).trans h.c0, (World.cell?_of_block hb).trans h.c1, (World.cell?_of_block hb).trans h.c2, (World.frozen?_of_block hb).trans h.f1, (World.frozen?_of_block hb).trans h.f2, Nat.lt_of_lt_of_le h.lt hg.size⟩
theorem Rd.below {w w' : World} {b : Nat} {s : ByteArray} {i : Nat} {e : Int} {B : Nat} (h : Rd w b s i e) (hg : Below B w w') (hr : b < B) : Rd w' b s i e := by
  have hb : w'.heap[b]? = w.heap[b]? := hg.block b hr
  exact ⟨(World.cell?_of_block hb).trans h.c0, (World.cell?_of_block hb).trans h.c1, (World.cell?_of_block hb).trans h.c2, (World.frozen?_of_block hb).trans h.f1, (World.frozen?_of_block hb).trans h.f2, Nat.lt_of_lt_of_le h.lt hg.size⟩
theorem Rd.drew {w : World} {b : Nat} {s : ByteArray} {i : Nat} {e : Int} (h : Rd w b s i e) : Rd w.drew b s i e := ⟨h.c0, h.c1, h.c2, h.f1, h.f2, h.lt⟩
theorem Rd.drewN {w : World} {b : Nat} {s : ByteArray} {i : Nat} {e : Int} (h : Rd w b s i e) (n : Nat) : Rd (w.drewN n) b s i e := ⟨h.c0, h.c1, h.c2, h.f1, h.f2, h.lt⟩

theorem Rd.new (w : World) (s : ByteArray) (t : TypeId) : Rd (w.alloc (.cells #[.string s, .int .i64 0, .int .i64 0] t)) w.heap.size s 0 0 := by
  refine ⟨?_, ?_, ?_, ?_, ?_, by simp⟩
  · unfold World.cell?; rw [block_new]; rfl
  · unfold World.cell?; rw [block_new]; rfl
  · unfold World.cell?; rw [block_new]; rfl
  · unfold World.frozen?; rw [block_new]; rfl
  · unfold World.frozen?; rw [block_new]; rfl

theorem Rd.setAt {w : World} {b : Nat} {s : ByteArray} {i : Nat} {e : Int} (h : Rd w b s i e) (j : Nat) : Rd (w.setCell ⟨b, 1, none⟩ (.int .i64 (j : Int))) b s j e :=
  ⟨(World.cell?_setCell_other _ _ _ _ (by simp)).trans h.c0, World.cell?_setCell_same _ _ _ h.c1, (World.cell?_setCell_other _ _ _ _ (by simp)).trans h.c2,
    (World.frozen?_setCell _ _ _ _).trans h.f1, (World.frozen?_setCell _ _ _ _).trans h.f2, by have := h.lt; simpa [World.setCell] using this⟩
theorem Rd.setErr {w : World} {b : Nat} {s : ByteArray} {i : Nat} {e : Int} (h : Rd w b s i e) (f : Int) : Rd (w.setCell ⟨b, 2, none⟩ (.int .i64 f)) b s i f :=
  ⟨(World.cell?_setCell_other _ _ _ _ (by simp)).trans h.c0, (World.cell?_setCell_other _ _ _ _ (by simp)).trans h.c1, World.cell?_setCell_same _ _ _ h.c2,
    (World.frozen?_setCell _ _ _ _).trans h.f1, (World.frozen?_setCell _ _ _ _).trans h.f2, by have := h.lt; simpa [World.setCell] using this⟩

/-- what a method of a reader in block b does to memory: b alone is turned -/
def Only (b : Nat) (w w' : World) : Prop := w.grownBy w' (some b)
theorem Only.refl (b : Nat) (w : World) : Only b w w := World.grownBy.refl _ _
theorem Only.trans {b : Nat} {w w1 w2 : World} (h : Only b w w1) (k : Only b w1 w2) : Only b w w2 :=
  ⟨k.os.trans h.os, k.tape.trans h.tape, k.output.trans h.output, Nat.le_trans h.size k.size, fun i hi hb => (k.block i (Nat.lt_of_lt_of_le hi h.size) hb).trans (h.block i hi hb)⟩
theorem Only.set (b o : Nat) (w : World) (v : Value) : Only b w (w.setCell ⟨b, o, none⟩ v) :=
  ⟨rfl, rfl, rfl, by simp [World.setCell], fun i _ hb => Below.heap_setCell _ _ _ _ (fun e => hb (by rw [e]))⟩
theorem Only.drew (b : Nat) (w : World) : Only b w w.drew := ⟨rfl, rfl, rfl, Nat.le_refl _, fun _ _ _ => rfl⟩
theorem Only.drewN (b : Nat) (w : World) (n : Nat) : Only b w (w.drewN n) := ⟨rfl, rfl, rfl, Nat.le_refl _, fun _ _ _ => rfl⟩
theorem Only.alloc (b : Nat) (w : World) (o : Obj) : Only b w (w.alloc o) := ⟨rfl, rfl, rfl, by simp, fun i hi _ => Below.heap_alloc _ _ _ hi⟩
theorem Only.of_below {b : Nat} {w w' : World} (h : Below w.heap.size w w') : Only b w w' := ⟨h.os, h.tape, h.output, h.size, fun i hi _ => h.block i hi⟩
theorem Only.below {b B : Nat} {w w' : World} (h : Only b w w') (hB : B ≤ b) (hB2 : B ≤ w.heap.size) : Below B w w' := ⟨h.os, h.tape, h.output, h.size, fun i hi => h.block i (by omega) (by intro e; cases e; omega)⟩

theorem new_any (s : ByteArray) (w : World) :
    Calls Try.prog 37 #[.string s] w fun e w' => e = .returned (.pointer (some ⟨w.heap.size, 0, none⟩)) ∧ w' = w.alloc (.cells #[.string s, .int .i64 0, .int .i64 0] 85) := by
  go_enter Try.func37, Try.ntmps37
  go_wp2
  go_ret
  exact ⟨rfl, rfl⟩

theorem err_any (b : Nat) (s : ByteArray) (i : Nat) (e0 : Int) (w : World) (h : Rd w b s i e0) :
    Calls Try.prog 39 #[.pointer (some ⟨b, 0, none⟩)] w fun e w' => e = .returned (.tuple #[.int .i64 i, .int .i64 e0]) ∧ ∃ n, w' = w.drewN n := by
  have h1 := h.c1
  have h2 := h.c2
  clear h
  go_enter Try.func39, Try.ntmps39
  go_wp2
  go_quiet (fail)
  go_wp2
  go_ret2
  exact ⟨rfl, _, rfl⟩

theorem left_any (b : Nat) (s : ByteArray) (i : Nat) (e0 : Int) (w : World) (h : Rd w b s i e0) (hi : i ≤ s.size) (hs : s.size ≤ 140737488355328) :
    Calls Try.prog 40 #[.pointer (some ⟨b, 0, none⟩)] w fun e w' => e = .returned (.int .i64 ((s.size : Int) - i)) ∧ ∃ n, w' = w.drewN n := by
  have h0 := h.c0
  have h1 := h.c1
  clear h
  go_enter Try.func40, Try.ntmps40
  go_wp2
  go_quiet (fail)
  go_wp2
  go_ret
  exact ⟨rfl, _, rfl⟩

theorem at_any (b : Nat) (s : ByteArray) (i : Nat) (e0 : Int) (w : World) (h : Rd w b s i e0) :
    Calls Try.prog 50 #[.pointer (some ⟨b, 0, none⟩)] w fun e w' => e = .returned (.int .i64 i) ∧ w = w' := by
  have h1 := h.c1
  clear h
  go_enter Try.func50, Try.ntmps50
  go_wp2
  go_ret
  exact ⟨rfl, rfl⟩

/-- what Fail leaves -/
def failE (e f : Int) : Int := if e = 0 then f else e

theorem fail_any (b : Nat) (s : ByteArray) (i : Nat) (e0 f : Int) (w : World) (h : Rd w b s i e0) :
    Calls Try.prog 48 #[.pointer (some ⟨b, 0, none⟩), .int .i64 f] w fun e w' => e = .returned (.tuple #[]) ∧ Rd w' b s i (failE e0 f) ∧ Only b w w' := by
  have h2 := h.c2
  have h3 := h.f2
  have H := Lib.hid h
  clear h
  by_cases hz : e0 = 0
  · subst hz
    go_enter Try.func48, Try.ntmps48
    go_wp2
    go_end0
    exact ⟨rfl, H.out.setErr f, Only.set _ _ _ _⟩
  · have hzb : (e0 == 0) = false := by simpa using hz
    have hfe : failE e0 f = e0 := by unfold failE; rw [if_neg hz]
    rw [hfe]
    clear hz hfe
    go_enter Try.func48, Try.ntmps48
    go_wp2
    go_end0
    exact ⟨rfl, H.out, Only.refl _ _⟩

theorem refFail_any (b : Nat) (s : ByteArray) (i : Nat) (e0 f : Int) (w : World) (h : Rd w b s i e0) :
    Calls Try.prog 49 #[.pointer (some ⟨b, 0, none⟩), .int .i64 f] w fun e w' => e = .returned (.tuple #[]) ∧ Rd w' b s i (failE e0 f) ∧ Only b w w' := by
  have h2 := h.c2
  have h3 := h.f2
  have H := Lib.hid h
  clear h
  by_cases hz : e0 = 0
  · subst hz
    go_enter Try.func49, Try.ntmps49
    go_wp2
    go_end0
    exact ⟨rfl, H.out.setErr f, Only.set _ _ _ _⟩
  · have hzb : (e0 == 0) = false := by simpa using hz
    have hfe : failE e0 f = e0 := by unfold failE; rw [if_neg hz]
    rw [hfe]
    clear hz hfe
    go_enter Try.func49, Try.ntmps49
    go_wp2
    go_end0
    exact ⟨rfl, H.out, Only.refl _ _⟩

/-- how many, or why not -/
def manyV (s : ByteArray) (i : Nat) (n : Int) : Int × Int := if n < 0 then (0, 2) else if (s.size : Int) - i < n then (0, 1) else (n, 0)

theorem ret_pair {p : Int × Int} {a b : Int} (h : p = (a, b)) : Ending.returned (.tuple #[.int .i64 a, .int .i64 b]) = Ending.returned (.tuple #[.int .i64 p.1, .int .i64 p.2]) := by subst h; rfl

theorem many_any (b : Nat) (s : ByteArray) (i : Nat) (e0 n : Int) (w : World) (h : Rd w b s i e0) (hi : i ≤ s.size) (hs : s.size ≤ 140737488355328) :
    Calls Try.prog 66 #[.pointer (some ⟨b, 0, none⟩), .int .i64 n] w fun e w' => e = .returned (.tuple #[.int .i64 (manyV s i n).1, .int .i64 (manyV s i n).2]) ∧ ∃ m, w' = w.drewN m := by
  have c := Lib.hid (left_any b s i e0 w h hi hs)
  clear h
  by_cases h1 : n < 0
  · have hf : manyV s i n = (0, 2) := by unfold manyV; rw [if_pos h1]
    have HF := Lib.hid hf
    clear hf
    go_enter Try.func66, Try.ntmps66
    go_wp2
    go_ret2
    exact ⟨ret_pair HF.out, 0, rfl⟩
  · by_cases h2 : (s.size : Int) - i < n
    · have hf : manyV s i n = (0, 1) := by unfold manyV; rw [if_neg h1, if_pos h2]
      have HF := Lib.hid hf
      clear hf
      go_enter Try.func66, Try.ntmps66
      go_wp2_with (go_at_call 40; with_reducible refine c.out.mono ?_; rintro e w' ⟨rfl, m, rfl⟩)
      go_ret2
      exact ⟨ret_pair HF.out, _, rfl⟩
    · have hf : manyV s i n = (n, 0) := by unfold manyV; rw [if_neg h1, if_neg h2]
      have HF := Lib.hid hf
      clear hf
      go_enter Try.func66, Try.ntmps66
      go_wp2_with (go_at_call 40; with_reducible refine c.out.mono ?_; rintro e w' ⟨rfl, m, rfl⟩)
      go_ret2
      exact ⟨ret_pair HF.out, _, rfl⟩

theorem one_any (b : Nat) (s : ByteArray) (i : Nat) (e0 : Int) (w : World) (h : Rd w b s i e0) (hi : i ≤ s.size) (hs : s.size ≤ 140737488355328) :
    Calls Try.prog 64 #[.pointer (some ⟨b, 0, none⟩)] w fun e w' => e = .returned (.tuple #[.int .i64 (manyV s i 1).1, .int .i64 (manyV s i 1).2]) ∧ ∃ m, w' = w.drewN m := by
  have c := Lib.hid (many_any b s i e0 1 w h hi hs)
  clear h
  generalize manyV s i 1 = p at *
  go_enter Try.func64, Try.ntmps64
  go_wp2_with (go_at_call 66; with_reducible refine c.out.mono ?_; rintro e w' ⟨rfl, m, rfl⟩)
  go_ret2
  exact ⟨rfl, _, rfl⟩

theorem bytes1_any (b : Nat) (s : ByteArray) (i : Nat) (e0 n : Int) (w : World) (h : Rd w b s i e0) (hi : i ≤ s.size) (hs : s.size ≤ 140737488355328) (x y : Nat)
    (hx : w.cell? ⟨x, 0, none⟩ = some (.pointer (some ⟨b, 0, none⟩))) (hy : w.cell? ⟨y, 0, none⟩ = some (.int .i64 n)) :
    Calls Try.prog 65 #[.pointer (some ⟨x, 0, none⟩), .pointer (some ⟨y, 0, none⟩)] w fun e w' => e = .returned (.tuple #[.int .i64 (manyV s i n).1, .int .i64 (manyV s i n).2]) ∧ ∃ m, w' = w.drewN m := by
  have c := Lib.hid (many_any b s i e0 n w h hi hs)
  clear h
  generalize manyV s i n = p at *
  go_enter Try.func65, Try.ntmps65
  go_wp2_with (go_at_call 66; with_reducible refine c.out.mono ?_; rintro e w' ⟨rfl, m, rfl⟩)
  go_ret2
  exact ⟨rfl, _, rfl⟩
end Go.Proofs.Ytiakmaleiholnaa
