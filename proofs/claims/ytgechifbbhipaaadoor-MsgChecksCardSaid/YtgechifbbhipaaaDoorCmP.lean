/- commands and items, in memory and in plain Lean. No condition. -/
import Derived.Test.YtgechifbbhipaaaDoorMeT
import Derived.Test.YtgechifbbhipaaaDoorTrN
set_option linter.unusedVariables false
set_option linter.unusedSimpArgs false
namespace Go.Proofs.YtgechifbbhipaaaDoor
open Go.RowKit Go.ChangeShapes Go.WideShapes

/-- an item -/
structure It where
  ta : ByteArray
  so : ByteArray
  me : MetV
  da : ByteArray
  mo : Bool
def It.cells (x : It) : Array Value := #[.string x.ta, .string x.so, .string x.me.fo, .string x.me.ty, .int .i64 x.me.sz, .int .i64 x.me.ve, .string x.me.la, .string x.me.ne, .string x.me.no, .int .i64 x.me.mm, .int .i64 x.me.mo, .string x.da, .bool x.mo]
/-- a command but for its kids -/
structure Hd where
  kd : Int
  id : Int
  mr : Int
  cr : Int
  fr : ByteArray
  co : Int
  ta : ByteArray
  so : ByteArray
  me : MetV
  its : List It
def cellsH (h : Hd) (ai : Option Addr) (ci : Nat) (ak : Option Addr) (nk ck : Nat) : Array Value := #[.int .i64 h.kd, .int .i64 h.id, .int .i64 h.mr, .int .i64 h.cr, .string h.fr, .int .i64 h.co, .string h.ta, .string h.so, .string h.me.fo, .string h.me.ty, .int .i64 h.me.sz, .int .i64 h.me.ve, .string h.me.la, .string h.me.ne, .string h.me.no, .int .i64 h.me.mm, .int .i64 h.me.mo, .slice ai h.its.length ci, .slice ak nk ck]
/-- a command -/
inductive Cm where
  | mk : Hd → List Cm → Cm
def Cm.hd : Cm → Hd
  | .mk h _ => h
def Cm.ks : Cm → List Cm
  | .mk _ l => l
/-- items in memory, below M -/
def AtIs (w : World) (M : Nat) (a : Option Addr) (l : List It) : Prop := ∀ i (h : i < l.length), ∃ b o, a = some ⟨b, o, none⟩ ∧ b < M ∧ w.rangeAt b (o + i * 13) l[i].cells.toList
theorem AtIs.below {w w' : World} {M : Nat} {a : Option Addr} {l : List It} (h : AtIs w M a l) (hb : Below M w w') : AtIs w' M a l := fun i hi => by
  obtain ⟨b, o, h1, h2, h3⟩ := h i hi
  exact ⟨b, o, h1, h2, fun j v hv => (hb.cell (p := ⟨b, o + i * 13 + j, none⟩) h2).trans (h3 j v hv)⟩
theorem AtIs.mono {w : World} {M K : Nat} {a : Option Addr} {l : List It} (h : AtIs w M a l) (hm : M ≤ K) : AtIs w K a l := fun i hi => by
  obtain ⟨b, o, h1, h2, h3⟩ := h i hi
  exact ⟨b, o, h1, Nat.lt_of_lt_of_le h2 hm, h3⟩
mutual
/-- a command in memory, what it points at below M -/
def AtC (w : World) (M : Nat) : Cm → Array Value → Prop
  | .mk h ks, cs => ∃ ai ci ak ck, cs = cellsH h ai ci ak ks.length ck ∧ AtIs w M ai h.its ∧ AtCs w M ak 0 ks
def AtCs (w : World) (M : Nat) (a : Option Addr) : Nat → List Cm → Prop
  | _, [] => True
  | i, k :: ks => (∃ b o cs, a = some ⟨b, o, none⟩ ∧ b < M ∧ w.rangeAt b (o + i * 19) (Array.toList cs) ∧ AtC w M k cs) ∧ AtCs w M a (i + 1) ks
end
mutual
theorem AtC.below {w w' : World} {M : Nat} (hb : Below M w w') : ∀ (e : Cm) (v : Array Value), AtC w M e v → AtC w' M e v
  | .mk h ks, v, hh => by
    unfold AtC at hh ⊢
    obtain ⟨ai, ci, ak, ck, h4, h5, h6⟩ := hh
    exact ⟨ai, ci, ak, ck, h4, h5.below hb, AtCs.below hb ak ks 0 h6⟩
theorem AtCs.below {w w' : World} {M : Nat} (hb : Below M w w') (a : Option Addr) : ∀ (ks : List Cm) (i : Nat), AtCs w M a i ks → AtCs w' M a i ks
  | [], _, _ => by unfold AtCs; trivial
  | k :: ks, i, h => by
    unfold AtCs at h ⊢
    obtain ⟨⟨b, o, v, h1, h2, h3, h4⟩, h5⟩ := h
    exact ⟨⟨b, o, v, h1, h2, fun j u hu => (hb.cell (p := ⟨b, o + i * 19 + j, none⟩) h2).trans (h3 j u hu), AtC.below hb k v h4⟩, AtCs.below hb a ks (i + 1) h5⟩
end
mutual
theorem AtC.mono {w : World} {M K : Nat} (hm : M ≤ K) : ∀ (e : Cm) (v : Array Value), AtC w M e v → AtC w K e v
  | .mk h ks, v, hh => by
    unfold AtC at hh ⊢
    obtain ⟨ai, ci, ak, ck, h4, h5, h6⟩ := hh
    exact ⟨ai, ci, ak, ck, h4, h5.mono hm, AtCs.mono hm ak ks 0 h6⟩
theorem AtCs.mono {w : World} {M K : Nat} (hm : M ≤ K) (a : Option Addr) : ∀ (ks : List Cm) (i : Nat), AtCs w M a i ks → AtCs w K a i ks
  | [], _, _ => by unfold AtCs; trivial
  | k :: ks, i, h => by
    unfold AtCs at h ⊢
    obtain ⟨⟨b, o, v, h1, h2, h3, h4⟩, h5⟩ := h
    exact ⟨⟨b, o, v, h1, Nat.lt_of_lt_of_le h2 hm, h3, AtC.mono hm k v h4⟩, AtCs.mono hm a ks (i + 1) h5⟩
end
theorem AtC.parts {w : World} {M : Nat} {e : Cm} {v : Array Value} (h : AtC w M e v) : ∃ ai ci ak ck, v = cellsH e.hd ai ci ak e.ks.length ck ∧ AtIs w M ai e.hd.its ∧ AtCs w M ak 0 e.ks := by
  cases e; unfold AtC at h; exact h
theorem AtC.of {w : World} {M : Nat} {e : Cm} {ai : Option Addr} {ci : Nat} {ak : Option Addr} {ck : Nat} (h1 : AtIs w M ai e.hd.its) (h2 : AtCs w M ak 0 e.ks) : AtC w M e (cellsH e.hd ai ci ak e.ks.length ck) := by
  cases e; unfold AtC; exact ⟨ai, ci, ak, ck, rfl, h1, h2⟩
theorem AtCs.get {w : World} {M : Nat} {a : Option Addr} : ∀ {ks : List Cm} {i : Nat}, AtCs w M a i ks → ∀ j (hj : j < ks.length), ∃ b o cs, a = some ⟨b, o, none⟩ ∧ b < M ∧ w.rangeAt b (o + (i + j) * 19) (Array.toList cs) ∧ AtC w M ks[j] cs
  | [], _, _, j, hj => by simp at hj
  | k :: ks, i, h, j, hj => by
    unfold AtCs at h
    obtain ⟨h1, h2⟩ := h
    cases j with
    | zero => exact h1
    | succ j =>
      have := AtCs.get h2 j (by simpa using hj)
      rw [show i + 1 + j = i + (j + 1) from by omega] at this
      exact this
/-- a kid, its cells -/
theorem AtCs.kid {w : World} {M : Nat} {a : Option Addr} {ks : List Cm} (h : AtCs w M a 0 ks) (j : Nat) (hj : j < ks.length) : ∃ b o ai ci ak ck, a = some ⟨b, o, none⟩ ∧ b < M ∧
    w.rangeAt b (o + j * 19) (cellsH ks[j].hd ai ci ak ks[j].ks.length ck).toList ∧ AtIs w M ai ks[j].hd.its ∧ AtCs w M ak 0 ks[j].ks := by
  obtain ⟨b, o, v, h1, h2, h3, h4⟩ := h.get j hj
  obtain ⟨ai, ci, ak, ck, rfl, h5, h6⟩ := h4.parts
  rw [Nat.zero_add] at h3
  exact ⟨b, o, ai, ci, ak, ck, h1, h2, h3, h5, h6⟩
theorem atCs_of {w : World} {M b o : Nat} (hb : b < M) : ∀ (l : List Cm) (m : Nat), (∀ j (hj : j < l.length), ∃ cs : Array Value, w.rangeAt b (o + (m + j) * 19) cs.toList ∧ AtC w M l[j] cs) → AtCs w M (some ⟨b, o, none⟩) m l
  | [], _, _ => by unfold AtCs; trivial
  | k :: l, m, h => by
    unfold AtCs
    obtain ⟨cs, h1, h2⟩ := h 0 (by simp)
    refine ⟨⟨b, o, cs, rfl, hb, ?_, h2⟩, atCs_of hb l (m + 1) fun j hj => ?_⟩
    · simpa using h1
    · obtain ⟨cs2, h3, h4⟩ := h (j + 1) (by simpa using hj)
      exact ⟨cs2, by rw [show m + 1 + j = m + (j + 1) from by omega]; exact h3, h4⟩
theorem list13 {α : Type} {l : List α} (h : l.length = 13) : ∃ a0 a1 a2 a3 a4 a5 a6 a7 a8 a9 a10 a11 a12, l = [a0, a1, a2, a3, a4, a5, a6, a7, a8, a9, a10, a11, a12] := by
  match l, h with
  | [a0, a1, a2, a3, a4, a5, a6, a7, a8, a9, a10, a11, a12], _ => exact ⟨a0, a1, a2, a3, a4, a5, a6, a7, a8, a9, a10, a11, a12, rfl⟩
theorem list19 {α : Type} {l : List α} (h : l.length = 19) : ∃ a0 a1 a2 a3 a4 a5 a6 a7 a8 a9 a10 a11 a12 a13 a14 a15 a16 a17 a18, l = [a0, a1, a2, a3, a4, a5, a6, a7, a8, a9, a10, a11, a12, a13, a14, a15, a16, a17, a18] := by
  match l, h with
  | [a0, a1, a2, a3, a4, a5, a6, a7, a8, a9, a10, a11, a12, a13, a14, a15, a16, a17, a18], _ => exact ⟨a0, a1, a2, a3, a4, a5, a6, a7, a8, a9, a10, a11, a12, a13, a14, a15, a16, a17, a18, rfl⟩
theorem list11 {α : Type} {l : List α} (h : l.length = 11) : ∃ a0 a1 a2 a3 a4 a5 a6 a7 a8 a9 a10, l = [a0, a1, a2, a3, a4, a5, a6, a7, a8, a9, a10] := by
  match l, h with
  | [a0, a1, a2, a3, a4, a5, a6, a7, a8, a9, a10], _ => exact ⟨a0, a1, a2, a3, a4, a5, a6, a7, a8, a9, a10, rfl⟩
theorem listm9 {α : Type} {l : List α} (h : l.length = 9) : ∃ a b c d e f g i j, l = [a, b, c, d, e, f, g, i, j] := by
  match l, h with
  | [a, b, c, d, e, f, g, i, j], _ => exact ⟨a, b, c, d, e, f, g, i, j, rfl⟩
set_option maxRecDepth 100000 in
theorem cells13 {w : World} {b o : Nat} {x : It} (h : w.rangeAt b o x.cells.toList) :
    w.cell? ⟨b, o, none⟩ = some (.string x.ta) ∧ w.cell? ⟨b, o + 1, none⟩ = some (.string x.so) ∧ w.cell? ⟨b, o + 2, none⟩ = some (.string x.me.fo) ∧ w.cell? ⟨b, o + 3, none⟩ = some (.string x.me.ty) ∧ w.cell? ⟨b, o + 4, none⟩ = some (.int .i64 x.me.sz) ∧ w.cell? ⟨b, o + 5, none⟩ = some (.int .i64 x.me.ve) ∧ w.cell? ⟨b, o + 6, none⟩ = some (.string x.me.la) ∧ w.cell? ⟨b, o + 7, none⟩ = some (.string x.me.ne) ∧ w.cell? ⟨b, o + 8, none⟩ = some (.string x.me.no) ∧ w.cell? ⟨b, o + 9, none⟩ = some (.int .i64 x.me.mm) ∧ w.cell? ⟨b, o + 10, none⟩ = some (.int .i64 x.me.mo) ∧ w.cell? ⟨b, o + 11, none⟩ = some (.string x.da) ∧ w.cell? ⟨b, o + 12, none⟩ = some (.bool x.mo) :=
  ⟨h 0 _ rfl, h 1 _ rfl, h 2 _ rfl, h 3 _ rfl, h 4 _ rfl, h 5 _ rfl, h 6 _ rfl, h 7 _ rfl, h 8 _ rfl, h 9 _ rfl, h 10 _ rfl, h 11 _ rfl, h 12 _ rfl⟩
set_option maxRecDepth 100000 in
theorem cells19 {w : World} {b o : Nat} {x : Hd} {ai : Option Addr} {ci : Nat} {ak : Option Addr} {nk ck : Nat} (h : w.rangeAt b o (cellsH x ai ci ak nk ck).toList) :
    w.cell? ⟨b, o, none⟩ = some (.int .i64 x.kd) ∧ w.cell? ⟨b, o + 1, none⟩ = some (.int .i64 x.id) ∧ w.cell? ⟨b, o + 2, none⟩ = some (.int .i64 x.mr) ∧ w.cell? ⟨b, o + 3, none⟩ = some (.int .i64 x.cr) ∧ w.cell? ⟨b, o + 4, none⟩ = some (.string x.fr) ∧ w.cell? ⟨b, o + 5, none⟩ = some (.int .i64 x.co) ∧ w.cell? ⟨b, o + 6, none⟩ = some (.string x.ta) ∧ w.cell? ⟨b, o + 7, none⟩ = some (.string x.so) ∧ w.cell? ⟨b, o + 8, none⟩ = some (.string x.me.fo) ∧ w.cell? ⟨b, o + 9, none⟩ = some (.string x.me.ty) ∧ w.cell? ⟨b, o + 10, none⟩ = some (.int .i64 x.me.sz) ∧ w.cell? ⟨b, o + 11, none⟩ = some (.int .i64 x.me.ve) ∧ w.cell? ⟨b, o + 12, none⟩ = some (.string x.me.la) ∧ w.cell? ⟨b, o + 13, none⟩ = some (.string x.me.ne) ∧ w.cell? ⟨b, o + 14, none⟩ = some (.string x.me.no) ∧ w.cell? ⟨b, o + 15, none⟩ = some (.int .i64 x.me.mm) ∧ w.cell? ⟨b, o + 16, none⟩ = some (.int .i64 x.me.mo) ∧ w.cell? ⟨b, o + 17, none⟩ = some (.slice ai x.its.length ci) ∧ w.cell? ⟨b, o + 18, none⟩ = some (.slice ak nk ck) :=
  ⟨h 0 _ rfl, h 1 _ rfl, h 2 _ rfl, h 3 _ rfl, h 4 _ rfl, h 5 _ rfl, h 6 _ rfl, h 7 _ rfl, h 8 _ rfl, h 9 _ rfl, h 10 _ rfl, h 11 _ rfl, h 12 _ rfl, h 13 _ rfl, h 14 _ rfl, h 15 _ rfl, h 16 _ rfl, h 17 _ rfl, h 18 _ rfl⟩
theorem cellsOf69 : Tryd.prog.cellsOf 69 = 13 := by kernel_rfl
theorem cellsOf27 : Tryd.prog.cellsOf 27 = 19 := by kernel_rfl
theorem cellsOf23c : Tryd.prog.cellsOf 23 = 9 := by kernel_rfl
set_option maxRecDepth 100000 in
/-- cells that are data of type Meta -/
theorem open_mv {H : Type} {enc : TypeId × Value → H} {W : World} (fuel : Nat) (cs : List Value) (x : DataW H × List MemPlace) (h : DataW.trod enc Tryd.prog W 0 (fun _ => true) true fuel 23 cs = some x) : ∃ m : MetV, cs = m.cells.toList := by
  obtain ⟨xs, n, hn, hx, hlen, hxl, hy⟩ := DataW.trod_struct Tryd.underlying23 h
  rw [cellsOf23c] at hlen
  obtain ⟨c0, c1, c2, c3, c4, c5, c6, c7, c8, rfl⟩ := listm9 hlen
  obtain ⟨x0, x1, x2, x3, x4, x5, x6, x7, x8, rfl⟩ := listm9 (show xs.length = 9 from hxl)
  have g0 : DataW.trod enc Tryd.prog W 0 (fun _ => true) true n 9 [c0] = some x0 := (hy 0 _ rfl).trans rfl
  have g1 : DataW.trod enc Tryd.prog W 0 (fun _ => true) true n 9 [c1] = some x1 := (hy 1 _ rfl).trans rfl
  have g2 : DataW.trod enc Tryd.prog W 0 (fun _ => true) true n 3 [c2] = some x2 := (hy 2 _ rfl).trans rfl
  have g3 : DataW.trod enc Tryd.prog W 0 (fun _ => true) true n 3 [c3] = some x3 := (hy 3 _ rfl).trans rfl
  have g4 : DataW.trod enc Tryd.prog W 0 (fun _ => true) true n 9 [c4] = some x4 := (hy 4 _ rfl).trans rfl
  have g5 : DataW.trod enc Tryd.prog W 0 (fun _ => true) true n 9 [c5] = some x5 := (hy 5 _ rfl).trans rfl
  have g6 : DataW.trod enc Tryd.prog W 0 (fun _ => true) true n 9 [c6] = some x6 := (hy 6 _ rfl).trans rfl
  have g7 : DataW.trod enc Tryd.prog W 0 (fun _ => true) true n 3 [c7] = some x7 := (hy 7 _ rfl).trans rfl
  have g8 : DataW.trod enc Tryd.prog W 0 (fun _ => true) true n 3 [c8] = some x8 := (hy 8 _ rfl).trans rfl
  obtain ⟨q0, e0, f0, _⟩ := DataW.trod_string Tryd.underlying9 g0
  obtain ⟨q1, e1, f1, _⟩ := DataW.trod_string Tryd.underlying9 g1
  obtain ⟨q2, e2, f2, _⟩ := DataW.trod_int Tryd.underlying3 g2
  obtain ⟨q3, e3, f3, _⟩ := DataW.trod_int Tryd.underlying3 g3
  obtain ⟨q4, e4, f4, _⟩ := DataW.trod_string Tryd.underlying9 g4
  obtain ⟨q5, e5, f5, _⟩ := DataW.trod_string Tryd.underlying9 g5
  obtain ⟨q6, e6, f6, _⟩ := DataW.trod_string Tryd.underlying9 g6
  obtain ⟨q7, e7, f7, _⟩ := DataW.trod_int Tryd.underlying3 g7
  obtain ⟨q8, e8, f8, _⟩ := DataW.trod_int Tryd.underlying3 g8
  simp only [List.cons.injEq, and_true] at e0 e1 e2 e3 e4 e5 e6 e7 e8
  subst e0 e1 e2 e3 e4 e5 e6 e7 e8
  exact ⟨⟨q0, q1, q2, q3, q4, q5, q6, q7, q8⟩, rfl⟩
set_option maxRecDepth 100000 in
theorem open_it {H : Type} {enc : TypeId × Value → H} {W : World} (fuel : Nat) (cs : List Value) (x : DataW H × List MemPlace) (h : DataW.trod enc Tryd.prog W 0 (fun _ => true) true fuel 69 cs = some x) : ∃ m : It, cs = m.cells.toList := by
  obtain ⟨xs, n, hn, hx, hlen, hxl, hy⟩ := DataW.trod_struct Tryd.underlying69 h
  rw [cellsOf69] at hlen
  obtain ⟨c0, c1, c2, c3, c4, c5, c6, c7, c8, c9, c10, c11, c12, rfl⟩ := list13 hlen
  obtain ⟨x0, x1, x2, x3, x4, rfl⟩ := list5 (show xs.length = 5 from hxl)
  have g0 : DataW.trod enc Tryd.prog W 0 (fun _ => true) true n 9 [c0] = some x0 := (hy 0 _ rfl).trans rfl
  have g1 : DataW.trod enc Tryd.prog W 0 (fun _ => true) true n 9 [c1] = some x1 := (hy 1 _ rfl).trans rfl
  have g2 : DataW.trod enc Tryd.prog W 0 (fun _ => true) true n 23 [c2, c3, c4, c5, c6, c7, c8, c9, c10] = some x2 := (hy 2 _ rfl).trans rfl
  have g3 : DataW.trod enc Tryd.prog W 0 (fun _ => true) true n 9 [c11] = some x3 := (hy 3 _ rfl).trans rfl
  have g4 : DataW.trod enc Tryd.prog W 0 (fun _ => true) true n 4 [c12] = some x4 := (hy 4 _ rfl).trans rfl
  obtain ⟨q0, e0, f0, _⟩ := DataW.trod_string Tryd.underlying9 g0
  obtain ⟨q1, e1, f1, _⟩ := DataW.trod_string Tryd.underlying9 g1
  obtain ⟨q2, e2⟩ := open_mv n _ _ g2
  obtain ⟨q3, e3, f3, _⟩ := DataW.trod_string Tryd.underlying9 g3
  obtain ⟨q4, e4, f4⟩ := DataW.trod_bool Tryd.underlying4 g4
  simp only [MetV.cells, List.cons.injEq, and_true] at e0 e1 e2 e3 e4
  obtain ⟨m0, m1, m2, m3, m4, m5, m6, m7, m8⟩ := e2
  subst e0 e1 e3 e4 m0 m1 m2 m3 m4 m5 m6 m7 m8
  exact ⟨⟨q0, q1, q2, q3, q4⟩, rfl⟩
set_option maxRecDepth 100000 in
theorem open_items {H : Type} {enc : TypeId × Value → H} {W : World} (n : Nat) (c : Value) (x : DataW H × List MemPlace) (g : DataW.trod enc Tryd.prog W 0 (fun _ => true) true n 24 [c] = some x) :
    ∃ (l : List It) (a : Option Addr) (k : Nat), c = .slice a l.length k ∧ AtIs W W.heap.size a l := by
  rcases DataW.trod_slice Tryd.underlying24 g with ⟨e4, _⟩ | ⟨ad, len, cap, elems, rest, m, rfl, e4, f4, _, hlc, _, hel, hi, _, _⟩
  · simp only [List.cons.injEq, and_true] at e4
    subst e4
    exact ⟨[], none, 0, rfl, fun i h => by simp at h⟩
  · simp only [List.cons.injEq, and_true] at e4
    subst e4
    rw [cellsOf69] at hi
    have hex : ∀ i, i < len → ∃ e : It, W.cells? 0 (ad.add (i * 13)) 13 = some e.cells.toList := fun i hil => by
      have h1 := hi i hil
      have h2 : elems[i]? = some elems[i] := List.getElem?_eq_getElem (by omega)
      rw [h2] at h1
      obtain ⟨cs', h3, h4⟩ := Option.bind_eq_some_iff.1 h1
      obtain ⟨e, he⟩ := open_it m cs' _ h4
      exact ⟨e, by rw [← he]; exact h3⟩
    obtain ⟨ks, hkl, hks⟩ := exists_list len hex
    refine ⟨ks, some ad, cap, by rw [hkl], fun j hj => ?_⟩
    obtain ⟨b, o2, sp⟩ := ad
    obtain rfl : sp = none := by
      obtain ⟨_, hl0, hget0⟩ := World.cells?_some (hks 0 (by omega))
      have c00 := hget0 0 (by decide)
      have c01 := c00.trans (show (ks[0]'(by omega)).cells.toList[0]? = some (.string (ks[0]'(by omega)).ta) from rfl)
      simpa [Addr.add] using World.cell?_spot c01
    have hc := hks j hj
    obtain ⟨_, hl, hget⟩ := World.cells?_some hc
    have c00 := hget 0 (by decide)
    refine ⟨b, o2, rfl, ?_, fun k v hv => ?_⟩
    · have c01 := c00.trans (show ks[j].cells.toList[0]? = some (.string ks[j].ta) from rfl)
      rw [addr_addT, addr_addT] at c01
      exact World.block_lt_of_cell? _ _ c01
    · have hk5 : k < 13 := by have := (List.getElem?_eq_some_iff.1 hv).1; simpa [It.cells] using this
      have := hget k hk5
      rw [addr_addT, addr_addT, hv] at this
      exact this
set_option maxRecDepth 100000 in
theorem open_cm {H : Type} {enc : TypeId × Value → H} {W : World} : ∀ (fuel : Nat) (cs : List Value) (x : DataW H × List MemPlace), DataW.trod enc Tryd.prog W 0 (fun _ => true) true fuel 27 cs = some x → ∃ e : Cm, AtC W W.heap.size e cs.toArray := by
  intro fuel
  induction fuel using Nat.strongRecOn with
  | _ fuel ih =>
  intro cs x h
  obtain ⟨xs, n, rfl, rfl, hlen, hxl, hy⟩ := DataW.trod_struct Tryd.underlying27 h
  rw [cellsOf27] at hlen
  obtain ⟨c0, c1, c2, c3, c4, c5, c6, c7, c8, c9, c10, c11, c12, c13, c14, c15, c16, c17, c18, rfl⟩ := list19 hlen
  obtain ⟨x0, x1, x2, x3, x4, x5, x6, x7, x8, x9, x10, rfl⟩ := list11 (show xs.length = 11 from hxl)
  have g0 : DataW.trod enc Tryd.prog W 0 (fun _ => true) true n 3 [c0] = some x0 := (hy 0 _ rfl).trans rfl
  have g1 : DataW.trod enc Tryd.prog W 0 (fun _ => true) true n 3 [c1] = some x1 := (hy 1 _ rfl).trans rfl
  have g2 : DataW.trod enc Tryd.prog W 0 (fun _ => true) true n 3 [c2] = some x2 := (hy 2 _ rfl).trans rfl
  have g3 : DataW.trod enc Tryd.prog W 0 (fun _ => true) true n 3 [c3] = some x3 := (hy 3 _ rfl).trans rfl
  have g4 : DataW.trod enc Tryd.prog W 0 (fun _ => true) true n 9 [c4] = some x4 := (hy 4 _ rfl).trans rfl
  have g5 : DataW.trod enc Tryd.prog W 0 (fun _ => true) true n 3 [c5] = some x5 := (hy 5 _ rfl).trans rfl
  have g6 : DataW.trod enc Tryd.prog W 0 (fun _ => true) true n 9 [c6] = some x6 := (hy 6 _ rfl).trans rfl
  have g7 : DataW.trod enc Tryd.prog W 0 (fun _ => true) true n 9 [c7] = some x7 := (hy 7 _ rfl).trans rfl
  have g8 : DataW.trod enc Tryd.prog W 0 (fun _ => true) true n 23 [c8, c9, c10, c11, c12, c13, c14, c15, c16] = some x8 := (hy 8 _ rfl).trans rfl
  have g9 : DataW.trod enc Tryd.prog W 0 (fun _ => true) true n 24 [c17] = some x9 := (hy 9 _ rfl).trans rfl
  have g10 : DataW.trod enc Tryd.prog W 0 (fun _ => true) true n 25 [c18] = some x10 := (hy 10 _ rfl).trans rfl
  obtain ⟨q0, e0, f0, _⟩ := DataW.trod_int Tryd.underlying3 g0
  obtain ⟨q1, e1, f1, _⟩ := DataW.trod_int Tryd.underlying3 g1
  obtain ⟨q2, e2, f2, _⟩ := DataW.trod_int Tryd.underlying3 g2
  obtain ⟨q3, e3, f3, _⟩ := DataW.trod_int Tryd.underlying3 g3
  obtain ⟨q4, e4, f4, _⟩ := DataW.trod_string Tryd.underlying9 g4
  obtain ⟨q5, e5, f5, _⟩ := DataW.trod_int Tryd.underlying3 g5
  obtain ⟨q6, e6, f6, _⟩ := DataW.trod_string Tryd.underlying9 g6
  obtain ⟨q7, e7, f7, _⟩ := DataW.trod_string Tryd.underlying9 g7
  obtain ⟨q8, e8⟩ := open_mv n _ _ g8
  obtain ⟨q9, ai, ci, rfl, hai⟩ := open_items n _ _ g9
  simp only [MetV.cells, List.cons.injEq, and_true] at e0 e1 e2 e3 e4 e5 e6 e7 e8
  obtain ⟨m0, m1, m2, m3, m4, m5, m6, m7, m8⟩ := e8
  subst e0 e1 e2 e3 e4 e5 e6 e7 m0 m1 m2 m3 m4 m5 m6 m7 m8
  rcases DataW.trod_slice Tryd.underlying25 g10 with ⟨e4, _⟩ | ⟨ad, len, cap, elems, rest, m, rfl, e4, f4, _, hlc, _, hel, hi, _, _⟩
  · simp only [List.cons.injEq, and_true] at e4
    subst e4
    refine ⟨.mk ⟨q0, q1, q2, q3, q4, q5, q6, q7, q8, q9⟩ [], ?_⟩
    unfold AtC
    exact ⟨ai, ci, none, 0, rfl, hai, by unfold AtCs; trivial⟩
  · simp only [List.cons.injEq, and_true] at e4
    subst e4
    rw [cellsOf27] at hi
    have hex : ∀ i, i < len → ∃ e : Cm, ∃ cs : List Value, W.cells? 0 (ad.add (i * 19)) 19 = some cs ∧ AtC W W.heap.size e cs.toArray := fun i hil => by
      have h1 := hi i hil
      have h2 : elems[i]? = some elems[i] := List.getElem?_eq_getElem (by omega)
      rw [h2] at h1
      obtain ⟨cs', h3, h4⟩ := Option.bind_eq_some_iff.1 h1
      obtain ⟨e, he⟩ := ih m (by omega) cs' _ h4
      exact ⟨e, cs', h3, he⟩
    obtain ⟨ks, hkl, hks⟩ := exists_list len hex
    refine ⟨.mk ⟨q0, q1, q2, q3, q4, q5, q6, q7, q8, q9⟩ ks, ?_⟩
    unfold AtC
    refine ⟨ai, ci, some ad, cap, by rw [hkl]; rfl, hai, ?_⟩
    by_cases h0 : ks.length = 0
    · rw [List.eq_nil_of_length_eq_zero h0]; unfold AtCs; trivial
    · obtain ⟨b, o2, sp⟩ := ad
      obtain ⟨cs0, hc0, _⟩ := hks 0 (by omega)
      obtain ⟨_, hl0, hget0⟩ := World.cells?_some hc0
      have c00 := hget0 0 (by decide)
      obtain ⟨v0, hv0⟩ : ∃ v0, cs0[0]? = some v0 := ⟨cs0[0], List.getElem?_eq_getElem (by omega)⟩
      rw [hv0] at c00
      obtain rfl : sp = none := by simpa [Addr.add] using World.cell?_spot c00
      refine atCs_of (World.block_lt_of_cell? _ _ c00) ks 0 fun j hj => ?_
      obtain ⟨cs, hc, hat⟩ := hks j hj
      obtain ⟨_, hl, hget⟩ := World.cells?_some hc
      refine ⟨cs.toArray, fun k v hv => ?_, hat⟩
      have hv : cs[k]? = some v := hv
      have hk5 : k < 19 := by have := (List.getElem?_eq_some_iff.1 hv).1; omega
      have := hget k hk5
      rw [addr_addT, addr_addT, hv] at this
      rw [Nat.zero_add]
      exact this
theorem open_cms {H : Type} {enc : TypeId × Value → H} {W : World} (n : Nat) (c : Value) (x : DataW H × List MemPlace) (g : DataW.trod enc Tryd.prog W 0 (fun _ => true) true n 25 [c] = some x) :
    ∃ (ks : List Cm) (a : Option Addr) (k : Nat), c = .slice a ks.length k ∧ AtCs W W.heap.size a 0 ks := by
  rcases DataW.trod_slice Tryd.underlying25 g with ⟨e4, _⟩ | ⟨ad, len, cap, elems, rest, m, rfl, e4, f4, _, hlc, _, hel, hi, _, _⟩
  · simp only [List.cons.injEq, and_true] at e4
    subst e4
    exact ⟨[], none, 0, rfl, by unfold AtCs; trivial⟩
  · simp only [List.cons.injEq, and_true] at e4
    subst e4
    rw [cellsOf27] at hi
    have hex : ∀ i, i < len → ∃ e : Cm, ∃ cs : List Value, W.cells? 0 (ad.add (i * 19)) 19 = some cs ∧ AtC W W.heap.size e cs.toArray := fun i hil => by
      have h1 := hi i hil
      have h2 : elems[i]? = some elems[i] := List.getElem?_eq_getElem (by omega)
      rw [h2] at h1
      obtain ⟨cs', h3, h4⟩ := Option.bind_eq_some_iff.1 h1
      obtain ⟨e, he⟩ := open_cm m cs' _ h4
      exact ⟨e, cs', h3, he⟩
    obtain ⟨ks, hkl, hks⟩ := exists_list len hex
    refine ⟨ks, some ad, cap, by rw [hkl], ?_⟩
    by_cases h0 : ks.length = 0
    · rw [List.eq_nil_of_length_eq_zero h0]; unfold AtCs; trivial
    · obtain ⟨b, o2, sp⟩ := ad
      obtain ⟨cs0, hc0, _⟩ := hks 0 (by omega)
      obtain ⟨_, hl0, hget0⟩ := World.cells?_some hc0
      have c00 := hget0 0 (by decide)
      obtain ⟨v0, hv0⟩ : ∃ v0, cs0[0]? = some v0 := ⟨cs0[0], List.getElem?_eq_getElem (by omega)⟩
      rw [hv0] at c00
      obtain rfl : sp = none := by simpa [Addr.add] using World.cell?_spot c00
      refine atCs_of (World.block_lt_of_cell? _ _ c00) ks 0 fun j hj => ?_
      obtain ⟨cs, hc, hat⟩ := hks j hj
      obtain ⟨_, hl, hget⟩ := World.cells?_some hc
      refine ⟨cs.toArray, fun k v hv => ?_, hat⟩
      have hv : cs[k]? = some v := hv
      have hk5 : k < 19 := by have := (List.getElem?_eq_some_iff.1 hv).1; omega
      have := hget k hk5
      rw [addr_addT, addr_addT, hv] at this
      rw [Nat.zero_add]
      exact this
end Go.Proofs.YtgechifbbhipaaaDoor
