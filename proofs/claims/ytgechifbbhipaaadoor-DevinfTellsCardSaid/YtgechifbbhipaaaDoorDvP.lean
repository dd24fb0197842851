/- devices, in memory and in plain Lean. No condition. -/
import Derived.Test.YtgechifbbhipaaaDoorTrN
import Derived.Test.YtgechifbbhipaaaDoorTrZ
import Derived.Test.YtgechifbbhipaaaDoorTrX
set_option linter.unusedVariables false
set_option linter.unusedSimpArgs false
namespace Go.Proofs.YtgechifbbhipaaaDoor
open Go.RowKit Go.ChangeShapes Go.WideShapes

theorem blk_cell {X : World} {b : Nat} {cs : Array Value} {t : TypeId} (h : X.heap[b]? = some (.cells cs t)) (k : Nat) (v : Value) (hv : cs[k]? = some v) : X.cell? ⟨b, k, none⟩ = some v := by
  simp [World.cell?, h, hv]
theorem anyB_false {α : Type} {l : List α} {q : α → Bool} (h : ∀ j (hj : j < l.length), q l[j] = false) : l.any q = false := by
  cases h2 : l.any q with
  | false => rfl
  | true =>
    obtain ⟨x, hx, hq⟩ := List.any_eq_true.1 h2
    obtain ⟨j, hj, rfl⟩ := List.getElem_of_mem hx
    rw [h j hj] at hq; cases hq
/-- a world behind the box of the argument -/
def Sd (w : World) (cs : Array Value) (t : TypeId) (X : World) : Prop := Below w.heap.size w X ∧ X.heap[w.heap.size]? = some (.cells cs t (0, 0)) ∧ w.heap.size + 1 ≤ X.heap.size
theorem Sd.bel {w X : World} {cs : Array Value} {t : TypeId} (h : Sd w cs t X) : Below w.heap.size w X := h.1
theorem Sd.blk {w X : World} {cs : Array Value} {t : TypeId} (h : Sd w cs t X) : X.heap[w.heap.size]? = some (.cells cs t (0, 0)) := h.2.1
theorem Sd.below {w X Y : World} {cs : Array Value} {t : TypeId} (h : Sd w cs t X) (hb : Below X.heap.size X Y) : Sd w cs t Y :=
  ⟨h.1.trans (hb.mono h.1.size), (hb.block _ (by have := h.2.2; omega)).trans h.2.1, Nat.le_trans h.2.2 hb.size⟩
theorem Sd.start (w : World) (cs : Array Value) (t : TypeId) : Sd w cs t (w.alloc (.cells cs t)) :=
  ⟨(Below.refl _ w).alloc (Nat.le_refl _) _, World.alloc_heap_new w _, by simp⟩
/-- a form -/
structure Fm where
  ty : ByteArray
  ve : ByteArray
theorem fm_eq (f g : Fm) : f = g ↔ f.ty = g.ty ∧ f.ve = g.ve := by
  cases f; cases g; simp
instance : DecidableEq Fm := fun f g => decidable_of_iff (f.ty = g.ty ∧ f.ve = g.ve) (fm_eq f g).symm
/-- a place -/
structure Pl where
  rf : ByteArray
  nm : ByteArray
  mx : Int
  tk : List Fm
  gv : List Fm
  kd : List Int
/-- a device but for its places -/
structure Dh where
  man : ByteArray
  mod : ByteArray
  soft : ByteArray
  id : ByteArray
  ty : ByteArray
  lg : Bool
def AtF (w : World) (M : Nat) (a : Option Addr) (l : List Fm) : Prop := ∀ i (h : i < l.length), ∃ b o, a = some ⟨b, o, none⟩ ∧ b < M ∧ w.rangeAt b (o + i * 2) [.string l[i].ty, .string l[i].ve]
theorem AtF.below {w w' : World} {M : Nat} {a : Option Addr} {l : List Fm} (h : AtF w M a l) (hb : Below M w w') : AtF w' M a l := fun i hi => by
  obtain ⟨b, o, h1, h2, h3⟩ := h i hi
  exact ⟨b, o, h1, h2, fun j v hv => (hb.cell (p := ⟨b, o + i * 2 + j, none⟩) h2).trans (h3 j v hv)⟩
theorem AtF.mono {w : World} {M K : Nat} {a : Option Addr} {l : List Fm} (h : AtF w M a l) (hm : M ≤ K) : AtF w K a l := fun i hi => by
  obtain ⟨b, o, h1, h2, h3⟩ := h i hi
  exact ⟨b, o, h1, Nat.lt_of_lt_of_le h2 hm, h3⟩
def AtI (w : World) (M : Nat) (a : Option Addr) (l : List Int) : Prop := ∀ i (h : i < l.length), ∃ b o, a = some ⟨b, o, none⟩ ∧ b < M ∧ w.rangeAt b (o + i * 1) [.int .i64 l[i]]
theorem AtI.below {w w' : World} {M : Nat} {a : Option Addr} {l : List Int} (h : AtI w M a l) (hb : Below M w w') : AtI w' M a l := fun i hi => by
  obtain ⟨b, o, h1, h2, h3⟩ := h i hi
  exact ⟨b, o, h1, h2, fun j v hv => (hb.cell (p := ⟨b, o + i * 1 + j, none⟩) h2).trans (h3 j v hv)⟩
theorem AtI.mono {w : World} {M K : Nat} {a : Option Addr} {l : List Int} (h : AtI w M a l) (hm : M ≤ K) : AtI w K a l := fun i hi => by
  obtain ⟨b, o, h1, h2, h3⟩ := h i hi
  exact ⟨b, o, h1, Nat.lt_of_lt_of_le h2 hm, h3⟩
def cellsP (p : Pl) (a1 : Option Addr) (c1 : Nat) (a2 : Option Addr) (c2 : Nat) (a3 : Option Addr) (c3 : Nat) : Array Value := #[.string p.rf, .string p.nm, .int .i64 p.mx, .slice a1 p.tk.length c1, .slice a2 p.gv.length c2, .slice a3 p.kd.length c3]
/-- a place's cells, what they point at below M -/
def AtP (w : World) (M : Nat) (p : Pl) (cs : Array Value) : Prop := ∃ a1 c1 a2 c2 a3 c3, cs = cellsP p a1 c1 a2 c2 a3 c3 ∧ AtF w M a1 p.tk ∧ AtF w M a2 p.gv ∧ AtI w M a3 p.kd ∧ (∀ x ∈ p.kd, -9223372036854775808 ≤ x ∧ x ≤ 9223372036854775807) ∧ -9223372036854775808 ≤ p.mx ∧ p.mx ≤ 9223372036854775807 ∧ (a1 = none → c1 = 0) ∧ (a2 = none → c2 = 0)
theorem AtP.below {w w' : World} {M : Nat} {p : Pl} {cs : Array Value} (h : AtP w M p cs) (hb : Below M w w') : AtP w' M p cs := by
  obtain ⟨a1, c1, a2, c2, a3, c3, h0, h1, h2, h3, h4⟩ := h
  exact ⟨a1, c1, a2, c2, a3, c3, h0, h1.below hb, h2.below hb, h3.below hb, h4⟩
theorem AtP.mono {w : World} {M K : Nat} {p : Pl} {cs : Array Value} (h : AtP w M p cs) (hm : M ≤ K) : AtP w K p cs := by
  obtain ⟨a1, c1, a2, c2, a3, c3, h0, h1, h2, h3, h4⟩ := h
  exact ⟨a1, c1, a2, c2, a3, c3, h0, h1.mono hm, h2.mono hm, h3.mono hm, h4⟩
def AtPs (w : World) (M : Nat) (a : Option Addr) (l : List Pl) : Prop := ∀ i (h : i < l.length), ∃ b o cs, a = some ⟨b, o, none⟩ ∧ b < M ∧ w.rangeAt b (o + i * 6) (Array.toList cs) ∧ AtP w M l[i] cs
theorem AtPs.below {w w' : World} {M : Nat} {a : Option Addr} {l : List Pl} (h : AtPs w M a l) (hb : Below M w w') : AtPs w' M a l := fun i hi => by
  obtain ⟨b, o, cs, h1, h2, h3, h4⟩ := h i hi
  exact ⟨b, o, cs, h1, h2, fun j v hv => (hb.cell (p := ⟨b, o + i * 6 + j, none⟩) h2).trans (h3 j v hv), h4.below hb⟩
theorem AtPs.mono {w : World} {M K : Nat} {a : Option Addr} {l : List Pl} (h : AtPs w M a l) (hm : M ≤ K) : AtPs w K a l := fun i hi => by
  obtain ⟨b, o, cs, h1, h2, h3, h4⟩ := h i hi
  exact ⟨b, o, cs, h1, Nat.lt_of_lt_of_le h2 hm, h3, h4.mono hm⟩
def cellsD (d : Dh) (a : Option Addr) (n c : Nat) : Array Value := #[.string d.man, .string d.mod, .string d.soft, .string d.id, .string d.ty, .bool d.lg, .slice a n c]
theorem cellsOf100 : Tryd.prog.cellsOf 100 = 2 := by kernel_rfl
theorem cellsOf87 : Tryd.prog.cellsOf 87 = 6 := by kernel_rfl
theorem cellsOf42 : Tryd.prog.cellsOf 42 = 7 := by kernel_rfl
theorem cellsOf3 : Tryd.prog.cellsOf 3 = 1 := by kernel_rfl
theorem lst2 {α : Type} {l : List α} (h : l.length = 2) : ∃ a b, l = [a, b] := by
  match l, h with
  | [a, b], _ => exact ⟨a, b, rfl⟩
theorem lst6 {α : Type} {l : List α} (h : l.length = 6) : ∃ a b c d e f, l = [a, b, c, d, e, f] := by
  match l, h with
  | [a, b, c, d, e, f], _ => exact ⟨a, b, c, d, e, f, rfl⟩
theorem lst7 {α : Type} {l : List α} (h : l.length = 7) : ∃ a b c d e f g, l = [a, b, c, d, e, f, g] := by
  match l, h with
  | [a, b, c, d, e, f, g], _ => exact ⟨a, b, c, d, e, f, g, rfl⟩
set_option maxRecDepth 100000 in
theorem open_fm {H : Type} {enc : TypeId × Value → H} {W : World} (fuel : Nat) (cs : List Value) (x : DataW H × List MemPlace) (h : DataW.trod enc Tryd.prog W 0 (fun _ => true) true fuel 100 cs = some x) : ∃ m : Fm, cs = [.string m.ty, .string m.ve] := by
  obtain ⟨xs, n, hn, hx, hlen, hxl, hy⟩ := DataW.trod_struct Tryd.underlying100 h
  rw [cellsOf100] at hlen
  obtain ⟨c0, c1, rfl⟩ := lst2 hlen
  obtain ⟨x0, x1, rfl⟩ := lst2 (show xs.length = 2 from hxl)
  have g0 : DataW.trod enc Tryd.prog W 0 (fun _ => true) true n 9 [c0] = some x0 := (hy 0 _ rfl).trans rfl
  have g1 : DataW.trod enc Tryd.prog W 0 (fun _ => true) true n 9 [c1] = some x1 := (hy 1 _ rfl).trans rfl
  obtain ⟨q0, e0, f0, _⟩ := DataW.trod_string Tryd.underlying9 g0
  obtain ⟨q1, e1, f1, _⟩ := DataW.trod_string Tryd.underlying9 g1
  simp only [List.cons.injEq, and_true] at e0 e1
  subst e0 e1
  exact ⟨⟨q0, q1⟩, rfl⟩
set_option maxRecDepth 100000 in
theorem open_fms {H : Type} {enc : TypeId × Value → H} {W : World} (n : Nat) (c : Value) (x : DataW H × List MemPlace) (g : DataW.trod enc Tryd.prog W 0 (fun _ => true) true n 84 [c] = some x) :
    ∃ (l : List Fm) (a : Option Addr) (k : Nat), c = .slice a l.length k ∧ AtF W W.heap.size a l ∧ (a = none → k = 0) := by
  rcases DataW.trod_slice Tryd.underlying84 g with ⟨e4, _⟩ | ⟨ad, len, cap, elems, rest, m, rfl, e4, f4, _, hlc, _, hel, hi, _, _⟩
  · simp only [List.cons.injEq, and_true] at e4
    subst e4
    exact ⟨[], none, 0, rfl, fun i h => by simp at h, fun _ => rfl⟩
  · simp only [List.cons.injEq, and_true] at e4
    subst e4
    rw [cellsOf100] at hi
    have hex : ∀ i, i < len → ∃ e : Fm, W.cells? 0 (ad.add (i * 2)) 2 = some ([.string e.ty, .string e.ve] : List Value) := fun i hil => by
      have h1 := hi i hil
      have h2 : elems[i]? = some elems[i] := List.getElem?_eq_getElem (by omega)
      rw [h2] at h1
      obtain ⟨cs', h3, h4⟩ := Option.bind_eq_some_iff.1 h1
      obtain ⟨e, he⟩ := open_fm m cs' _ h4
      exact ⟨e, by rw [← he]; exact h3⟩
    obtain ⟨ks, hkl, hks⟩ := exists_list len hex
    refine ⟨ks, some ad, cap, by rw [hkl], fun j hj => ?_, fun hn => by cases hn⟩
    obtain ⟨b, o2, sp⟩ := ad
    obtain rfl : sp = none := by
      obtain ⟨_, hl0, hget0⟩ := World.cells?_some (hks 0 (by omega))
      have c00 := hget0 0 (by decide)
      have c01 := c00.trans (show ([.string (ks[0]'(by omega)).ty, .string (ks[0]'(by omega)).ve] : List Value)[0]? = some (.string (ks[0]'(by omega)).ty) from rfl)
      simpa [Addr.add] using World.cell?_spot c01
    have hc := hks j hj
    obtain ⟨_, hl, hget⟩ := World.cells?_some hc
    have c00 := hget 0 (by decide)
    refine ⟨b, o2, rfl, ?_, fun k v hv => ?_⟩
    · have c01 := c00.trans (show ([.string ks[j].ty, .string ks[j].ve] : List Value)[0]? = some (.string ks[j].ty) from rfl)
      rw [addr_addT, addr_addT] at c01
      exact World.block_lt_of_cell? _ _ c01
    · have hk5 : k < 2 := by have := (List.getElem?_eq_some_iff.1 hv).1; simpa using this
      have := hget k hk5
      rw [addr_addT, addr_addT, hv] at this
      exact this
set_option maxRecDepth 100000 in
theorem open_ints {H : Type} {enc : TypeId × Value → H} {W : World} (n : Nat) (c : Value) (x : DataW H × List MemPlace) (g : DataW.trod enc Tryd.prog W 0 (fun _ => true) true n 85 [c] = some x) :
    ∃ (l : List Int) (a : Option Addr) (k : Nat), c = .slice a l.length k ∧ AtI W W.heap.size a l ∧ ∀ x ∈ l, -9223372036854775808 ≤ x ∧ x ≤ 9223372036854775807 := by
  rcases DataW.trod_slice Tryd.underlying85 g with ⟨e4, _⟩ | ⟨ad, len, cap, elems, rest, m, rfl, e4, f4, _, hlc, _, hel, hi, _, _⟩
  · simp only [List.cons.injEq, and_true] at e4
    subst e4
    exact ⟨[], none, 0, rfl, fun i h => by simp at h, fun x h => by cases h⟩
  · simp only [List.cons.injEq, and_true] at e4
    subst e4
    rw [cellsOf3] at hi
    have hex : ∀ i, i < len → ∃ e : Int, W.cells? 0 (ad.add (i * 1)) 1 = some [.int .i64 e] ∧ -9223372036854775808 ≤ e ∧ e ≤ 9223372036854775807 := fun i hil => by
      have h1 := hi i hil
      have h2 : elems[i]? = some elems[i] := List.getElem?_eq_getElem (by omega)
      rw [h2] at h1
      obtain ⟨cs', h3, h4⟩ := Option.bind_eq_some_iff.1 h1
      obtain ⟨e, e1, f1, b1⟩ := DataW.trod_int Tryd.underlying3 h4
      exact ⟨e, by rw [← e1]; exact h3, wf_i64 b1⟩
    obtain ⟨ks, hkl, hks⟩ := exists_list len hex
    refine ⟨ks, some ad, cap, by rw [hkl], fun j hj => ?_, fun x hx => ?_⟩
    · obtain ⟨b, o2, sp⟩ := ad
      obtain rfl : sp = none := by
        obtain ⟨_, hl0, hget0⟩ := World.cells?_some (hks 0 (by omega)).1
        have c00 := hget0 0 (by decide)
        have c01 := c00.trans (show ([.int .i64 (ks[0]'(by omega))] : List Value)[0]? = some (.int .i64 (ks[0]'(by omega))) from rfl)
        simpa [Addr.add] using World.cell?_spot c01
      have hc := (hks j hj).1
      obtain ⟨_, hl, hget⟩ := World.cells?_some hc
      have c00 := hget 0 (by decide)
      refine ⟨b, o2, rfl, ?_, fun k v hv => ?_⟩
      · have c01 := c00.trans (show ([.int .i64 ks[j]] : List Value)[0]? = some (.int .i64 ks[j]) from rfl)
        rw [addr_addT, addr_addT] at c01
        exact World.block_lt_of_cell? _ _ c01
      · have hk5 : k < 1 := by have := (List.getElem?_eq_some_iff.1 hv).1; simpa using this
        have := hget k hk5
        rw [addr_addT, addr_addT, hv] at this
        exact this
    · obtain ⟨j, hj, rfl⟩ := List.getElem_of_mem hx
      exact (hks j hj).2
set_option maxRecDepth 100000 in
theorem open_pl {H : Type} {enc : TypeId × Value → H} {W : World} (fuel : Nat) (cs : List Value) (x : DataW H × List MemPlace) (h : DataW.trod enc Tryd.prog W 0 (fun _ => true) true fuel 87 cs = some x) : ∃ m : Pl, cs.length = 6 ∧ AtP W W.heap.size m cs.toArray := by
  obtain ⟨xs, n, hn, hx, hlen, hxl, hy⟩ := DataW.trod_struct Tryd.underlying87 h
  rw [cellsOf87] at hlen
  obtain ⟨c0, c1, c2, c3, c4, c5, rfl⟩ := lst6 hlen
  obtain ⟨x0, x1, x2, x3, x4, x5, rfl⟩ := lst6 (show xs.length = 6 from hxl)
  have g0 : DataW.trod enc Tryd.prog W 0 (fun _ => true) true n 9 [c0] = some x0 := (hy 0 _ rfl).trans rfl
  have g1 : DataW.trod enc Tryd.prog W 0 (fun _ => true) true n 9 [c1] = some x1 := (hy 1 _ rfl).trans rfl
  have g2 : DataW.trod enc Tryd.prog W 0 (fun _ => true) true n 3 [c2] = some x2 := (hy 2 _ rfl).trans rfl
  have g3 : DataW.trod enc Tryd.prog W 0 (fun _ => true) true n 84 [c3] = some x3 := (hy 3 _ rfl).trans rfl
  have g4 : DataW.trod enc Tryd.prog W 0 (fun _ => true) true n 84 [c4] = some x4 := (hy 4 _ rfl).trans rfl
  have g5 : DataW.trod enc Tryd.prog W 0 (fun _ => true) true n 85 [c5] = some x5 := (hy 5 _ rfl).trans rfl
  obtain ⟨q0, e0, f0, _⟩ := DataW.trod_string Tryd.underlying9 g0
  obtain ⟨q1, e1, f1, _⟩ := DataW.trod_string Tryd.underlying9 g1
  obtain ⟨q2, e2, f2, b2⟩ := DataW.trod_int Tryd.underlying3 g2
  obtain ⟨l3, a3, k3, rfl, h3, n3⟩ := open_fms n _ _ g3
  obtain ⟨l4, a4, k4, rfl, h4, n4⟩ := open_fms n _ _ g4
  obtain ⟨l5, a5, k5, rfl, h5, h6⟩ := open_ints n _ _ g5
  simp only [List.cons.injEq, and_true] at e0 e1 e2
  subst e0 e1 e2
  exact ⟨⟨q0, q1, q2, l3, l4, l5⟩, rfl, a3, k3, a4, k4, a5, k5, rfl, h3, h4, h5, h6, (wf_i64 b2).1, (wf_i64 b2).2, n3, n4⟩
set_option maxRecDepth 100000 in
theorem open_pls {H : Type} {enc : TypeId × Value → H} {W : World} (n : Nat) (c : Value) (x : DataW H × List MemPlace) (g : DataW.trod enc Tryd.prog W 0 (fun _ => true) true n 40 [c] = some x) :
    ∃ (ks : List Pl) (a : Option Addr) (k : Nat), c = .slice a ks.length k ∧ AtPs W W.heap.size a ks := by
  rcases DataW.trod_slice Tryd.underlying40 g with ⟨e4, _⟩ | ⟨ad, len, cap, elems, rest, m, rfl, e4, f4, _, hlc, _, hel, hi, _, _⟩
  · simp only [List.cons.injEq, and_true] at e4
    subst e4
    exact ⟨[], none, 0, rfl, fun i h => by simp at h⟩
  · simp only [List.cons.injEq, and_true] at e4
    subst e4
    rw [cellsOf87] at hi
    have hex : ∀ i, i < len → ∃ e : Pl, ∃ cs : List Value, W.cells? 0 (ad.add (i * 6)) 6 = some cs ∧ cs.length = 6 ∧ AtP W W.heap.size e cs.toArray := fun i hil => by
      have h1 := hi i hil
      have h2 : elems[i]? = some elems[i] := List.getElem?_eq_getElem (by omega)
      rw [h2] at h1
      obtain ⟨cs', h3, h4⟩ := Option.bind_eq_some_iff.1 h1
      obtain ⟨e, he⟩ := open_pl m cs' _ h4
      exact ⟨e, cs', h3, he⟩
    obtain ⟨ks, hkl, hks⟩ := exists_list len hex
    refine ⟨ks, some ad, cap, by rw [hkl], fun j hj => ?_⟩
    obtain ⟨b, o2, sp⟩ := ad
    obtain ⟨cs0, hc0, hl60, _⟩ := hks 0 (by omega)
    obtain ⟨_, hl0, hget0⟩ := World.cells?_some hc0
    have c00 := hget0 0 (by decide)
    obtain ⟨v0, hv0⟩ : ∃ v0, cs0[0]? = some v0 := ⟨cs0[0], List.getElem?_eq_getElem (by omega)⟩
    rw [hv0] at c00
    obtain rfl : sp = none := by simpa [Addr.add] using World.cell?_spot c00
    obtain ⟨cs, hc, hl6, hat⟩ := hks j hj
    obtain ⟨_, hl, hget⟩ := World.cells?_some hc
    refine ⟨b, o2, cs.toArray, rfl, World.block_lt_of_cell? _ _ c00, fun k v hv => ?_, hat⟩
    have hv : cs[k]? = some v := hv
    have hk5 : k < 6 := by have := (List.getElem?_eq_some_iff.1 hv).1; omega
    have := hget k hk5
    rw [addr_addT, addr_addT, hv] at this
    exact this
set_option maxRecDepth 100000 in
/-- an argument that is a Device -/
theorem open_dev {H : Type} {enc : TypeId × Value → H} {W : World} (v : Value) (d : DataW H) (p : List MemPlace) (k : DataW.Trod enc Tryd.prog W 0 (fun _ => true) true 42 v d p) {base : Nat} (ok : Value.okWide Tryd.prog W .any base 42 v) :
    ∃ (h : Dh) (ks : List Pl) (ab : Option Addr) (cb : Nat), v = .agg (cellsD h ab ks.length cb) ∧ AtPs W W.heap.size ab ks := by
  obtain ⟨cs, rfl, hsz⟩ := Go.WideShapes.okWide_struct Tryd.underlying42 ok
  obtain ⟨fuel, h⟩ := k
  obtain ⟨xs, n, hn, hx, hlen, hxl, hy⟩ := DataW.trod_struct Tryd.underlying42 h
  obtain ⟨cl⟩ := cs
  rw [cellsOf42] at hlen
  obtain ⟨c0, c1, c2, c3, c4, c5, c6, rfl⟩ := lst7 (show cl.length = 7 from hlen)
  obtain ⟨x0, x1, x2, x3, x4, x5, x6, rfl⟩ := lst7 (show xs.length = 7 from hxl)
  have g0 : DataW.trod enc Tryd.prog W 0 (fun _ => true) true n 9 [c0] = some x0 := (hy 0 _ rfl).trans rfl
  have g1 : DataW.trod enc Tryd.prog W 0 (fun _ => true) true n 9 [c1] = some x1 := (hy 1 _ rfl).trans rfl
  have g2 : DataW.trod enc Tryd.prog W 0 (fun _ => true) true n 9 [c2] = some x2 := (hy 2 _ rfl).trans rfl
  have g3 : DataW.trod enc Tryd.prog W 0 (fun _ => true) true n 9 [c3] = some x3 := (hy 3 _ rfl).trans rfl
  have g4 : DataW.trod enc Tryd.prog W 0 (fun _ => true) true n 9 [c4] = some x4 := (hy 4 _ rfl).trans rfl
  have g5 : DataW.trod enc Tryd.prog W 0 (fun _ => true) true n 4 [c5] = some x5 := (hy 5 _ rfl).trans rfl
  have g6 : DataW.trod enc Tryd.prog W 0 (fun _ => true) true n 40 [c6] = some x6 := (hy 6 _ rfl).trans rfl
  obtain ⟨q0, e0, f0, _⟩ := DataW.trod_string Tryd.underlying9 g0
  obtain ⟨q1, e1, f1, _⟩ := DataW.trod_string Tryd.underlying9 g1
  obtain ⟨q2, e2, f2, _⟩ := DataW.trod_string Tryd.underlying9 g2
  obtain ⟨q3, e3, f3, _⟩ := DataW.trod_string Tryd.underlying9 g3
  obtain ⟨q4, e4, f4, _⟩ := DataW.trod_string Tryd.underlying9 g4
  obtain ⟨q5, e5, f5⟩ := DataW.trod_bool Tryd.underlying4 g5
  obtain ⟨ks, ab, cb, e6, hab⟩ := open_pls n _ _ g6
  simp only [List.cons.injEq, and_true] at e0 e1 e2 e3 e4 e5
  subst e0 e1 e2 e3 e4 e5 e6
  exact ⟨⟨q0, q1, q2, q3, q4, q5⟩, ks, ab, cb, rfl, hab⟩
end Go.Proofs.YtgechifbbhipaaaDoor
