/- msg: the law of MsgChecks. No condition but the tables. -/
import Derived.Test.YtgechifbbhipaaaDoorCmW
set_option linter.unusedVariables false
set_option linter.unusedSimpArgs false
namespace Go.Proofs.YtgechifbbhipaaaDoor
open Go.RowKit Go.ChangeShapes Go.WideShapes

theorem cellsOf31 : Tryd.prog.cellsOf 31 = 9 := by kernel_rfl
theorem cellsOf29 : Tryd.prog.cellsOf 29 = 2 := by kernel_rfl
theorem list8 {α : Type} {l : List α} (h : l.length = 8) : ∃ a b c d e f g i, l = [a, b, c, d, e, f, g, i] := by
  match l, h with
  | [a, b, c, d, e, f, g, i], _ => exact ⟨a, b, c, d, e, f, g, i, rfl⟩
theorem list2 {α : Type} {l : List α} (h : l.length = 2) : ∃ a b, l = [a, b] := by
  match l, h with
  | [a, b], _ => exact ⟨a, b, rfl⟩
set_option maxRecDepth 100000 in
/-- an argument that is a Msg -/
theorem open_msg {H : Type} {enc : TypeId × Value → H} {W : World} (v : Value) (d : DataW H) (p : List MemPlace) (k : DataW.Trod enc Tryd.prog W 0 (fun _ => true) true 31 v d p) {base : Nat} (ok : Value.okWide Tryd.prog W .any base 31 v) :
    ∃ (se id : Int) (ta so ct cd : ByteArray) (mx : Int) (fi : Bool) (ks : List Cm) (ab : Option Addr) (cb : Nat), v = .agg #[.int .i64 se, .int .i64 id, .string ta, .string so, .string ct, .string cd, .int .i64 mx, .slice ab ks.length cb, .bool fi] ∧ AtCs W W.heap.size ab 0 ks := by
  obtain ⟨cs, rfl, hsz⟩ := Go.WideShapes.okWide_struct Tryd.underlying31 ok
  obtain ⟨fuel, h⟩ := k
  obtain ⟨xs, n, hn, hx, hlen, hxl, hy⟩ := DataW.trod_struct Tryd.underlying31 h
  obtain ⟨cl⟩ := cs
  rw [cellsOf31] at hlen
  obtain ⟨c0, c1, c2, c3, c4, c5, c6, c7, c8, rfl⟩ := listm9 (show cl.length = 9 from hlen)
  obtain ⟨x0, x1, x2, x3, x4, x5, x6, x7, rfl⟩ := list8 (show xs.length = 8 from hxl)
  have g0 : DataW.trod enc Tryd.prog W 0 (fun _ => true) true n 3 [c0] = some x0 := (hy 0 _ rfl).trans rfl
  have g1 : DataW.trod enc Tryd.prog W 0 (fun _ => true) true n 3 [c1] = some x1 := (hy 1 _ rfl).trans rfl
  have g2 : DataW.trod enc Tryd.prog W 0 (fun _ => true) true n 9 [c2] = some x2 := (hy 2 _ rfl).trans rfl
  have g3 : DataW.trod enc Tryd.prog W 0 (fun _ => true) true n 9 [c3] = some x3 := (hy 3 _ rfl).trans rfl
  have g4 : DataW.trod enc Tryd.prog W 0 (fun _ => true) true n 29 [c4, c5] = some x4 := (hy 4 _ rfl).trans rfl
  have g5 : DataW.trod enc Tryd.prog W 0 (fun _ => true) true n 3 [c6] = some x5 := (hy 5 _ rfl).trans rfl
  have g6 : DataW.trod enc Tryd.prog W 0 (fun _ => true) true n 25 [c7] = some x6 := (hy 6 _ rfl).trans rfl
  have g7 : DataW.trod enc Tryd.prog W 0 (fun _ => true) true n 4 [c8] = some x7 := (hy 7 _ rfl).trans rfl
  obtain ⟨se, e0, f0, _⟩ := DataW.trod_int Tryd.underlying3 g0
  obtain ⟨id, e1, f1, _⟩ := DataW.trod_int Tryd.underlying3 g1
  obtain ⟨ta, e2, f2, _⟩ := DataW.trod_string Tryd.underlying9 g2
  obtain ⟨so, e3, f3, _⟩ := DataW.trod_string Tryd.underlying9 g3
  obtain ⟨ys, m, hm, hy4, hl4, hyl, hz⟩ := DataW.trod_struct Tryd.underlying29 g4
  obtain ⟨y0, y1, rfl⟩ := list2 (show ys.length = 2 from hyl)
  have g40 : DataW.trod enc Tryd.prog W 0 (fun _ => true) true m 9 [c4] = some y0 := (hz 0 _ rfl).trans rfl
  have g41 : DataW.trod enc Tryd.prog W 0 (fun _ => true) true m 9 [c5] = some y1 := (hz 1 _ rfl).trans rfl
  obtain ⟨ct, e4, f4, _⟩ := DataW.trod_string Tryd.underlying9 g40
  obtain ⟨cd, e5, f5, _⟩ := DataW.trod_string Tryd.underlying9 g41
  obtain ⟨mx, e6, f6, _⟩ := DataW.trod_int Tryd.underlying3 g5
  obtain ⟨ks, ab, cb, e7, hab⟩ := open_cms n _ _ g6
  obtain ⟨fi, e8, f8⟩ := DataW.trod_bool Tryd.underlying4 g7
  simp only [List.cons.injEq, and_true] at e0 e1 e2 e3 e4 e5 e6 e8
  subst e0 e1 e2 e3 e4 e5 e6 e7 e8
  exact ⟨se, id, ta, so, ct, cd, mx, fi, ks, ab, cb, rfl, hab⟩
set_option maxRecDepth 100000 in
theorem msgChecks_law {H : Type} {enc : TypeId × Value → H} {W : World} (v0 v1 : Value) (d0 d1 : DataW H) (p0 p1 : List MemPlace) (k0 : DataW.Trod enc Tryd.prog W 0 (fun _ => true) true 27 v0 d0 p0) (k1 : DataW.Trod enc Tryd.prog W 0 (fun _ => true) true 31 v1 d1 p1) {base : Nat} (ok0 : Value.okWide Tryd.prog W .any base 27 v0) (ok1 : Value.okWide Tryd.prog W .any base 31 v1)
    (hT : Lib.Utf8Tabs 2 3 W) : Calls Tryd.prog 3 #[v0, v1] W fun e w' => e = .returned (.bool true) ∧ Below W.heap.size W w' := by
  obtain ⟨cs, rfl, hsz⟩ := Go.WideShapes.okWide_struct Tryd.underlying27 ok0
  obtain ⟨fuel, h⟩ := k0
  obtain ⟨c, hc⟩ := open_cm fuel cs.toList _ h
  rw [Array.toArray_toList] at hc
  obtain ⟨se, id, ta, so, ct, cd, mx, fi, ks, ab, cb, rfl, hab⟩ := open_msg v1 d1 p1 k1 ok1
  obtain ⟨ai, ci, ak, ck, hcs, _, _⟩ := hc.parts
  have hs : cs.size = 19 := by rw [hcs]; rfl
  have h0 : cs[0]? = some (.int .i64 c.hd.kd) := by rw [hcs]; rfl
  exact msgChecks_walk cs _ c se id ta so ct cd mx fi ks ab cb W hT hc hab hs h0 rfl
end Go.Proofs.YtgechifbbhipaaaDoor
