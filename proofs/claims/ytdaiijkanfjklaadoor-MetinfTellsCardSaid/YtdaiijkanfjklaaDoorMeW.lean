/- metinf: MetinfTells: the walk, and the law over arguments that came in. No condition but the tables. -/
import Derived.Test.YtdaiijkanfjklaaDoorMeM
import Derived.Test.YtdaiijkanfjklaaDoorMeG
import Derived.Test.YtdaiijkanfjklaaDoorTrU
import Derived.Test.YtdaiijkanfjklaaDoorTrV
import Derived.Test.YtdaiijkanfjklaaDoorTrE
namespace Go.Proofs.YtdaiijkanfjklaaDoor
open Go.RowKit Go.ChangeShapes Go.WideShapes

theorem field24_1 (p : Int) (n t : ByteArray) (o : Bool) (a : Option Addr) (k c : Nat) (w : World) : (Instr.field 24 (.agg #[.int .i64 p, .string n, .string t, .bool o, .slice a k c]) 1).run Tryd.prog w = .ok (.string n) w := by
  kernel_rfl
attribute [local go_sem] undef in
set_option maxRecDepth 100000 in
set_option maxHeartbeats 8000000 in
theorem metTells_walk (fo ty : ByteArray) (sz ve : Int) (la ne no : ByteArray) (mm mo : Int)
    (g1 : -9223372036854775808 ≤ sz ∧ sz ≤ 9223372036854775807) (g2 : -9223372036854775808 ≤ ve ∧ ve ≤ 9223372036854775807) (g3 : -9223372036854775808 ≤ mm ∧ mm ≤ 9223372036854775807) (g4 : -9223372036854775808 ≤ mo ∧ mo ≤ 9223372036854775807)
    (w : World) (hT : Lib.Utf8Tabs 0 1 w) : Calls Tryd.prog 5 #[.agg #[.string fo, .string ty, .int .i64 sz, .int .i64 ve, .string la, .string ne, .string no, .int .i64 mm, .int .i64 mo]] w fun r w' => r = .returned (.bool true) ∧ Below w.heap.size w w' := by
  have c16 := Lib.hid (fun X (_ : Below w.heap.size w X) => greatM_any fo ty sz ve la ne no mm mo X)
  have HG : Hid (greatM fo ty la ne no = false → (fo.size ≤ 1000000 ∧ ty.size ≤ 1000000 ∧ no.size ≤ 1000000 ∧ la.size ≤ 1000000 ∧ ne.size ≤ 1000000)) := fun h => by
    unfold greatM at h
    rw [decide_eq_false_iff_not] at h
    omega
  generalize greatM fo ty la ne no = g at *
  obtain ⟨W, hW⟩ : ∃ W, w.alloc (.cells #[.string fo, .string ty, .int .i64 sz, .int .i64 ve, .string la, .string ne, .string no, .int .i64 mm, .int .i64 mo] 37) = W := ⟨_, rfl⟩
  obtain ⟨k1, k2⟩ := KC.first w [.string fo, .string ty, .int .i64 sz, .int .i64 ve, .string la, .string ne, .string no, .int .i64 mm, .int .i64 mo] 37
  rw [show ([.string fo, .string ty, .int .i64 sz, .int .i64 ve, .string la, .string ne, .string no, .int .i64 mm, .int .i64 mo] : List Value).toArray = #[.string fo, .string ty, .int .i64 sz, .int .i64 ve, .string la, .string ne, .string no, .int .i64 mm, .int .i64 mo] from rfl, hW] at k1
  have HF := Lib.hid k1
  have HL := Lib.hid k2
  have k1' : W.cell? ⟨w.heap.size, 0, none⟩ = some (.string fo) ∧ W.cell? ⟨w.heap.size, 1, none⟩ = some (.string ty) ∧ W.cell? ⟨w.heap.size, 2, none⟩ = some (.int .i64 sz) ∧ W.cell? ⟨w.heap.size, 3, none⟩ = some (.int .i64 ve) ∧ W.cell? ⟨w.heap.size, 4, none⟩ = some (.string la) ∧ W.cell? ⟨w.heap.size, 5, none⟩ = some (.string ne) ∧ W.cell? ⟨w.heap.size, 6, none⟩ = some (.string no) ∧ W.cell? ⟨w.heap.size, 7, none⟩ = some (.int .i64 mm) ∧ W.cell? ⟨w.heap.size, 8, none⟩ = some (.int .i64 mo) ∧ (w.heap.size + 1 ≤ W.heap.size ∧ Below w.heap.size w W) := k1
  obtain ⟨d0, d1, d2, d3, d4, d5, d6, d7, d8, d9⟩ := k1'
  have HBW : Hid (Below w.heap.size w W) := d9.2
  clear k1 k2
  have HW := Lib.hid hW
  clear hW
  cases g with
  | true =>
    clear HG hT g1 g2 g3 g4
    go_enter Tryd.func5, Tryd.ntmps5
    go_wp2_with fail
    rw [HW.out]
    refine (c16.out _ HBW.out).mono ?_
    rintro r w1 ⟨rfl, hb1⟩
    go_wp2_with fail
    go_ret
    exact ⟨rfl, HBW.out.trans (hb1.mono HBW.out.size)⟩
  | false =>
    obtain ⟨s1, s2, s3, s4, s5⟩ := HG.out rfl
    have c17 := Lib.hid (fun X (hX : Below w.heap.size w X) => metCheck_any fo ty sz ve la ne no mm mo s1 s2 s3 s4 s5 X (Utf8Tabs_below hT hX))
    have c18 := Lib.hid (fun X (_ : Below w.heap.size w X) => refMet_any fo ty sz ve la ne no mm mo s1 s2 s3 s4 s5 X)
    have c19 := Lib.hid (fun X (_ : Below w.heap.size w X) => metEmpty_any fo ty sz ve la ne no mm mo X)
    have c20 := Lib.hid (fun X (_ : Below w.heap.size w X) => refEmpty_any fo ty sz ve la ne no mm mo X)
    have c21 := Lib.hid (fun X (hX : Below w.heap.size w X) => metElem_any fo ty sz ve la ne no mm mo s1 s2 s3 s4 s5 g1 g2 g3 g4 X (Utf8Tabs_below hT hX))
    have c22 := Lib.hid (fun X (_ : Below w.heap.size w X) => refMetElem_any fo ty sz ve la ne no mm mo s1 s2 s3 s4 s5 g1 g2 g3 g4 X)
    have c13 : Hid (∀ X v1 v2, AtT X X.heap.size (elemM fo ty sz ve la ne no mm mo) v1 → AtT X X.heap.size (elemM fo ty sz ve la ne no mm mo) v2 → Calls Tryd.prog 13 #[v1, v2] X fun r w' => r = .returned (.bool true) ∧ Below X.heap.size X w') := fun X v1 v2 h1 h2 => by
      have := same_any _ _ v1 v2 X h1 h2
      rw [sameT_refl] at this
      exact this
    have cZ : Hid (∀ X, Below w.heap.size w X → Calls Tryd.prog 21 #[.agg #[.string ⟨#[]⟩, .string ⟨#[]⟩, .int .i64 0, .int .i64 0, .string ⟨#[]⟩, .string ⟨#[]⟩, .string ⟨#[]⟩, .int .i64 0, .int .i64 0]] X fun r w' => (∃ a k c, r = .returned (.agg #[.int .i64 0, .string { data := #[77, 101, 116, 97] }, .string ByteArray.empty, .bool false, .slice a k c])) ∧ Below X.heap.size X w') := fun X hX =>
      (metElem_any ⟨#[]⟩ ⟨#[]⟩ 0 0 ⟨#[]⟩ ⟨#[]⟩ ⟨#[]⟩ 0 0 (by decide) (by decide) (by decide) (by decide) (by decide) (by decide) (by decide) (by decide) (by decide) X (Utf8Tabs_below hT hX)).mono fun r w' h => by
        obtain ⟨⟨v, rfl, hat⟩, hb⟩ := h
        obtain ⟨_, _, _, a, c, hv, _⟩ := hat.parts
        exact ⟨⟨a, _, c, by rw [hv]; rfl⟩, hb⟩
    generalize chkM fo ty sz ve la ne no mm mo = q at *
    generalize emptyM fo ty sz ve la ne no mm mo = qe at *
    generalize elemM fo ty sz ve la ne no mm mo = E at *
    clear HG hT g1 g2 g3 g4 s1 s2 s3 s4 s5
    go_enter Tryd.func5, Tryd.ntmps5
    go_wp2_with fail
    rw [HW.out]
    refine (c16.out _ HBW.out).mono ?_
    rintro r w1 ⟨rfl, hb1⟩
    have hk1 : KC w (w.heap.size + 1) [(w.heap.size, 0, .string fo), (w.heap.size, 1, .string ty), (w.heap.size, 2, .int .i64 sz), (w.heap.size, 3, .int .i64 ve), (w.heap.size, 4, .string la), (w.heap.size, 5, .string ne), (w.heap.size, 6, .string no), (w.heap.size, 7, .int .i64 mm), (w.heap.size, 8, .int .i64 mo)] w1 := KC.call HL.out HF.out hb1
    clear HF HBW d0 d1 d2 d3 d4 d5 d6 d7 d8 d9 hb1 HW W
    have HF := Lib.hid hk1
    have hk2 : w1.cell? ⟨w.heap.size, 0, none⟩ = some (.string fo) ∧ w1.cell? ⟨w.heap.size, 1, none⟩ = some (.string ty) ∧ w1.cell? ⟨w.heap.size, 2, none⟩ = some (.int .i64 sz) ∧ w1.cell? ⟨w.heap.size, 3, none⟩ = some (.int .i64 ve) ∧ w1.cell? ⟨w.heap.size, 4, none⟩ = some (.string la) ∧ w1.cell? ⟨w.heap.size, 5, none⟩ = some (.string ne) ∧ w1.cell? ⟨w.heap.size, 6, none⟩ = some (.string no) ∧ w1.cell? ⟨w.heap.size, 7, none⟩ = some (.int .i64 mm) ∧ w1.cell? ⟨w.heap.size, 8, none⟩ = some (.int .i64 mo) ∧ (w.heap.size + 1 ≤ w1.heap.size ∧ Below w.heap.size w w1) := hk1
    obtain ⟨d0, d1, d2, d3, d4, d5, d6, d7, d8, d9⟩ := hk2
    clear hk1
    have hfd := field24_1 0 { data := #[77, 101, 116, 97] } ByteArray.empty false
    go_wp2_with fail
    go_region_held3 (fun w' => w'.cell? ⟨w.heap.size, 0, none⟩ = some (.string fo) ∧ w'.cell? ⟨w.heap.size, 1, none⟩ = some (.string ty) ∧ w'.cell? ⟨w.heap.size, 2, none⟩ = some (.int .i64 sz) ∧ w'.cell? ⟨w.heap.size, 3, none⟩ = some (.int .i64 ve) ∧ w'.cell? ⟨w.heap.size, 4, none⟩ = some (.string la) ∧ w'.cell? ⟨w.heap.size, 5, none⟩ = some (.string ne) ∧ w'.cell? ⟨w.heap.size, 6, none⟩ = some (.string no) ∧ w'.cell? ⟨w.heap.size, 7, none⟩ = some (.int .i64 mm) ∧ w'.cell? ⟨w.heap.size, 8, none⟩ = some (.int .i64 mo) ∧ (w.heap.size + 1 ≤ w'.heap.size ∧ Below w.heap.size w w')) (first | assumption | exact KC.drew HL.out HF.out | exact KC.call HL.out (by assumption) hb9 | exact KC.call HL.out (KC.drew HL.out HF.out) hb9) (first | (go_at_call 16; (with_reducible refine (c16.out _ ?_).mono ?_); exact (KC.below (w0 := w) (m := w.heap.size + 1) (l := [(w.heap.size, 0, .string fo), (w.heap.size, 1, .string ty), (w.heap.size, 2, .int .i64 sz), (w.heap.size, 3, .int .i64 ve), (w.heap.size, 4, .string la), (w.heap.size, 5, .string ne), (w.heap.size, 6, .string no), (w.heap.size, 7, .int .i64 mm), (w.heap.size, 8, .int .i64 mo)]) (by first | assumption | exact KC.drew HL.out HF.out)); rintro r w9 ⟨rfl, hb9⟩) | (go_at_call 17; (with_reducible refine (c17.out _ ?_).mono ?_); exact (KC.below (w0 := w) (m := w.heap.size + 1) (l := [(w.heap.size, 0, .string fo), (w.heap.size, 1, .string ty), (w.heap.size, 2, .int .i64 sz), (w.heap.size, 3, .int .i64 ve), (w.heap.size, 4, .string la), (w.heap.size, 5, .string ne), (w.heap.size, 6, .string no), (w.heap.size, 7, .int .i64 mm), (w.heap.size, 8, .int .i64 mo)]) (by first | assumption | exact KC.drew HL.out HF.out)); rintro r w9 ⟨rfl, hb9⟩) | (go_at_call 18; (with_reducible refine (c18.out _ ?_).mono ?_); exact (KC.below (w0 := w) (m := w.heap.size + 1) (l := [(w.heap.size, 0, .string fo), (w.heap.size, 1, .string ty), (w.heap.size, 2, .int .i64 sz), (w.heap.size, 3, .int .i64 ve), (w.heap.size, 4, .string la), (w.heap.size, 5, .string ne), (w.heap.size, 6, .string no), (w.heap.size, 7, .int .i64 mm), (w.heap.size, 8, .int .i64 mo)]) (by first | assumption | exact KC.drew HL.out HF.out)); rintro r w9 ⟨rfl, hb9⟩) | (go_at_call 19; (with_reducible refine (c19.out _ ?_).mono ?_); exact (KC.below (w0 := w) (m := w.heap.size + 1) (l := [(w.heap.size, 0, .string fo), (w.heap.size, 1, .string ty), (w.heap.size, 2, .int .i64 sz), (w.heap.size, 3, .int .i64 ve), (w.heap.size, 4, .string la), (w.heap.size, 5, .string ne), (w.heap.size, 6, .string no), (w.heap.size, 7, .int .i64 mm), (w.heap.size, 8, .int .i64 mo)]) (by first | assumption | exact KC.drew HL.out HF.out)); rintro r w9 ⟨rfl, hb9⟩) | (go_at_call 20; (with_reducible refine (c20.out _ ?_).mono ?_); exact (KC.below (w0 := w) (m := w.heap.size + 1) (l := [(w.heap.size, 0, .string fo), (w.heap.size, 1, .string ty), (w.heap.size, 2, .int .i64 sz), (w.heap.size, 3, .int .i64 ve), (w.heap.size, 4, .string la), (w.heap.size, 5, .string ne), (w.heap.size, 6, .string no), (w.heap.size, 7, .int .i64 mm), (w.heap.size, 8, .int .i64 mo)]) (by first | assumption | exact KC.drew HL.out HF.out)); rintro r w9 ⟨rfl, hb9⟩) | (go_at_call 21; (with_reducible refine (cZ.out _ ?_).mono ?_); exact (KC.below (w0 := w) (m := w.heap.size + 1) (l := [(w.heap.size, 0, .string fo), (w.heap.size, 1, .string ty), (w.heap.size, 2, .int .i64 sz), (w.heap.size, 3, .int .i64 ve), (w.heap.size, 4, .string la), (w.heap.size, 5, .string ne), (w.heap.size, 6, .string no), (w.heap.size, 7, .int .i64 mm), (w.heap.size, 8, .int .i64 mo)]) (by first | assumption | exact KC.drew HL.out HF.out)); rintro r w9 ⟨⟨az, kz, cz, rfl⟩, hb9⟩) | (go_at_call 21; (with_reducible refine (c21.out _ ?_).mono ?_); exact (KC.below (w0 := w) (m := w.heap.size + 1) (l := [(w.heap.size, 0, .string fo), (w.heap.size, 1, .string ty), (w.heap.size, 2, .int .i64 sz), (w.heap.size, 3, .int .i64 ve), (w.heap.size, 4, .string la), (w.heap.size, 5, .string ne), (w.heap.size, 6, .string no), (w.heap.size, 7, .int .i64 mm), (w.heap.size, 8, .int .i64 mo)]) (by first | assumption | exact KC.drew HL.out HF.out)); rintro r w9 ⟨⟨v1, rfl, hat1⟩, hb9⟩; have HA1 := Lib.hid hat1; clear hat1) | (go_at_call 22; (with_reducible refine (c22.out _ ?_).mono ?_); exact (KC.below (w0 := w) (m := w.heap.size + 1) (l := [(w.heap.size, 0, .string fo), (w.heap.size, 1, .string ty), (w.heap.size, 2, .int .i64 sz), (w.heap.size, 3, .int .i64 ve), (w.heap.size, 4, .string la), (w.heap.size, 5, .string ne), (w.heap.size, 6, .string no), (w.heap.size, 7, .int .i64 mm), (w.heap.size, 8, .int .i64 mo)]) (by first | assumption | exact KC.drew HL.out HF.out)); rintro r w9 ⟨⟨v2, rfl, hat2⟩, hb9⟩; have HA2 := Lib.hid hat2; have HA3 := Lib.hid (AtT.mono hb9.size _ _ (AtT.below hb9 _ _ HA1.out)); clear hat2) | (go_at_call 13; (with_reducible refine (c13.out _ v1 v2 ?_ ?_).mono ?_); exact HA3.out; exact HA2.out; rintro r w9 ⟨rfl, hb9⟩))
    all_goals
      have hq : KC w (w.heap.size + 1) [(w.heap.size, 0, .string fo), (w.heap.size, 1, .string ty), (w.heap.size, 2, .int .i64 sz), (w.heap.size, 3, .int .i64 ve), (w.heap.size, 4, .string la), (w.heap.size, 5, .string ne), (w.heap.size, 6, .string no), (w.heap.size, 7, .int .i64 mm), (w.heap.size, 8, .int .i64 mo)] w9 := by assumption
      have hq2 := KC.below hq
      go_wp2_with fail
      go_ret
      exact ⟨rfl, hq2⟩

theorem list9 {α : Type} {l : List α} (h : l.length = 9) : ∃ a b c d e f g i j, l = [a, b, c, d, e, f, g, i, j] := by
  match l, h with
  | [a, b, c, d, e, f, g, i, j], _ => exact ⟨a, b, c, d, e, f, g, i, j, rfl⟩
theorem cellsOf37 : Tryd.prog.cellsOf 37 = 9 := by kernel_rfl
set_option maxRecDepth 100000 in
theorem metTells_law {H : Type} {enc : TypeId × Value → H} {W : World} (v : Value) (d : DataW H) (p : List MemPlace) (k : DataW.Trod enc Tryd.prog W 0 (fun _ => true) true 37 v d p) {base : Nat} (ok : Value.okWide Tryd.prog W .any base 37 v)
    (hT : Lib.Utf8Tabs 0 1 W) : Calls Tryd.prog 5 #[v] W fun e w' => e = .returned (.bool true) ∧ Below W.heap.size W w' := by
  obtain ⟨cs, rfl, hsz⟩ := okWide_struct Tryd.underlying37 ok
  obtain ⟨fuel, h⟩ := k
  obtain ⟨xs, n, hn, hx, hlen, hxl, hy⟩ := DataW.trod_struct Tryd.underlying37 h
  obtain ⟨cl⟩ := cs
  rw [cellsOf37] at hlen
  obtain ⟨c0, c1, c2, c3, c4, c5, c6, c7, c8, rfl⟩ := list9 (show cl.length = 9 from hlen)
  obtain ⟨x0, x1, x2, x3, x4, x5, x6, x7, x8, rfl⟩ := list9 (show xs.length = 9 from hxl)
  have g0 : DataW.trod enc Tryd.prog W 0 (fun _ => true) true n 9 [c0] = some x0 := (hy 0 _ rfl).trans rfl
  have g1 : DataW.trod enc Tryd.prog W 0 (fun _ => true) true n 9 [c1] = some x1 := (hy 1 _ rfl).trans rfl
  have g2 : DataW.trod enc Tryd.prog W 0 (fun _ => true) true n 3 [c2] = some x2 := (hy 2 _ rfl).trans rfl
  have g3 : DataW.trod enc Tryd.prog W 0 (fun _ => true) true n 3 [c3] = some x3 := (hy 3 _ rfl).trans rfl
  have g4 : DataW.trod enc Tryd.prog W 0 (fun _ => true) true n 9 [c4] = some x4 := (hy 4 _ rfl).trans rfl
  have g5 : DataW.trod enc Tryd.prog W 0 (fun _ => true) true n 9 [c5] = some x5 := (hy 5 _ rfl).trans rfl
  have g6 : DataW.trod enc Tryd.prog W 0 (fun _ => true) true n 9 [c6] = some x6 := (hy 6 _ rfl).trans rfl
  have g7 : DataW.trod enc Tryd.prog W 0 (fun _ => true) true n 3 [c7] = some x7 := (hy 7 _ rfl).trans rfl
  have g8 : DataW.trod enc Tryd.prog W 0 (fun _ => true) true n 3 [c8] = some x8 := (hy 8 _ rfl).trans rfl
  obtain ⟨fo, e0, f0, _⟩ := DataW.trod_string Tryd.underlying9 g0
  obtain ⟨ty, e1, f1, _⟩ := DataW.trod_string Tryd.underlying9 g1
  obtain ⟨sz, e2, f2, b2⟩ := DataW.trod_int Tryd.underlying3 g2
  obtain ⟨ve, e3, f3, b3⟩ := DataW.trod_int Tryd.underlying3 g3
  obtain ⟨la, e4, f4, _⟩ := DataW.trod_string Tryd.underlying9 g4
  obtain ⟨ne, e5, f5, _⟩ := DataW.trod_string Tryd.underlying9 g5
  obtain ⟨no, e6, f6, _⟩ := DataW.trod_string Tryd.underlying9 g6
  obtain ⟨mm, e7, f7, b7⟩ := DataW.trod_int Tryd.underlying3 g7
  obtain ⟨mo, e8, f8, b8⟩ := DataW.trod_int Tryd.underlying3 g8
  simp only [List.cons.injEq, and_true] at e0 e1 e2 e3 e4 e5 e6 e7 e8
  subst e0 e1 e2 e3 e4 e5 e6 e7 e8
  exact metTells_walk fo ty sz ve la ne no mm mo (wf_i64 b2) (wf_i64 b3) (wf_i64 b7) (wf_i64 b8) W hT
end Go.Proofs.YtdaiijkanfjklaaDoor
