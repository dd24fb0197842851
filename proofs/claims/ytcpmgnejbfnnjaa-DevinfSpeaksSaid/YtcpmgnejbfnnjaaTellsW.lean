/- BoundTells: the law's walk. No condition. -/
import Derived.Test.YtcpmgnejbfnnjaaTells
import Derived.Test.YtcpmgnejbfnnjaaBoundGrowsW
namespace Go.Proofs.Ytcpmgnejbfnnjaa
open Go.RowKit Go.ChangeShapes Go.WideShapes Go.Deep

section
variable {H : Type} {enc : TypeId × Value → H} {P : Program} {w : World} {base : Nat} {spare : Nat → Bool} {held : Bool}
theorem open_slice_fields {t e : TypeId} {fs : Array Field} {fuel : Nat} {cs : List Value} {x : DataW H × List MemPlace} (ht : P.underlying t = some (.slice e)) (he : P.underlying e = some (.struct fs))
    (hone : oneCellFields P fs = true) (hC : P.cellsOf e = fs.size) (h : DataW.trod enc P w base spare held fuel t cs = some x) :
    (cs = [.slice none 0 0] ∧ x = (.nil, [])) ∨
    ∃ (a : Addr) (len cap m : Nat) (D : Nat → DataW H) (Pl : Nat → List MemPlace), cs = [.slice (some a) len cap] ∧ base ≤ a.block ∧ len ≤ cap ∧ cap ≤ maxLen ∧ m = (if spare a.block then cap else len) ∧
      x = (.slice ((List.range len).map D) ((List.range (m - len)).map fun j => D (len + j)), MemPlace.row a (m * fs.size) ++ (List.range m).flatMap Pl) ∧
      ∀ i, i < m → ∃ (ys : List (DataW H × List MemPlace)) (n : Nat), D i = .agg (ys.map (·.1)) ∧ Pl i = ys.flatMap (·.2) ∧ ys.length = fs.size ∧
        ∀ (j : Nat) (f : Field), fs[j]? = some f → ∃ (v : Value) (y : DataW H × List MemPlace), w.cell? (a.add (i * fs.size + j)) = some v ∧ ys[j]? = some y ∧ DataW.trod enc P w base spare held n f.type [v] = some y := by
  rcases open_slice ht h with h0 | ⟨a, len, cap, m, n, D, Pl, hcs, hb, hl, hm, hmm, hx, hi⟩
  · exact .inl h0
  · refine .inr ⟨a, len, cap, m, D, Pl, hcs, hb, hl, hm, hmm, by rw [hC] at hx; exact hx, fun i him => ?_⟩
    obtain ⟨cs', hc, ht'⟩ := hi i him
    rw [hC] at hc
    obtain ⟨ys, n', hn', hy, hlen, hyl, hf⟩ := DataW.trod_struct he ht'
    obtain ⟨_, hcl, hat⟩ := World.cells?_some hc
    simp only [Prod.mk.injEq] at hy
    refine ⟨ys, n', hy.1, hy.2, hyl, fun j f hj => ?_⟩
    obtain ⟨ho, hk⟩ := hone_of hone j f hj
    have hjl : j < fs.size := (Array.getElem?_eq_some_iff.1 hj).1
    have hcell := hat j hjl
    have hv : cs'[j]? = some (cs'[j]'(by omega)) := List.getElem?_eq_getElem (by omega)
    have h1 := hf j f hj
    rw [ho, hk] at h1
    have hone' : (cs'.drop j).take 1 = [cs'[j]'(by omega)] := by
      rw [List.drop_eq_getElem_cons (by omega)]
      rfl
    rw [hone'] at h1
    have hys : ys[j]? = some (ys[j]'(by omega)) := List.getElem?_eq_getElem (by omega)
    refine ⟨_, _, ?_, hys, h1.trans hys⟩
    rw [← Go.Deep.add_add, hcell, hv]
end

/-- the text in a cell -/
def textAt (w : World) (ad : Option Addr) (k : Nat) : ByteArray := match ad with
  | some a => match w.cell? (a.add k) with
    | some (.string s) => s
    | _ => ByteArray.empty
  | none => ByteArray.empty

theorem textAt_of {w : World} {a : Addr} {k : Nat} {s : ByteArray} (h : w.cell? (a.add k) = some (.string s)) : textAt w (some a) k = s := by unfold textAt; simp only [h]

theorem cell_lt {w : World} {a : Addr} {v : Value} (h : w.cell? a = some v) : a.block < w.heap.size := by
  obtain ⟨o, ho, _⟩ := cells_of_cell h
  exact (Array.getElem?_eq_some_iff.1 ho).1

theorem trodS {H : Type} {enc : TypeId × Value → H} {w : World} {base : Nat} {n : Nat} {v : Value} {y : DataW H × List MemPlace} (h : DataW.trod enc Try.prog w base (fun _ => true) true n 9 [v] = some y) : ∃ s : ByteArray, v = .string s := by
  obtain ⟨s, e, _⟩ := DataW.trod_string Try.underlying9 h
  simp at e; exact ⟨s, e⟩
theorem trodI {H : Type} {enc : TypeId × Value → H} {w : World} {base : Nat} {n : Nat} {v : Value} {y : DataW H × List MemPlace} (h : DataW.trod enc Try.prog w base (fun _ => true) true n 3 [v] = some y) : ∃ s : Int, v = .int .i64 s := by
  obtain ⟨s, e, _⟩ := DataW.trod_int Try.underlying3 h
  simp at e; exact ⟨s, e⟩
theorem trodB {H : Type} {enc : TypeId × Value → H} {w : World} {base : Nat} {n : Nat} {v : Value} {y : DataW H × List MemPlace} (h : DataW.trod enc Try.prog w base (fun _ => true) true n 4 [v] = some y) : ∃ s : Bool, v = .bool s := by
  obtain ⟨s, e, _⟩ := DataW.trod_bool Try.underlying4 h
  simp at e; exact ⟨s, e⟩

theorem addr_add (b o k : Nat) : (⟨b, o, none⟩ : Addr).add k = ⟨b, o + k, none⟩ := by unfold Addr.add; split <;> simp_all

theorem open_entries {H : Type} {enc : TypeId × Value → H} {w : World} {n : Nat} {v : Value} {x : DataW H × List MemPlace} (h : DataW.trod enc Try.prog w 0 (fun _ => true) true n 42 [v] = some x) :
    ∃ (ad : Option Addr) (k c : Nat) (T : Nat → ByteArray), v = .slice ad k c ∧ k ≤ maxLen ∧ Row4 w ad k T := by
  rcases open_slice_fields Try.underlying42 Try.underlying70 (by kernel_rfl) (by kernel_rfl) h with ⟨h0, _⟩ | ⟨a, len, cap, m, D, Pl, hcs, _, hl, hm, hmm, _, hi⟩
  · simp at h0
    exact ⟨none, 0, 0, fun _ => ByteArray.empty, h0, Nat.zero_le _, fun i hi => absurd hi (Nat.not_lt_zero _)⟩
  · simp at hcs
    refine ⟨some a, len, cap, fun i => textAt w (some a) (i * 4 + 3), hcs, Nat.le_trans hl hm, fun i hlt => ?_⟩
    obtain ⟨b, o, sp⟩ := a
    obtain rfl : sp = none := by
      obtain ⟨ys, n, _, _, _, hf⟩ := hi 0 (by rw [hmm]; split <;> omega)
      obtain ⟨v0, y0, c0, _, t0⟩ := hf 0 _ rfl
      simpa [Addr.add] using World.cell?_spot c0
    obtain ⟨ys, n, _, _, _, hf⟩ := hi i (by rw [hmm]; split <;> omega)
    obtain ⟨v0, y0, c0, _, t0⟩ := hf 0 _ rfl
    obtain ⟨v1, y1, c1, _, t1⟩ := hf 1 _ rfl
    obtain ⟨v2, y2, c2, _, t2⟩ := hf 2 _ rfl
    obtain ⟨v3, y3, c3, _, t3⟩ := hf 3 _ rfl
    obtain ⟨x0, rfl⟩ := trodI t0
    obtain ⟨x1, rfl⟩ := trodI t1
    obtain ⟨x2, rfl⟩ := trodI t2
    obtain ⟨s, rfl⟩ := trodS t3
    have hT : textAt w (some ⟨b, o, none⟩) (i * 4 + 3) = s := textAt_of c3
    have hlt2 := cell_lt c0
    rw [addr_add] at c0 c1 c2 c3 hlt2
    exact ⟨b, o, x0, x1, x2, rfl, hlt2, c0, c1, c2, (c3.trans (congrArg (fun z => some (Value.string z)) hT.symm))⟩

theorem open_records {H : Type} {enc : TypeId × Value → H} {w : World} {n : Nat} {v : Value} {x : DataW H × List MemPlace} (h : DataW.trod enc Try.prog w 0 (fun _ => true) true n 44 [v] = some x) :
    ∃ (ad : Option Addr) (k c : Nat) (T U V : Nat → ByteArray), v = .slice ad k c ∧ k ≤ maxLen ∧ Row9 w ad k T U V := by
  rcases open_slice_fields Try.underlying44 Try.underlying72 (by kernel_rfl) (by kernel_rfl) h with ⟨h0, _⟩ | ⟨a, len, cap, m, D, Pl, hcs, _, hl, hm, hmm, _, hi⟩
  · simp at h0
    exact ⟨none, 0, 0, fun _ => ByteArray.empty, fun _ => ByteArray.empty, fun _ => ByteArray.empty, h0, Nat.zero_le _, fun i hi => absurd hi (Nat.not_lt_zero _)⟩
  · simp at hcs
    refine ⟨some a, len, cap, fun i => textAt w (some a) (i * 9 + 3), fun i => textAt w (some a) (i * 9 + 6), fun i => textAt w (some a) (i * 9 + 8), hcs, Nat.le_trans hl hm, fun i hlt => ?_⟩
    obtain ⟨b, o, sp⟩ := a
    obtain rfl : sp = none := by
      obtain ⟨ys, n, _, _, _, hf⟩ := hi 0 (by rw [hmm]; split <;> omega)
      obtain ⟨v0, y0, c0, _, t0⟩ := hf 0 _ rfl
      simpa [Addr.add] using World.cell?_spot c0
    obtain ⟨ys, n, _, _, _, hf⟩ := hi i (by rw [hmm]; split <;> omega)
    obtain ⟨v0, y0, c0, _, t0⟩ := hf 0 _ rfl
    obtain ⟨v1, y1, c1, _, t1⟩ := hf 1 _ rfl
    obtain ⟨v2, y2, c2, _, t2⟩ := hf 2 _ rfl
    obtain ⟨v3, y3, c3, _, t3⟩ := hf 3 _ rfl
    obtain ⟨v4, y4, c4, _, t4⟩ := hf 4 _ rfl
    obtain ⟨v5, y5, c5, _, t5⟩ := hf 5 _ rfl
    obtain ⟨v6, y6, c6, _, t6⟩ := hf 6 _ rfl
    obtain ⟨v7, y7, c7, _, t7⟩ := hf 7 _ rfl
    obtain ⟨v8, y8, c8, _, t8⟩ := hf 8 _ rfl
    obtain ⟨x0, rfl⟩ := trodI t0
    obtain ⟨x1, rfl⟩ := trodB t1
    obtain ⟨x2, rfl⟩ := trodI t2
    obtain ⟨s3, rfl⟩ := trodS t3
    obtain ⟨x4, rfl⟩ := trodI t4
    obtain ⟨x5, rfl⟩ := trodI t5
    obtain ⟨s6, rfl⟩ := trodS t6
    obtain ⟨x7, rfl⟩ := trodI t7
    obtain ⟨s8, rfl⟩ := trodS t8
    have hT : textAt w (some ⟨b, o, none⟩) (i * 9 + 3) = s3 := textAt_of c3
    have hU : textAt w (some ⟨b, o, none⟩) (i * 9 + 6) = s6 := textAt_of c6
    have hV : textAt w (some ⟨b, o, none⟩) (i * 9 + 8) = s8 := textAt_of c8
    have hlt2 := cell_lt c0
    rw [addr_add] at c0 c1 c2 c3 c4 c5 c6 c7 c8 hlt2
    exact ⟨b, o, x0, x1, x2, x4, x5, x7, rfl, hlt2, c0, c1, c2, (c3.trans (congrArg (fun z => some (Value.string z)) hT.symm)), c4, c5, (c6.trans (congrArg (fun z => some (Value.string z)) hU.symm)), c7, (c8.trans (congrArg (fun z => some (Value.string z)) hV.symm))⟩

theorem open_len {H : Type} {enc : TypeId × Value → H} {w : World} {n t e : Nat} {v : Value} {x : DataW H × List MemPlace} (ht : Try.prog.underlying t = some (.slice e)) (h : DataW.trod enc Try.prog w 0 (fun _ => true) true n t [v] = some x) :
    ∃ (ad : Option Addr) (k c : Nat), v = .slice ad k c ∧ k ≤ maxLen := by
  rcases open_slice ht h with ⟨h0, _⟩ | ⟨a, len, cap, m, n, D, Pl, hcs, _, hl, hm, _⟩
  · simp at h0; exact ⟨none, 0, 0, h0, Nat.zero_le _⟩
  · simp at hcs; exact ⟨some a, len, cap, hcs, Nat.le_trans hl hm⟩

theorem open_sides {H : Type} {enc : TypeId × Value → H} {W : World} {v : Value} {d : DataW H} {p : List MemPlace}
    (k : DataW.Trod enc Try.prog W 0 (fun _ => true) true 46 v d p) {base : Nat} (ok : Value.okWide Try.prog W .any base 46 v) :
    ∃ (e g p r : Option Addr) (en gn pn rn ec gc pc rc : Nat) (T U X Y : Nat → ByteArray), v = .agg #[.slice e en ec, .slice g gn gc, .slice p pn pc, .slice r rn rc] ∧ Row4 W e en T ∧ Row9 W r rn U X Y ∧ en ≤ maxLen ∧ gn ≤ maxLen ∧ pn ≤ maxLen ∧ rn ≤ maxLen := by
  obtain ⟨c0, c1, c2, c3, y0, y1, y2, y3, n, rfl, _, _, g0, g1, g2, g3⟩ := Joins.open_agg4 Try.underlying46 (by kernel_rfl) (by kernel_rfl) ok k
  obtain ⟨e, en, ec, T, rfl, he, hE⟩ := open_entries g0
  obtain ⟨g, gn, gc, rfl, hg⟩ := open_len Try.underlying42 g1
  obtain ⟨p, pn, pc, rfl, hp⟩ := open_len Try.underlying43 g2
  obtain ⟨r, rn, rc, U, X, Y, rfl, hr, hR⟩ := open_records g3
  exact ⟨e, g, p, r, en, gn, pn, rn, ec, gc, pc, rc, T, U, X, Y, rfl, hE, hR, he, hg, hp, hr⟩

set_option maxRecDepth 100000 in
set_option maxHeartbeats 1000000 in
theorem boundTells_core (e g p r : Option Addr) (en gn pn rn ec gc pc rc : Nat) (T U X Y : Nat → ByteArray) (i b s : Int) (t : Bool) (w : World) (hE : Row4 w e en T) (hR : Row9 w r rn U X Y) (ne : en ≤ maxLen) (ng : gn ≤ maxLen) (np : pn ≤ maxLen) (nr : rn ≤ maxLen)
    (h1 : -9223372036854775808 ≤ s) (h2 : s ≤ 9223372036854775807) :
    Calls Try.prog 6 #[.agg #[.slice e en ec, .slice g gn gc, .slice p pn pc, .slice r rn rc], .agg #[.int .i64 i, .int .i64 b, .int .i64 s, .bool t]] w fun x w' => x = .returned (.bool true) ∧ Below w.heap.size w w' := by
  have cg := Lib.hid (fun (W : World) (hb : Below w.heap.size w W) => great35_any e g p r en gn pn rn ec gc pc rc T U X Y W (hE.below hb) (hR.below hb) ne ng np nr)
  have ci := Lib.hid (fun (W : World) (hb : Below w.heap.size w W) => items_any e g p r en gn pn rn ec gc pc rc T U X Y W (hE.below hb) (hR.below hb) ne nr)
  have cj := Lib.hid (fun (W : World) (hb : Below w.heap.size w W) => refItems_any e g p r en gn pn rn ec gc pc rc T U X Y W (hE.below hb) (hR.below hb) ne nr)
  have cp := Lib.hid (fun w => piece_any s t w h1 h2)
  have cq := Lib.hid (fun w => refPiece_any s t w h1 h2)
  have cm := Lib.hid (fun w => messages_any i b s t w h1 h2)
  have cn := Lib.hid (fun w => refMessages_any i b s t w h1 h2)
  have cw := Lib.hid works36_any
  clear hE hR ne ng np nr
  generalize wrap64 (wrap64 (wrap64 (en + gn) + pn) + rn) = A at *
  generalize sumT U (sumT T 0 en) rn = B at *
  generalize pcv s t = P1 at *
  generalize msgv i b s t = P2 at *
  go_enter Try.func6, Try.ntmps6
  go_wp2_with fail
  have hb0 : Below w.heap.size w ((w.alloc (.cells #[.slice e en ec, .slice g gn gc, .slice p pn pc, .slice r rn rc] 46)).alloc (.cells #[.int .i64 i, .int .i64 b, .int .i64 s, .bool t] 23)) := ((Below.refl _ _).alloc (Nat.le_refl _) _).alloc (by simp) _
  have bx0 : Box4 ((w.alloc (.cells #[.slice e en ec, .slice g gn gc, .slice p pn pc, .slice r rn rc] 46)).alloc (.cells #[.int .i64 i, .int .i64 b, .int .i64 s, .bool t] 23)) w.heap.size (.slice e en ec) (.slice g gn gc) (.slice p pn pc) (.slice r rn rc) :=
    (Box4.new w _ _ _ _ _).below ((Below.refl (w.heap.size + 1) _).alloc (by simp) _) (by omega)
  have by0 : Box4 ((w.alloc (.cells #[.slice e en ec, .slice g gn gc, .slice p pn pc, .slice r rn rc] 46)).alloc (.cells #[.int .i64 i, .int .i64 b, .int .i64 s, .bool t] 23)) (w.heap.size + 1) (.int .i64 i) (.int .i64 b) (.int .i64 s) (.bool t) := by
    have := Box4.new (w.alloc (.cells #[.slice e en ec, .slice g gn gc, .slice p pn pc, .slice r rn rc] 46)) (.int .i64 i) (.int .i64 b) (.int .i64 s) (.bool t) 23
    simpa using this
  have hz0 : w.heap.size + 1 < ((w.alloc (.cells #[.slice e en ec, .slice g gn gc, .slice p pn pc, .slice r rn rc] 46)).alloc (.cells #[.int .i64 i, .int .i64 b, .int .i64 s, .bool t] 23)).heap.size := by simp
  generalize (w.alloc (.cells #[.slice e en ec, .slice g gn gc, .slice p pn pc, .slice r rn rc] 46)).alloc (.cells #[.int .i64 i, .int .i64 b, .int .i64 s, .bool t] 23) = w0 at *
  refine (cg.out w0 hb0).mono ?_
  rintro x w1 ⟨bb, rfl, hb1⟩
  have hB1 := hb0.trans (hb1.mono hb0.size)
  have bx1 := bx0.below hb1 (by omega)
  have by1 := by0.below hb1 (by omega)
  have hz1 : w.heap.size + 1 < w1.heap.size := Nat.lt_of_lt_of_le hz0 hb1.size
  clear hb0 bx0 by0 hz0 hb1
  obtain ⟨x0, x1, x2, x3⟩ := bx1
  obtain ⟨u0, u1, u2, u3⟩ := by1
  cases bb with
  | true =>
    go_wp2_with fail
    go_ret
    exact ⟨rfl, hB1⟩
  | false =>
    go_wp2_with fail
    refine (ci.out w1 hB1).mono ?_
    rintro x w2 ⟨rfl, hb2⟩
    have hB2 := hB1.trans (hb2.mono hB1.size)
    have hz2 : w.heap.size + 1 < w2.heap.size := Nat.lt_of_lt_of_le hz1 hb2.size
    have bx2 := Box4.below ⟨x0, x1, x2, x3⟩ hb2 (by omega)
    have by2 := Box4.below ⟨u0, u1, u2, u3⟩ hb2 (by omega)
    clear x0 x1 x2 x3 u0 u1 u2 u3 hB1 hz1 hb2
    obtain ⟨x0, x1, x2, x3⟩ := bx2
    obtain ⟨u0, u1, u2, u3⟩ := by2
    go_wp2_with fail
    refine (cj.out w2 hB2).mono ?_
    rintro x w3 ⟨rfl, hb3⟩
    have hB3 := Lib.hid (hB2.trans (hb3.mono hB2.size))
    have by3 := Box4.below ⟨u0, u1, u2, u3⟩ hb3 (by omega)
    clear x0 x1 x2 x3 u0 u1 u2 u3 hB2 hz2 hb3
    obtain ⟨u0, u1, u2, u3⟩ := by3
    go_wp2_with (first | (go_at_call 22; refine (cp.out _).mono ?_; rintro x w4 ⟨rfl, rfl⟩) | (go_at_call 23; refine (cq.out _).mono ?_; rintro x w4 ⟨rfl, rfl⟩) | (go_at_call 11; refine (cm.out _).mono ?_; rintro x w4 ⟨rfl, rfl⟩) | (go_at_call 24; refine (cn.out _).mono ?_; rintro x w4 ⟨rfl, rfl⟩) | (go_at_call 10; refine (cw.out _).mono ?_; rintro x w4 ⟨rfl, rfl⟩))
    go_ret
    exact ⟨rfl, hB3.out⟩

theorem boundTells_walk {H : Type} {enc : TypeId × Value → H} {W : World} {base : Nat} (v0 : Value) (d0 : DataW H) (p0 : List MemPlace)
    (k0 : DataW.Trod enc Try.prog W 0 (fun _ => true) true 46 v0 d0 p0) (ok0 : Value.okWide Try.prog W .any base 46 v0) (_ : ∀ x ∈ p0, x.block < W.heap.size)
    (v1 : Value) (d1 : DataW H) (p1 : List MemPlace)
    (k1 : DataW.Trod enc Try.prog W 0 (fun _ => true) true 23 v1 d1 p1) (ok1 : Value.okWide Try.prog W .any base 23 v1) (_ : ∀ x ∈ p1, x.block < W.heap.size) (_ : World) :
    Calls Try.prog 6 #[v0, v1] W fun e w' => e = .returned (.bool true) ∧ Below W.heap.size W w' := by
  obtain ⟨e, g, p, r, en, gn, pn, rn, ec, gc, pc, rc, T, U, X, Y, rfl, hE, hR, h1, h2, h3, h4⟩ := open_sides k0 ok0
  obtain ⟨i, b, s, t, rfl, _, _, g1, g2⟩ := open_ask k1 ok1
  exact boundTells_core e g p r en gn pn rn ec gc pc rc T U X Y i b s t W hE hR h1 h2 h3 h4 g1 g2
end Go.Proofs.Ytcpmgnejbfnnjaa
