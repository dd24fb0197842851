/- DevinfSpeaks: the law's walk. No condition. -/
import Derived.Test.YtcpmgnejbfnnjaaGrt
import Derived.Test.YtcpmgnejbfnnjaaTellsW
namespace Go.Proofs.Ytcpmgnejbfnnjaa
open Go.RowKit Go.ChangeShapes Go.WideShapes Go.Deep

theorem box6 {w : World} {b : Nat} {t : TypeId} {x0 x1 x2 x3 x4 x5 : Value} (h : w.heap[b]? = some (.cells #[x0, x1, x2, x3, x4, x5] t)) :
    w.cell? ⟨b, 0, none⟩ = some x0 ∧ w.cell? ⟨b, 1, none⟩ = some x1 ∧ w.cell? ⟨b, 2, none⟩ = some x2 ∧ w.cell? ⟨b, 3, none⟩ = some x3 ∧ w.cell? ⟨b, 4, none⟩ = some x4 ∧ w.cell? ⟨b, 5, none⟩ = some x5 := by
  refine ⟨?_, ?_, ?_, ?_, ?_, ?_⟩ <;> (unfold World.cell?; rw [h]; rfl)
theorem box2 {w : World} {b : Nat} {t : TypeId} {x0 x1 : Value} (h : w.heap[b]? = some (.cells #[x0, x1] t)) :
    w.cell? ⟨b, 0, none⟩ = some x0 ∧ w.cell? ⟨b, 1, none⟩ = some x1 := by
  refine ⟨?_, ?_⟩ <;> (unfold World.cell?; rw [h]; rfl)

set_option maxRecDepth 100000 in
set_option maxHeartbeats 4000000 in
theorem devinfSpeaks_core (a0 a1 b0 b1 : ByteArray) (a2 b2 : Int) (ta ga pa tb gb pb : Option Addr) (tan tac gan gac pan pac tbn tbc gbn gbc pbn pbc : Nat) (T G F K : Nat → Fm) (w : World)
    (hT : Row2 w ta tan T) (hG : Row2 w ga gan G) (hF : Row2 w tb tbn F) (hK : Row2 w gb gbn K) (hT0 : ta = none → tan = 0 ∧ tac = 0) (hG0 : ga = none → gan = 0 ∧ gac = 0) (hF0 : tb = none → tbn = 0 ∧ tbc = 0) (hK0 : gb = none → gbn = 0 ∧ gbc = 0)
    (hgn : gan ≤ maxLen) (hn : tbn ≤ maxLen) :
    Calls Try.prog 4 #[.agg #[.string a0, .string a1, .int .i64 a2, .slice ta tan tac, .slice ga gan gac, .slice pa pan pac], .agg #[.string b0, .string b1, .int .i64 b2, .slice tb tbn tbc, .slice gb gbn gbc, .slice pb pbn pbc]] w
      fun e w' => e = .returned (.bool true) ∧ Below w.heap.size w w' := by
  have cg0 := Lib.hid (fun (W : World) (hb : Below w.heap.size w W) => greatPlace_any a0 a1 a2 ta ga pa tan tac gan gac pan pac T G W (hT.below hb) (hG.below hb) hT0 hG0)
  have cg1 := Lib.hid (fun (W : World) (hb : Below w.heap.size w W) => greatPlace_any b0 b1 b2 tb gb pb tbn tbc gbn gbc pbn pbc F K W (hF.below hb) (hK.below hb) hF0 hK0)
  have cs := Lib.hid (fun (W : World) (hb : Below w.heap.size w W) => speak_any a0 a1 b0 b1 a2 b2 ta ga pa tb gb pb tan tac gan gac pan pac tbn tbc gbn gbc pbn pbc G F W (hG.below hb) hgn (hF.below hb) hn)
  have cr := Lib.hid (fun (W : World) (hb : Below w.heap.size w W) => refSpeak_any a0 a1 b0 b1 a2 b2 ta ga pa tb gb pb tan tac gan gac pan pac tbn tbc gbn gbc pbn pbc G F W (hG.below hb) hgn (hF.below hb) hn)
  clear hT hG hF hK hT0 hG0 hF0 hK0 hgn hn
  go_enter Try.func4, Try.ntmps4
  go_wp2_with fail
  obtain ⟨W, hW⟩ : ∃ W, W = (w.alloc (.cells #[.string a0, .string a1, .int .i64 a2, .slice ta tan tac, .slice ga gan gac, .slice pa pan pac] 32)).alloc (.cells #[.string b0, .string b1, .int .i64 b2, .slice tb tbn tbc, .slice gb gbn gbc, .slice pb pbn pbc] 32) := ⟨_, rfl⟩
  rw [← hW]
  have hWb : Below w.heap.size w W := by rw [hW]; exact ((Below.refl _ w).alloc (Nat.le_refl _) _).alloc (by simp) _
  have hWs : W.heap.size = w.heap.size + 2 := by rw [hW]; simp
  have B0 : W.heap[w.heap.size]? = some (.cells #[.string a0, .string a1, .int .i64 a2, .slice ta tan tac, .slice ga gan gac, .slice pa pan pac] 32) := by
    rw [hW, Below.heap_alloc _ _ _ (by simp)]; exact block_new w _
  have B1 : W.heap[w.heap.size + 1]? = some (.cells #[.string b0, .string b1, .int .i64 b2, .slice tb tbn tbc, .slice gb gbn gbc, .slice pb pbn pbc] 32) := by
    rw [hW]
    have := block_new (w.alloc (.cells #[.string a0, .string a1, .int .i64 a2, .slice ta tan tac, .slice ga gan gac, .slice pa pan pac] 32)) (.cells #[.string b0, .string b1, .int .i64 b2, .slice tb tbn tbc, .slice gb gbn gbc, .slice pb pbn pbc] 32)
    simpa using this
  have HW := Lib.hid hWb
  have HB0 := Lib.hid B0
  have HB1 := Lib.hid B1
  clear hW hWb B0 B1
  refine (cg0.out W HW.out).mono ?_
  rintro e w1 ⟨⟨r0, rfl⟩, q1⟩
  have hb1 := Lib.hid q1
  have hB1 := Lib.hid (HW.out.trans (q1.mono (by omega)))
  have hz1 := q1.size
  clear q1
  cases r0 with
  | true =>
    go_wp2_with fail
    go_ret
    exact ⟨rfl, hB1.out⟩
  | false =>
    obtain ⟨y0, y1, y2, y3, y4, y5⟩ := box6 ((hb1.out.block _ (by omega)).trans HB1.out)
    go_wp2_with fail
    refine (cg1.out w1 hB1.out).mono ?_
    rintro e w2 ⟨⟨r1, rfl⟩, q2⟩
    have hb2 := Lib.hid (hb1.out.trans (q2.mono hz1))
    have hB2 := Lib.hid (hB1.out.trans (q2.mono (by omega)))
    have hz2 := q2.size
    clear y0 y1 y2 y3 y4 y5 q2
    cases r1 with
    | true =>
      go_wp2_with fail
      go_ret
      exact ⟨rfl, hB2.out⟩
    | false =>
      obtain ⟨y0, y1, y2, y3, y4, y5⟩ := box6 ((hb2.out.block _ (by omega)).trans HB1.out)
      obtain ⟨x0, x1, x2, x3, x4, x5⟩ := box6 ((hb2.out.block _ (by omega)).trans HB0.out)
      go_wp2_with fail
      refine (cs.out w2 hB2.out).mono ?_
      rintro e w3 ⟨⟨⟨xa, xb⟩, okx, rfl, hxr⟩, q3⟩
      have hb3 := Lib.hid (hb2.out.trans (q3.mono (by omega)))
      have hB3 := Lib.hid (hB2.out.trans (q3.mono (by omega)))
      have hz3 := q3.size
      clear x0 x1 x2 x3 x4 x5 y0 y1 y2 y3 y4 y5 q3
      have HXR := Lib.hid hxr
      clear hxr
      have hbx := Lib.hid (hb3.out.trans ((Below.refl W.heap.size w3).alloc (by omega) (.cells #[.string xa, .string xb] 35)))
      have hBx := Lib.hid (hB3.out.trans ((Below.refl w.heap.size w3).alloc (by omega) (.cells #[.string xa, .string xb] 35)))
      have hcx := block_new w3 (.cells #[.string xa, .string xb] 35)
      have hzx : w3.heap.size + 1 = (w3.alloc (.cells #[.string xa, .string xb] 35)).heap.size := by simp
      obtain ⟨y0, y1, y2, y3, y4, y5⟩ := box6 ((hbx.out.block _ (by omega)).trans HB1.out)
      obtain ⟨x0, x1, x2, x3, x4, x5⟩ := box6 ((hbx.out.block _ (by omega)).trans HB0.out)
      go_wp2_with fail
      refine (cr.out _ hBx.out).mono ?_
      rintro e w4 ⟨⟨⟨ya, yb⟩, oky, rfl, hyr⟩, q4⟩
      obtain ⟨hxy, rfl⟩ := HXR.out.same hyr
      simp only [Prod.mk.injEq] at hxy
      obtain ⟨rfl, rfl⟩ := hxy
      have hcx4 := Lib.hid ((q4.block w3.heap.size (by omega)).trans hcx)
      have hB4 := Lib.hid (hBx.out.trans (q4.mono (by omega)))
      have hz4 := q4.size
      clear x0 x1 x2 x3 x4 x5 y0 y1 y2 y3 y4 y5 q4 hcx hyr HXR hbx hBx hb1 hb2 hb3 HB0 HB1
      have heq : ∀ w, (binOp .eql 35 (.agg #[.string xa, .string xb]) (.agg #[.string xa, .string xb])).run Try.prog w = .ok (.bool true) w := fun w => by rw [run_eq35, decide_eq_true rfl]
      have heq2 : ∀ w, (binOp .eql 35 (.agg #[.string { data := #[97] }, .string { data := #[49] }]) (.agg #[.string { data := #[97] }, .string { data := #[49] }])).run Try.prog w = .ok (.bool true) w := fun w => by rw [run_eq35, decide_eq_true rfl]
      go_wp2_with fail
      obtain ⟨X5, hX5⟩ : ∃ X, X = ((((w4.alloc (.cells #[.string xa, .string xb] 35)).alloc (.cells #[.string { data := #[97] }, .string { data := #[49] }] 35)).alloc (.cells #[.string { data := #[97] }, .string { data := #[49] }] 35)).alloc (.cells #[.string { data := #[98] }, .string { data := #[49] }, .string { data := #[97] }, .string { data := #[49] }] 35)) := ⟨_, rfl⟩
      rw [← hX5]
      have hz5 : X5.heap.size = w4.heap.size + 4 := by rw [hX5]; simp
      have hb5 : Below w4.heap.size w4 X5 := by
        rw [hX5]; exact ((((Below.refl _ w4).alloc (Nat.le_refl _) _).alloc (by simp) _).alloc (by simp; omega) _).alloc (by simp; omega) _
      have p0 : X5.heap[w4.heap.size]? = some (.cells #[.string xa, .string xb] 35) := by
        rw [hX5, Below.heap_alloc _ _ _ (by simp; omega), Below.heap_alloc _ _ _ (by simp; omega), Below.heap_alloc _ _ _ (by simp)]; exact block_new w4 _
      have p1 : X5.heap[w4.heap.size + 1]? = some (.cells #[.string { data := #[97] }, .string { data := #[49] }] 35) := by
        rw [hX5, Below.heap_alloc _ _ _ (by simp), Below.heap_alloc _ _ _ (by simp)]
        have := block_new (w4.alloc (.cells #[.string xa, .string xb] 35)) (.cells #[.string { data := #[97] }, .string { data := #[49] }] 35)
        simpa using this
      have p2 : X5.heap[w4.heap.size + 1 + 1]? = some (.cells #[.string { data := #[97] }, .string { data := #[49] }] 35) := by
        rw [hX5, Below.heap_alloc _ _ _ (by simp)]
        have := block_new ((w4.alloc (.cells #[.string xa, .string xb] 35)).alloc (.cells #[.string { data := #[97] }, .string { data := #[49] }] 35)) (.cells #[.string { data := #[97] }, .string { data := #[49] }] 35)
        simpa using this
      have p3 : X5.heap[w4.heap.size + 1 + 1 + 1]? = some (.cells #[.string { data := #[98] }, .string { data := #[49] }, .string { data := #[97] }, .string { data := #[49] }] 35) := by
        rw [hX5]
        have := block_new (((w4.alloc (.cells #[.string xa, .string xb] 35)).alloc (.cells #[.string { data := #[97] }, .string { data := #[49] }] 35)).alloc (.cells #[.string { data := #[97] }, .string { data := #[49] }] 35)) (.cells #[.string { data := #[98] }, .string { data := #[49] }, .string { data := #[97] }, .string { data := #[49] }] 35)
        simpa using this
      clear hX5
      have hr1 : Row2 X5 (some ⟨w4.heap.size + 1 + 1, 0, none⟩) 1 (fun _ => (({ data := #[97] } : ByteArray), ({ data := #[49] } : ByteArray))) := fun i hi => by
        obtain rfl : i = 0 := by omega
        obtain ⟨z0, z1⟩ := box2 p2
        exact ⟨_, 0, rfl, by omega, z0, z1⟩
      have hr2 : Row2 X5 (some ⟨w4.heap.size + 1 + 1 + 1, 0, none⟩) 2 (fun i => if i = 0 then (({ data := #[98] } : ByteArray), ({ data := #[49] } : ByteArray)) else (({ data := #[97] } : ByteArray), ({ data := #[49] } : ByteArray))) := fun i hi => by
        rcases (by omega : i = 0 ∨ i = 1) with rfl | rfl
        · exact ⟨_, 0, rfl, by omega, by unfold World.cell?; rw [p3]; rfl, by unfold World.cell?; rw [p3]; rfl⟩
        · exact ⟨_, 0, rfl, by omega, by unfold World.cell?; rw [p3]; rfl, by unfold World.cell?; rw [p3]; rfl⟩
      refine (speak_any _ _ _ _ _ _ _ _ _ _ _ _ _ _ _ _ _ _ _ _ _ _ _ _ _ _ X5 hr1 (by decide) hr2 (by decide)).mono ?_
      rintro e w6 ⟨⟨z, okz, rfl, hzr⟩, q6⟩
      have hzz : SpkR 1 (fun _ => (({ data := #[97] } : ByteArray), ({ data := #[49] } : ByteArray))) 2 (fun i => if i = 0 then (({ data := #[98] } : ByteArray), ({ data := #[49] } : ByteArray)) else (({ data := #[97] } : ByteArray), ({ data := #[49] } : ByteArray))) ({ data := #[97] }, { data := #[49] }) true :=
        .inr ⟨rfl, 0, by omega, rfl, ⟨1, by omega, rfl⟩, fun j hj => absurd hj (Nat.not_lt_zero _)⟩
      obtain ⟨rfl, rfl⟩ := hzr.same hzz
      have hB7 : Below w.heap.size w (w6.alloc (.cells #[.string { data := #[97] }, .string { data := #[49] }] 35)) := (hB4.out.trans ((hb5.mono (by omega)).trans (q6.mono (by omega)))).alloc (by have := q6.size; omega) _
      have q7 : Below X5.heap.size X5 (w6.alloc (.cells #[.string { data := #[97] }, .string { data := #[49] }] 35)) := q6.alloc q6.size _
      obtain ⟨m0, m1⟩ := box2 ((q7.block w3.heap.size (by omega)).trans ((hb5.block w3.heap.size (by omega)).trans hcx4.out))
      obtain ⟨m2, m3⟩ := box2 ((q7.block w4.heap.size (by omega)).trans p0)
      obtain ⟨m4, m5⟩ := box2 ((q7.block (w4.heap.size + 1) (by omega)).trans p1)
      have HB7 := Lib.hid hB7
      clear hB7 q7 hr1 hr2 p0 p1 p2 p3 hb5 hzr hzz q6 hcx4
      go_wp2_with fail
      go_ret
      exact ⟨rfl, HB7.out⟩

theorem array6 {α : Type} {cs : Array α} (h : cs.size = 6) : ∃ c0 c1 c2 c3 c4 c5, cs = #[c0, c1, c2, c3, c4, c5] := by
  obtain ⟨l⟩ := cs
  match l, h with
  | [c0, c1, c2, c3, c4, c5], _ => exact ⟨c0, c1, c2, c3, c4, c5, rfl⟩

theorem open_forms {H : Type} {enc : TypeId × Value → H} {w : World} {n : Nat} {v : Value} {x : DataW H × List MemPlace} (h : DataW.trod enc Try.prog w 0 (fun _ => true) true n 29 [v] = some x) :
    ∃ (ad : Option Addr) (k c : Nat) (T : Nat → Fm), v = .slice ad k c ∧ k ≤ maxLen ∧ Row2 w ad k T ∧ (ad = none → k = 0 ∧ c = 0) := by
  rcases open_slice_fields Try.underlying29 Try.underlying35 (by kernel_rfl) (by kernel_rfl) h with ⟨h0, _⟩ | ⟨a, len, cap, m, D, Pl, hcs, _, hl, hm, hmm, _, hi⟩
  · simp at h0
    exact ⟨none, 0, 0, fun _ => (ByteArray.empty, ByteArray.empty), h0, Nat.zero_le _, fun i hi => absurd hi (Nat.not_lt_zero _), fun _ => ⟨rfl, rfl⟩⟩
  · simp at hcs
    refine ⟨some a, len, cap, fun i => (textAt w (some a) (i * 2), textAt w (some a) (i * 2 + 1)), hcs, Nat.le_trans hl hm, fun i hlt => ?_, fun h => by cases h⟩
    obtain ⟨b, o, sp⟩ := a
    obtain rfl : sp = none := by
      obtain ⟨ys, n, _, _, _, hf⟩ := hi 0 (by rw [hmm]; split <;> omega)
      obtain ⟨v0, y0, c0, _, t0⟩ := hf 0 _ rfl
      simpa [Addr.add] using World.cell?_spot c0
    obtain ⟨ys, n, _, _, _, hf⟩ := hi i (by rw [hmm]; split <;> omega)
    obtain ⟨v0, y0, c0, _, t0⟩ := hf 0 _ rfl
    obtain ⟨v1, y1, c1, _, t1⟩ := hf 1 _ rfl
    obtain ⟨s0, rfl⟩ := trodS t0
    obtain ⟨s1, rfl⟩ := trodS t1
    have hT : textAt w (some ⟨b, o, none⟩) (i * 2) = s0 := textAt_of c0
    have hU : textAt w (some ⟨b, o, none⟩) (i * 2 + 1) = s1 := textAt_of c1
    have hlt2 := cell_lt c0
    rw [addr_add] at c0 c1 hlt2
    exact ⟨b, o, rfl, hlt2, (c0.trans (congrArg (fun z => some (Value.string z)) hT.symm)), (c1.trans (congrArg (fun z => some (Value.string z)) hU.symm))⟩

theorem open_place {H : Type} {enc : TypeId × Value → H} {W : World} {v : Value} {d : DataW H} {p : List MemPlace}
    (k : DataW.Trod enc Try.prog W 0 (fun _ => true) true 32 v d p) {base : Nat} (ok : Value.okWide Try.prog W .any base 32 v) :
    ∃ (a0 a1 : ByteArray) (a2 : Int) (ta ga pa : Option Addr) (tan tac gan gac pan pac : Nat) (T G : Nat → Fm), v = .agg #[.string a0, .string a1, .int .i64 a2, .slice ta tan tac, .slice ga gan gac, .slice pa pan pac] ∧
      Row2 W ta tan T ∧ Row2 W ga gan G ∧ tan ≤ maxLen ∧ gan ≤ maxLen ∧ (ta = none → tan = 0 ∧ tac = 0) ∧ (ga = none → gan = 0 ∧ gac = 0) := by
  obtain ⟨cs, rfl, hsz⟩ := okWide_struct Try.underlying32 ok
  obtain ⟨c0, c1, c2, c3, c4, c5, rfl⟩ := array6 (hsz.trans (by kernel_rfl))
  obtain ⟨fuel, hf⟩ := k
  obtain ⟨xs, n, _, _, _, hlen, hy⟩ := DataW.trod_struct Try.underlying32 hf
  have g0 : DataW.trod enc Try.prog W 0 (fun _ => true) true n 9 [c0] = xs[0]? := hy 0 _ rfl
  have g1 : DataW.trod enc Try.prog W 0 (fun _ => true) true n 9 [c1] = xs[1]? := hy 1 _ rfl
  have g2 : DataW.trod enc Try.prog W 0 (fun _ => true) true n 3 [c2] = xs[2]? := hy 2 _ rfl
  have g3 : DataW.trod enc Try.prog W 0 (fun _ => true) true n 29 [c3] = xs[3]? := hy 3 _ rfl
  have g4 : DataW.trod enc Try.prog W 0 (fun _ => true) true n 29 [c4] = xs[4]? := hy 4 _ rfl
  have g5 : DataW.trod enc Try.prog W 0 (fun _ => true) true n 30 [c5] = xs[5]? := hy 5 _ rfl
  have h6 : xs.length = 6 := hlen
  rw [List.getElem?_eq_getElem (by omega)] at g0 g1 g2 g3 g4 g5
  obtain ⟨a0, rfl⟩ := trodS g0
  obtain ⟨a1, rfl⟩ := trodS g1
  obtain ⟨a2, rfl⟩ := trodI g2
  obtain ⟨ta, tan, tac, T, rfl, h1, h2, h3⟩ := open_forms g3
  obtain ⟨ga, gan, gac, G, rfl, k1, k2, k3⟩ := open_forms g4
  obtain ⟨pa, pan, pac, rfl, _⟩ := open_len Try.underlying30 g5
  exact ⟨a0, a1, a2, ta, ga, pa, tan, tac, gan, gac, pan, pac, T, G, rfl, h2, k2, h1, k1, h3, k3⟩

theorem devinfSpeaks_walk {H : Type} {enc : TypeId × Value → H} {W : World} (v0 : Value) (d0 : DataW H) (p0 : List MemPlace) (k0 : DataW.Trod enc Try.prog W 0 (fun _ => true) true 32 v0 d0 p0) {base : Nat} (ok0 : Value.okWide Try.prog W .any base 32 v0) (_ : ∀ x ∈ p0, x.block < W.heap.size)
    (v1 : Value) (d1 : DataW H) (p1 : List MemPlace) (k1 : DataW.Trod enc Try.prog W 0 (fun _ => true) true 32 v1 d1 p1) (ok1 : Value.okWide Try.prog W .any base 32 v1) (_ : ∀ x ∈ p1, x.block < W.heap.size) (_ : World) :
    Calls Try.prog 4 #[v0, v1] W fun e w' => e = .returned (.bool true) ∧ Below W.heap.size W w' := by
  obtain ⟨a0, a1, a2, ta, ga, pa, tan, tac, gan, gac, pan, pac, T, G, rfl, h1, h2, h3, h4, h5, h6⟩ := open_place k0 ok0
  obtain ⟨b0, b1, b2, tb, gb, pb, tbn, tbc, gbn, gbc, pbn, pbc, F, K, rfl, g1, g2, g3, g4, g5, g6⟩ := open_place k1 ok1
  exact devinfSpeaks_core a0 a1 b0 b1 a2 b2 ta ga pa tb gb pb tan tac gan gac pan pac tbn tbc gbn gbc pbn pbc T G F K W h1 h2 g1 g2 h5 h6 g5 g6 h4 g3
end Go.Proofs.Ytcpmgnejbfnnjaa
