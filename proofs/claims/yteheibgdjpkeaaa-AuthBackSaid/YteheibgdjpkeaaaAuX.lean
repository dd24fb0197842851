/- auth: the walk of AuthBack. No condition. -/
import Derived.Test.YteheibgdjpkeaaaAuE
namespace Go.Proofs.Yteheibgdjpkeaaa
open Go.RowKit

set_option maxRecDepth 100000 in
set_option maxHeartbeats 4000000 in
theorem nonceLaw_any (k : Int) (u p n b : ByteArray) (hn : n.size ≤ 5000) (w : World) : Calls Try.prog 34 #[ask k u p n b] w fun e w' => e = .returned (.bool (nonceOk n)) ∧ Below w.heap.size w w' := by
  show Calls Try.prog 34 #[.agg #[.int .i64 k, .string u, .string p, .string n, .string b]] w _
  have c1 : Hid (∀ w, Calls Try.prog 21 #[.int .i64 1, .agg #[.string { data := #[97] }, .string { data := #[] }], .string n, .string { data := #[] }] w fun e w' => e = .returned (.tuple #[.agg #[.string (credT 1 sa se n), .string (credD 1 sa se n se)], .int .i64 (credE 1 sa se n)]) ∧ Below w.heap.size w w') := fun w => refCred_any 1 sa se n se (by decide) (by decide) hn (by decide) w
  have HN : Hid (nonceOk n = decide (credE 1 sa se n = 0)) := rfl
  generalize credT 1 sa se n = T at *
  generalize credD 1 sa se n se = D at *
  generalize credE 1 sa se n = E at *
  have hB : Below w.heap.size w (w.alloc (.cells #[.int .i64 k, .string u, .string p, .string n, .string b] 37)) := (Below.refl _ _).alloc (Nat.le_refl _) _
  have HB := Lib.hid hB
  clear hB
  by_cases hE : E = 0
  · have hE' : (E == 0) = true := by simpa using hE
    have HR : Hid (nonceOk n = true) := by unfold Hid; rw [HN.out, decide_eq_true hE]
    clear hE
    go_enter Try.func34, Try.ntmps34
    go_wp2_with fail
    refine (c1.out _).mono ?_
    rintro e w1 ⟨rfl, hb1⟩
    have HB1 := Lib.hid (HB.out.trans (hb1.mono HB.out.size))
    clear hb1
    go_wp2_with fail
    go_ret
    exact ⟨ret_bool HR.out, HB1.out.alloc HB1.out.size _⟩
  · have hE' : (E == 0) = false := by simpa using hE
    have HR : Hid (nonceOk n = false) := by unfold Hid; rw [HN.out, decide_eq_false hE]
    clear hE
    go_enter Try.func34, Try.ntmps34
    go_wp2_with fail
    refine (c1.out _).mono ?_
    rintro e w1 ⟨rfl, hb1⟩
    have HB1 := Lib.hid (HB.out.trans (hb1.mono HB.out.size))
    clear hb1
    go_wp2_with fail
    go_ret
    exact ⟨ret_bool HR.out, HB1.out.alloc HB1.out.size _⟩

theorem two_asks (w : World) (k : Int) (u p n b : ByteArray) (k2 : Int) (u2 p2 n2 b2 : ByteArray) : ∃ w0, w0 = ((w.alloc (.cells #[.int .i64 k, .string u, .string p, .string n, .string b] 37)).alloc (.cells #[.int .i64 k2, .string u2, .string p2, .string n2, .string b2] 37)) ∧
    KC w (w.heap.size + 1 + 1) (rowCs w.heap.size 0 [.int .i64 k, .string u, .string p, .string n, .string b] ++ rowCs (w.heap.size + 1) 0 [.int .i64 k2, .string u2, .string p2, .string n2, .string b2]) w0 ∧
    LtA (rowCs w.heap.size 0 [.int .i64 k, .string u, .string p, .string n, .string b] ++ rowCs (w.heap.size + 1) 0 [.int .i64 k2, .string u2, .string p2, .string n2, .string b2]) (w.heap.size + 1 + 1) := by
  obtain ⟨hF0, hL0⟩ := KC.first w [.int .i64 k, .string u, .string p, .string n, .string b] 37
  obtain ⟨hF, hL⟩ := hF0.add hL0 [.int .i64 k2, .string u2, .string p2, .string n2, .string b2] 37
  simp only [World.size_alloc] at hF hL
  exact ⟨_, rfl, hF, hL⟩

set_option maxRecDepth 100000 in
set_option maxHeartbeats 8000000 in
theorem back_great1 (k : Int) (u p n b : ByteArray) (k2 : Int) (u2 p2 n2 b2 : ByteArray) (hg : greatB u p n b = true) (w : World) :
    Calls Try.prog 9 #[.agg #[.int .i64 k, .string u, .string p, .string n, .string b], .agg #[.int .i64 k2, .string u2, .string p2, .string n2, .string b2]] w fun e w' => e = .returned (.bool true) ∧ Below w.heap.size w w' := by
  have cw := Lib.hid (fun w => works_any w)
  have c0 : Hid (∀ w, Calls Try.prog 19 #[.agg #[.int .i64 k, .string u, .string p, .string n, .string b]] w fun e w' => e = .returned (.bool (greatB u p n b)) ∧ Below w.heap.size w w') := fun w => great_any k u p n b w
  have c00 : Hid (∀ w, Calls Try.prog 19 #[.agg #[.int .i64 k2, .string u2, .string p2, .string n2, .string b2]] w fun e w' => e = .returned (.bool (greatB u2 p2 n2 b2)) ∧ Below w.heap.size w w') := fun w => great_any k2 u2 p2 n2 b2 w
  rw [hg] at c0
  clear hg
  obtain ⟨w0, hw0, hF, hL⟩ := two_asks w k u p n b k2 u2 p2 n2 b2
  have HF := Lib.hid hF
  have HL := Lib.hid hL
  have HW := Lib.hid hw0
  clear hF hL hw0
  go_enter Try.func9, Try.ntmps9
  go_wp2_with fail
  rw [← HW.out]
  clear HW
  refine (cw.out _).mono ?_
  rintro e w1 ⟨rfl, hb1⟩
  have hF1 := HF.out.call HL.out hb1
  have HF1 := Lib.hid hF1
  obtain ⟨a0, a1, a2, a3, a4, d0, d1, d2, d3, d4, _⟩ := hF1
  clear HF hb1
  go_wp2_with fail
  refine (c0.out _).mono ?_
  rintro e w2 ⟨rfl, hb2⟩
  have hF2 := HF1.out.call HL.out hb2
  have HF2 := Lib.hid hF2
  clear a0 a1 a2 a3 a4 d0 d1 d2 d3 d4 HF1 hb2
  obtain ⟨a0, a1, a2, a3, a4, d0, d1, d2, d3, d4, _⟩ := hF2
  go_wp2_with fail
  go_ret
  exact ⟨rfl, HF2.out.below⟩

set_option maxRecDepth 100000 in
set_option maxHeartbeats 8000000 in
theorem back_great2 (k : Int) (u p n b : ByteArray) (k2 : Int) (u2 p2 n2 b2 : ByteArray) (hg : greatB u p n b = false) (hg2 : greatB u2 p2 n2 b2 = true) (w : World) :
    Calls Try.prog 9 #[.agg #[.int .i64 k, .string u, .string p, .string n, .string b], .agg #[.int .i64 k2, .string u2, .string p2, .string n2, .string b2]] w fun e w' => e = .returned (.bool true) ∧ Below w.heap.size w w' := by
  have cw := Lib.hid (fun w => works_any w)
  have c0 : Hid (∀ w, Calls Try.prog 19 #[.agg #[.int .i64 k, .string u, .string p, .string n, .string b]] w fun e w' => e = .returned (.bool (greatB u p n b)) ∧ Below w.heap.size w w') := fun w => great_any k u p n b w
  have c00 : Hid (∀ w, Calls Try.prog 19 #[.agg #[.int .i64 k2, .string u2, .string p2, .string n2, .string b2]] w fun e w' => e = .returned (.bool (greatB u2 p2 n2 b2)) ∧ Below w.heap.size w w') := fun w => great_any k2 u2 p2 n2 b2 w
  rw [hg] at c0
  rw [hg2] at c00
  clear hg hg2
  obtain ⟨w0, hw0, hF, hL⟩ := two_asks w k u p n b k2 u2 p2 n2 b2
  have HF := Lib.hid hF
  have HL := Lib.hid hL
  have HW := Lib.hid hw0
  clear hF hL hw0
  go_enter Try.func9, Try.ntmps9
  go_wp2_with fail
  rw [← HW.out]
  clear HW
  refine (cw.out _).mono ?_
  rintro e w1 ⟨rfl, hb1⟩
  have hF1 := HF.out.call HL.out hb1
  have HF1 := Lib.hid hF1
  obtain ⟨a0, a1, a2, a3, a4, d0, d1, d2, d3, d4, _⟩ := hF1
  clear HF hb1
  go_wp2_with fail
  refine (c0.out _).mono ?_
  rintro e w2 ⟨rfl, hb2⟩
  have hF2 := HF1.out.call HL.out hb2
  have HF2 := Lib.hid hF2
  clear a0 a1 a2 a3 a4 d0 d1 d2 d3 d4 HF1 hb2
  obtain ⟨a0, a1, a2, a3, a4, d0, d1, d2, d3, d4, _⟩ := hF2
  go_wp2_with fail
  refine (c00.out _).mono ?_
  rintro e w3 ⟨rfl, hb3⟩
  have hF3 := HF2.out.call HL.out hb3
  have HF3 := Lib.hid hF3
  clear a0 a1 a2 a3 a4 d0 d1 d2 d3 d4 HF2 hb3
  obtain ⟨a0, a1, a2, a3, a4, d0, d1, d2, d3, d4, _⟩ := hF3
  go_wp2_with fail
  go_ret
  exact ⟨rfl, HF3.out.below⟩

set_option maxRecDepth 100000 in
set_option maxHeartbeats 8000000 in
theorem back_bad (k : Int) (u p n b : ByteArray) (k2 : Int) (u2 p2 n2 b2 : ByteArray) (hg : greatB u p n b = false) (hg2 : greatB u2 p2 n2 b2 = false) (hE : credE k u p n ≠ 0) (w : World) :
    Calls Try.prog 9 #[.agg #[.int .i64 k, .string u, .string p, .string n, .string b], .agg #[.int .i64 k2, .string u2, .string p2, .string n2, .string b2]] w fun e w' => e = .returned (.bool true) ∧ Below w.heap.size w w' := by
  have cw := Lib.hid (fun w => works_any w)
  have c0 : Hid (∀ w, Calls Try.prog 19 #[.agg #[.int .i64 k, .string u, .string p, .string n, .string b]] w fun e w' => e = .returned (.bool (greatB u p n b)) ∧ Below w.heap.size w w') := fun w => great_any k u p n b w
  have c00 : Hid (∀ w, Calls Try.prog 19 #[.agg #[.int .i64 k2, .string u2, .string p2, .string n2, .string b2]] w fun e w' => e = .returned (.bool (greatB u2 p2 n2 b2)) ∧ Below w.heap.size w w') := fun w => great_any k2 u2 p2 n2 b2 w
  rw [hg] at c0
  rw [hg2] at c00
  obtain ⟨hu, hp, hn, hb⟩ := not_great hg
  obtain ⟨hu2, hp2, hn2, hb2⟩ := not_great hg2
  have c1 : Hid (∀ w, Calls Try.prog 20 #[.agg #[.int .i64 k, .string u, .string p, .string n, .string b]] w fun e w' => e = .returned (.tuple #[.agg #[.string (credT k u p n), .string (credD k u p n b)], .int .i64 (credE k u p n)]) ∧ Below w.heap.size w w') := fun w => askCred_any k u p n b hu hp hn hb w
  obtain ⟨hT, hD⟩ := cred_none (b := b) hE
  rw [hT, hD] at c1
  have hE' : (credE k u p n == 0) = false := by simpa using hE
  have heq : ∀ w, (binOp .eql 42 (.agg #[.string { data := #[] }, .string { data := #[] }]) (.agg #[.string { data := #[] }, .string { data := #[] }])).run Try.prog w = .ok (.bool true) w := fun w => by rw [run_eq42, decide_eq_true rfl]
  generalize credE k u p n = E at *
  clear hg hg2 hu hp hn hb hu2 hp2 hn2 hb2 hE hT hD
  obtain ⟨w0, hw0, hF, hL⟩ := two_asks w k u p n b k2 u2 p2 n2 b2
  have HF := Lib.hid hF
  have HL := Lib.hid hL
  have HW := Lib.hid hw0
  clear hF hL hw0
  go_enter Try.func9, Try.ntmps9
  go_wp2_with fail
  rw [← HW.out]
  clear HW
  refine (cw.out _).mono ?_
  rintro e w1 ⟨rfl, hb1⟩
  have hF1 := HF.out.call HL.out hb1
  have HF1 := Lib.hid hF1
  obtain ⟨a0, a1, a2, a3, a4, d0, d1, d2, d3, d4, _⟩ := hF1
  clear HF hb1
  go_wp2_with fail
  refine (c0.out _).mono ?_
  rintro e w2 ⟨rfl, hb2⟩
  have hF2 := HF1.out.call HL.out hb2
  have HF2 := Lib.hid hF2
  clear a0 a1 a2 a3 a4 d0 d1 d2 d3 d4 HF1 hb2
  obtain ⟨a0, a1, a2, a3, a4, d0, d1, d2, d3, d4, _⟩ := hF2
  go_wp2_with fail
  refine (c00.out _).mono ?_
  rintro e w3 ⟨rfl, hb3⟩
  have hF3 := HF2.out.call HL.out hb3
  have HF3 := Lib.hid hF3
  clear a0 a1 a2 a3 a4 d0 d1 d2 d3 d4 HF2 hb3
  obtain ⟨a0, a1, a2, a3, a4, d0, d1, d2, d3, d4, _⟩ := hF3
  go_wp2_with fail
  refine (c1.out _).mono ?_
  rintro e w4 ⟨rfl, hb4⟩
  obtain ⟨hF5, hL5⟩ := (HF3.out.call HL.out hb4).add HL.out [.string { data := #[] }, .string { data := #[] }] 42
  have HF5 := Lib.hid hF5
  have HL5 := Lib.hid hL5
  clear a0 a1 a2 a3 a4 d0 d1 d2 d3 d4 HF3 HL hb4 hL5
  obtain ⟨a0, a1, a2, a3, a4, d0, d1, d2, d3, d4, t0, t1, _⟩ := hF5
  go_wp2_with fail
  go_ret
  exact ⟨rfl, HF5.out.below⟩

set_option maxRecDepth 100000 in
set_option maxHeartbeats 8000000 in
theorem back_other (k : Int) (u p n b : ByteArray) (k2 : Int) (u2 p2 n2 b2 : ByteArray) (hg : greatB u p n b = false) (hg2 : greatB u2 p2 n2 b2 = false) (hE : credE k u p n = 0) (hk : k ≠ 1) (w : World) :
    Calls Try.prog 9 #[.agg #[.int .i64 k, .string u, .string p, .string n, .string b], .agg #[.int .i64 k2, .string u2, .string p2, .string n2, .string b2]] w fun e w' => e = .returned (.bool true) ∧ Below w.heap.size w w' := by
  have cw := Lib.hid (fun w => works_any w)
  have c0 : Hid (∀ w, Calls Try.prog 19 #[.agg #[.int .i64 k, .string u, .string p, .string n, .string b]] w fun e w' => e = .returned (.bool (greatB u p n b)) ∧ Below w.heap.size w w') := fun w => great_any k u p n b w
  have c00 : Hid (∀ w, Calls Try.prog 19 #[.agg #[.int .i64 k2, .string u2, .string p2, .string n2, .string b2]] w fun e w' => e = .returned (.bool (greatB u2 p2 n2 b2)) ∧ Below w.heap.size w w') := fun w => great_any k2 u2 p2 n2 b2 w
  rw [hg] at c0
  rw [hg2] at c00
  obtain ⟨hu, hp, hn, hb⟩ := not_great hg
  obtain ⟨hu2, hp2, hn2, hb2⟩ := not_great hg2
  have c1 : Hid (∀ w, Calls Try.prog 20 #[.agg #[.int .i64 k, .string u, .string p, .string n, .string b]] w fun e w' => e = .returned (.tuple #[.agg #[.string (credT k u p n), .string (credD k u p n b)], .int .i64 (credE k u p n)]) ∧ Below w.heap.size w w') := fun w => askCred_any k u p n b hu hp hn hb w
  have c2 : Hid (∀ w, Calls Try.prog 27 #[.agg #[.int .i64 k2, .string u2, .string p2, .string n2, .string b2]] w fun e w' => e = .returned (.agg #[.string u2, .string p2]) ∧ Below w.heap.size w w') := fun w => who_any k2 u2 p2 n2 b2 w
  have c3 := Lib.hid (fun w => holds_any (credT k u p n) (credD k u p n b) u2 p2 n2 b2 hu2 hp2 hn2 hb2 w)
  have c4 : Hid (∀ w, Calls Try.prog 27 #[.agg #[.int .i64 k, .string u, .string p, .string n, .string b]] w fun e w' => e = .returned (.agg #[.string u, .string p]) ∧ Below w.heap.size w w') := fun w => who_any k u p n b w
  have c5 := Lib.hid (fun w => holds_any (credT k u p n) (credD k u p n b) u p n b hu hp hn hb w)
  rw [holds_self hE] at c5
  rw [hE] at c1
  have hk1 : (k == 1) = false := by simpa using hk
  generalize holdsC (credT k u p n) (credD k u p n b) u2 p2 n2 b2 = O at *
  generalize credT k u p n = T at *
  generalize credD k u p n b = D at *
  clear hg hg2 hu hp hn hb hu2 hp2 hn2 hb2 hE
  clear hk
  obtain ⟨w0, hw0, hF, hL⟩ := two_asks w k u p n b k2 u2 p2 n2 b2
  have HF := Lib.hid hF
  have HL := Lib.hid hL
  have HW := Lib.hid hw0
  clear hF hL hw0
  go_enter Try.func9, Try.ntmps9
  go_wp2_with fail
  rw [← HW.out]
  clear HW
  refine (cw.out _).mono ?_
  rintro e w1 ⟨rfl, hb1⟩
  have hF1 := HF.out.call HL.out hb1
  have HF1 := Lib.hid hF1
  obtain ⟨a0, a1, a2, a3, a4, d0, d1, d2, d3, d4, _⟩ := hF1
  clear HF hb1
  go_wp2_with fail
  refine (c0.out _).mono ?_
  rintro e w2 ⟨rfl, hb2⟩
  have hF2 := HF1.out.call HL.out hb2
  have HF2 := Lib.hid hF2
  clear a0 a1 a2 a3 a4 d0 d1 d2 d3 d4 HF1 hb2
  obtain ⟨a0, a1, a2, a3, a4, d0, d1, d2, d3, d4, _⟩ := hF2
  go_wp2_with fail
  refine (c00.out _).mono ?_
  rintro e w3 ⟨rfl, hb3⟩
  have hF3 := HF2.out.call HL.out hb3
  have HF3 := Lib.hid hF3
  clear a0 a1 a2 a3 a4 d0 d1 d2 d3 d4 HF2 hb3
  obtain ⟨a0, a1, a2, a3, a4, d0, d1, d2, d3, d4, _⟩ := hF3
  go_wp2_with fail
  refine (c1.out _).mono ?_
  rintro e w4 ⟨rfl, hb4⟩
  obtain ⟨hF5, hL5⟩ := (HF3.out.call HL.out hb4).add HL.out [.string T, .string D] 42
  have HF5 := Lib.hid hF5
  have HL5 := Lib.hid hL5
  clear a0 a1 a2 a3 a4 d0 d1 d2 d3 d4 HF3 HL hb4 hL5
  obtain ⟨a0, a1, a2, a3, a4, d0, d1, d2, d3, d4, t0, t1, _⟩ := hF5
  go_wp2_with fail
  generalize w4.alloc (.cells [Value.string T, Value.string D].toArray 42) = w5 at *
  generalize w4.heap.size = G at *
  go_region_held3 (fun w' => w'.cell? ⟨w.heap.size, 0, none⟩ = some (.int .i64 k) ∧ w'.cell? ⟨w.heap.size, 1, none⟩ = some (.string u) ∧ w'.cell? ⟨w.heap.size, 2, none⟩ = some (.string p) ∧ w'.cell? ⟨w.heap.size, 3, none⟩ = some (.string n) ∧ w'.cell? ⟨w.heap.size, 4, none⟩ = some (.string b) ∧ w'.cell? ⟨w.heap.size + 1, 0, none⟩ = some (.int .i64 k2) ∧ w'.cell? ⟨w.heap.size + 1, 1, none⟩ = some (.string u2) ∧ w'.cell? ⟨w.heap.size + 1, 2, none⟩ = some (.string p2) ∧ w'.cell? ⟨w.heap.size + 1, 3, none⟩ = some (.string n2) ∧ w'.cell? ⟨w.heap.size + 1, 4, none⟩ = some (.string b2) ∧ w'.cell? ⟨G, 0, none⟩ = some (.string T) ∧ w'.cell? ⟨G, 1, none⟩ = some (.string D) ∧ (G + 1 ≤ w'.heap.size ∧ Below w.heap.size w w'))
    (first | assumption | exact KC.drew HL5.out HF5.out | exact KC.call HL5.out (by assumption) hb9 | exact KC.call HL5.out (KC.drew HL5.out HF5.out) hb9)
    (first | (go_at_call 27; (with_reducible refine (c2.out _).mono ?_); rintro e w9 ⟨rfl, hb9⟩) | (go_at_call 31; (with_reducible refine (c3.out _).mono ?_); rintro e w9 ⟨rfl, hb9⟩))
  have HF9 : Hid (KC w (G + 1) (rowCs w.heap.size 0 [.int .i64 k, .string u, .string p, .string n, .string b] ++ rowCs (w.heap.size + 1) 0 [.int .i64 k2, .string u2, .string p2, .string n2, .string b2] ++ rowCs G 0 [.string T, .string D]) w9) := by assumption
  clear a0 a1 a2 a3 a4 d0 d1 d2 d3 d4 t0 t1
  obtain ⟨a0, a1, a2, a3, a4, d0, d1, d2, d3, d4, t0, t1, _⟩ := HF9.out
  go_wp2_with fail
  go_region_held3 (fun w' => w'.cell? ⟨w.heap.size, 0, none⟩ = some (.int .i64 k) ∧ w'.cell? ⟨w.heap.size, 1, none⟩ = some (.string u) ∧ w'.cell? ⟨w.heap.size, 2, none⟩ = some (.string p) ∧ w'.cell? ⟨w.heap.size, 3, none⟩ = some (.string n) ∧ w'.cell? ⟨w.heap.size, 4, none⟩ = some (.string b) ∧ w'.cell? ⟨w.heap.size + 1, 0, none⟩ = some (.int .i64 k2) ∧ w'.cell? ⟨w.heap.size + 1, 1, none⟩ = some (.string u2) ∧ w'.cell? ⟨w.heap.size + 1, 2, none⟩ = some (.string p2) ∧ w'.cell? ⟨w.heap.size + 1, 3, none⟩ = some (.string n2) ∧ w'.cell? ⟨w.heap.size + 1, 4, none⟩ = some (.string b2) ∧ w'.cell? ⟨G, 0, none⟩ = some (.string T) ∧ w'.cell? ⟨G, 1, none⟩ = some (.string D) ∧ (G + 1 ≤ w'.heap.size ∧ Below w.heap.size w w'))
    (first | assumption | exact KC.drew HL5.out HF9.out | exact KC.call HL5.out (by assumption) hb9 | exact KC.call HL5.out (KC.drew HL5.out HF9.out) hb9)
    (first | (go_at_call 27; (with_reducible refine (c4.out _).mono ?_); rintro e w9 ⟨rfl, hb9⟩) | (go_at_call 31; (with_reducible refine (c5.out _).mono ?_); rintro e w9 ⟨rfl, hb9⟩))
  all_goals
    have hq := Lib.hid (KC.below (w0 := w) (m := G + 1) (l := rowCs w.heap.size 0 [.int .i64 k, .string u, .string p, .string n, .string b] ++ rowCs (w.heap.size + 1) 0 [.int .i64 k2, .string u2, .string p2, .string n2, .string b2] ++ rowCs G 0 [.string T, .string D]) (by assumption))
    go_wp2
    go_ret
    exact ⟨rfl, hq.out⟩

set_option maxRecDepth 100000 in
set_option maxHeartbeats 8000000 in
theorem back_user (u p n b : ByteArray) (k2 : Int) (u2 p2 n2 b2 : ByteArray) (hg : greatB u p n b = false) (hg2 : greatB u2 p2 n2 b2 = false) (hE : credE 1 u p n = 0) (hne : u ≠ u2) (w : World) :
    Calls Try.prog 9 #[.agg #[.int .i64 1, .string u, .string p, .string n, .string b], .agg #[.int .i64 k2, .string u2, .string p2, .string n2, .string b2]] w fun e w' => e = .returned (.bool true) ∧ Below w.heap.size w w' := by
  have cw := Lib.hid (fun w => works_any w)
  have c0 : Hid (∀ w, Calls Try.prog 19 #[.agg #[.int .i64 1, .string u, .string p, .string n, .string b]] w fun e w' => e = .returned (.bool (greatB u p n b)) ∧ Below w.heap.size w w') := fun w => great_any 1 u p n b w
  have c00 : Hid (∀ w, Calls Try.prog 19 #[.agg #[.int .i64 k2, .string u2, .string p2, .string n2, .string b2]] w fun e w' => e = .returned (.bool (greatB u2 p2 n2 b2)) ∧ Below w.heap.size w w') := fun w => great_any k2 u2 p2 n2 b2 w
  rw [hg] at c0
  rw [hg2] at c00
  obtain ⟨hu, hp, hn, hb⟩ := not_great hg
  obtain ⟨hu2, hp2, hn2, hb2⟩ := not_great hg2
  have c1 : Hid (∀ w, Calls Try.prog 20 #[.agg #[.int .i64 1, .string u, .string p, .string n, .string b]] w fun e w' => e = .returned (.tuple #[.agg #[.string (credT 1 u p n), .string (credD 1 u p n b)], .int .i64 (credE 1 u p n)]) ∧ Below w.heap.size w w') := fun w => askCred_any 1 u p n b hu hp hn hb w
  have c2 : Hid (∀ w, Calls Try.prog 27 #[.agg #[.int .i64 k2, .string u2, .string p2, .string n2, .string b2]] w fun e w' => e = .returned (.agg #[.string u2, .string p2]) ∧ Below w.heap.size w w') := fun w => who_any k2 u2 p2 n2 b2 w
  have c3 := Lib.hid (fun w => holds_any (credT 1 u p n) (credD 1 u p n b) u2 p2 n2 b2 hu2 hp2 hn2 hb2 w)
  have c4 : Hid (∀ w, Calls Try.prog 27 #[.agg #[.int .i64 1, .string u, .string p, .string n, .string b]] w fun e w' => e = .returned (.agg #[.string u, .string p]) ∧ Below w.heap.size w w') := fun w => who_any 1 u p n b w
  have c5 := Lib.hid (fun w => holds_any (credT 1 u p n) (credD 1 u p n b) u p n b hu hp hn hb w)
  rw [holds_self hE] at c5
  rw [hE] at c1
  rw [holds_other hE] at c3
  rw [decide_eq_false hne, Bool.false_and] at c3
  have hs := beq_no hne
  clear hne
  generalize credT 1 u p n = T at *
  generalize credD 1 u p n b = D at *
  clear hg hg2 hu hp hn hb hu2 hp2 hn2 hb2 hE
  obtain ⟨w0, hw0, hF, hL⟩ := two_asks w 1 u p n b k2 u2 p2 n2 b2
  have HF := Lib.hid hF
  have HL := Lib.hid hL
  have HW := Lib.hid hw0
  clear hF hL hw0
  go_enter Try.func9, Try.ntmps9
  go_wp2_with fail
  rw [← HW.out]
  clear HW
  refine (cw.out _).mono ?_
  rintro e w1 ⟨rfl, hb1⟩
  have hF1 := HF.out.call HL.out hb1
  have HF1 := Lib.hid hF1
  obtain ⟨a0, a1, a2, a3, a4, d0, d1, d2, d3, d4, _⟩ := hF1
  clear HF hb1
  go_wp2_with fail
  refine (c0.out _).mono ?_
  rintro e w2 ⟨rfl, hb2⟩
  have hF2 := HF1.out.call HL.out hb2
  have HF2 := Lib.hid hF2
  clear a0 a1 a2 a3 a4 d0 d1 d2 d3 d4 HF1 hb2
  obtain ⟨a0, a1, a2, a3, a4, d0, d1, d2, d3, d4, _⟩ := hF2
  go_wp2_with fail
  refine (c00.out _).mono ?_
  rintro e w3 ⟨rfl, hb3⟩
  have hF3 := HF2.out.call HL.out hb3
  have HF3 := Lib.hid hF3
  clear a0 a1 a2 a3 a4 d0 d1 d2 d3 d4 HF2 hb3
  obtain ⟨a0, a1, a2, a3, a4, d0, d1, d2, d3, d4, _⟩ := hF3
  go_wp2_with fail
  refine (c1.out _).mono ?_
  rintro e w4 ⟨rfl, hb4⟩
  obtain ⟨hF5, hL5⟩ := (HF3.out.call HL.out hb4).add HL.out [.string T, .string D] 42
  have HF5 := Lib.hid hF5
  have HL5 := Lib.hid hL5
  clear a0 a1 a2 a3 a4 d0 d1 d2 d3 d4 HF3 HL hb4 hL5
  obtain ⟨a0, a1, a2, a3, a4, d0, d1, d2, d3, d4, t0, t1, _⟩ := hF5
  go_wp2_with fail
  generalize w4.alloc (.cells [Value.string T, Value.string D].toArray 42) = w5 at *
  generalize w4.heap.size = G at *
  go_region_held3 (fun w' => w'.cell? ⟨w.heap.size, 0, none⟩ = some (.int .i64 1) ∧ w'.cell? ⟨w.heap.size, 1, none⟩ = some (.string u) ∧ w'.cell? ⟨w.heap.size, 2, none⟩ = some (.string p) ∧ w'.cell? ⟨w.heap.size, 3, none⟩ = some (.string n) ∧ w'.cell? ⟨w.heap.size, 4, none⟩ = some (.string b) ∧ w'.cell? ⟨w.heap.size + 1, 0, none⟩ = some (.int .i64 k2) ∧ w'.cell? ⟨w.heap.size + 1, 1, none⟩ = some (.string u2) ∧ w'.cell? ⟨w.heap.size + 1, 2, none⟩ = some (.string p2) ∧ w'.cell? ⟨w.heap.size + 1, 3, none⟩ = some (.string n2) ∧ w'.cell? ⟨w.heap.size + 1, 4, none⟩ = some (.string b2) ∧ w'.cell? ⟨G, 0, none⟩ = some (.string T) ∧ w'.cell? ⟨G, 1, none⟩ = some (.string D) ∧ (G + 1 ≤ w'.heap.size ∧ Below w.heap.size w w'))
    (first | assumption | exact KC.drew HL5.out HF5.out | exact KC.call HL5.out (by assumption) hb9 | exact KC.call HL5.out (KC.drew HL5.out HF5.out) hb9)
    (first | (go_at_call 27; (with_reducible refine (c2.out _).mono ?_); rintro e w9 ⟨rfl, hb9⟩) | (go_at_call 31; (with_reducible refine (c3.out _).mono ?_); rintro e w9 ⟨rfl, hb9⟩))
  have HF9 : Hid (KC w (G + 1) (rowCs w.heap.size 0 [.int .i64 1, .string u, .string p, .string n, .string b] ++ rowCs (w.heap.size + 1) 0 [.int .i64 k2, .string u2, .string p2, .string n2, .string b2] ++ rowCs G 0 [.string T, .string D]) w9) := by assumption
  clear a0 a1 a2 a3 a4 d0 d1 d2 d3 d4 t0 t1
  obtain ⟨a0, a1, a2, a3, a4, d0, d1, d2, d3, d4, t0, t1, _⟩ := HF9.out
  go_wp2_with fail
  go_region_held3 (fun w' => w'.cell? ⟨w.heap.size, 0, none⟩ = some (.int .i64 1) ∧ w'.cell? ⟨w.heap.size, 1, none⟩ = some (.string u) ∧ w'.cell? ⟨w.heap.size, 2, none⟩ = some (.string p) ∧ w'.cell? ⟨w.heap.size, 3, none⟩ = some (.string n) ∧ w'.cell? ⟨w.heap.size, 4, none⟩ = some (.string b) ∧ w'.cell? ⟨w.heap.size + 1, 0, none⟩ = some (.int .i64 k2) ∧ w'.cell? ⟨w.heap.size + 1, 1, none⟩ = some (.string u2) ∧ w'.cell? ⟨w.heap.size + 1, 2, none⟩ = some (.string p2) ∧ w'.cell? ⟨w.heap.size + 1, 3, none⟩ = some (.string n2) ∧ w'.cell? ⟨w.heap.size + 1, 4, none⟩ = some (.string b2) ∧ w'.cell? ⟨G, 0, none⟩ = some (.string T) ∧ w'.cell? ⟨G, 1, none⟩ = some (.string D) ∧ (G + 1 ≤ w'.heap.size ∧ Below w.heap.size w w'))
    (first | assumption | exact KC.drew HL5.out HF9.out | exact KC.call HL5.out (by assumption) hb9 | exact KC.call HL5.out (KC.drew HL5.out HF9.out) hb9)
    (first | (go_at_call 27; (with_reducible refine (c4.out _).mono ?_); rintro e w9 ⟨rfl, hb9⟩) | (go_at_call 31; (with_reducible refine (c5.out _).mono ?_); rintro e w9 ⟨rfl, hb9⟩))
  all_goals
    have hq := Lib.hid (KC.below (w0 := w) (m := G + 1) (l := rowCs w.heap.size 0 [.int .i64 1, .string u, .string p, .string n, .string b] ++ rowCs (w.heap.size + 1) 0 [.int .i64 k2, .string u2, .string p2, .string n2, .string b2] ++ rowCs G 0 [.string T, .string D]) (by assumption))
    go_wp2
    go_ret
    exact ⟨rfl, hq.out⟩

set_option maxRecDepth 100000 in
set_option maxHeartbeats 8000000 in
theorem back_pass (u p n b : ByteArray) (k2 : Int) (p2 n2 b2 : ByteArray) (hg : greatB u p n b = false) (hg2 : greatB u p2 n2 b2 = false) (hE : credE 1 u p n = 0) (hne : p ≠ p2) (w : World) :
    Calls Try.prog 9 #[.agg #[.int .i64 1, .string u, .string p, .string n, .string b], .agg #[.int .i64 k2, .string u, .string p2, .string n2, .string b2]] w fun e w' => e = .returned (.bool true) ∧ Below w.heap.size w w' := by
  have cw := Lib.hid (fun w => works_any w)
  have c0 : Hid (∀ w, Calls Try.prog 19 #[.agg #[.int .i64 1, .string u, .string p, .string n, .string b]] w fun e w' => e = .returned (.bool (greatB u p n b)) ∧ Below w.heap.size w w') := fun w => great_any 1 u p n b w
  have c00 : Hid (∀ w, Calls Try.prog 19 #[.agg #[.int .i64 k2, .string u, .string p2, .string n2, .string b2]] w fun e w' => e = .returned (.bool (greatB u p2 n2 b2)) ∧ Below w.heap.size w w') := fun w => great_any k2 u p2 n2 b2 w
  rw [hg] at c0
  rw [hg2] at c00
  obtain ⟨hu, hp, hn, hb⟩ := not_great hg
  obtain ⟨hu2, hp2, hn2, hb2⟩ := not_great hg2
  have c1 : Hid (∀ w, Calls Try.prog 20 #[.agg #[.int .i64 1, .string u, .string p, .string n, .string b]] w fun e w' => e = .returned (.tuple #[.agg #[.string (credT 1 u p n), .string (credD 1 u p n b)], .int .i64 (credE 1 u p n)]) ∧ Below w.heap.size w w') := fun w => askCred_any 1 u p n b hu hp hn hb w
  have c2 : Hid (∀ w, Calls Try.prog 27 #[.agg #[.int .i64 k2, .string u, .string p2, .string n2, .string b2]] w fun e w' => e = .returned (.agg #[.string u, .string p2]) ∧ Below w.heap.size w w') := fun w => who_any k2 u p2 n2 b2 w
  have c3 := Lib.hid (fun w => holds_any (credT 1 u p n) (credD 1 u p n b) u p2 n2 b2 hu2 hp2 hn2 hb2 w)
  have c4 : Hid (∀ w, Calls Try.prog 27 #[.agg #[.int .i64 1, .string u, .string p, .string n, .string b]] w fun e w' => e = .returned (.agg #[.string u, .string p]) ∧ Below w.heap.size w w') := fun w => who_any 1 u p n b w
  have c5 := Lib.hid (fun w => holds_any (credT 1 u p n) (credD 1 u p n b) u p n b hu hp hn hb w)
  rw [holds_self hE] at c5
  rw [hE] at c1
  rw [holds_other hE] at c3
  rw [decide_eq_true rfl, decide_eq_false hne, Bool.false_and, Bool.and_false] at c3
  have hs := beq_no hne
  clear hne
  generalize credT 1 u p n = T at *
  generalize credD 1 u p n b = D at *
  clear hg hg2 hu hp hn hb hu2 hp2 hn2 hb2 hE
  obtain ⟨w0, hw0, hF, hL⟩ := two_asks w 1 u p n b k2 u p2 n2 b2
  have HF := Lib.hid hF
  have HL := Lib.hid hL
  have HW := Lib.hid hw0
  clear hF hL hw0
  go_enter Try.func9, Try.ntmps9
  go_wp2_with fail
  rw [← HW.out]
  clear HW
  refine (cw.out _).mono ?_
  rintro e w1 ⟨rfl, hb1⟩
  have hF1 := HF.out.call HL.out hb1
  have HF1 := Lib.hid hF1
  obtain ⟨a0, a1, a2, a3, a4, d0, d1, d2, d3, d4, _⟩ := hF1
  clear HF hb1
  go_wp2_with fail
  refine (c0.out _).mono ?_
  rintro e w2 ⟨rfl, hb2⟩
  have hF2 := HF1.out.call HL.out hb2
  have HF2 := Lib.hid hF2
  clear a0 a1 a2 a3 a4 d0 d1 d2 d3 d4 HF1 hb2
  obtain ⟨a0, a1, a2, a3, a4, d0, d1, d2, d3, d4, _⟩ := hF2
  go_wp2_with fail
  refine (c00.out _).mono ?_
  rintro e w3 ⟨rfl, hb3⟩
  have hF3 := HF2.out.call HL.out hb3
  have HF3 := Lib.hid hF3
  clear a0 a1 a2 a3 a4 d0 d1 d2 d3 d4 HF2 hb3
  obtain ⟨a0, a1, a2, a3, a4, d0, d1, d2, d3, d4, _⟩ := hF3
  go_wp2_with fail
  refine (c1.out _).mono ?_
  rintro e w4 ⟨rfl, hb4⟩
  obtain ⟨hF5, hL5⟩ := (HF3.out.call HL.out hb4).add HL.out [.string T, .string D] 42
  have HF5 := Lib.hid hF5
  have HL5 := Lib.hid hL5
  clear a0 a1 a2 a3 a4 d0 d1 d2 d3 d4 HF3 HL hb4 hL5
  obtain ⟨a0, a1, a2, a3, a4, d0, d1, d2, d3, d4, t0, t1, _⟩ := hF5
  go_wp2_with fail
  generalize w4.alloc (.cells [Value.string T, Value.string D].toArray 42) = w5 at *
  generalize w4.heap.size = G at *
  go_region_held3 (fun w' => w'.cell? ⟨w.heap.size, 0, none⟩ = some (.int .i64 1) ∧ w'.cell? ⟨w.heap.size, 1, none⟩ = some (.string u) ∧ w'.cell? ⟨w.heap.size, 2, none⟩ = some (.string p) ∧ w'.cell? ⟨w.heap.size, 3, none⟩ = some (.string n) ∧ w'.cell? ⟨w.heap.size, 4, none⟩ = some (.string b) ∧ w'.cell? ⟨w.heap.size + 1, 0, none⟩ = some (.int .i64 k2) ∧ w'.cell? ⟨w.heap.size + 1, 1, none⟩ = some (.string u) ∧ w'.cell? ⟨w.heap.size + 1, 2, none⟩ = some (.string p2) ∧ w'.cell? ⟨w.heap.size + 1, 3, none⟩ = some (.string n2) ∧ w'.cell? ⟨w.heap.size + 1, 4, none⟩ = some (.string b2) ∧ w'.cell? ⟨G, 0, none⟩ = some (.string T) ∧ w'.cell? ⟨G, 1, none⟩ = some (.string D) ∧ (G + 1 ≤ w'.heap.size ∧ Below w.heap.size w w'))
    (first | assumption | exact KC.drew HL5.out HF5.out | exact KC.call HL5.out (by assumption) hb9 | exact KC.call HL5.out (KC.drew HL5.out HF5.out) hb9)
    (first | (go_at_call 27; (with_reducible refine (c2.out _).mono ?_); rintro e w9 ⟨rfl, hb9⟩) | (go_at_call 31; (with_reducible refine (c3.out _).mono ?_); rintro e w9 ⟨rfl, hb9⟩))
  have HF9 : Hid (KC w (G + 1) (rowCs w.heap.size 0 [.int .i64 1, .string u, .string p, .string n, .string b] ++ rowCs (w.heap.size + 1) 0 [.int .i64 k2, .string u, .string p2, .string n2, .string b2] ++ rowCs G 0 [.string T, .string D]) w9) := by assumption
  clear a0 a1 a2 a3 a4 d0 d1 d2 d3 d4 t0 t1
  obtain ⟨a0, a1, a2, a3, a4, d0, d1, d2, d3, d4, t0, t1, _⟩ := HF9.out
  go_wp2_with fail
  go_region_held3 (fun w' => w'.cell? ⟨w.heap.size, 0, none⟩ = some (.int .i64 1) ∧ w'.cell? ⟨w.heap.size, 1, none⟩ = some (.string u) ∧ w'.cell? ⟨w.heap.size, 2, none⟩ = some (.string p) ∧ w'.cell? ⟨w.heap.size, 3, none⟩ = some (.string n) ∧ w'.cell? ⟨w.heap.size, 4, none⟩ = some (.string b) ∧ w'.cell? ⟨w.heap.size + 1, 0, none⟩ = some (.int .i64 k2) ∧ w'.cell? ⟨w.heap.size + 1, 1, none⟩ = some (.string u) ∧ w'.cell? ⟨w.heap.size + 1, 2, none⟩ = some (.string p2) ∧ w'.cell? ⟨w.heap.size + 1, 3, none⟩ = some (.string n2) ∧ w'.cell? ⟨w.heap.size + 1, 4, none⟩ = some (.string b2) ∧ w'.cell? ⟨G, 0, none⟩ = some (.string T) ∧ w'.cell? ⟨G, 1, none⟩ = some (.string D) ∧ (G + 1 ≤ w'.heap.size ∧ Below w.heap.size w w'))
    (first | assumption | exact KC.drew HL5.out HF9.out | exact KC.call HL5.out (by assumption) hb9 | exact KC.call HL5.out (KC.drew HL5.out HF9.out) hb9)
    (first | (go_at_call 27; (with_reducible refine (c4.out _).mono ?_); rintro e w9 ⟨rfl, hb9⟩) | (go_at_call 31; (with_reducible refine (c5.out _).mono ?_); rintro e w9 ⟨rfl, hb9⟩))
  all_goals
    have hq := Lib.hid (KC.below (w0 := w) (m := G + 1) (l := rowCs w.heap.size 0 [.int .i64 1, .string u, .string p, .string n, .string b] ++ rowCs (w.heap.size + 1) 0 [.int .i64 k2, .string u, .string p2, .string n2, .string b2] ++ rowCs G 0 [.string T, .string D]) (by assumption))
    go_wp2
    go_ret
    exact ⟨rfl, hq.out⟩

set_option maxRecDepth 100000 in
set_option maxHeartbeats 8000000 in
theorem back_same (u p n b : ByteArray) (k2 : Int) (n2 b2 : ByteArray) (hg : greatB u p n b = false) (hg2 : greatB u p n2 b2 = false) (hE : credE 1 u p n = 0)  (w : World) :
    Calls Try.prog 9 #[.agg #[.int .i64 1, .string u, .string p, .string n, .string b], .agg #[.int .i64 k2, .string u, .string p, .string n2, .string b2]] w fun e w' => e = .returned (.bool true) ∧ Below w.heap.size w w' := by
  have cw := Lib.hid (fun w => works_any w)
  have c0 : Hid (∀ w, Calls Try.prog 19 #[.agg #[.int .i64 1, .string u, .string p, .string n, .string b]] w fun e w' => e = .returned (.bool (greatB u p n b)) ∧ Below w.heap.size w w') := fun w => great_any 1 u p n b w
  have c00 : Hid (∀ w, Calls Try.prog 19 #[.agg #[.int .i64 k2, .string u, .string p, .string n2, .string b2]] w fun e w' => e = .returned (.bool (greatB u p n2 b2)) ∧ Below w.heap.size w w') := fun w => great_any k2 u p n2 b2 w
  rw [hg] at c0
  rw [hg2] at c00
  obtain ⟨hu, hp, hn, hb⟩ := not_great hg
  obtain ⟨hu2, hp2, hn2, hb2⟩ := not_great hg2
  have c1 : Hid (∀ w, Calls Try.prog 20 #[.agg #[.int .i64 1, .string u, .string p, .string n, .string b]] w fun e w' => e = .returned (.tuple #[.agg #[.string (credT 1 u p n), .string (credD 1 u p n b)], .int .i64 (credE 1 u p n)]) ∧ Below w.heap.size w w') := fun w => askCred_any 1 u p n b hu hp hn hb w
  have c2 : Hid (∀ w, Calls Try.prog 27 #[.agg #[.int .i64 k2, .string u, .string p, .string n2, .string b2]] w fun e w' => e = .returned (.agg #[.string u, .string p]) ∧ Below w.heap.size w w') := fun w => who_any k2 u p n2 b2 w
  have c3 := Lib.hid (fun w => holds_any (credT 1 u p n) (credD 1 u p n b) u p n2 b2 hu2 hp2 hn2 hb2 w)
  have c4 : Hid (∀ w, Calls Try.prog 27 #[.agg #[.int .i64 1, .string u, .string p, .string n, .string b]] w fun e w' => e = .returned (.agg #[.string u, .string p]) ∧ Below w.heap.size w w') := fun w => who_any 1 u p n b w
  have c5 := Lib.hid (fun w => holds_any (credT 1 u p n) (credD 1 u p n b) u p n b hu hp hn hb w)
  rw [holds_self hE] at c5
  rw [hE] at c1
  rw [holds_other hE] at c3
  rw [decide_eq_true rfl, decide_eq_true rfl, Bool.true_and, Bool.true_and] at c3
  have c6 := Lib.hid (fun w => refCheck_any u p hu hp w)
  rw [(credE_range hE).2.2.1] at c6
  have c7 : Hid (∀ w, Calls Try.prog 34 #[.agg #[.int .i64 k2, .string u, .string p, .string n2, .string b2]] w fun e w' => e = .returned (.bool (nonceOk n2)) ∧ Below w.heap.size w w') := fun w => nonceLaw_any k2 u p n2 b2 hn2 w
  generalize nonceOk n2 = q at *
  generalize credT 1 u p n = T at *
  generalize credD 1 u p n b = D at *
  clear hg hg2 hu hp hn hb hu2 hp2 hn2 hb2 hE
  obtain ⟨w0, hw0, hF, hL⟩ := two_asks w 1 u p n b k2 u p n2 b2
  have HF := Lib.hid hF
  have HL := Lib.hid hL
  have HW := Lib.hid hw0
  clear hF hL hw0
  go_enter Try.func9, Try.ntmps9
  go_wp2_with fail
  rw [← HW.out]
  clear HW
  refine (cw.out _).mono ?_
  rintro e w1 ⟨rfl, hb1⟩
  have hF1 := HF.out.call HL.out hb1
  have HF1 := Lib.hid hF1
  obtain ⟨a0, a1, a2, a3, a4, d0, d1, d2, d3, d4, _⟩ := hF1
  clear HF hb1
  go_wp2_with fail
  refine (c0.out _).mono ?_
  rintro e w2 ⟨rfl, hb2⟩
  have hF2 := HF1.out.call HL.out hb2
  have HF2 := Lib.hid hF2
  clear a0 a1 a2 a3 a4 d0 d1 d2 d3 d4 HF1 hb2
  obtain ⟨a0, a1, a2, a3, a4, d0, d1, d2, d3, d4, _⟩ := hF2
  go_wp2_with fail
  refine (c00.out _).mono ?_
  rintro e w3 ⟨rfl, hb3⟩
  have hF3 := HF2.out.call HL.out hb3
  have HF3 := Lib.hid hF3
  clear a0 a1 a2 a3 a4 d0 d1 d2 d3 d4 HF2 hb3
  obtain ⟨a0, a1, a2, a3, a4, d0, d1, d2, d3, d4, _⟩ := hF3
  go_wp2_with fail
  refine (c1.out _).mono ?_
  rintro e w4 ⟨rfl, hb4⟩
  obtain ⟨hF5, hL5⟩ := (HF3.out.call HL.out hb4).add HL.out [.string T, .string D] 42
  have HF5 := Lib.hid hF5
  have HL5 := Lib.hid hL5
  clear a0 a1 a2 a3 a4 d0 d1 d2 d3 d4 HF3 HL hb4 hL5
  obtain ⟨a0, a1, a2, a3, a4, d0, d1, d2, d3, d4, t0, t1, _⟩ := hF5
  go_wp2_with fail
  generalize w4.alloc (.cells [Value.string T, Value.string D].toArray 42) = w5 at *
  generalize w4.heap.size = G at *
  go_region_held3 (fun w' => w'.cell? ⟨w.heap.size, 0, none⟩ = some (.int .i64 1) ∧ w'.cell? ⟨w.heap.size, 1, none⟩ = some (.string u) ∧ w'.cell? ⟨w.heap.size, 2, none⟩ = some (.string p) ∧ w'.cell? ⟨w.heap.size, 3, none⟩ = some (.string n) ∧ w'.cell? ⟨w.heap.size, 4, none⟩ = some (.string b) ∧ w'.cell? ⟨w.heap.size + 1, 0, none⟩ = some (.int .i64 k2) ∧ w'.cell? ⟨w.heap.size + 1, 1, none⟩ = some (.string u) ∧ w'.cell? ⟨w.heap.size + 1, 2, none⟩ = some (.string p) ∧ w'.cell? ⟨w.heap.size + 1, 3, none⟩ = some (.string n2) ∧ w'.cell? ⟨w.heap.size + 1, 4, none⟩ = some (.string b2) ∧ w'.cell? ⟨G, 0, none⟩ = some (.string T) ∧ w'.cell? ⟨G, 1, none⟩ = some (.string D) ∧ (G + 1 ≤ w'.heap.size ∧ Below w.heap.size w w'))
    (first | assumption | exact KC.drew HL5.out HF5.out | exact KC.call HL5.out (by assumption) hb9 | exact KC.call HL5.out (KC.drew HL5.out HF5.out) hb9)
    (first | (go_at_call 27; (with_reducible refine (c2.out _).mono ?_); rintro e w9 ⟨rfl, hb9⟩) | (go_at_call 31; (with_reducible refine (c3.out _).mono ?_); rintro e w9 ⟨rfl, hb9⟩))
  have HF9 : Hid (KC w (G + 1) (rowCs w.heap.size 0 [.int .i64 1, .string u, .string p, .string n, .string b] ++ rowCs (w.heap.size + 1) 0 [.int .i64 k2, .string u, .string p, .string n2, .string b2] ++ rowCs G 0 [.string T, .string D]) w9) := by assumption
  clear a0 a1 a2 a3 a4 d0 d1 d2 d3 d4 t0 t1
  obtain ⟨a0, a1, a2, a3, a4, d0, d1, d2, d3, d4, t0, t1, _⟩ := HF9.out
  go_wp2_with fail
  refine (c6.out _).mono ?_
  rintro e w10 ⟨rfl, hb10⟩
  have hF10 := HF9.out.call HL5.out hb10
  have HF10 := Lib.hid hF10
  clear a0 a1 a2 a3 a4 d0 d1 d2 d3 d4 t0 t1 HF9 hb10
  obtain ⟨a0, a1, a2, a3, a4, d0, d1, d2, d3, d4, t0, t1, _⟩ := hF10
  go_wp2_with fail
  refine (c7.out _).mono ?_
  rintro e w11 ⟨rfl, hb11⟩
  have hF11 := HF10.out.call HL5.out hb11
  have HF11 := Lib.hid hF11
  clear a0 a1 a2 a3 a4 d0 d1 d2 d3 d4 t0 t1 HF10 hb11
  obtain ⟨a0, a1, a2, a3, a4, d0, d1, d2, d3, d4, t0, t1, _⟩ := hF11
  go_wp2_with fail
  go_region_held3 (fun w' => w'.cell? ⟨w.heap.size, 0, none⟩ = some (.int .i64 1) ∧ w'.cell? ⟨w.heap.size, 1, none⟩ = some (.string u) ∧ w'.cell? ⟨w.heap.size, 2, none⟩ = some (.string p) ∧ w'.cell? ⟨w.heap.size, 3, none⟩ = some (.string n) ∧ w'.cell? ⟨w.heap.size, 4, none⟩ = some (.string b) ∧ w'.cell? ⟨w.heap.size + 1, 0, none⟩ = some (.int .i64 k2) ∧ w'.cell? ⟨w.heap.size + 1, 1, none⟩ = some (.string u) ∧ w'.cell? ⟨w.heap.size + 1, 2, none⟩ = some (.string p) ∧ w'.cell? ⟨w.heap.size + 1, 3, none⟩ = some (.string n2) ∧ w'.cell? ⟨w.heap.size + 1, 4, none⟩ = some (.string b2) ∧ w'.cell? ⟨G, 0, none⟩ = some (.string T) ∧ w'.cell? ⟨G, 1, none⟩ = some (.string D) ∧ (G + 1 ≤ w'.heap.size ∧ Below w.heap.size w w'))
    (first | assumption | exact KC.drew HL5.out HF11.out | exact KC.call HL5.out (by assumption) hb9 | exact KC.call HL5.out (KC.drew HL5.out HF11.out) hb9)
    (first | (go_at_call 27; (with_reducible refine (c4.out _).mono ?_); rintro e w9 ⟨rfl, hb9⟩) | (go_at_call 31; (with_reducible refine (c5.out _).mono ?_); rintro e w9 ⟨rfl, hb9⟩))
  all_goals
    have hq := Lib.hid (KC.below (w0 := w) (m := G + 1) (l := rowCs w.heap.size 0 [.int .i64 1, .string u, .string p, .string n, .string b] ++ rowCs (w.heap.size + 1) 0 [.int .i64 k2, .string u, .string p, .string n2, .string b2] ++ rowCs G 0 [.string T, .string D]) (by assumption))
    go_wp2
    go_ret
    exact ⟨rfl, hq.out⟩


theorem back_walk (k : Int) (u p n b : ByteArray) (k2 : Int) (u2 p2 n2 b2 : ByteArray) (w : World) :
    Calls Try.prog 9 #[ask k u p n b, ask k2 u2 p2 n2 b2] w fun e w' => e = .returned (.bool true) ∧ Below w.heap.size w w' := by
  cases hg : greatB u p n b with
  | true => exact back_great1 k u p n b k2 u2 p2 n2 b2 hg w
  | false =>
    cases hg2 : greatB u2 p2 n2 b2 with
    | true => exact back_great2 k u p n b k2 u2 p2 n2 b2 hg hg2 w
    | false =>
      by_cases hE : credE k u p n = 0
      · by_cases hk : k = 1
        · subst hk
          by_cases hu : u = u2
          · subst hu
            by_cases hp : p = p2
            · subst hp
              exact back_same u p n b k2 n2 b2 hg hg2 hE w
            · exact back_pass u p n b k2 p2 n2 b2 hg hg2 hE hp w
          · exact back_user u p n b k2 u2 p2 n2 b2 hg hg2 hE hu w
        · exact back_other k u p n b k2 u2 p2 n2 b2 hg hg2 hE hk w
      · exact back_bad k u p n b k2 u2 p2 n2 b2 hg hg2 hE w

set_option maxRecDepth 100000 in
open Go.ChangeShapes Go.WideShapes in
theorem back_law {H : Type} {enc : TypeId × Value → H} {W : World} (v0 : Value) (d0 : DataW H) (p0 : List MemPlace) (k0 : DataW.Trod enc Try.prog W 0 (fun _ => true) true 37 v0 d0 p0) {base : Nat} (ok0 : Value.okWide Try.prog W .any base 37 v0) (_ : ∀ x ∈ p0, x.block < W.heap.size)
    (v1 : Value) (d1 : DataW H) (p1 : List MemPlace) (k1 : DataW.Trod enc Try.prog W 0 (fun _ => true) true 37 v1 d1 p1) (ok1 : Value.okWide Try.prog W .any base 37 v1) (_ : ∀ x ∈ p1, x.block < W.heap.size) (_ : World) :
    Calls Try.prog 9 #[v0, v1] W fun e w' => e = .returned (.bool true) ∧ Below W.heap.size W w' := by
  obtain ⟨k, u, p, n, b, rfl⟩ := open_ask k0 ok0
  obtain ⟨k2, u2, p2, n2, b2, rfl⟩ := open_ask k1 ok1
  exact back_walk k u p n b k2 u2 p2 n2 b2 W
end Go.Proofs.Yteheibgdjpkeaaa
