/- auth: the walk of AuthMakes. No condition. -/
import Derived.Test.YteheibgdjpkeaaaAuT
import Derived.Test.YteheibgdjpkeaaaKit4
namespace Go.Proofs.Yteheibgdjpkeaaa
open Go.RowKit

theorem kind_md5 : kindN { data := #[115, 121, 110, 99, 109, 108, 58, 97, 117, 116, 104, 45, 109, 100, 53] } = 2 := by decide +kernel

set_option maxRecDepth 100000 in
set_option maxHeartbeats 8000000 in
theorem makes_walk (k : Int) (u p n b nm : ByteArray) (v : Nat) (hv : v < 18446744073709551616) (w : World) :
    Calls Try.prog 7 #[ask k u p n b, .string nm, .int .u64 (v : Int)] w fun e w' => e = .returned (.bool true) ∧ Below w.heap.size w w' := by
  show Calls Try.prog 7 #[.agg #[.int .i64 k, .string u, .string p, .string n, .string b], .string nm, .int .u64 (v : Int)] w _
  have c0 : Hid (∀ w, Calls Try.prog 19 #[.agg #[.int .i64 k, .string u, .string p, .string n, .string b]] w fun e w' => e = .returned (.bool (greatB u p n b)) ∧ Below w.heap.size w w') := fun w => great_any k u p n b w
  obtain ⟨hF, hL⟩ := KC.first w [.int .i64 k, .string u, .string p, .string n, .string b] 37
  have HF := Lib.hid hF
  have HL := Lib.hid hL
  obtain ⟨f0, f1, f2, f3, f4, _⟩ := hF
  clear hL
  cases hg : greatB u p n b with
  | true =>
    rw [hg] at c0
    clear hg
    go_enter Try.func7, Try.ntmps7
    go_wp2_with fail
    refine (c0.out _).mono ?_
    rintro e w1 ⟨rfl, hb1⟩
    go_wp2_with fail
    go_ret
    exact ⟨rfl, HF.out.below.trans (hb1.mono HF.out.below.size)⟩
  | false =>
    rw [hg] at c0
    by_cases hnm : 500 < nm.size
    · have hnm' : (500 : Int) < nm.size := by omega
      clear hg hnm
      go_enter Try.func7, Try.ntmps7
      go_wp2_with fail
      refine (c0.out _).mono ?_
      rintro e w1 ⟨rfl, hb1⟩
      go_wp2_with fail
      go_ret
      exact ⟨rfl, HF.out.below.trans (hb1.mono HF.out.below.size)⟩
    · have hnm' : ¬ (500 : Int) < nm.size := by omega
      obtain ⟨hu, hp, hn, hb⟩ := not_great hg
      have c1 : Hid (∀ w, Calls Try.prog 20 #[.agg #[.int .i64 k, .string u, .string p, .string n, .string b]] w fun e w' => e = .returned (.tuple #[.agg #[.string (credT k u p n), .string (credD k u p n b)], .int .i64 (credE k u p n)]) ∧ Below w.heap.size w w') := fun w => askCred_any k u p n b hu hp hn hb w
      have c2 := Lib.hid (fun w => refCred_any k u p n b hu hp hn hb w)
      have c3 := Lib.hid (fun w => type_any k w)
      have c4 := Lib.hid (fun w => refType_any k w)
      have c5 := Lib.hid (fun w => kind_any nm w)
      have c6 := Lib.hid (fun w => refKind_any nm w)
      have c7 : Hid (∀ w, Calls Try.prog 27 #[.agg #[.int .i64 k, .string u, .string p, .string n, .string b]] w fun e w' => e = .returned (.agg #[.string u, .string p]) ∧ Below w.heap.size w w') := fun w => who_any k u p n b w
      have c8 := Lib.hid (fun w => check_any u p hu hp w)
      have c9 := Lib.hid (fun w => refCheck_any u p hu hp w)
      have c10 := Lib.hid (fun w => nonce_any v hv w)
      have c11 := Lib.hid (fun w => refNonce_any v hv w)
      have c12 : Hid (∀ w, Calls Try.prog 24 #[.string { data := #[115, 121, 110, 99, 109, 108, 58, 97, 117, 116, 104, 45, 109, 100, 53] }] w fun e w' => e = .returned (.int .i64 2) ∧ w = w') := fun w => by
        have := kind_any { data := #[115, 121, 110, 99, 109, 108, 58, 97, 117, 116, 104, 45, 109, 100, 53] } w
        rw [kind_md5] at this; exact this
      generalize credT k u p n = T at *
      generalize credD k u p n b = D at *
      generalize credE k u p n = E at *
      generalize typ k = ty at *
      generalize kindN nm = kd at *
      generalize chkE u p = ck at *
      generalize nonceB v = nc at *
      have heq : ∀ w, (binOp .eql 42 (.agg #[.string T, .string D]) (.agg #[.string T, .string D])).run Try.prog w = .ok (.bool true) w := fun w => by rw [run_eq42, decide_eq_true rfl]
      clear hg hnm hu hp hn hb
      go_enter Try.func7, Try.ntmps7
      go_wp2_with fail
      refine (c0.out _).mono ?_
      rintro e w1 ⟨rfl, hb1⟩
      have hF1 := HF.out.call HL.out hb1
      obtain ⟨hF2, hL2⟩ := hF1.add HL.out [.string u, .string p] 40
      have HF2 := Lib.hid hF2
      have HL2 := Lib.hid hL2
      obtain ⟨a0, a1, a2, a3, a4, _⟩ := hF1
      obtain ⟨d0, d1, d2, d3, d4, d5, d6, _⟩ := hF2
      clear HF HL f0 f1 f2 f3 f4 hL2 hb1
      go_wp2_with fail
      refine (c1.out _).mono ?_
      rintro e w2 ⟨rfl, hb2⟩
      have hF3 := HF2.out.call HL2.out hb2
      obtain ⟨hF4, hL4⟩ := hF3.add HL2.out [.string T, .string D] 42
      have HF4 := Lib.hid hF4
      have HL4 := Lib.hid hL4
      obtain ⟨a0, a1, a2, a3, a4, a5, a6, _⟩ := hF3
      obtain ⟨e0, e1, e2, e3, e4, e5, e6, e7, e8, _⟩ := hF4
      clear HF2 HL2 d0 d1 d2 d3 d4 d5 d6 hL4 hb2
      go_wp2_with fail
      refine (c2.out _).mono ?_
      rintro e w3 ⟨rfl, hb3⟩
      have hF5 := HF4.out.call HL4.out hb3
      obtain ⟨hF6, hL6⟩ := hF5.add HL4.out [.string T, .string D] 42
      have HF6 := Lib.hid hF6
      have HL6 := Lib.hid hL6
      clear HF4 HL4 e0 e1 e2 e3 e4 e5 e6 e7 e8 hL6 hb3 hF6 hF5
      go_wp2_with fail
      generalize w3.alloc (.cells [Value.string T, Value.string D].toArray 42) = w4 at *
      generalize w1.heap.size = G1 at *
      generalize w2.heap.size = G2 at *
      generalize w3.heap.size = G3 at *
      clear c0 c1 c2
      go_region_held3 (fun w' => w'.cell? ⟨w.heap.size, 0, none⟩ = some (.int .i64 k) ∧ w'.cell? ⟨w.heap.size, 1, none⟩ = some (.string u) ∧ w'.cell? ⟨w.heap.size, 2, none⟩ = some (.string p) ∧ w'.cell? ⟨w.heap.size, 3, none⟩ = some (.string n) ∧ w'.cell? ⟨w.heap.size, 4, none⟩ = some (.string b) ∧
          w'.cell? ⟨G1, 0, none⟩ = some (.string u) ∧ w'.cell? ⟨G1, 1, none⟩ = some (.string p) ∧ w'.cell? ⟨G2, 0, none⟩ = some (.string T) ∧ w'.cell? ⟨G2, 1, none⟩ = some (.string D) ∧ w'.cell? ⟨G3, 0, none⟩ = some (.string T) ∧ w'.cell? ⟨G3, 1, none⟩ = some (.string D) ∧ (G3 + 1 ≤ w'.heap.size ∧ Below w.heap.size w w'))
        (first | assumption | exact KC.drew HL6.out HF6.out | exact KC.call HL6.out (by assumption) hb9 | exact KC.call HL6.out (KC.drew HL6.out HF6.out) hb9)
        (first | (go_at_call 22; (with_reducible refine (c3.out _).mono ?_); rintro e w9 ⟨rfl, rfl⟩) | (go_at_call 23; (with_reducible refine (c4.out _).mono ?_); rintro e w9 ⟨rfl, rfl⟩) | (go_at_call 24; (with_reducible refine (c5.out _).mono ?_); rintro e w9 ⟨rfl, rfl⟩) | (go_at_call 25; (with_reducible refine (c6.out _).mono ?_); rintro e w9 ⟨rfl, rfl⟩) | (go_at_call 27; (with_reducible refine (c7.out _).mono ?_); rintro e w9 ⟨rfl, hb9⟩) | (go_at_call 26; (with_reducible refine (c8.out _).mono ?_); rintro e w9 ⟨rfl, hb9⟩) | (go_at_call 28; (with_reducible refine (c9.out _).mono ?_); rintro e w9 ⟨rfl, hb9⟩) | (go_at_call 29; (with_reducible refine (c10.out _).mono ?_); rintro e w9 ⟨rfl, hb9⟩) | (go_at_call 30; (with_reducible refine (c11.out _).mono ?_); rintro e w9 ⟨rfl, hb9⟩) | (go_at_call 24; (with_reducible refine (c12.out _).mono ?_); rintro e w9 ⟨rfl, rfl⟩))
      all_goals
        have hq := Lib.hid (KC.below (w0 := w) (m := G3 + 1) (l := rowCs w.heap.size 0 [.int .i64 k, .string u, .string p, .string n, .string b] ++ rowCs G1 0 [.string u, .string p] ++ rowCs G2 0 [.string T, .string D] ++ rowCs G3 0 [.string T, .string D]) (by assumption))
        go_wp2
        go_ret
        exact ⟨rfl, hq.out⟩
end Go.Proofs.Yteheibgdjpkeaaa
