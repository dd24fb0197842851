/- auth: the walk of AuthHolds. No condition. -/
import Derived.Test.YteheibgdjpkeaaaAuO
namespace Go.Proofs.Yteheibgdjpkeaaa
open Go.RowKit

set_option maxRecDepth 100000 in
set_option maxHeartbeats 8000000 in
theorem holds_walk (t d : ByteArray) (k : Int) (u p n b : ByteArray) (w : World) :
    Calls Try.prog 8 #[.agg #[.string t, .string d], ask k u p n b] w fun e w' => e = .returned (.bool true) ∧ Below w.heap.size w w' := by
  show Calls Try.prog 8 #[.agg #[.string t, .string d], .agg #[.int .i64 k, .string u, .string p, .string n, .string b]] w _
  have c0 : Hid (∀ w, Calls Try.prog 19 #[.agg #[.int .i64 k, .string u, .string p, .string n, .string b]] w fun e w' => e = .returned (.bool (greatB u p n b)) ∧ Below w.heap.size w w') := fun w => great_any k u p n b w
  obtain ⟨hF0, hL0⟩ := KC.first w [.string t, .string d] 42
  obtain ⟨hF, hL⟩ := hF0.add hL0 [.int .i64 k, .string u, .string p, .string n, .string b] 37
  simp only [World.size_alloc] at hF hL
  have HF := Lib.hid hF
  have HL := Lib.hid hL
  obtain ⟨f0, f1, f2, f3, f4, f5, f6, _⟩ := hF
  clear hL hF0 hL0
  cases hg : greatB u p n b with
  | true =>
    rw [hg] at c0
    clear hg
    go_enter Try.func8, Try.ntmps8
    go_wp2_with fail
    refine (c0.out _).mono ?_
    rintro e w1 ⟨rfl, hb1⟩
    go_wp2_with fail
    go_ret
    exact ⟨rfl, HF.out.below.trans (hb1.mono HF.out.below.size)⟩
  | false =>
    rw [hg] at c0
    by_cases ht : 500 < t.size
    · have ht' : (500 : Int) < t.size := by omega
      clear hg ht
      go_enter Try.func8, Try.ntmps8
      go_wp2_with fail
      refine (c0.out _).mono ?_
      rintro e w1 ⟨rfl, hb1⟩
      obtain ⟨a0, a1, a2, a3, a4, a5, a6, _⟩ := HF.out.call HL.out hb1
      have HB := Lib.hid (HF.out.below.trans (hb1.mono HF.out.below.size))
      clear hb1 f0 f1 f2 f3 f4 f5 f6
      go_wp2_with fail
      go_ret
      exact ⟨rfl, HB.out⟩
    · have ht' : ¬ (500 : Int) < t.size := by omega
      by_cases hd : 500 < d.size
      · have hd' : (500 : Int) < d.size := by omega
        clear hg ht hd
        go_enter Try.func8, Try.ntmps8
        go_wp2_with fail
        refine (c0.out _).mono ?_
        rintro e w1 ⟨rfl, hb1⟩
        obtain ⟨a0, a1, a2, a3, a4, a5, a6, _⟩ := HF.out.call HL.out hb1
        have HB := Lib.hid (HF.out.below.trans (hb1.mono HF.out.below.size))
        clear hb1 f0 f1 f2 f3 f4 f5 f6
        go_wp2_with fail
        go_ret
        exact ⟨rfl, HB.out⟩
      · have hd' : ¬ (500 : Int) < d.size := by omega
        obtain ⟨hu, hp, hn, hb⟩ := not_great hg
        have c1 : Hid (∀ w, Calls Try.prog 27 #[.agg #[.int .i64 k, .string u, .string p, .string n, .string b]] w fun e w' => e = .returned (.agg #[.string u, .string p]) ∧ Below w.heap.size w w') := fun w => who_any k u p n b w
        have c2 := Lib.hid (fun w => holds_any t d u p n b hu hp hn hb w)
        have c3 := Lib.hid (fun w => refHolds_any t d u p n b hu hp hn hb w)
        have c4 := Lib.hid (fun w => works_any w)
        generalize holdsC t d u p n b = R at *
        clear hg ht hd hu hp hn hb
        go_enter Try.func8, Try.ntmps8
        go_wp2_with fail
        refine (c0.out _).mono ?_
        rintro e w1 ⟨rfl, hb1⟩
        have hF1 := HF.out.call HL.out hb1
        have HF1 := Lib.hid hF1
        obtain ⟨a0, a1, a2, a3, a4, a5, a6, _⟩ := hF1
        clear hb1 f0 f1 f2 f3 f4 f5 f6 HF
        go_wp2_with fail
        go_region_held3 (fun w' => w'.cell? ⟨w.heap.size, 0, none⟩ = some (.string t) ∧ w'.cell? ⟨w.heap.size, 1, none⟩ = some (.string d) ∧ w'.cell? ⟨w.heap.size + 1, 0, none⟩ = some (.int .i64 k) ∧ w'.cell? ⟨w.heap.size + 1, 1, none⟩ = some (.string u) ∧ w'.cell? ⟨w.heap.size + 1, 2, none⟩ = some (.string p) ∧ w'.cell? ⟨w.heap.size + 1, 3, none⟩ = some (.string n) ∧ w'.cell? ⟨w.heap.size + 1, 4, none⟩ = some (.string b) ∧ (w.heap.size + 1 + 1 ≤ w'.heap.size ∧ Below w.heap.size w w'))
          (first | assumption | exact KC.drew HL.out HF1.out | exact KC.call HL.out (by assumption) hb9 | exact KC.call HL.out (KC.drew HL.out HF1.out) hb9)
          (first | (go_at_call 27; (with_reducible refine (c1.out _).mono ?_); rintro e w9 ⟨rfl, hb9⟩) | (go_at_call 31; (with_reducible refine (c2.out _).mono ?_); rintro e w9 ⟨rfl, hb9⟩) | (go_at_call 32; (with_reducible refine (c3.out _).mono ?_); rintro e w9 ⟨rfl, hb9⟩) | (go_at_call 33; (with_reducible refine (c4.out _).mono ?_); rintro e w9 ⟨rfl, hb9⟩))
        all_goals
          have hq := Lib.hid (KC.below (w0 := w) (m := w.heap.size + 1 + 1) (l := rowCs w.heap.size 0 [.string t, .string d] ++ rowCs (w.heap.size + 1) 0 [.int .i64 k, .string u, .string p, .string n, .string b]) (by assumption))
          go_wp2
          go_ret
          exact ⟨rfl, hq.out⟩

set_option maxRecDepth 100000 in
open Go.ChangeShapes Go.WideShapes in
theorem holds_law {H : Type} {enc : TypeId × Value → H} {W : World} (v0 : Value) (d0 : DataW H) (p0 : List MemPlace) (k0 : DataW.Trod enc Try.prog W 0 (fun _ => true) true 42 v0 d0 p0) {base : Nat} (ok0 : Value.okWide Try.prog W .any base 42 v0) (_ : ∀ x ∈ p0, x.block < W.heap.size)
    (v1 : Value) (d1 : DataW H) (p1 : List MemPlace) (k1 : DataW.Trod enc Try.prog W 0 (fun _ => true) true 37 v1 d1 p1) (ok1 : Value.okWide Try.prog W .any base 37 v1) (_ : ∀ x ∈ p1, x.block < W.heap.size) (_ : World) :
    Calls Try.prog 8 #[v0, v1] W fun e w' => e = .returned (.bool true) ∧ Below W.heap.size W w' := by
  obtain ⟨t, d, rfl⟩ := open_cred k0 ok0
  obtain ⟨k, u, p, n, b, rfl⟩ := open_ask k1 ok1
  exact holds_walk t d k u p n b W
end Go.Proofs.Yteheibgdjpkeaaa
