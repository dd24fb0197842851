/- BoundGrows: the law's walk. No condition. -/
import Derived.Test.YtcpmgnejbfnnjaaBound
import Derived.ProofKit
import Derived.OpenShut
import Derived.Lib.SmallJoins
namespace Go.Proofs.Ytcpmgnejbfnnjaa
open Go.RowKit

theorem msgv_ok {items bytes size : Int} {tok : Bool} {x e : Int} (h : msgv items bytes size tok = (x, e)) : e = 2 ∨ (e = 0 ∧ 0 ≤ items ∧ 0 ≤ bytes ∧ (pcv size tok).2 = 0 ∧ x = 10 + 6 * items + 2 * bytes / (pcv size tok).1) := by
  unfold msgv at h
  rcases pcv_cases size tok with hp | ⟨p, hp, p1, p2⟩
  · rw [hp] at h ⊢
    split at h
    · simp at h; omega
    · simp at h; omega
  · rw [hp] at h ⊢
    split at h
    · simp at h; omega
    · simp at h; right; refine ⟨by omega, by omega, by omega, rfl, h.1.symm⟩

theorem pcv_mono {s1 s2 : Int} {tok : Bool} (h1 : (pcv s1 tok).2 = 0) (h2 : (pcv s2 tok).2 = 0) (h : s2 ≤ s1) : (pcv s2 tok).1 ≤ (pcv s1 tok).1 ∧ 50 ≤ (pcv s2 tok).1 := by
  by_cases n1 : 12000 < s1 ∨ (tok = true ∧ s1 < 700) ∨ (tok = false ∧ s1 < 2000)
  · unfold pcv at h1; rw [if_pos n1] at h1; simp at h1
  by_cases n2 : 12000 < s2 ∨ (tok = true ∧ s2 < 700) ∨ (tok = false ∧ s2 < 2000)
  · unfold pcv at h2; rw [if_pos n2] at h2; simp at h2
  unfold pcv
  rw [if_neg n1, if_neg n2]
  cases tok
  · simp at n1 n2 ⊢; omega
  · simp at n1 n2 ⊢; omega

theorem grows {i1 b1 s1 i2 b2 s2 : Int} {tok : Bool} {x y : Int} (hx : msgv i1 b1 s1 tok = (x, 0)) (hy : msgv i2 b2 s2 tok = (y, 0)) (hi : i1 ≤ i2) (hb : b1 ≤ b2) (hs : s2 ≤ s1) : x ≤ y ∧ 10 ≤ x := by
  rcases msgv_ok hx with h | ⟨_, a1, a2, a3, a4⟩
  · omega
  rcases msgv_ok hy with h | ⟨_, c1, c2, c3, c4⟩
  · omega
  have hp := pcv_mono a3 c3 hs
  have q1 : 0 ≤ 2 * b1 / (pcv s1 tok).1 := Int.ediv_nonneg (by omega) (by omega)
  have q2 : 2 * b1 / (pcv s1 tok).1 ≤ 2 * b2 / (pcv s2 tok).1 := by
    have hc : 0 < (pcv s2 tok).1 := by omega
    have hd : 0 < (pcv s1 tok).1 := by omega
    have k1 : 2 * b1 / (pcv s1 tok).1 ≤ 2 * b1 / (pcv s2 tok).1 := by
      rw [Int.le_ediv_iff_mul_le hc]
      have h1 : 2 * b1 / (pcv s1 tok).1 * (pcv s1 tok).1 ≤ 2 * b1 := Int.ediv_mul_le _ (by omega)
      have h2 : 2 * b1 / (pcv s1 tok).1 * (pcv s2 tok).1 ≤ 2 * b1 / (pcv s1 tok).1 * (pcv s1 tok).1 := Int.mul_le_mul_of_nonneg_left hp.1 q1
      omega
    have k2 : 2 * b1 / (pcv s2 tok).1 ≤ 2 * b2 / (pcv s2 tok).1 := Int.ediv_le_ediv hc (by omega)
    omega
  omega

set_option maxHeartbeats 2000000 in
theorem boundGrows_core (i1 b1 s1 : Int) (t1 : Bool) (i2 b2 s2 : Int) (t2 : Bool) (w : World)
    (h1 : -9223372036854775808 ≤ s1) (h2 : s1 ≤ 9223372036854775807) (h3 : -9223372036854775808 ≤ s2) (h4 : s2 ≤ 9223372036854775807) :
    Calls Try.prog 3 #[.agg #[.int .i64 i1, .int .i64 b1, .int .i64 s1, .bool t1], .agg #[.int .i64 i2, .int .i64 b2, .int .i64 s2, .bool t2]] w fun e w' => e = .returned (.bool true) ∧ Below w.heap.size w w' := by
  have cw := Lib.hid works36_any
  have ca := Lib.hid (fun w => messages_any i1 b1 s1 t1 w h1 h2)
  have cb := Lib.hid (fun w => messages_any i2 b2 s2 t2 w h3 h4)
  obtain ⟨x, ex, hx⟩ : ∃ x ex, msgv i1 b1 s1 t1 = (x, ex) := ⟨_, _, rfl⟩
  obtain ⟨y, ey, hy⟩ : ∃ y ey, msgv i2 b2 s2 t2 = (y, ey) := ⟨_, _, rfl⟩
  rw [hx] at ca
  rw [hy] at cb
  have hex : ex = 0 ∨ (ex == 0) = false := by rcases msgv_ok hx with h | h <;> simp_all
  have hey : ey = 0 ∨ (ey == 0) = false := by rcases msgv_ok hy with h | h <;> simp_all
  have HX := Lib.hid hx
  have HY := Lib.hid hy
  clear hx hy
  have body : (ex == 0) = false ∨ (ex = 0 ∧ ((ey == 0) = false ∨ (ey = 0 ∧ (t1 ≠ t2 ∨ (t1 = t2 ∧ (i2 < i1 ∨ (i1 ≤ i2 ∧ (b2 < b1 ∨ (b1 ≤ b2 ∧ (s1 < s2 ∨ s2 ≤ s1)))))))))) := by
    rcases hex with h | h
    · refine .inr ⟨h, ?_⟩
      rcases hey with h | h
      · refine .inr ⟨h, ?_⟩
        by_cases ht : t1 = t2
        · exact .inr ⟨ht, by omega⟩
        · exact .inl ht
      · exact .inl h
    · exact .inl h
  clear hex hey
  rcases body with hex | ⟨rfl, hey | ⟨rfl, ht | ⟨rfl, hi | ⟨hi, hb | ⟨hb, hs | hs⟩⟩⟩⟩⟩
  · have hex' : (ex != 0) = true := by simpa using hex
    go_enter Try.func3, Try.ntmps3
    go_wp2_with (first | (go_at_call 10; refine (cw.out _).mono ?_; rintro e w' ⟨rfl, rfl⟩) | (go_at_call 11; with_reducible refine (ca.out _).mono ?_; rintro e w' ⟨rfl, rfl⟩) | (go_at_call 11; with_reducible refine (cb.out _).mono ?_; rintro e w' ⟨rfl, rfl⟩))
    go_ret
    exact ⟨rfl, ((Below.refl _ _).alloc (Nat.le_refl _) _).alloc (by simp) _⟩
  · have hey' : (ey != 0) = true := by simpa using hey
    go_enter Try.func3, Try.ntmps3
    go_wp2_with (first | (go_at_call 10; refine (cw.out _).mono ?_; rintro e w' ⟨rfl, rfl⟩) | (go_at_call 11; with_reducible refine (ca.out _).mono ?_; rintro e w' ⟨rfl, rfl⟩) | (go_at_call 11; with_reducible refine (cb.out _).mono ?_; rintro e w' ⟨rfl, rfl⟩))
    go_ret
    exact ⟨rfl, ((Below.refl _ _).alloc (Nat.le_refl _) _).alloc (by simp) _⟩
  · cases t1 <;> cases t2 <;> simp at ht
    all_goals
      go_enter Try.func3, Try.ntmps3
      go_wp2_with (first | (go_at_call 10; refine (cw.out _).mono ?_; rintro e w' ⟨rfl, rfl⟩) | (go_at_call 11; with_reducible refine (ca.out _).mono ?_; rintro e w' ⟨rfl, rfl⟩) | (go_at_call 11; with_reducible refine (cb.out _).mono ?_; rintro e w' ⟨rfl, rfl⟩))
      go_ret
      exact ⟨rfl, ((Below.refl _ _).alloc (Nat.le_refl _) _).alloc (by simp) _⟩
  · go_enter Try.func3, Try.ntmps3
    go_wp2_with (first | (go_at_call 10; refine (cw.out _).mono ?_; rintro e w' ⟨rfl, rfl⟩) | (go_at_call 11; with_reducible refine (ca.out _).mono ?_; rintro e w' ⟨rfl, rfl⟩) | (go_at_call 11; with_reducible refine (cb.out _).mono ?_; rintro e w' ⟨rfl, rfl⟩))
    go_ret
    exact ⟨rfl, ((Below.refl _ _).alloc (Nat.le_refl _) _).alloc (by simp) _⟩
  · go_enter Try.func3, Try.ntmps3
    go_wp2_with (first | (go_at_call 10; refine (cw.out _).mono ?_; rintro e w' ⟨rfl, rfl⟩) | (go_at_call 11; with_reducible refine (ca.out _).mono ?_; rintro e w' ⟨rfl, rfl⟩) | (go_at_call 11; with_reducible refine (cb.out _).mono ?_; rintro e w' ⟨rfl, rfl⟩))
    go_ret
    exact ⟨rfl, ((Below.refl _ _).alloc (Nat.le_refl _) _).alloc (by simp) _⟩
  · go_enter Try.func3, Try.ntmps3
    go_wp2_with (first | (go_at_call 10; refine (cw.out _).mono ?_; rintro e w' ⟨rfl, rfl⟩) | (go_at_call 11; with_reducible refine (ca.out _).mono ?_; rintro e w' ⟨rfl, rfl⟩) | (go_at_call 11; with_reducible refine (cb.out _).mono ?_; rintro e w' ⟨rfl, rfl⟩))
    go_ret
    exact ⟨rfl, ((Below.refl _ _).alloc (Nat.le_refl _) _).alloc (by simp) _⟩
  · have hg := grows HX.out HY.out hi hb hs
    obtain ⟨hg1, hg2⟩ := hg
    go_enter Try.func3, Try.ntmps3
    go_wp2_with (first | (go_at_call 10; refine (cw.out _).mono ?_; rintro e w' ⟨rfl, rfl⟩) | (go_at_call 11; with_reducible refine (ca.out _).mono ?_; rintro e w' ⟨rfl, rfl⟩) | (go_at_call 11; with_reducible refine (cb.out _).mono ?_; rintro e w' ⟨rfl, rfl⟩))
    go_ret
    exact ⟨rfl, ((Below.refl _ _).alloc (Nat.le_refl _) _).alloc (by simp) _⟩

theorem open_ask {H : Type} {enc : TypeId × Value → H} {W : World} {base : Nat} {v : Value} {d : DataW H} {p : List MemPlace}
    (k : DataW.Trod enc Try.prog W 0 (fun _ => true) true 23 v d p) (ok : Value.okWide Try.prog W .any base 23 v) :
    ∃ (i b s : Int) (t : Bool), v = .agg #[.int .i64 i, .int .i64 b, .int .i64 s, .bool t] ∧ (-9223372036854775808 ≤ i ∧ i ≤ 9223372036854775807) ∧ (-9223372036854775808 ≤ b ∧ b ≤ 9223372036854775807) ∧ (-9223372036854775808 ≤ s ∧ s ≤ 9223372036854775807) := by
  obtain ⟨c0, c1, c2, c3, y0, y1, y2, y3, n, rfl, _, _, g0, g1, g2, g3⟩ := Joins.open_agg4 Try.underlying23 (by kernel_rfl) (by kernel_rfl) ok k
  obtain ⟨a0, e0, _, w0⟩ := DataW.trod_int Try.underlying3 g0
  obtain ⟨a1, e1, _, w1⟩ := DataW.trod_int Try.underlying3 g1
  obtain ⟨a2, e2, _, w2⟩ := DataW.trod_int Try.underlying3 g2
  obtain ⟨a3, e3, _⟩ := DataW.trod_bool Try.underlying4 g3
  simp at e0 e1 e2 e3
  subst e0 e1 e2 e3
  exact ⟨a0, a1, a2, a3, rfl, wf_i64 w0, wf_i64 w1, wf_i64 w2⟩

theorem boundGrows_walk {H : Type} {enc : TypeId × Value → H} {W : World} {base : Nat} (v0 : Value) (d0 : DataW H) (p0 : List MemPlace)
    (k0 : DataW.Trod enc Try.prog W 0 (fun _ => true) true 23 v0 d0 p0) (ok0 : Value.okWide Try.prog W .any base 23 v0) (_ : ∀ x ∈ p0, x.block < W.heap.size)
    (v1 : Value) (d1 : DataW H) (p1 : List MemPlace)
    (k1 : DataW.Trod enc Try.prog W 0 (fun _ => true) true 23 v1 d1 p1) (ok1 : Value.okWide Try.prog W .any base 23 v1) (_ : ∀ x ∈ p1, x.block < W.heap.size) (_ : World) :
    Calls Try.prog 3 #[v0, v1] W fun e w' => e = .returned (.bool true) ∧ Below W.heap.size W w' := by
  obtain ⟨i1, b1, s1, t1, rfl, _, _, g1, g2⟩ := open_ask k0 ok0
  obtain ⟨i2, b2, s2, t2, rfl, _, _, g3, g4⟩ := open_ask k1 ok1
  exact boundGrows_core i1 b1 s1 t1 i2 b2 s2 t2 W g1 g2 g3 g4
end Go.Proofs.Ytcpmgnejbfnnjaa
