/- SixbitLines: the walk. No condition. -/
import Derived.Test.YtiakmaleiholnaaRLn
namespace Go.Proofs.Ytiakmaleiholnaa
open Go.RowKit

/-- a cell of an owned row -/
theorem own_at {w : World} {B : Nat} {e : TypeId} {ad : Option Addr} {n c : Nat} {xs : List Value} (h : w.ownsRow B e 1 (.slice ad n c) n xs) {i : Nat} (hi : i < n) : ∃ g, ad = some ⟨g, 0, none⟩ ∧ w.cell? ⟨g, i, none⟩ = xs[i]? := by
  rcases h.2 with ⟨h1, h0⟩ | ⟨g, cap, cur, h1, _⟩
  · omega
  · simp only [Value.slice.injEq] at h1
    obtain ⟨rfl, _, rfl⟩ := h1
    exact ⟨g, rfl, h.cellAt i (by omega)⟩

theorem below_drewN (B : Nat) (w : World) (n : Nat) : Below B w (w.drewN n) := ⟨rfl, rfl, rfl, Nat.le_refl _, fun _ _ => rfl⟩

theorem abc_chk : chk (wd 2) { data := #[97, 98, 99] } = [{ data := #[97, 98] }, { data := #[99] }] := by decide +kernel

set_option maxRecDepth 100000 in
set_option maxHeartbeats 2000000 in
theorem sixbitLines_walk (s : ByteArray) (hs : s.size ≤ 140737488351232) (width : Int) (_ : (Lit.int .i64 width).wf = true) (most : Int) (_ : (Lit.int .i64 most).wf = true) (w : World) :
    Calls Try.prog 4 #[.string s, .int .i64 width, .int .i64 most] w fun e w' => e = .returned (.bool true) ∧ Below w.heap.size w w' := by
  by_cases hbig : 2000 < s.size
  · have hbig' : (2000 : Int) < s.size := by omega
    go_enter Try.func4, Try.ntmps4
    go_wp2
    go_ret
    exact ⟨rfl, Below.refl _ _⟩
  · have hbig' : ¬ (2000 : Int) < s.size := by omega
    obtain ⟨kk, hkk, hk⟩ : ∃ kk : Nat, wrap64 ((IntKind.u64.wrap most).tmod 2001) = (kk : Int) ∧ kk ≤ 2000 := by
      refine ⟨(most % 18446744073709551616 % 2001).toNat, ?_, by omega⟩
      have e1 : IntKind.u64.wrap most = most % 18446744073709551616 := by simp [IntKind.wrap, IntKind.signed, IntKind.bits]
      rw [e1, Int.tmod_eq_emod_of_nonneg (by omega)]
      have : 0 ≤ most % 18446744073709551616 % 2001 ∧ most % 18446744073709551616 % 2001 < 2001 := by omega
      unfold wrap64; omega
    have c1 := Lib.hid (fun w => refLines_any s width w (by omega))
    have c2 := Lib.hid (fun w => pieces_any s width kk w (by omega))
    have c3 := fun w => pieces_any { data := #[97, 98, 99] } 2 9 w (by omega)
    rw [abc_chk] at c3
    have c3 := Lib.hid c3
    have hcl := chk_len (wd width) s
    have hlen : ((chk (wd width) s).take kk).length = min kk (chk (wd width) s).length := List.length_take
    have hget : ∀ i, i < ((chk (wd width) s).take kk).length → ((chk (wd width) s).take kk)[i]? = (chk (wd width) s)[i]? := fun i hi => List.getElem?_take_of_lt (by omega)
    have HG := Lib.hid hget
    clear hget
    generalize (chk (wd width) s).take kk = L at *
    generalize chk (wd width) s = C at *
    go_enter Try.func4, Try.ntmps4
    go_wp2_with fail
    refine (c1.out _).mono ?_
    rintro e w1 ⟨a1, p1, rfl, o1, b1⟩
    go_wp2_with fail
    refine (c2.out _).mono ?_
    rintro e w2 ⟨a2, p2, rfl, o2, b2⟩
    have o1' := Lib.hid (owns_after o1 b2)
    have o2' := Lib.hid o2
    have B2 := Lib.hid (b1.trans (b2.mono b1.size))
    clear o1 o2 b1 b2
    have hmin : min (kk : Int) (C.length : Int) = (L.length : Int) := by omega
    have hle1 : L.length ≤ C.length := by omega
    have hle2 : C.length ≤ 2000 := by omega
    have key : (kk ≤ C.length ∧ L.length = kk) ∨ (¬ kk ≤ C.length ∧ L.length = C.length) := by omega
    have HK := Lib.hid hkk
    clear hkk hlen hmin hcl
    generalize hLl : L.length = ll at *
    generalize hCl : C.length = cl at *
    have HLl := Lib.hid hLl
    have HCl := Lib.hid hCl
    clear hLl hCl
    have fin : ∀ (i : Nat) (W : World), i < ll → W.ownsRow w.heap.size 9 1 (.slice a1 cl p1) cl (C.map Value.string) → W.ownsRow w1.heap.size 9 1 (.slice a2 ll p2) ll (L.map Value.string) → ∃ (g1 g2 : Nat) (x : ByteArray), a1 = some ⟨g1, 0, none⟩ ∧ a2 = some ⟨g2, 0, none⟩ ∧ W.cell? ⟨g1, i, none⟩ = some (.string x) ∧ W.cell? ⟨g2, i, none⟩ = some (.string x) := by
      intro i W hi h1 h2
      obtain ⟨g1, rfl, hc1⟩ := own_at h1 (i := i) (by omega)
      obtain ⟨g2, rfl, hc2⟩ := own_at h2 (i := i) hi
      have e := HG.out i hi
      have hCi : i < C.length := by rw [HCl.out]; omega
      rw [List.getElem?_map] at hc1 hc2
      rw [e] at hc2
      rw [List.getElem?_eq_getElem hCi] at hc1 hc2
      exact ⟨g1, g2, _, rfl, rfl, hc1, hc2⟩
    have HF := Lib.hid fin
    clear fin
    have hI : (if (cl : Int) < wrap64 ((IntKind.u64.wrap most).tmod 2001) then (cl : Int) else wrap64 ((IntKind.u64.wrap most).tmod 2001)) = (ll : Int) := by
      rw [HK.out]; split <;> omega
    clear key
    go_wp2_with fail
    go_loopw [10] (fun x wr => ∃ i : Nat, i ≤ ll ∧ x = .int .i64 i ∧ wr.ownsRow w.heap.size 9 1 (.slice a1 cl p1) cl (C.map Value.string) ∧ wr.ownsRow w1.heap.size 9 1 (.slice a2 ll p2) ll (L.map Value.string) ∧ Below w.heap.size w wr) (fun x _ => ll - (intOf x).toNat)
    case atStart => exact ⟨0, Nat.zero_le _, rfl, o1'.out, o2'.out, B2.out⟩
    clear hI
    case round =>
      obtain ⟨i, hi, rfl, q1, q2, qb⟩ := hrel
      by_cases hlt : i < ll
      · obtain ⟨g1, g2, x, rfl, rfl, hx1, hx2⟩ := HF.out i wr hlt q1 q2
        have j0 : (0 : Int) ≤ (i : Int) := by omega
        have j1 : (i : Int) < ll := by omega
        have j2 : (i : Int) < cl := by omega
        have j3 : decide (i < cl) = true := by simp; omega
        have j4 : decide (i < ll) = true := by simp; omega
        have Q1 := Lib.hid q1
        have Q2 := Lib.hid q2
        have QB := Lib.hid qb
        clear q1 q2 qb
        go_wp2_with fail
        go_quiet (fail)
        go_wp2_with fail
        go_roundw
        case rel => exact ⟨i + 1, by omega, by go_num, owns_after Q1.out (below_drewN _ _ nq), owns_after Q2.out (below_drewN _ _ nq), QB.out.trans (below_drewN _ _ nq)⟩
        case measure => simp [intOf]; omega
      · have j4 : decide (i < ll) = false := by simp; omega
        have QB := Lib.hid qb
        clear q1 q2 qb
        go_wp2_with fail
        refine (c3.out _).mono ?_
        rintro e w3 ⟨a3, p3, rfl, o3, b3⟩
        have o3' : w3.ownsRow wr.heap.size 9 1 (.slice a3 2 p3) 2 [.string { data := #[97, 98] }, .string { data := #[99] }] := o3
        obtain ⟨g3, rfl, hx0⟩ := own_at o3' (i := 0) (by decide)
        obtain ⟨g4, hg4, hx1⟩ := own_at o3' (i := 1) (by decide)
        simp only [Option.some.injEq, Addr.mk.injEq, and_true] at hg4
        subst hg4
        clear o3 o3'
        go_wp2_with fail
        go_ret
        exact ⟨rfl, QB.out.trans (b3.mono QB.out.size)⟩
end Go.Proofs.Ytiakmaleiholnaa
