/- auth: the law's helpers (great, who, cred). No condition but sizes. -/
import Derived.Test.YteheibgdjpkeaaaAuN
import Derived.Deep.RegionHeld3
namespace Go.Proofs.Yteheibgdjpkeaaa
open Go.RowKit

/-- an Ask -/
abbrev ask (k : Int) (u p n b : ByteArray) : Value := .agg #[.int .i64 k, .string u, .string p, .string n, .string b]
/-- block g is an Ask -/
def Five (w : World) (g : Nat) (k : Int) (u p n b : ByteArray) : Prop :=
  w.cell? ⟨g, 0, none⟩ = some (.int .i64 k) ∧ w.cell? ⟨g, 1, none⟩ = some (.string u) ∧ w.cell? ⟨g, 2, none⟩ = some (.string p) ∧ w.cell? ⟨g, 3, none⟩ = some (.string n) ∧ w.cell? ⟨g, 4, none⟩ = some (.string b)
theorem Five.below {w w' : World} {g : Nat} {k : Int} {u p n b : ByteArray} (h : Five w g k u p n b) (hg : g < w.heap.size) (hb : Below w.heap.size w w') : Five w' g k u p n b :=
  ⟨(hb.cell (p := ⟨g, 0, none⟩) hg).trans h.1, (hb.cell (p := ⟨g, 1, none⟩) hg).trans h.2.1, (hb.cell (p := ⟨g, 2, none⟩) hg).trans h.2.2.1, (hb.cell (p := ⟨g, 3, none⟩) hg).trans h.2.2.2.1, (hb.cell (p := ⟨g, 4, none⟩) hg).trans h.2.2.2.2⟩
theorem Five.new (w : World) (k : Int) (u p n b : ByteArray) (t : TypeId) : Five (w.alloc (.cells #[.int .i64 k, .string u, .string p, .string n, .string b] t)) w.heap.size k u p n b := by
  refine ⟨?_, ?_, ?_, ?_, ?_⟩ <;> (rw [World.cell?_alloc_at _ _ _ _ rfl]; rfl)

theorem who_any (k : Int) (u p n b : ByteArray) (w : World) : Calls Try.prog 27 #[ask k u p n b] w fun e w' => e = .returned (.agg #[.string u, .string p]) ∧ Below w.heap.size w w' := by
  show Calls Try.prog 27 #[.agg #[.int .i64 k, .string u, .string p, .string n, .string b]] w _
  go_enter Try.func27, Try.ntmps27
  go_wp2_with fail
  refine bodyPost_ret (v := .agg #[.string u, .string p]) (by simp [results, Try.results27, go_sem]) rfl ⟨rfl, ?_⟩
  exact ((Below.refl _ w).alloc (Nat.le_refl _) _).alloc (by simp) _

def greatB (u p n b : ByteArray) : Bool := decide (500 < u.size) || decide (500 < p.size) || decide (500 < n.size) || decide (5000 < b.size)

set_option maxRecDepth 100000 in
set_option maxHeartbeats 2000000 in
theorem great_any (k : Int) (u p n b : ByteArray) (w : World) : Calls Try.prog 19 #[ask k u p n b] w fun e w' => e = .returned (.bool (greatB u p n b)) ∧ Below w.heap.size w w' := by
  show Calls Try.prog 19 #[.agg #[.int .i64 k, .string u, .string p, .string n, .string b]] w _
  have hB : Below w.heap.size w (w.alloc (.cells #[.int .i64 k, .string u, .string p, .string n, .string b] 37)) := (Below.refl _ _).alloc (Nat.le_refl _) _
  have HB := Lib.hid hB
  clear hB
  by_cases h1 : 500 < u.size
  · have HF : Hid (greatB u p n b = true) := by unfold Hid greatB; simp [h1]
    have g1 : decide ((500 : Int) < u.size) = true := by simp; omega
    go_enter Try.func19, Try.ntmps19
    go_wp2_with fail
    go_ret
    exact ⟨ret_bool HF.out, HB.out⟩
  · have g1 : decide ((500 : Int) < u.size) = false := by simp; omega
    by_cases h2 : 500 < p.size
    · have HF : Hid (greatB u p n b = true) := by unfold Hid greatB; simp [h2]
      have g2 : decide ((500 : Int) < p.size) = true := by simp; omega
      go_enter Try.func19, Try.ntmps19
      go_wp2_with fail
      go_ret
      exact ⟨ret_bool HF.out, HB.out⟩
    · have g2 : decide ((500 : Int) < p.size) = false := by simp; omega
      by_cases h3 : 500 < n.size
      · have HF : Hid (greatB u p n b = true) := by unfold Hid greatB; simp [h3]
        have g3 : decide ((500 : Int) < n.size) = true := by simp; omega
        go_enter Try.func19, Try.ntmps19
        go_wp2_with fail
        go_ret
        exact ⟨ret_bool HF.out, HB.out⟩
      · have g3 : decide ((500 : Int) < n.size) = false := by simp; omega
        have HF : Hid (greatB u p n b = decide (5000 < (b.size : Int))) := by unfold Hid greatB; simp [h1, h2, h3]; omega
        go_enter Try.func19, Try.ntmps19
        go_wp2_with fail
        go_ret
        exact ⟨ret_bool HF.out, HB.out⟩

theorem not_great {u p n b : ByteArray} (h : greatB u p n b = false) : u.size ≤ 5000 ∧ p.size ≤ 5000 ∧ n.size ≤ 5000 ∧ b.size ≤ 5000 := by
  unfold greatB at h
  simp only [Bool.or_eq_false_iff, decide_eq_false_iff_not] at h
  omega

/-- what stays in a region: the Ask, two texts at g that may be written, and what lay below. -/
def Keep5 (w0 : World) (b g : Nat) (k : Int) (u p n d : ByteArray) (w' : World) : Prop := w'.cell? ⟨b, 0, none⟩ = some (.int .i64 k) ∧ w'.cell? ⟨b, 1, none⟩ = some (.string u) ∧ w'.cell? ⟨b, 2, none⟩ = some (.string p) ∧ w'.cell? ⟨b, 3, none⟩ = some (.string n) ∧ w'.cell? ⟨b, 4, none⟩ = some (.string d) ∧ (∃ x y, Pair w' g x y) ∧ b < w'.heap.size ∧ Below w0.heap.size w0 w'
theorem Keep5.drew {w0 w' : World} {b g : Nat} {k : Int} {u p n d : ByteArray} (h : Keep5 w0 b g k u p n d w') : Keep5 w0 b g k u p n d w'.drew := by
  obtain ⟨h0, h1, h2, h3, h4, ⟨x, y, h5⟩, h6, h7⟩ := h
  exact ⟨h0, h1, h2, h3, h4, ⟨x, y, h5.below ((Below.refl _ _).drew)⟩, h6, h7.drew⟩
theorem Keep5.call {w0 w' w2 : World} {b g : Nat} {k : Int} {u p n d : ByteArray} (h : Keep5 w0 b g k u p n d w') (hb : Below w'.heap.size w' w2) : Keep5 w0 b g k u p n d w2 := by
  obtain ⟨h0, h1, h2, h3, h4, ⟨x, y, h5⟩, h6, h7⟩ := h
  have hs := hb.size
  exact ⟨(hb.cell (p := ⟨b, 0, none⟩) h6).trans h0, (hb.cell (p := ⟨b, 1, none⟩) h6).trans h1, (hb.cell (p := ⟨b, 2, none⟩) h6).trans h2, (hb.cell (p := ⟨b, 3, none⟩) h6).trans h3, (hb.cell (p := ⟨b, 4, none⟩) h6).trans h4, ⟨x, y, h5.below hb⟩, by omega, h7.trans (hb.mono h7.size)⟩
theorem Keep5.store {w0 w' : World} {b g : Nat} {k : Int} {u p n d : ByteArray} (h : Keep5 w0 b g k u p n d w') (hne : b ≠ g) (hg : w0.heap.size ≤ g) (T D : ByteArray) :
    Keep5 w0 b g k u p n d ((w'.setCell ⟨g, 0, none⟩ (.string T)).setCell ⟨g, 1, none⟩ (.string D)) := by
  obtain ⟨h0, h1, h2, h3, h4, ⟨x, y, h5⟩, h6, h7⟩ := h
  have e : ∀ j, ((w'.setCell ⟨g, 0, none⟩ (.string T)).setCell ⟨g, 1, none⟩ (.string D)).cell? ⟨b, j, none⟩ = w'.cell? ⟨b, j, none⟩ := fun j => by
    rw [World.cell?_setCell_other _ _ _ _ (fun e => by injection e; omega), World.cell?_setCell_other _ _ _ _ (fun e => by injection e; omega)]
  exact ⟨(e 0).trans h0, (e 1).trans h1, (e 2).trans h2, (e 3).trans h3, (e 4).trans h4, ⟨T, D, h5.set2 T D⟩, by simpa [World.setCell] using h6, (h7.setCell hg _).setCell hg _⟩
theorem Keep5.pair {w0 w' w2 : World} {b g : Nat} {k : Int} {u p n d : ByteArray} (h : Keep5 w0 b g k u p n d w') (hb : Below w'.heap.size w' w2) : ∃ x y, Pair w2 g x y := (h.call hb).2.2.2.2.2.1

set_option maxRecDepth 100000 in
set_option maxHeartbeats 8000000 in
theorem askCred_any (k : Int) (u p n b : ByteArray) (hu : u.size ≤ 5000) (hp : p.size ≤ 5000) (hn : n.size ≤ 5000) (hb : b.size ≤ 5000) (w : World) :
    Calls Try.prog 20 #[ask k u p n b] w fun e w' => e = .returned (.tuple #[.agg #[.string (credT k u p n), .string (credD k u p n b)], .int .i64 (credE k u p n)]) ∧ Below w.heap.size w w' := by
  show Calls Try.prog 20 #[.agg #[.int .i64 k, .string u, .string p, .string n, .string b]] w _
  have c1 := Lib.hid (fun w => who_any k u p n b w)
  have c2 := Lib.hid (fun w => cred_any k u p n b hu hp hn hb w)
  generalize credT k u p n = T at *
  generalize credD k u p n b = D at *
  generalize credE k u p n = E at *
  clear hu hp hn hb
  obtain ⟨w3, hw3⟩ : ∃ w3, ((w.alloc (.cells #[.int .i64 k, .string u, .string p, .string n, .string b] 37)).alloc (.cells #[.string { data := #[] }, .string { data := #[] }] 42)) = w3 := ⟨_, rfl⟩
  have hP1 : Pair w3 (w.heap.size + 1) { data := #[] } { data := #[] } := by
    have h := Pair.new (w.alloc (.cells #[.int .i64 k, .string u, .string p, .string n, .string b] 37)) { data := #[] } { data := #[] } 42
    rw [← hw3]; simpa using h
  have hF : Five w3 w.heap.size k u p n b := by
    rw [← hw3]; exact (Five.new w k u p n b 37).below (by simp) ((Below.refl _ _).alloc (Nat.le_refl _) _)
  have hB : Below w.heap.size w w3 := by rw [← hw3]; exact ((Below.refl _ w).alloc (Nat.le_refl _) _).alloc (by simp) _
  have HB := Lib.hid hB
  have HP := Lib.hid hP1
  have hgw : w.heap.size < w3.heap.size := by have := hP1.1.2.2; omega
  obtain ⟨h0, h1, h2, h3, h4⟩ := hF
  have HK : Hid (Keep5 w w.heap.size (w.heap.size + 1) k u p n b w3) := ⟨h0, h1, h2, h3, h4, ⟨_, _, hP1⟩, hgw, hB⟩
  have HW := Lib.hid hw3
  clear hw3 hP1 hB
  go_enter Try.func20, Try.ntmps20
  go_wp2_with fail
  rw [HW.out]
  clear HW
  go_region_held3 (fun w' => w'.cell? ⟨w.heap.size, 0, none⟩ = some (.int .i64 k) ∧ w'.cell? ⟨w.heap.size, 1, none⟩ = some (.string u) ∧ w'.cell? ⟨w.heap.size, 2, none⟩ = some (.string p) ∧ w'.cell? ⟨w.heap.size, 3, none⟩ = some (.string n) ∧ w'.cell? ⟨w.heap.size, 4, none⟩ = some (.string b) ∧ (∃ x y, Pair w' (w.heap.size + 1) x y) ∧ w.heap.size < w'.heap.size ∧ Below w.heap.size w w')
    (first | exact Keep5.drew HK.out | exact Keep5.call (g := w.heap.size + 1) (by assumption) hb9 | exact Keep5.call (Keep5.drew HK.out) hb9 | exact Keep5.store (g := w.heap.size + 1) (by assumption) (by omega) (by omega) _ _)
    (first | (go_at_call 27; refine (c1.out _).mono ?_; rintro e w9 ⟨rfl, hb9⟩) | (go_at_call 43; refine (c2.out _).mono ?_; rintro e w9 ⟨rfl, hb9⟩; obtain ⟨xx, yy, hpp⟩ := Keep5.pair (g := w.heap.size + 1) (by assumption) hb9; have HPP := Lib.hid hpp; obtain ⟨⟨r0, r1, r2⟩, r3, r4⟩ := hpp))
  have hR := Lib.hid (HPP.out.set2 T D)
  have hq : Hid (Below w.heap.size w ((w9.setCell ⟨w.heap.size + 1, 0, none⟩ (.string T)).setCell ⟨w.heap.size + 1, 1, none⟩ (.string D))) := (by assumption : Keep5 w w.heap.size (w.heap.size + 1) k u p n b ((w9.setCell ⟨w.heap.size + 1, 0, none⟩ (.string T)).setCell ⟨w.heap.size + 1, 1, none⟩ (.string D))).2.2.2.2.2.2.2
  obtain ⟨⟨s0, s1, s2⟩, s3, s4⟩ := hR.out
  clear r0 r1 r2 r3 r4
  go_wp2
  refine bodyPost_ret (v := .tuple #[.agg #[.string T, .string D], .int .i64 E]) (by simp [results, Try.results20, go_sem, s0, s1]) rfl ⟨rfl, hq.out⟩
end Go.Proofs.Yteheibgdjpkeaaa
