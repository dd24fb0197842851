/- auth: Holds, the program's and the reference's. No condition but sizes. -/
import Derived.Test.YteheibgdjpkeaaaAuH
import Derived.Laws.StructEq
namespace Go.Proofs.Yteheibgdjpkeaaa
open Go.RowKit

theorem run_eq42 (a1 a2 b1 b2 : ByteArray) (w : World) : (binOp .eql 42 (.agg #[.string a1, .string a2]) (.agg #[.string b1, .string b2])).run Try.prog w = .ok (.bool (decide ((a1, a2) = (b1, b2)))) w := by
  rw [run_eql_struct, run_equalIn_struct w _ 42 _ _ (by kernel_rfl) (by kernel_rfl)]
  have e : ∀ a b : ByteArray, a.toList = b.toList ↔ a = b := fun a b => ⟨toList_inj, fun h => by rw [h]⟩
  simp [go_sem, e, Prod.mk.injEq]
  by_cases h1 : a1 = b1
  · by_cases h2 : a2 = b2
    · simp [h1, h2]
    · simp [h1, h2]
  · simp [h1]

def holdsC (t d : ByteArray) (u p n b : ByteArray) : Bool := decide (credE (kindN t) u p n = 0) && decide ((credT (kindN t) u p n, credD (kindN t) u p n b) = (t, d))

/-- what stays: two blocks of two texts each, and what lay below -/
def KeepH (w0 : World) (g h : Nat) (t d u p : ByteArray) (w' : World) : Prop := w'.cell? ⟨g, 0, none⟩ = some (.string t) ∧ w'.cell? ⟨g, 1, none⟩ = some (.string d) ∧ w'.cell? ⟨h, 0, none⟩ = some (.string u) ∧ w'.cell? ⟨h, 1, none⟩ = some (.string p) ∧ g < w'.heap.size ∧ h < w'.heap.size ∧ Below w0.heap.size w0 w'
theorem KeepH.call {w0 w' w2 : World} {g h : Nat} {t d u p : ByteArray} (k : KeepH w0 g h t d u p w') (hb : Below w'.heap.size w' w2) : KeepH w0 g h t d u p w2 := by
  obtain ⟨h0, h1, h2, h3, h4, h5, h6⟩ := k
  have hs := hb.size
  exact ⟨(hb.cell (p := ⟨g, 0, none⟩) h4).trans h0, (hb.cell (p := ⟨g, 1, none⟩) h4).trans h1, (hb.cell (p := ⟨h, 0, none⟩) h5).trans h2, (hb.cell (p := ⟨h, 1, none⟩) h5).trans h3, by omega, by omega, h6.trans (hb.mono h6.size)⟩
theorem KeepH.drew {w0 w' : World} {g h : Nat} {t d u p : ByteArray} (k : KeepH w0 g h t d u p w') : KeepH w0 g h t d u p w'.drew := k.call ((Below.refl _ _).drew)
theorem KeepH.alloc {w0 w' : World} {g h : Nat} {t d u p : ByteArray} (k : KeepH w0 g h t d u p w') (o : Obj) : KeepH w0 g h t d u p (w'.alloc o) := k.call ((Below.refl _ _).alloc (Nat.le_refl _) _)

theorem pairNew {W w' : World} {x y : ByteArray} (hb : Below (W.alloc (.cells #[.string x, .string y] 42)).drew.heap.size (W.alloc (.cells #[.string x, .string y] 42)).drew w') : Pair w' W.heap.size x y := ((Pair.new W x y 42).below ((Below.refl _ _).drew)).below hb
theorem KeepH.store {w0 w' : World} {g h G : Nat} {t d u p : ByteArray} (k : KeepH w0 g h t d u p w') (h1 : g ≠ G) (h2 : h ≠ G) (h3 : w0.heap.size ≤ G) (T D : ByteArray) : KeepH w0 g h t d u p ((w'.setCell ⟨G, 0, none⟩ (.string T)).setCell ⟨G, 1, none⟩ (.string D)) := by
  obtain ⟨k0, k1, k2, k3, k4, k5, k6⟩ := k
  have e : ∀ b j, b ≠ G → ((w'.setCell ⟨G, 0, none⟩ (.string T)).setCell ⟨G, 1, none⟩ (.string D)).cell? ⟨b, j, none⟩ = w'.cell? ⟨b, j, none⟩ := fun b j hb => by
    rw [World.cell?_setCell_other _ _ _ _ (fun e => by injection e; omega), World.cell?_setCell_other _ _ _ _ (fun e => by injection e; omega)]
  exact ⟨(e g 0 h1).trans k0, (e g 1 h1).trans k1, (e h 0 h2).trans k2, (e h 1 h2).trans k3, by simpa [World.setCell] using k4, by simpa [World.setCell] using k5, (k6.setCell h3 _).setCell h3 _⟩

set_option maxRecDepth 100000 in
set_option maxHeartbeats 8000000 in
theorem holds_any (t d u p n b : ByteArray) (hu : u.size ≤ 5000) (hp : p.size ≤ 5000) (hn : n.size ≤ 5000) (hb : b.size ≤ 5000) (w : World) :
    Calls Try.prog 31 #[.agg #[.string t, .string d], .agg #[.string u, .string p], .string n, .string b] w fun e w' => e = .returned (.bool (holdsC t d u p n b)) ∧ Below w.heap.size w w' := by
  have c1 := Lib.hid (fun w => kind_any t w)
  have c2 := Lib.hid (fun w => cred_any (kindN t) u p n b hu hp hn hb w)
  have HF : Hid (holdsC t d u p n b = (decide (credE (kindN t) u p n = 0) && decide ((credT (kindN t) u p n, credD (kindN t) u p n b) = (t, d)))) := rfl
  generalize holdsC t d u p n b = R at *
  generalize credT (kindN t) u p n = T at *
  generalize credD (kindN t) u p n b = D at *
  generalize credE (kindN t) u p n = E at *
  generalize kindN t = K at *
  clear hu hp hn hb
  obtain ⟨w3, hw3⟩ : ∃ w3, ((w.alloc (.cells #[.string t, .string d] 42)).alloc (.cells #[.string u, .string p] 50)) = w3 := ⟨_, rfl⟩
  have hK : KeepH w w.heap.size (w.heap.size + 1) t d u p w3 := by
    have h1 := (Two.new w t d 42).below ((Below.refl _ _).alloc (Nat.le_refl _) (.cells #[.string u, .string p] 50))
    have h2 := Two.new (w.alloc (.cells #[.string t, .string d] 42)) u p 50
    simp only [World.size_alloc] at h2
    rw [← hw3]
    exact ⟨h1.1, h1.2.1, h2.1, h2.2.1, h1.2.2, h2.2.2, ((Below.refl _ w).alloc (Nat.le_refl _) _).alloc (by simp) _⟩
  have HK := Lib.hid hK
  obtain ⟨h0, h1, h2, h3, h4, h5, h6⟩ := hK
  have HW := Lib.hid hw3
  clear hw3
  go_enter Try.func31, Try.ntmps31
  go_wp2_with fail
  rw [HW.out]
  clear HW
  go_region_held3 (fun w' => w'.cell? ⟨w.heap.size, 0, none⟩ = some (.string t) ∧ w'.cell? ⟨w.heap.size, 1, none⟩ = some (.string d) ∧ w'.cell? ⟨w.heap.size + 1, 0, none⟩ = some (.string u) ∧ w'.cell? ⟨w.heap.size + 1, 1, none⟩ = some (.string p) ∧ w.heap.size < w'.heap.size ∧ w.heap.size + 1 < w'.heap.size ∧ Below w.heap.size w w')
    (first | assumption | exact KeepH.drew HK.out | exact KeepH.call (g := w.heap.size) (h := w.heap.size + 1) (by assumption) hb9 | exact KeepH.alloc (KeepH.drew HK.out) _ | exact KeepH.call (KeepH.drew HK.out) hb9 | exact KeepH.call (KeepH.alloc (KeepH.drew HK.out) _) hb9 | exact KeepH.alloc (KeepH.call (KeepH.drew HK.out) hb9) _ | exact KeepH.store (G := w3.heap.size) (g := w.heap.size) (h := w.heap.size + 1) (by assumption) (by omega) (by omega) (by omega) _ _)
    (first | (go_at_call 24; refine (c1.out _).mono ?_; rintro e w9 ⟨rfl, rfl⟩) | (go_at_call 43; refine (c2.out _).mono ?_; rintro e w9 ⟨rfl, hb9⟩; have hpn := pairNew hb9; obtain ⟨⟨r0, r1, r2⟩, r3, r4⟩ := hpn) | (go_at_call 43; refine (c2.out _).mono ?_; rintro e w9 ⟨rfl, hb9⟩))
  · obtain ⟨k0, k1, k2, k3, k4, k5, hq⟩ := (by assumption : KeepH w w.heap.size (w.heap.size + 1) t d u p (w9.alloc (.cells #[.string T, .string D] 42)))
    obtain ⟨s0, s1, s2⟩ := Two.new w9 T D 42
    have HQ := Lib.hid hq
    clear hb9 hq
    generalize w9.alloc (.cells #[.string T, .string D] 42) = wz at *
    generalize w9.heap.size = G at *
    by_cases hE : E = 0
    · have hE' : (E == 0) = true := by simpa using hE
      have heq := fun w => run_eq42 T D t d w
      have HR : Hid (R = decide ((T, D) = (t, d))) := by unfold Hid; rw [HF.out, decide_eq_true hE]; rfl
      generalize decide ((T, D) = (t, d)) = q at *
      clear HF
      go_wp2
      go_ret
      exact ⟨ret_bool HR.out, HQ.out⟩
    · have hE' : (E == 0) = false := by simpa using hE
      have HR : Hid (R = false) := by unfold Hid; rw [HF.out, decide_eq_false hE]; rfl
      clear hE HF
      go_wp2
      go_ret
      exact ⟨ret_bool HR.out, HQ.out⟩
  all_goals
    have hs2 := (show Pair w9 w3.heap.size { data := #[] } { data := #[] } from ⟨⟨r0, r1, r2⟩, r3, r4⟩).set2 T D
    obtain ⟨⟨s0, s1, s2⟩, s3, s4⟩ := hs2
    obtain ⟨k0, k1, k2, k3, k4, k5, hq⟩ := (by assumption : KeepH w w.heap.size (w.heap.size + 1) t d u p ((w9.setCell ⟨w3.heap.size, 0, none⟩ (.string T)).setCell ⟨w3.heap.size, 1, none⟩ (.string D)))
    have HQ := Lib.hid hq
    clear r0 r1 r2 r3 r4 hb9 hq h0 h1 h2 h3 h4 h5 h6
    generalize (w9.setCell ⟨w3.heap.size, 0, none⟩ (.string T)).setCell ⟨w3.heap.size, 1, none⟩ (.string D) = wz at *
    by_cases hE : E = 0
    · have hE' : (E == 0) = true := by simpa using hE
      have heq := fun w => run_eq42 T D t d w
      have HR : Hid (R = decide ((T, D) = (t, d))) := by unfold Hid; rw [HF.out, decide_eq_true hE]; rfl
      generalize decide ((T, D) = (t, d)) = q at *
      clear HF
      go_wp2
      go_ret
      exact ⟨ret_bool HR.out, HQ.out⟩
    · have hE' : (E == 0) = false := by simpa using hE
      have HR : Hid (R = false) := by unfold Hid; rw [HF.out, decide_eq_false hE]; rfl
      clear hE HF
      go_wp2
      go_ret
      exact ⟨ret_bool HR.out, HQ.out⟩

set_option maxRecDepth 100000 in
set_option maxHeartbeats 8000000 in
theorem refHolds_any (t d u p n b : ByteArray) (hu : u.size ≤ 5000) (hp : p.size ≤ 5000) (hn : n.size ≤ 5000) (hb : b.size ≤ 5000) (w : World) :
    Calls Try.prog 32 #[.agg #[.string t, .string d], .agg #[.string u, .string p], .string n, .string b] w fun e w' => e = .returned (.bool (holdsC t d u p n b)) ∧ Below w.heap.size w w' := by
  have c1 := Lib.hid (fun w => refKind_any t w)
  have c2 := Lib.hid (fun w => refCred_any (kindN t) u p n b hu hp hn hb w)
  have HF : Hid (holdsC t d u p n b = (decide (credE (kindN t) u p n = 0) && decide ((credT (kindN t) u p n, credD (kindN t) u p n b) = (t, d)))) := rfl
  generalize holdsC t d u p n b = R at *
  generalize credT (kindN t) u p n = T at *
  generalize credD (kindN t) u p n b = D at *
  generalize credE (kindN t) u p n = E at *
  generalize kindN t = K at *
  clear hu hp hn hb
  obtain ⟨w3, hw3⟩ : ∃ w3, ((w.alloc (.cells #[.string t, .string d] 42)).alloc (.cells #[.string u, .string p] 40)) = w3 := ⟨_, rfl⟩
  have hK : KeepH w w.heap.size (w.heap.size + 1) t d u p w3 := by
    have h1 := (Two.new w t d 42).below ((Below.refl _ _).alloc (Nat.le_refl _) (.cells #[.string u, .string p] 40))
    have h2 := Two.new (w.alloc (.cells #[.string t, .string d] 42)) u p 40
    simp only [World.size_alloc] at h2
    rw [← hw3]
    exact ⟨h1.1, h1.2.1, h2.1, h2.2.1, h1.2.2, h2.2.2, ((Below.refl _ w).alloc (Nat.le_refl _) _).alloc (by simp) _⟩
  have HK := Lib.hid hK
  obtain ⟨h0, h1, h2, h3, h4, h5, h6⟩ := hK
  have HW := Lib.hid hw3
  clear hw3
  go_enter Try.func32, Try.ntmps32
  go_wp2_with fail
  rw [HW.out]
  clear HW
  go_region_held3 (fun w' => w'.cell? ⟨w.heap.size, 0, none⟩ = some (.string t) ∧ w'.cell? ⟨w.heap.size, 1, none⟩ = some (.string d) ∧ w'.cell? ⟨w.heap.size + 1, 0, none⟩ = some (.string u) ∧ w'.cell? ⟨w.heap.size + 1, 1, none⟩ = some (.string p) ∧ w.heap.size < w'.heap.size ∧ w.heap.size + 1 < w'.heap.size ∧ Below w.heap.size w w')
    (first | assumption | exact KeepH.drew HK.out | exact KeepH.call (g := w.heap.size) (h := w.heap.size + 1) (by assumption) hb9 | exact KeepH.alloc (KeepH.drew HK.out) _ | exact KeepH.call (KeepH.drew HK.out) hb9 | exact KeepH.call (KeepH.alloc (KeepH.drew HK.out) _) hb9 | exact KeepH.alloc (KeepH.call (KeepH.drew HK.out) hb9) _ | exact KeepH.store (G := w3.heap.size) (g := w.heap.size) (h := w.heap.size + 1) (by assumption) (by omega) (by omega) (by omega) _ _)
    (first | (go_at_call 25; refine (c1.out _).mono ?_; rintro e w9 ⟨rfl, rfl⟩) | (go_at_call 21; refine (c2.out _).mono ?_; rintro e w9 ⟨rfl, hb9⟩; have hpn := pairNew hb9; obtain ⟨⟨r0, r1, r2⟩, r3, r4⟩ := hpn) | (go_at_call 21; refine (c2.out _).mono ?_; rintro e w9 ⟨rfl, hb9⟩))
  · obtain ⟨k0, k1, k2, k3, k4, k5, hq⟩ := (by assumption : KeepH w w.heap.size (w.heap.size + 1) t d u p (w9.alloc (.cells #[.string T, .string D] 42)))
    obtain ⟨s0, s1, s2⟩ := Two.new w9 T D 42
    have HQ := Lib.hid hq
    clear hb9 hq
    generalize w9.alloc (.cells #[.string T, .string D] 42) = wz at *
    generalize w9.heap.size = G at *
    by_cases hE : E = 0
    · have hE' : (E == 0) = true := by simpa using hE
      have heq := fun w => run_eq42 T D t d w
      have HR : Hid (R = decide ((T, D) = (t, d))) := by unfold Hid; rw [HF.out, decide_eq_true hE]; rfl
      generalize decide ((T, D) = (t, d)) = q at *
      clear HF
      go_wp2
      go_ret
      exact ⟨ret_bool HR.out, HQ.out⟩
    · have hE' : (E == 0) = false := by simpa using hE
      have HR : Hid (R = false) := by unfold Hid; rw [HF.out, decide_eq_false hE]; rfl
      clear hE HF
      go_wp2
      go_ret
      exact ⟨ret_bool HR.out, HQ.out⟩
  all_goals
    have hs2 := (show Pair w9 w3.heap.size { data := #[] } { data := #[] } from ⟨⟨r0, r1, r2⟩, r3, r4⟩).set2 T D
    obtain ⟨⟨s0, s1, s2⟩, s3, s4⟩ := hs2
    obtain ⟨k0, k1, k2, k3, k4, k5, hq⟩ := (by assumption : KeepH w w.heap.size (w.heap.size + 1) t d u p ((w9.setCell ⟨w3.heap.size, 0, none⟩ (.string T)).setCell ⟨w3.heap.size, 1, none⟩ (.string D)))
    have HQ := Lib.hid hq
    clear r0 r1 r2 r3 r4 hb9 hq h0 h1 h2 h3 h4 h5 h6
    generalize (w9.setCell ⟨w3.heap.size, 0, none⟩ (.string T)).setCell ⟨w3.heap.size, 1, none⟩ (.string D) = wz at *
    by_cases hE : E = 0
    · have hE' : (E == 0) = true := by simpa using hE
      have heq := fun w => run_eq42 T D t d w
      have HR : Hid (R = decide ((T, D) = (t, d))) := by unfold Hid; rw [HF.out, decide_eq_true hE]; rfl
      generalize decide ((T, D) = (t, d)) = q at *
      clear HF
      go_wp2
      go_ret
      exact ⟨ret_bool HR.out, HQ.out⟩
    · have hE' : (E == 0) = false := by simpa using hE
      have HR : Hid (R = false) := by unfold Hid; rw [HF.out, decide_eq_false hE]; rfl
      clear hE HF
      go_wp2
      go_ret
      exact ⟨ret_bool HR.out, HQ.out⟩

end Go.Proofs.Yteheibgdjpkeaaa
