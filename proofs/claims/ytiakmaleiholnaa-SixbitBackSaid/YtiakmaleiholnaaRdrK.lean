/- The program's reader: take at each of its looks. No condition but the text's size. -/
import Derived.Test.YtiakmaleiholnaaRdrT
namespace Go.Proofs.Ytiakmaleiholnaa
open Go.RowKit

def tkS (s : ByteArray) (i : Nat) (n e : Int) : ByteArray := if e = 0 then s.extract i (i + n.toNat) else ByteArray.empty
def tkI (i : Nat) (n e : Int) : Nat := if e = 0 then i + n.toNat else i

theorem take_err (b : Nat) (s : ByteArray) (i : Nat) (e0 : Int) (v : Value) (w : World) (h : Rd w b s i e0) (he : e0 ≠ 0) :
    Calls Try.prog 62 #[.pointer (some ⟨b, 0, none⟩), v] w fun e w' => e = .returned (.string ByteArray.empty) ∧ w = w' := by
  have c2 := h.c2
  have hzb : (e0 == 0) = false := by simpa using he
  clear h he
  go_enter Try.func62, Try.ntmps62
  go_wp2
  go_ret
  exact ⟨rfl, rfl⟩

set_option maxHeartbeats 1000000 in
theorem take64 (b : Nat) (s : ByteArray) (i : Nat) (n e1 : Int) (w : World) (h : Rd w b s i 0) (hi : i ≤ s.size) (hs : s.size ≤ 140737488355328)
    (hc : Calls Try.prog 64 #[.pointer (some ⟨b, 0, none⟩)] w fun e w' => e = .returned (.tuple #[.int .i64 n, .int .i64 e1]) ∧ Below w.heap.size w w') (hn : e1 = 0 → 0 ≤ n ∧ (i : Int) + n ≤ s.size) :
    Calls Try.prog 62 #[.pointer (some ⟨b, 0, none⟩), .func (.func 64) #[.pointer (some ⟨b, 0, none⟩)] #[]] w fun e w' => e = .returned (.string (tkS s i n e1)) ∧ Rd w' b s (tkI i n e1) e1 ∧ Only b w w' := by
  have c2 := h.c2
  have H := Lib.hid h
  have c := Lib.hid hc
  clear h hc
  by_cases hz : e1 = 0
  · obtain ⟨hn0, hn1⟩ := hn hz
    subst hz
    obtain ⟨m, rfl⟩ := Int.eq_ofNat_of_zero_le hn0
    have hm : i + m ≤ s.size := by omega
    have HS : Hid (tkS s i (m : Int) 0 = s.extract i (i + m)) := by unfold Hid tkS; rw [if_pos rfl]; rfl
    have HI : Hid (tkI i (m : Int) 0 = i + m) := by unfold Hid tkI; rw [if_pos rfl]; rfl
    clear hn hn0 hn1
    go_enter Try.func62, Try.ntmps62
    go_wp2_with (go_at_call 64; with_reducible refine c.out.mono ?_; rintro e w1 ⟨rfl, hb1⟩; have H1 := H.out.below hb1 H.out.lt; have HB := Lib.hid (Only.of_below (b := b) hb1); have d0 := H1.c0; have d1 := H1.c1; have d2 := H1.f1; have HH := Lib.hid H1; clear hb1 c2 H1)
    go_quiet (fail)
    go_wp2
    go_ret
    exact ⟨ret_bytes' (by rw [HS.out]), by rw [HI.out]; simpa using (HH.out.drewN _).setAt (i + m), (HB.out.trans (Only.drewN _ _ _)).trans (Only.set _ _ _ _)⟩
  · have hzb : (e1 == 0) = false := by simpa using hz
    have HS : Hid (tkS s i n e1 = ByteArray.empty) := by unfold Hid tkS; rw [if_neg hz]
    have HI : Hid (tkI i n e1 = i) := by unfold Hid tkI; rw [if_neg hz]
    clear hn hz
    go_enter Try.func62, Try.ntmps62
    go_wp2_with (go_at_call 64; with_reducible refine c.out.mono ?_; rintro e w1 ⟨rfl, hb1⟩; have H1 := H.out.below hb1 H.out.lt; have HB := Lib.hid (Only.of_below (b := b) hb1); have d1 := H1.c2; have d2 := H1.f2; have HH := Lib.hid H1; clear hb1 c2 H1)
    go_ret
    exact ⟨ret_bytes' (by rw [HS.out]; rfl), by rw [HI.out]; exact HH.out.setErr e1, HB.out.trans (Only.set _ _ _ _)⟩

set_option maxHeartbeats 1000000 in
theorem take63 (b : Nat) (s : ByteArray) (i : Nat) (n e1 : Int) (w : World) (h : Rd w b s i 0) (hi : i ≤ s.size) (hs : s.size ≤ 140737488355328)
    (hc : Calls Try.prog 63 #[.pointer (some ⟨b, 0, none⟩)] w fun e w' => e = .returned (.tuple #[.int .i64 n, .int .i64 e1]) ∧ Below w.heap.size w w') (hn : e1 = 0 → 0 ≤ n ∧ (i : Int) + n ≤ s.size) :
    Calls Try.prog 62 #[.pointer (some ⟨b, 0, none⟩), .func (.func 63) #[.pointer (some ⟨b, 0, none⟩)] #[]] w fun e w' => e = .returned (.string (tkS s i n e1)) ∧ Rd w' b s (tkI i n e1) e1 ∧ Only b w w' := by
  have c2 := h.c2
  have H := Lib.hid h
  have c := Lib.hid hc
  clear h hc
  by_cases hz : e1 = 0
  · obtain ⟨hn0, hn1⟩ := hn hz
    subst hz
    obtain ⟨m, rfl⟩ := Int.eq_ofNat_of_zero_le hn0
    have hm : i + m ≤ s.size := by omega
    have HS : Hid (tkS s i (m : Int) 0 = s.extract i (i + m)) := by unfold Hid tkS; rw [if_pos rfl]; rfl
    have HI : Hid (tkI i (m : Int) 0 = i + m) := by unfold Hid tkI; rw [if_pos rfl]; rfl
    clear hn hn0 hn1
    go_enter Try.func62, Try.ntmps62
    go_wp2_with (go_at_call 63; with_reducible refine c.out.mono ?_; rintro e w1 ⟨rfl, hb1⟩; have H1 := H.out.below hb1 H.out.lt; have HB := Lib.hid (Only.of_below (b := b) hb1); have d0 := H1.c0; have d1 := H1.c1; have d2 := H1.f1; have HH := Lib.hid H1; clear hb1 c2 H1)
    go_quiet (fail)
    go_wp2
    go_ret
    exact ⟨ret_bytes' (by rw [HS.out]), by rw [HI.out]; simpa using (HH.out.drewN _).setAt (i + m), (HB.out.trans (Only.drewN _ _ _)).trans (Only.set _ _ _ _)⟩
  · have hzb : (e1 == 0) = false := by simpa using hz
    have HS : Hid (tkS s i n e1 = ByteArray.empty) := by unfold Hid tkS; rw [if_neg hz]
    have HI : Hid (tkI i n e1 = i) := by unfold Hid tkI; rw [if_neg hz]
    clear hn hz
    go_enter Try.func62, Try.ntmps62
    go_wp2_with (go_at_call 63; with_reducible refine c.out.mono ?_; rintro e w1 ⟨rfl, hb1⟩; have H1 := H.out.below hb1 H.out.lt; have HB := Lib.hid (Only.of_below (b := b) hb1); have d1 := H1.c2; have d2 := H1.f2; have HH := Lib.hid H1; clear hb1 c2 H1)
    go_ret
    exact ⟨ret_bytes' (by rw [HS.out]; rfl), by rw [HI.out]; exact HH.out.setErr e1, HB.out.trans (Only.set _ _ _ _)⟩

set_option maxHeartbeats 1000000 in
theorem take68 (b : Nat) (s : ByteArray) (i : Nat) (n e1 : Int) (w : World) (h : Rd w b s i 0) (hi : i ≤ s.size) (hs : s.size ≤ 140737488355328)
    (hc : Calls Try.prog 68 #[.pointer (some ⟨b, 0, none⟩)] w fun e w' => e = .returned (.tuple #[.int .i64 n, .int .i64 e1]) ∧ Below w.heap.size w w') (hn : e1 = 0 → 0 ≤ n ∧ (i : Int) + n ≤ s.size) :
    Calls Try.prog 62 #[.pointer (some ⟨b, 0, none⟩), .func (.func 68) #[.pointer (some ⟨b, 0, none⟩)] #[]] w fun e w' => e = .returned (.string (tkS s i n e1)) ∧ Rd w' b s (tkI i n e1) e1 ∧ Only b w w' := by
  have c2 := h.c2
  have H := Lib.hid h
  have c := Lib.hid hc
  clear h hc
  by_cases hz : e1 = 0
  · obtain ⟨hn0, hn1⟩ := hn hz
    subst hz
    obtain ⟨m, rfl⟩ := Int.eq_ofNat_of_zero_le hn0
    have hm : i + m ≤ s.size := by omega
    have HS : Hid (tkS s i (m : Int) 0 = s.extract i (i + m)) := by unfold Hid tkS; rw [if_pos rfl]; rfl
    have HI : Hid (tkI i (m : Int) 0 = i + m) := by unfold Hid tkI; rw [if_pos rfl]; rfl
    clear hn hn0 hn1
    go_enter Try.func62, Try.ntmps62
    go_wp2_with (go_at_call 68; with_reducible refine c.out.mono ?_; rintro e w1 ⟨rfl, hb1⟩; have H1 := H.out.below hb1 H.out.lt; have HB := Lib.hid (Only.of_below (b := b) hb1); have d0 := H1.c0; have d1 := H1.c1; have d2 := H1.f1; have HH := Lib.hid H1; clear hb1 c2 H1)
    go_quiet (fail)
    go_wp2
    go_ret
    exact ⟨ret_bytes' (by rw [HS.out]), by rw [HI.out]; simpa using (HH.out.drewN _).setAt (i + m), (HB.out.trans (Only.drewN _ _ _)).trans (Only.set _ _ _ _)⟩
  · have hzb : (e1 == 0) = false := by simpa using hz
    have HS : Hid (tkS s i n e1 = ByteArray.empty) := by unfold Hid tkS; rw [if_neg hz]
    have HI : Hid (tkI i n e1 = i) := by unfold Hid tkI; rw [if_neg hz]
    clear hn hz
    go_enter Try.func62, Try.ntmps62
    go_wp2_with (go_at_call 68; with_reducible refine c.out.mono ?_; rintro e w1 ⟨rfl, hb1⟩; have H1 := H.out.below hb1 H.out.lt; have HB := Lib.hid (Only.of_below (b := b) hb1); have d1 := H1.c2; have d2 := H1.f2; have HH := Lib.hid H1; clear hb1 c2 H1)
    go_ret
    exact ⟨ret_bytes' (by rw [HS.out]; rfl), by rw [HI.out]; exact HH.out.setErr e1, HB.out.trans (Only.set _ _ _ _)⟩

set_option maxHeartbeats 1000000 in
theorem take65 (b : Nat) (s : ByteArray) (i : Nat) (n e1 : Int) (x y : Nat) (w : World) (h : Rd w b s i 0) (hi : i ≤ s.size) (hs : s.size ≤ 140737488355328)
    (hc : Calls Try.prog 65 #[.pointer (some ⟨x, 0, none⟩), .pointer (some ⟨y, 0, none⟩)] w fun e w' => e = .returned (.tuple #[.int .i64 n, .int .i64 e1]) ∧ Below w.heap.size w w') (hn : e1 = 0 → 0 ≤ n ∧ (i : Int) + n ≤ s.size) :
    Calls Try.prog 62 #[.pointer (some ⟨b, 0, none⟩), .func (.func 65) #[] #[.pointer (some ⟨x, 0, none⟩), .pointer (some ⟨y, 0, none⟩)]] w fun e w' => e = .returned (.string (tkS s i n e1)) ∧ Rd w' b s (tkI i n e1) e1 ∧ Only b w w' := by
  have c2 := h.c2
  have H := Lib.hid h
  have c := Lib.hid hc
  clear h hc
  by_cases hz : e1 = 0
  · obtain ⟨hn0, hn1⟩ := hn hz
    subst hz
    obtain ⟨m, rfl⟩ := Int.eq_ofNat_of_zero_le hn0
    have hm : i + m ≤ s.size := by omega
    have HS : Hid (tkS s i (m : Int) 0 = s.extract i (i + m)) := by unfold Hid tkS; rw [if_pos rfl]; rfl
    have HI : Hid (tkI i (m : Int) 0 = i + m) := by unfold Hid tkI; rw [if_pos rfl]; rfl
    clear hn hn0 hn1
    go_enter Try.func62, Try.ntmps62
    go_wp2_with (go_at_call 65; with_reducible refine c.out.mono ?_; rintro e w1 ⟨rfl, hb1⟩; have H1 := H.out.below hb1 H.out.lt; have HB := Lib.hid (Only.of_below (b := b) hb1); have d0 := H1.c0; have d1 := H1.c1; have d2 := H1.f1; have HH := Lib.hid H1; clear hb1 c2 H1)
    go_quiet (fail)
    go_wp2
    go_ret
    exact ⟨ret_bytes' (by rw [HS.out]), by rw [HI.out]; simpa using (HH.out.drewN _).setAt (i + m), (HB.out.trans (Only.drewN _ _ _)).trans (Only.set _ _ _ _)⟩
  · have hzb : (e1 == 0) = false := by simpa using hz
    have HS : Hid (tkS s i n e1 = ByteArray.empty) := by unfold Hid tkS; rw [if_neg hz]
    have HI : Hid (tkI i n e1 = i) := by unfold Hid tkI; rw [if_neg hz]
    clear hn hz
    go_enter Try.func62, Try.ntmps62
    go_wp2_with (go_at_call 65; with_reducible refine c.out.mono ?_; rintro e w1 ⟨rfl, hb1⟩; have H1 := H.out.below hb1 H.out.lt; have HB := Lib.hid (Only.of_below (b := b) hb1); have d1 := H1.c2; have d2 := H1.f2; have HH := Lib.hid H1; clear hb1 c2 H1)
    go_ret
    exact ⟨ret_bytes' (by rw [HS.out]; rfl), by rw [HI.out]; exact HH.out.setErr e1, HB.out.trans (Only.set _ _ _ _)⟩

end Go.Proofs.Ytiakmaleiholnaa
