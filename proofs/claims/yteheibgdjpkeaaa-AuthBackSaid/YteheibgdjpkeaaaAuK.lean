/- auth: Cred, the program's. No condition but sizes. -/
import Derived.Test.YteheibgdjpkeaaaAuS
namespace Go.Proofs.Yteheibgdjpkeaaa
open Go.RowKit

theorem ret_cred {T T' D D' : ByteArray} {e e' : Int} (h1 : T' = T) (h2 : D' = D) (h3 : e' = e) : Ending.returned (.tuple #[.agg #[.string T, .string D], .int .i64 e]) = Ending.returned (.tuple #[.agg #[.string T', .string D'], .int .i64 e']) := by rw [h1, h2, h3]

set_option maxRecDepth 100000 in
set_option maxHeartbeats 4000000 in
theorem cred_bad (k : Int) (u p n b : ByteArray) (hk : k < 1 ∨ 3 < k) (w : World) :
    Calls Try.prog 43 #[.int .i64 k, .agg #[.string u, .string p], .string n, .string b] w fun e w' => e = .returned (.tuple #[.agg #[.string { data := #[] }, .string { data := #[] }], .int .i64 5]) ∧ Below w.heap.size w w' := by
  have c1 := Lib.hid (type_any k)
  rw [typ_none k hk] at c1
  clear hk
  go_enter Try.func43, Try.ntmps43
  go_wp2_with (go_at_call 22; with_reducible refine (c1.out _).mono ?_; rintro e w' ⟨rfl, rfl⟩)
  refine bodyPost_ret (v := .tuple #[.agg #[.string { data := #[] }, .string { data := #[] }], .int .i64 5]) (by simp [results, Try.results43, go_sem]) rfl ⟨rfl, ?_⟩
  exact (((Below.refl _ w).alloc (Nat.le_refl _) _).alloc (by simp) _).alloc (by simp; omega) _

theorem three_new (w : World) (u p T : ByteArray) : ∃ w3, w3 = (((w.alloc (.cells #[.string u, .string p] 50)).alloc (.cells #[.string { data := #[] }, .string { data := #[] }] 42)).alloc (.cells #[.string T, .string { data := #[] }] 42)) ∧
    Pair w3 w.heap.size u p ∧ Pair w3 (w.heap.size + 1) { data := #[] } { data := #[] } ∧ Pair w3 (w.heap.size + 1 + 1) T { data := #[] } ∧ Below w.heap.size w w3 := by
  refine ⟨_, rfl, ?_, ?_, ?_, (((Below.refl _ w).alloc (Nat.le_refl _) _).alloc (by simp) _).alloc (by simp; omega) _⟩
  · exact ((Pair.new w u p 50).below ((Below.refl _ _).alloc (Nat.le_refl _) _)).below ((Below.refl _ _).alloc (Nat.le_refl _) _)
  · have h := (Pair.new (w.alloc (.cells #[.string u, .string p] 50)) { data := #[] } { data := #[] } 42).below ((Below.refl _ _).alloc (Nat.le_refl _) (.cells #[.string T, .string { data := #[] }] 42))
    simpa using h
  · have h := Pair.new ((w.alloc (.cells #[.string u, .string p] 50)).alloc (.cells #[.string { data := #[] }, .string { data := #[] }] 42)) T { data := #[] } 42
    simpa using h

set_option maxRecDepth 100000 in
set_option maxHeartbeats 4000000 in
theorem cred_chk (k : Int) (u p n b : ByteArray) (hu : u.size ≤ 5000) (hp : p.size ≤ 5000) (hn : n.size ≤ 5000) (hb : b.size ≤ 5000) (hk1 : 1 ≤ k) (hk3 : k ≤ 3) (hc : chkE u p ≠ 0) (w : World) :
    Calls Try.prog 43 #[.int .i64 k, .agg #[.string u, .string p], .string n, .string b] w fun e w' => e = .returned (.tuple #[.agg #[.string { data := #[] }, .string { data := #[] }], .int .i64 (chkE u p)]) ∧ Below w.heap.size w w' := by
  have hsz := typ_size k hk1 hk3
  have hte := empty_no hsz
  have c1 := Lib.hid (type_any k)
  have c2 := Lib.hid (fun w => check_any u p (by omega) (by omega) w)
  generalize chkE u p = E at *
  have hE : (E == 0) = false := by simpa using hc
  generalize typ k = T at *
  obtain ⟨w3, hw3, hP0, hP1, hP2, hB3⟩ := three_new w u p T
  obtain ⟨⟨a0, a1, a2⟩, a3, a4⟩ := hP0
  have HP0 : Hid (Pair w3 w.heap.size u p) := ⟨⟨a0, a1, a2⟩, a3, a4⟩
  have HP1 := Lib.hid hP1
  have HP2 := Lib.hid hP2
  have HB3 := Lib.hid hB3
  obtain ⟨⟨b0, b1, b2⟩, _⟩ := hP2
  have b0' : Hid (w3 = (((w.alloc (.cells #[.string u, .string p] 50)).alloc (.cells #[.string { data := #[] }, .string { data := #[] }] 42)).alloc (.cells #[.string T, .string { data := #[] }] 42))) := hw3
  clear hw3 hP1 hB3 hsz hc hk1 hk3
  go_enter Try.func43, Try.ntmps43
  go_wp2_with (go_at_call 22; with_reducible refine (c1.out _).mono ?_; rintro e w' ⟨rfl, rfl⟩)
  rw [← b0'.out]
  clear b0' c1
  refine (c2.out _).mono ?_
  rintro e w4 ⟨rfl, hb4⟩
  obtain ⟨⟨d0, d1, d2⟩, d3, d4⟩ := HP1.out.below hb4
  obtain ⟨⟨e0, e1, e2⟩, e3, e4⟩ := HP2.out.below hb4
  obtain ⟨⟨f0, f1, f2⟩, f3, f4⟩ := HP0.out.below hb4
  have HP14 : Hid (Pair w4 (w.heap.size + 1) { data := #[] } { data := #[] }) := HP1.out.below hb4
  have HP24 : Hid (Pair w4 (w.heap.size + 1 + 1) T { data := #[] }) := HP2.out.below hb4
  have HP04 : Hid (Pair w4 w.heap.size u p) := HP0.out.below hb4
  have HB4 := Lib.hid (HB3.out.trans (hb4.mono HB3.out.size))
  clear a0 a1 a2 a3 a4 b0 b1 b2 HP0 HP1 HP2 HB3 hb4
  go_wp2_with fail
  refine bodyPost_ret (v := .tuple #[.agg #[.string { data := #[] }, .string { data := #[] }], .int .i64 E]) (by simp [results, Try.results43, go_sem, d0, d1]) rfl ⟨rfl, ?_⟩
  exact (HB4.out.setCell (by simp) _).setCell (by simp) _

set_option maxRecDepth 100000 in
set_option maxHeartbeats 4000000 in
theorem cred_long (k : Int) (u p n b : ByteArray) (hu : u.size ≤ 5000) (hp : p.size ≤ 5000) (hn : n.size ≤ 5000) (hb : b.size ≤ 5000) (hk1 : 1 ≤ k) (hk3 : k ≤ 3) (hc : chkE u p = 0) (hl : 60 < n.size) (w : World) :
    Calls Try.prog 43 #[.int .i64 k, .agg #[.string u, .string p], .string n, .string b] w fun e w' => e = .returned (.tuple #[.agg #[.string { data := #[] }, .string { data := #[] }], .int .i64 8]) ∧ Below w.heap.size w w' := by
  have hsz := typ_size k hk1 hk3
  have hte := empty_no hsz
  have c1 := Lib.hid (type_any k)
  have c2 := Lib.hid (fun w => check_any u p (by omega) (by omega) w)
  rw [hc] at c2
  have hl' : (60 : Int) < n.size := by omega
  generalize typ k = T at *
  obtain ⟨w3, hw3, hP0, hP1, hP2, hB3⟩ := three_new w u p T
  obtain ⟨⟨a0, a1, a2⟩, a3, a4⟩ := hP0
  have HP0 : Hid (Pair w3 w.heap.size u p) := ⟨⟨a0, a1, a2⟩, a3, a4⟩
  have HP1 := Lib.hid hP1
  have HP2 := Lib.hid hP2
  have HB3 := Lib.hid hB3
  obtain ⟨⟨b0, b1, b2⟩, _⟩ := hP2
  have b0' : Hid (w3 = (((w.alloc (.cells #[.string u, .string p] 50)).alloc (.cells #[.string { data := #[] }, .string { data := #[] }] 42)).alloc (.cells #[.string T, .string { data := #[] }] 42))) := hw3
  clear hw3 hP1 hB3 hsz hc hk1 hk3 hl
  go_enter Try.func43, Try.ntmps43
  go_wp2_with (go_at_call 22; with_reducible refine (c1.out _).mono ?_; rintro e w' ⟨rfl, rfl⟩)
  rw [← b0'.out]
  clear b0' c1
  refine (c2.out _).mono ?_
  rintro e w4 ⟨rfl, hb4⟩
  obtain ⟨⟨d0, d1, d2⟩, d3, d4⟩ := HP1.out.below hb4
  obtain ⟨⟨e0, e1, e2⟩, e3, e4⟩ := HP2.out.below hb4
  obtain ⟨⟨f0, f1, f2⟩, f3, f4⟩ := HP0.out.below hb4
  have HP14 : Hid (Pair w4 (w.heap.size + 1) { data := #[] } { data := #[] }) := HP1.out.below hb4
  have HP24 : Hid (Pair w4 (w.heap.size + 1 + 1) T { data := #[] }) := HP2.out.below hb4
  have HP04 : Hid (Pair w4 w.heap.size u p) := HP0.out.below hb4
  have HB4 := Lib.hid (HB3.out.trans (hb4.mono HB3.out.size))
  clear a0 a1 a2 a3 a4 b0 b1 b2 HP0 HP1 HP2 HB3 hb4
  go_wp2_with fail
  refine bodyPost_ret (v := .tuple #[.agg #[.string { data := #[] }, .string { data := #[] }], .int .i64 8]) (by simp [results, Try.results43, go_sem, d0, d1]) rfl ⟨rfl, ?_⟩
  exact (HB4.out.setCell (by simp) _).setCell (by simp) _

set_option maxRecDepth 100000 in
set_option maxHeartbeats 4000000 in
theorem cred_nonce (k : Int) (u p n b : ByteArray) (hu : u.size ≤ 5000) (hp : p.size ≤ 5000) (hn : n.size ≤ 5000) (hb : b.size ≤ 5000) (hk1 : 1 ≤ k) (hk3 : k ≤ 3) (hc : chkE u p = 0) (hl : ¬ 60 < n.size) (hq : okB 33 n = false) (w : World) :
    Calls Try.prog 43 #[.int .i64 k, .agg #[.string u, .string p], .string n, .string b] w fun e w' => e = .returned (.tuple #[.agg #[.string { data := #[] }, .string { data := #[] }], .int .i64 8]) ∧ Below w.heap.size w w' := by
  have hsz := typ_size k hk1 hk3
  have hte := empty_no hsz
  have c1 := Lib.hid (type_any k)
  have c2 := Lib.hid (fun w => check_any u p (by omega) (by omega) w)
  rw [hc] at c2
  have hl' : ¬ (60 : Int) < n.size := by omega
  have c3 := Lib.hid (fun w => within_any 33 n w (by omega))
  rw [hq] at c3
  generalize typ k = T at *
  obtain ⟨w3, hw3, hP0, hP1, hP2, hB3⟩ := three_new w u p T
  obtain ⟨⟨a0, a1, a2⟩, a3, a4⟩ := hP0
  have HP0 : Hid (Pair w3 w.heap.size u p) := ⟨⟨a0, a1, a2⟩, a3, a4⟩
  have HP1 := Lib.hid hP1
  have HP2 := Lib.hid hP2
  have HB3 := Lib.hid hB3
  obtain ⟨⟨b0, b1, b2⟩, _⟩ := hP2
  have b0' : Hid (w3 = (((w.alloc (.cells #[.string u, .string p] 50)).alloc (.cells #[.string { data := #[] }, .string { data := #[] }] 42)).alloc (.cells #[.string T, .string { data := #[] }] 42))) := hw3
  clear hw3 hP1 hB3 hsz hc hk1 hk3 hl hq
  go_enter Try.func43, Try.ntmps43
  go_wp2_with (go_at_call 22; with_reducible refine (c1.out _).mono ?_; rintro e w' ⟨rfl, rfl⟩)
  rw [← b0'.out]
  clear b0' c1
  refine (c2.out _).mono ?_
  rintro e w4 ⟨rfl, hb4⟩
  obtain ⟨⟨d0, d1, d2⟩, d3, d4⟩ := HP1.out.below hb4
  obtain ⟨⟨e0, e1, e2⟩, e3, e4⟩ := HP2.out.below hb4
  obtain ⟨⟨f0, f1, f2⟩, f3, f4⟩ := HP0.out.below hb4
  have HP14 : Hid (Pair w4 (w.heap.size + 1) { data := #[] } { data := #[] }) := HP1.out.below hb4
  have HP24 : Hid (Pair w4 (w.heap.size + 1 + 1) T { data := #[] }) := HP2.out.below hb4
  have HP04 : Hid (Pair w4 w.heap.size u p) := HP0.out.below hb4
  have HB4 := Lib.hid (HB3.out.trans (hb4.mono HB3.out.size))
  clear a0 a1 a2 a3 a4 b0 b1 b2 HP0 HP1 HP2 HB3 hb4
  go_wp2_with fail
  refine (c3.out _).mono ?_
  rintro e w5 ⟨rfl, hb5⟩
  obtain ⟨⟨g0, g1, g2⟩, g3, g4⟩ := HP14.out.below hb5
  obtain ⟨⟨i0, i1, i2⟩, i3, i4⟩ := HP24.out.below hb5
  obtain ⟨⟨j0, j1, j2⟩, j3, j4⟩ := HP04.out.below hb5
  have HP15 : Hid (Pair w5 (w.heap.size + 1) { data := #[] } { data := #[] }) := HP14.out.below hb5
  have HP25 : Hid (Pair w5 (w.heap.size + 1 + 1) T { data := #[] }) := HP24.out.below hb5
  have HP05 : Hid (Pair w5 w.heap.size u p) := HP04.out.below hb5
  have HB5 := Lib.hid (HB4.out.trans (hb5.mono HB4.out.size))
  clear d0 d1 d2 d3 d4 e0 e1 e2 e3 e4 f0 f1 f2 f3 f4 HP14 HP24 HP04 HB4 hb5
  go_wp2_with fail
  refine bodyPost_ret (v := .tuple #[.agg #[.string { data := #[] }, .string { data := #[] }], .int .i64 8]) (by simp [results, Try.results43, go_sem, g0, g1]) rfl ⟨rfl, ?_⟩
  exact (HB5.out.setCell (by simp) _).setCell (by simp) _

set_option maxRecDepth 100000 in
set_option maxHeartbeats 4000000 in
theorem cred_ok1 (u p n b : ByteArray) (hu : u.size ≤ 5000) (hp : p.size ≤ 5000) (hn : n.size ≤ 5000) (hb : b.size ≤ 5000) (hc : chkE u p = 0) (hl : ¬ 60 < n.size) (hq : okB 33 n = true) (w : World) :
    Calls Try.prog 43 #[.int .i64 1, .agg #[.string u, .string p], .string n, .string b] w fun e w' => e = .returned (.tuple #[.agg #[.string (typ 1), .string (dataOf 1 u p n b)], .int .i64 0]) ∧ Below w.heap.size w w' := by
  have hsz := typ_size 1 (by decide) (by decide) 
  have hte := empty_no hsz
  have c1 := Lib.hid (type_any 1)
  have c2 := Lib.hid (fun w => check_any u p (by omega) (by omega) w)
  rw [hc] at c2
  have hl' : ¬ (60 : Int) < n.size := by omega
  have c3 := Lib.hid (fun w => within_any 33 n w (by omega))
  rw [hq] at c3
  obtain ⟨hu32, hp32⟩ := chk_small hc
  have y1 : ¬ 9223372036854775807 < u.size + 1 := by omega
  have y2 : ¬ 9223372036854775807 < u.size + 1 + p.size := by omega
  have hkn : (u ++ colon ++ p).size ≤ 65 := by rw [size_app, size_app, colon_size]; omega
  have c5 : Hid (∀ w, Calls Try.prog 49 #[.string (u ++ { data := #[58] } ++ p)] w fun e w' => e = .returned (.string (dataOf 1 u p n b)) ∧ Below w.heap.size w w') := fun w => enc_any (known u p) w (by unfold known; omega)
  generalize hD : dataOf 1 u p n b = D at *
  clear hD hkn
  generalize typ 1 = T at *
  obtain ⟨w3, hw3, hP0, hP1, hP2, hB3⟩ := three_new w u p T
  obtain ⟨⟨a0, a1, a2⟩, a3, a4⟩ := hP0
  have HP0 : Hid (Pair w3 w.heap.size u p) := ⟨⟨a0, a1, a2⟩, a3, a4⟩
  have HP1 := Lib.hid hP1
  have HP2 := Lib.hid hP2
  have HB3 := Lib.hid hB3
  obtain ⟨⟨b0, b1, b2⟩, _⟩ := hP2
  have b0' : Hid (w3 = (((w.alloc (.cells #[.string u, .string p] 50)).alloc (.cells #[.string { data := #[] }, .string { data := #[] }] 42)).alloc (.cells #[.string T, .string { data := #[] }] 42))) := hw3
  have HQ := Lib.hid (rfl : (1 : Nat) = 1)
  clear hw3 hP1 hB3 hsz hc  hl hq
  go_enter Try.func43, Try.ntmps43
  go_wp2_with (go_at_call 22; with_reducible refine (c1.out _).mono ?_; rintro e w' ⟨rfl, rfl⟩)
  rw [← b0'.out]
  clear b0' c1
  refine (c2.out _).mono ?_
  rintro e w4 ⟨rfl, hb4⟩
  obtain ⟨⟨d0, d1, d2⟩, d3, d4⟩ := HP1.out.below hb4
  obtain ⟨⟨e0, e1, e2⟩, e3, e4⟩ := HP2.out.below hb4
  obtain ⟨⟨f0, f1, f2⟩, f3, f4⟩ := HP0.out.below hb4
  have HP14 : Hid (Pair w4 (w.heap.size + 1) { data := #[] } { data := #[] }) := HP1.out.below hb4
  have HP24 : Hid (Pair w4 (w.heap.size + 1 + 1) T { data := #[] }) := HP2.out.below hb4
  have HP04 : Hid (Pair w4 w.heap.size u p) := HP0.out.below hb4
  have HB4 := Lib.hid (HB3.out.trans (hb4.mono HB3.out.size))
  clear a0 a1 a2 a3 a4 b0 b1 b2 HP0 HP1 HP2 HB3 hb4
  go_wp2_with fail
  refine (c3.out _).mono ?_
  rintro e w5 ⟨rfl, hb5⟩
  obtain ⟨⟨g0, g1, g2⟩, g3, g4⟩ := HP14.out.below hb5
  obtain ⟨⟨i0, i1, i2⟩, i3, i4⟩ := HP24.out.below hb5
  obtain ⟨⟨j0, j1, j2⟩, j3, j4⟩ := HP04.out.below hb5
  have HP15 : Hid (Pair w5 (w.heap.size + 1) { data := #[] } { data := #[] }) := HP14.out.below hb5
  have HP25 : Hid (Pair w5 (w.heap.size + 1 + 1) T { data := #[] }) := HP24.out.below hb5
  have HP05 : Hid (Pair w5 w.heap.size u p) := HP04.out.below hb5
  have HB5 := Lib.hid (HB4.out.trans (hb5.mono HB4.out.size))
  clear d0 d1 d2 d3 d4 e0 e1 e2 e3 e4 f0 f1 f2 f3 f4 HP14 HP24 HP04 HB4 hb5
  go_wp2_with fail
  refine (c5.out _).mono ?_
  rintro e w6 ⟨rfl, hb6⟩
  obtain ⟨⟨p60, p61, p62⟩, p63, p64⟩ := HP15.out.below hb6
  obtain ⟨⟨q60, q61, q62⟩, q63, q64⟩ := HP25.out.below hb6
  have HP16 : Hid (Pair w6 (w.heap.size + 1) { data := #[] } { data := #[] }) := HP15.out.below hb6
  have HP26 : Hid (Pair w6 (w.heap.size + 1 + 1) T { data := #[] }) := HP25.out.below hb6
  have HB6 := Lib.hid (HB5.out.trans (hb6.mono HB5.out.size))
  clear HP15 HP25 HB5 hb6
  go_wp2_with fail
  have hR : Hid (Pair (((w6.setCell ⟨w.heap.size + 1 + 1, 1, none⟩ (.string D)).setCell ⟨w.heap.size + 1, 0, none⟩ (.string T)).setCell ⟨w.heap.size + 1, 1, none⟩ (.string D)) (w.heap.size + 1) T D) := (HP16.out.other (c := w.heap.size + 1 + 1) (i := 1) (by omega) (.string D)).set2 T D
  obtain ⟨⟨r0, r1, r2⟩, r3, r4⟩ := hR.out
  refine bodyPost_ret (v := .tuple #[.agg #[.string T, .string D], .int .i64 0]) (by simp [results, Try.results43, go_sem, r0, r1]) rfl ⟨rfl, ?_⟩
  exact ((HB6.out.setCell (by simp; omega) _).setCell (by simp) _).setCell (by simp) _

set_option maxRecDepth 100000 in
set_option maxHeartbeats 4000000 in
theorem cred_ok2 (u p n b : ByteArray) (hu : u.size ≤ 5000) (hp : p.size ≤ 5000) (hn : n.size ≤ 5000) (hb : b.size ≤ 5000) (hc : chkE u p = 0) (hl : ¬ 60 < n.size) (hq : okB 33 n = true) (w : World) :
    Calls Try.prog 43 #[.int .i64 2, .agg #[.string u, .string p], .string n, .string b] w fun e w' => e = .returned (.tuple #[.agg #[.string (typ 2), .string (dataOf 2 u p n b)], .int .i64 0]) ∧ Below w.heap.size w w' := by
  have hsz := typ_size 2 (by decide) (by decide) 
  have hte := empty_no hsz
  have c1 := Lib.hid (type_any 2)
  have c2 := Lib.hid (fun w => check_any u p (by omega) (by omega) w)
  rw [hc] at c2
  have hl' : ¬ (60 : Int) < n.size := by omega
  have c3 := Lib.hid (fun w => within_any 33 n w (by omega))
  rw [hq] at c3
  obtain ⟨hu32, hp32⟩ := chk_small hc
  have y1 : ¬ 9223372036854775807 < u.size + 1 := by omega
  have y2 : ¬ 9223372036854775807 < u.size + 1 + p.size := by omega
  have hkn : (u ++ colon ++ p).size ≤ 65 := by rw [size_app, size_app, colon_size]; omega
  have hs1 := sumB_size (known u p)
  have c5 : Hid (∀ w, Calls Try.prog 56 #[.string (u ++ { data := #[58] } ++ p)] w fun e w' => e = .returned (.string (sumB (known u p))) ∧ Below w.heap.size w w') := fun w => asum_any (known u p) (by unfold known; omega) w
  have c6 : Hid (∀ w, Calls Try.prog 57 #[.slice (some ⟨w.heap.size, 0, none⟩) 2 2, .string { data := #[58] }] (w.alloc (.cells #[.string (sumB (known u p)), .string n] 9)) fun e w' => e = .returned (.string (sumB (known u p) ++ colon ++ n)) ∧ Below w.heap.size w w') := fun w => join2_any _ _ w 9 (by omega)
  have c7 : Hid (∀ w, Calls Try.prog 56 #[.string (sumB (known u p) ++ colon ++ n)] w fun e w' => e = .returned (.string (dataOf 2 u p n b)) ∧ Below w.heap.size w w') := fun w => asum_any _ (by rw [size_app, size_app, colon_size]; omega) w
  generalize sumB (known u p) ++ colon ++ n = J at *
  generalize sumB (known u p) = S1 at *
  clear hs1
  generalize hD : dataOf 2 u p n b = D at *
  clear hD hkn
  generalize typ 2 = T at *
  obtain ⟨w3, hw3, hP0, hP1, hP2, hB3⟩ := three_new w u p T
  obtain ⟨⟨a0, a1, a2⟩, a3, a4⟩ := hP0
  have HP0 : Hid (Pair w3 w.heap.size u p) := ⟨⟨a0, a1, a2⟩, a3, a4⟩
  have HP1 := Lib.hid hP1
  have HP2 := Lib.hid hP2
  have HB3 := Lib.hid hB3
  obtain ⟨⟨b0, b1, b2⟩, _⟩ := hP2
  have b0' : Hid (w3 = (((w.alloc (.cells #[.string u, .string p] 50)).alloc (.cells #[.string { data := #[] }, .string { data := #[] }] 42)).alloc (.cells #[.string T, .string { data := #[] }] 42))) := hw3
  have HQ := Lib.hid (rfl : (1 : Nat) = 1)
  clear hw3 hP1 hB3 hsz hc  hl hq
  go_enter Try.func43, Try.ntmps43
  go_wp2_with (go_at_call 22; with_reducible refine (c1.out _).mono ?_; rintro e w' ⟨rfl, rfl⟩)
  rw [← b0'.out]
  clear b0' c1
  refine (c2.out _).mono ?_
  rintro e w4 ⟨rfl, hb4⟩
  obtain ⟨⟨d0, d1, d2⟩, d3, d4⟩ := HP1.out.below hb4
  obtain ⟨⟨e0, e1, e2⟩, e3, e4⟩ := HP2.out.below hb4
  obtain ⟨⟨f0, f1, f2⟩, f3, f4⟩ := HP0.out.below hb4
  have HP14 : Hid (Pair w4 (w.heap.size + 1) { data := #[] } { data := #[] }) := HP1.out.below hb4
  have HP24 : Hid (Pair w4 (w.heap.size + 1 + 1) T { data := #[] }) := HP2.out.below hb4
  have HP04 : Hid (Pair w4 w.heap.size u p) := HP0.out.below hb4
  have HB4 := Lib.hid (HB3.out.trans (hb4.mono HB3.out.size))
  clear a0 a1 a2 a3 a4 b0 b1 b2 HP0 HP1 HP2 HB3 hb4
  go_wp2_with fail
  refine (c3.out _).mono ?_
  rintro e w5 ⟨rfl, hb5⟩
  obtain ⟨⟨g0, g1, g2⟩, g3, g4⟩ := HP14.out.below hb5
  obtain ⟨⟨i0, i1, i2⟩, i3, i4⟩ := HP24.out.below hb5
  obtain ⟨⟨j0, j1, j2⟩, j3, j4⟩ := HP04.out.below hb5
  have HP15 : Hid (Pair w5 (w.heap.size + 1) { data := #[] } { data := #[] }) := HP14.out.below hb5
  have HP25 : Hid (Pair w5 (w.heap.size + 1 + 1) T { data := #[] }) := HP24.out.below hb5
  have HP05 : Hid (Pair w5 w.heap.size u p) := HP04.out.below hb5
  have HB5 := Lib.hid (HB4.out.trans (hb5.mono HB4.out.size))
  clear d0 d1 d2 d3 d4 e0 e1 e2 e3 e4 f0 f1 f2 f3 f4 HP14 HP24 HP04 HB4 hb5
  go_wp2_with fail
  refine (c5.out _).mono ?_
  rintro e w6 ⟨rfl, hb6⟩
  obtain ⟨⟨p60, p61, p62⟩, p63, p64⟩ := HP15.out.below hb6
  obtain ⟨⟨q60, q61, q62⟩, q63, q64⟩ := HP25.out.below hb6
  have HP16 : Hid (Pair w6 (w.heap.size + 1) { data := #[] } { data := #[] }) := HP15.out.below hb6
  have HP26 : Hid (Pair w6 (w.heap.size + 1 + 1) T { data := #[] }) := HP25.out.below hb6
  have HB6 := Lib.hid (HB5.out.trans (hb6.mono HB5.out.size))
  clear HP15 HP25 HB5 hb6
  go_wp2_with fail
  refine (c6.out _).mono ?_
  rintro e w7 ⟨rfl, hb7⟩
  obtain ⟨⟨p70, p71, p72⟩, p73, p74⟩ := HP16.out.below hb7
  obtain ⟨⟨q70, q71, q72⟩, q73, q74⟩ := HP26.out.below hb7
  have HP17 : Hid (Pair w7 (w.heap.size + 1) { data := #[] } { data := #[] }) := HP16.out.below hb7
  have HP27 : Hid (Pair w7 (w.heap.size + 1 + 1) T { data := #[] }) := HP26.out.below hb7
  have HB7 := Lib.hid (HB6.out.trans (hb7.mono HB6.out.size))
  clear HP16 HP26 HB6 hb7
  go_wp2_with fail
  refine (c7.out _).mono ?_
  rintro e w8 ⟨rfl, hb8⟩
  obtain ⟨⟨p80, p81, p82⟩, p83, p84⟩ := HP17.out.below hb8
  obtain ⟨⟨q80, q81, q82⟩, q83, q84⟩ := HP27.out.below hb8
  have HP18 : Hid (Pair w8 (w.heap.size + 1) { data := #[] } { data := #[] }) := HP17.out.below hb8
  have HP28 : Hid (Pair w8 (w.heap.size + 1 + 1) T { data := #[] }) := HP27.out.below hb8
  have HB8 := Lib.hid (HB7.out.trans (hb8.mono HB7.out.size))
  clear HP17 HP27 HB7 hb8
  go_wp2_with fail
  have hR : Hid (Pair (((w8.setCell ⟨w.heap.size + 1 + 1, 1, none⟩ (.string D)).setCell ⟨w.heap.size + 1, 0, none⟩ (.string T)).setCell ⟨w.heap.size + 1, 1, none⟩ (.string D)) (w.heap.size + 1) T D) := (HP18.out.other (c := w.heap.size + 1 + 1) (i := 1) (by omega) (.string D)).set2 T D
  obtain ⟨⟨r0, r1, r2⟩, r3, r4⟩ := hR.out
  refine bodyPost_ret (v := .tuple #[.agg #[.string T, .string D], .int .i64 0]) (by simp [results, Try.results43, go_sem, r0, r1]) rfl ⟨rfl, ?_⟩
  exact ((HB8.out.setCell (by simp; omega) _).setCell (by simp) _).setCell (by simp) _

set_option maxRecDepth 100000 in
set_option maxHeartbeats 4000000 in
theorem cred_ok3 (u p n b : ByteArray) (hu : u.size ≤ 5000) (hp : p.size ≤ 5000) (hn : n.size ≤ 5000) (hb : b.size ≤ 5000) (hc : chkE u p = 0) (hl : ¬ 60 < n.size) (hq : okB 33 n = true) (w : World) :
    Calls Try.prog 43 #[.int .i64 3, .agg #[.string u, .string p], .string n, .string b] w fun e w' => e = .returned (.tuple #[.agg #[.string (typ 3), .string (dataOf 3 u p n b)], .int .i64 0]) ∧ Below w.heap.size w w' := by
  have hsz := typ_size 3 (by decide) (by decide) 
  have hte := empty_no hsz
  have c1 := Lib.hid (type_any 3)
  have c2 := Lib.hid (fun w => check_any u p (by omega) (by omega) w)
  rw [hc] at c2
  have hl' : ¬ (60 : Int) < n.size := by omega
  have c3 := Lib.hid (fun w => within_any 33 n w (by omega))
  rw [hq] at c3
  obtain ⟨hu32, hp32⟩ := chk_small hc
  have y1 : ¬ 9223372036854775807 < u.size + 1 := by omega
  have y2 : ¬ 9223372036854775807 < u.size + 1 + p.size := by omega
  have hkn : (u ++ colon ++ p).size ≤ 65 := by rw [size_app, size_app, colon_size]; omega
  have hs1 := sumB_size (known u p)
  have hs2 := sumB_size b
  have c5 : Hid (∀ w, Calls Try.prog 56 #[.string (u ++ { data := #[58] } ++ p)] w fun e w' => e = .returned (.string (sumB (known u p))) ∧ Below w.heap.size w w') := fun w => asum_any (known u p) (by unfold known; omega) w
  have c4 : Hid (∀ w, Calls Try.prog 56 #[.string b] w fun e w' => e = .returned (.string (sumB b)) ∧ Below w.heap.size w w') := fun w => asum_any b (by omega) w
  have c6 : Hid (∀ w, Calls Try.prog 57 #[.slice (some ⟨w.heap.size, 0, none⟩) 3 3, .string { data := #[58] }] (w.alloc (.cells #[.string (sumB (known u p)), .string n, .string (sumB b)] 9)) fun e w' => e = .returned (.string (sumB (known u p) ++ colon ++ n ++ colon ++ sumB b)) ∧ Below w.heap.size w w') := fun w => join3_any _ _ _ w 9 (by omega)
  have c7 : Hid (∀ w, Calls Try.prog 56 #[.string (sumB (known u p) ++ colon ++ n ++ colon ++ sumB b)] w fun e w' => e = .returned (.string (dataOf 3 u p n b)) ∧ Below w.heap.size w w') := fun w => asum_any _ (by rw [size_app, size_app, size_app, size_app, colon_size]; omega) w
  generalize sumB (known u p) ++ colon ++ n ++ colon ++ sumB b = J at *
  generalize sumB (known u p) = S1 at *
  generalize sumB b = S2 at *
  clear hs1 hs2
  generalize hD : dataOf 3 u p n b = D at *
  clear hD hkn
  generalize typ 3 = T at *
  obtain ⟨w3, hw3, hP0, hP1, hP2, hB3⟩ := three_new w u p T
  obtain ⟨⟨a0, a1, a2⟩, a3, a4⟩ := hP0
  have HP0 : Hid (Pair w3 w.heap.size u p) := ⟨⟨a0, a1, a2⟩, a3, a4⟩
  have HP1 := Lib.hid hP1
  have HP2 := Lib.hid hP2
  have HB3 := Lib.hid hB3
  obtain ⟨⟨b0, b1, b2⟩, _⟩ := hP2
  have b0' : Hid (w3 = (((w.alloc (.cells #[.string u, .string p] 50)).alloc (.cells #[.string { data := #[] }, .string { data := #[] }] 42)).alloc (.cells #[.string T, .string { data := #[] }] 42))) := hw3
  have HQ := Lib.hid (rfl : (1 : Nat) = 1)
  clear hw3 hP1 hB3 hsz hc  hl hq
  go_enter Try.func43, Try.ntmps43
  go_wp2_with (go_at_call 22; with_reducible refine (c1.out _).mono ?_; rintro e w' ⟨rfl, rfl⟩)
  rw [← b0'.out]
  clear b0' c1
  refine (c2.out _).mono ?_
  rintro e w4 ⟨rfl, hb4⟩
  obtain ⟨⟨d0, d1, d2⟩, d3, d4⟩ := HP1.out.below hb4
  obtain ⟨⟨e0, e1, e2⟩, e3, e4⟩ := HP2.out.below hb4
  obtain ⟨⟨f0, f1, f2⟩, f3, f4⟩ := HP0.out.below hb4
  have HP14 : Hid (Pair w4 (w.heap.size + 1) { data := #[] } { data := #[] }) := HP1.out.below hb4
  have HP24 : Hid (Pair w4 (w.heap.size + 1 + 1) T { data := #[] }) := HP2.out.below hb4
  have HP04 : Hid (Pair w4 w.heap.size u p) := HP0.out.below hb4
  have HB4 := Lib.hid (HB3.out.trans (hb4.mono HB3.out.size))
  clear a0 a1 a2 a3 a4 b0 b1 b2 HP0 HP1 HP2 HB3 hb4
  go_wp2_with fail
  refine (c3.out _).mono ?_
  rintro e w5 ⟨rfl, hb5⟩
  obtain ⟨⟨g0, g1, g2⟩, g3, g4⟩ := HP14.out.below hb5
  obtain ⟨⟨i0, i1, i2⟩, i3, i4⟩ := HP24.out.below hb5
  obtain ⟨⟨j0, j1, j2⟩, j3, j4⟩ := HP04.out.below hb5
  have HP15 : Hid (Pair w5 (w.heap.size + 1) { data := #[] } { data := #[] }) := HP14.out.below hb5
  have HP25 : Hid (Pair w5 (w.heap.size + 1 + 1) T { data := #[] }) := HP24.out.below hb5
  have HP05 : Hid (Pair w5 w.heap.size u p) := HP04.out.below hb5
  have HB5 := Lib.hid (HB4.out.trans (hb5.mono HB4.out.size))
  clear d0 d1 d2 d3 d4 e0 e1 e2 e3 e4 f0 f1 f2 f3 f4 HP14 HP24 HP04 HB4 hb5
  go_wp2_with fail
  refine (c5.out _).mono ?_
  rintro e w6 ⟨rfl, hb6⟩
  obtain ⟨⟨p60, p61, p62⟩, p63, p64⟩ := HP15.out.below hb6
  obtain ⟨⟨q60, q61, q62⟩, q63, q64⟩ := HP25.out.below hb6
  have HP16 : Hid (Pair w6 (w.heap.size + 1) { data := #[] } { data := #[] }) := HP15.out.below hb6
  have HP26 : Hid (Pair w6 (w.heap.size + 1 + 1) T { data := #[] }) := HP25.out.below hb6
  have HB6 := Lib.hid (HB5.out.trans (hb6.mono HB5.out.size))
  clear HP15 HP25 HB5 hb6
  go_wp2_with fail
  refine (c4.out _).mono ?_
  rintro e w7 ⟨rfl, hb7⟩
  obtain ⟨⟨p70, p71, p72⟩, p73, p74⟩ := HP16.out.below hb7
  obtain ⟨⟨q70, q71, q72⟩, q73, q74⟩ := HP26.out.below hb7
  have HP17 : Hid (Pair w7 (w.heap.size + 1) { data := #[] } { data := #[] }) := HP16.out.below hb7
  have HP27 : Hid (Pair w7 (w.heap.size + 1 + 1) T { data := #[] }) := HP26.out.below hb7
  have HB7 := Lib.hid (HB6.out.trans (hb7.mono HB6.out.size))
  clear HP16 HP26 HB6 hb7
  go_wp2_with fail
  refine (c6.out _).mono ?_
  rintro e w8 ⟨rfl, hb8⟩
  obtain ⟨⟨p80, p81, p82⟩, p83, p84⟩ := HP17.out.below hb8
  obtain ⟨⟨q80, q81, q82⟩, q83, q84⟩ := HP27.out.below hb8
  have HP18 : Hid (Pair w8 (w.heap.size + 1) { data := #[] } { data := #[] }) := HP17.out.below hb8
  have HP28 : Hid (Pair w8 (w.heap.size + 1 + 1) T { data := #[] }) := HP27.out.below hb8
  have HB8 := Lib.hid (HB7.out.trans (hb8.mono HB7.out.size))
  clear HP17 HP27 HB7 hb8
  go_wp2_with fail
  refine (c7.out _).mono ?_
  rintro e w9 ⟨rfl, hb9⟩
  obtain ⟨⟨p90, p91, p92⟩, p93, p94⟩ := HP18.out.below hb9
  obtain ⟨⟨q90, q91, q92⟩, q93, q94⟩ := HP28.out.below hb9
  have HP19 : Hid (Pair w9 (w.heap.size + 1) { data := #[] } { data := #[] }) := HP18.out.below hb9
  have HP29 : Hid (Pair w9 (w.heap.size + 1 + 1) T { data := #[] }) := HP28.out.below hb9
  have HB9 := Lib.hid (HB8.out.trans (hb9.mono HB8.out.size))
  clear HP18 HP28 HB8 hb9
  go_wp2_with fail
  have hR : Hid (Pair (((w9.setCell ⟨w.heap.size + 1 + 1, 1, none⟩ (.string D)).setCell ⟨w.heap.size + 1, 0, none⟩ (.string T)).setCell ⟨w.heap.size + 1, 1, none⟩ (.string D)) (w.heap.size + 1) T D) := (HP19.out.other (c := w.heap.size + 1 + 1) (i := 1) (by omega) (.string D)).set2 T D
  obtain ⟨⟨r0, r1, r2⟩, r3, r4⟩ := hR.out
  refine bodyPost_ret (v := .tuple #[.agg #[.string T, .string D], .int .i64 0]) (by simp [results, Try.results43, go_sem, r0, r1]) rfl ⟨rfl, ?_⟩
  exact ((HB9.out.setCell (by simp; omega) _).setCell (by simp) _).setCell (by simp) _

theorem cred_any (k : Int) (u p n b : ByteArray) (hu : u.size ≤ 5000) (hp : p.size ≤ 5000) (hn : n.size ≤ 5000) (hb : b.size ≤ 5000) (w : World) :
    Calls Try.prog 43 #[.int .i64 k, .agg #[.string u, .string p], .string n, .string b] w fun e w' => e = .returned (.tuple #[.agg #[.string (credT k u p n), .string (credD k u p n b)], .int .i64 (credE k u p n)]) ∧ Below w.heap.size w w' := by
  rcases cred_steps k u p n with ⟨h1, he⟩ | ⟨h1, h2, h3, he⟩ | ⟨h1, h2, h3, h4, he⟩ | ⟨h1, h2, h3, h4, h5, he⟩ | ⟨h1, h2, h3, h4, h5, he⟩
  · obtain ⟨e1, e2⟩ := cred_none (k := k) (u := u) (p := p) (n := n) (b := b) (by omega)
    exact (cred_bad k u p n b h1 w).mono fun e w' h => ⟨h.1.trans (ret_cred e1 e2 he), h.2⟩
  · obtain ⟨e1, e2⟩ := cred_none (k := k) (u := u) (p := p) (n := n) (b := b) (by omega)
    exact (cred_chk k u p n b hu hp hn hb h1 h2 h3 w).mono fun e w' h => ⟨h.1.trans (ret_cred e1 e2 he), h.2⟩
  · obtain ⟨e1, e2⟩ := cred_none (k := k) (u := u) (p := p) (n := n) (b := b) (by omega)
    exact (cred_long k u p n b hu hp hn hb h1 h2 h3 h4 w).mono fun e w' h => ⟨h.1.trans (ret_cred e1 e2 he), h.2⟩
  · obtain ⟨e1, e2⟩ := cred_none (k := k) (u := u) (p := p) (n := n) (b := b) (by omega)
    exact (cred_nonce k u p n b hu hp hn hb h1 h2 h3 h4 h5 w).mono fun e w' h => ⟨h.1.trans (ret_cred e1 e2 he), h.2⟩
  · obtain ⟨e1, e2⟩ := cred_some (k := k) (u := u) (p := p) (n := n) (b := b) he
    rcases (by omega : k = 1 ∨ k = 2 ∨ k = 3) with rfl | rfl | rfl
    · exact (cred_ok1 u p n b hu hp hn hb h3 h4 h5 w).mono fun e w' h => ⟨h.1.trans (ret_cred e1 e2 he), h.2⟩
    · exact (cred_ok2 u p n b hu hp hn hb h3 h4 h5 w).mono fun e w' h => ⟨h.1.trans (ret_cred e1 e2 he), h.2⟩
    · exact (cred_ok3 u p n b hu hp hn hb h3 h4 h5 w).mono fun e w' h => ⟨h.1.trans (ret_cred e1 e2 he), h.2⟩
end Go.Proofs.Yteheibgdjpkeaaa
