/- auth: Cred, the reference's. No condition but sizes. -/
import Derived.Test.YteheibgdjpkeaaaAuK
namespace Go.Proofs.Yteheibgdjpkeaaa
open Go.RowKit

set_option maxRecDepth 100000 in
set_option maxHeartbeats 4000000 in
theorem refCred_bad (k : Int) (u p n b : ByteArray) (hk : k < 1 ∨ 3 < k) (w : World) :
    Calls Try.prog 21 #[.int .i64 k, .agg #[.string u, .string p], .string n, .string b] w fun e w' => e = .returned (.tuple #[.agg #[.string { data := #[] }, .string { data := #[] }], .int .i64 5]) ∧ Below w.heap.size w w' := by
  have c1 := Lib.hid (refType_any k)
  rw [typ_none k hk] at c1
  clear hk
  go_enter Try.func21, Try.ntmps21
  go_wp2_with (go_at_call 23; with_reducible refine (c1.out _).mono ?_; rintro e w' ⟨rfl, rfl⟩)
  refine bodyPost_ret (v := .tuple #[.agg #[.string { data := #[] }, .string { data := #[] }], .int .i64 5]) (by simp [results, Try.results21, go_sem]) rfl ⟨rfl, ?_⟩
  exact ((Below.refl _ w).alloc (Nat.le_refl _) _).alloc (by simp) _

theorem two_new (w : World) (u p : ByteArray) : ∃ w3, w3 = ((w.alloc (.cells #[.string u, .string p] 40)).alloc (.cells #[.string { data := #[] }, .string { data := #[] }] 42)) ∧
    Pair w3 w.heap.size u p ∧ Pair w3 (w.heap.size + 1) { data := #[] } { data := #[] } ∧ Below w.heap.size w w3 := by
  refine ⟨_, rfl, ?_, ?_, ((Below.refl _ w).alloc (Nat.le_refl _) _).alloc (by simp) _⟩
  · exact (Pair.new w u p 40).below ((Below.refl _ _).alloc (Nat.le_refl _) _)
  · have h := Pair.new (w.alloc (.cells #[.string u, .string p] 40)) { data := #[] } { data := #[] } 42
    simpa using h

set_option maxRecDepth 100000 in
set_option maxHeartbeats 4000000 in
theorem refCred_chk (k : Int) (u p n b : ByteArray) (hu : u.size ≤ 5000) (hp : p.size ≤ 5000) (hn : n.size ≤ 5000) (hb : b.size ≤ 5000) (hk1 : 1 ≤ k) (hk3 : k ≤ 3) (hc : chkE u p ≠ 0) (w : World) :
    Calls Try.prog 21 #[.int .i64 k, .agg #[.string u, .string p], .string n, .string b] w fun e w' => e = .returned (.tuple #[.agg #[.string { data := #[] }, .string { data := #[] }], .int .i64 (chkE u p)]) ∧ Below w.heap.size w w' := by
  have hsz := typ_size k hk1 hk3
  have hte := empty_no hsz
  have c1 := Lib.hid (refType_any k)
  have c2 := Lib.hid (fun w => refCheck_any u p (by omega) (by omega) w)
  generalize chkE u p = E at *
  have hE : (E == 0) = false := by simpa using hc
  generalize typ k = T at *
  obtain ⟨w3, hw3, hP0, hP1, hB3⟩ := two_new w u p
  obtain ⟨⟨a0, a1, a2⟩, a3, a4⟩ := hP0
  have HP0 : Hid (Pair w3 w.heap.size u p) := ⟨⟨a0, a1, a2⟩, a3, a4⟩
  have HP1 := Lib.hid hP1
  have HB3 := Lib.hid hB3
  have b0' : Hid (w3 = ((w.alloc (.cells #[.string u, .string p] 40)).alloc (.cells #[.string { data := #[] }, .string { data := #[] }] 42))) := hw3
  have a0' := Lib.hid (And.intro a0 a1)
  clear hw3 hP1 hB3 hsz a0 a1 hc hk1 hk3
  have k0 : ((w.alloc (.cells #[.string u, .string p] 40)).alloc (.cells #[.string { data := #[] }, .string { data := #[] }] 42)).cell? ⟨w.heap.size, 0, none⟩ = some (.string u) := by rw [← b0'.out]; exact a0'.out.1
  have k1 : ((w.alloc (.cells #[.string u, .string p] 40)).alloc (.cells #[.string { data := #[] }, .string { data := #[] }] 42)).cell? ⟨w.heap.size, 1, none⟩ = some (.string p) := by rw [← b0'.out]; exact a0'.out.2
  go_enter Try.func21, Try.ntmps21
  go_wp2_with (go_at_call 23; with_reducible refine (c1.out _).mono ?_; rintro e w' ⟨rfl, rfl⟩)
  rw [← b0'.out]
  clear b0' k0 k1
  refine (c2.out _).mono ?_
  rintro e w4 ⟨rfl, hb4⟩
  obtain ⟨⟨d0, d1, d2⟩, d3, d4⟩ := HP1.out.below hb4
  obtain ⟨⟨f0, f1, f2⟩, f3, f4⟩ := HP0.out.below hb4
  have HP14 : Hid (Pair w4 (w.heap.size + 1) { data := #[] } { data := #[] }) := HP1.out.below hb4
  have HB4 := Lib.hid (HB3.out.trans (hb4.mono HB3.out.size))
  clear a0' a2 a3 a4 HP0 HP1 HB3 hb4
  go_wp2_with fail
  refine bodyPost_ret (v := .tuple #[.agg #[.string { data := #[] }, .string { data := #[] }], .int .i64 E]) (by simp [results, Try.results21, go_sem, d0, d1]) rfl ⟨rfl, ?_⟩
  exact (HB4.out.setCell (by simp) _).setCell (by simp) _

set_option maxRecDepth 100000 in
set_option maxHeartbeats 4000000 in
theorem refCred_long (k : Int) (u p n b : ByteArray) (hu : u.size ≤ 5000) (hp : p.size ≤ 5000) (hn : n.size ≤ 5000) (hb : b.size ≤ 5000) (hk1 : 1 ≤ k) (hk3 : k ≤ 3) (hc : chkE u p = 0) (hl : 60 < n.size) (w : World) :
    Calls Try.prog 21 #[.int .i64 k, .agg #[.string u, .string p], .string n, .string b] w fun e w' => e = .returned (.tuple #[.agg #[.string { data := #[] }, .string { data := #[] }], .int .i64 8]) ∧ Below w.heap.size w w' := by
  have hsz := typ_size k hk1 hk3
  have hte := empty_no hsz
  have c1 := Lib.hid (refType_any k)
  have c2 := Lib.hid (fun w => refCheck_any u p (by omega) (by omega) w)
  rw [hc] at c2
  have hl' : (60 : Int) < n.size := by omega
  generalize typ k = T at *
  obtain ⟨w3, hw3, hP0, hP1, hB3⟩ := two_new w u p
  obtain ⟨⟨a0, a1, a2⟩, a3, a4⟩ := hP0
  have HP0 : Hid (Pair w3 w.heap.size u p) := ⟨⟨a0, a1, a2⟩, a3, a4⟩
  have HP1 := Lib.hid hP1
  have HB3 := Lib.hid hB3
  have b0' : Hid (w3 = ((w.alloc (.cells #[.string u, .string p] 40)).alloc (.cells #[.string { data := #[] }, .string { data := #[] }] 42))) := hw3
  have a0' := Lib.hid (And.intro a0 a1)
  clear hw3 hP1 hB3 hsz a0 a1 hc hk1 hk3 hl
  have k0 : ((w.alloc (.cells #[.string u, .string p] 40)).alloc (.cells #[.string { data := #[] }, .string { data := #[] }] 42)).cell? ⟨w.heap.size, 0, none⟩ = some (.string u) := by rw [← b0'.out]; exact a0'.out.1
  have k1 : ((w.alloc (.cells #[.string u, .string p] 40)).alloc (.cells #[.string { data := #[] }, .string { data := #[] }] 42)).cell? ⟨w.heap.size, 1, none⟩ = some (.string p) := by rw [← b0'.out]; exact a0'.out.2
  go_enter Try.func21, Try.ntmps21
  go_wp2_with (go_at_call 23; with_reducible refine (c1.out _).mono ?_; rintro e w' ⟨rfl, rfl⟩)
  rw [← b0'.out]
  clear b0' k0 k1
  refine (c2.out _).mono ?_
  rintro e w4 ⟨rfl, hb4⟩
  obtain ⟨⟨d0, d1, d2⟩, d3, d4⟩ := HP1.out.below hb4
  obtain ⟨⟨f0, f1, f2⟩, f3, f4⟩ := HP0.out.below hb4
  have HP14 : Hid (Pair w4 (w.heap.size + 1) { data := #[] } { data := #[] }) := HP1.out.below hb4
  have HB4 := Lib.hid (HB3.out.trans (hb4.mono HB3.out.size))
  clear a0' a2 a3 a4 HP0 HP1 HB3 hb4
  go_wp2_with fail
  refine bodyPost_ret (v := .tuple #[.agg #[.string { data := #[] }, .string { data := #[] }], .int .i64 8]) (by simp [results, Try.results21, go_sem, d0, d1]) rfl ⟨rfl, ?_⟩
  exact (HB4.out.setCell (by simp) _).setCell (by simp) _

set_option maxRecDepth 100000 in
set_option maxHeartbeats 4000000 in
theorem refCred_nonce (k : Int) (u p n b : ByteArray) (hu : u.size ≤ 5000) (hp : p.size ≤ 5000) (hn : n.size ≤ 5000) (hb : b.size ≤ 5000) (hk1 : 1 ≤ k) (hk3 : k ≤ 3) (hc : chkE u p = 0) (hl : ¬ 60 < n.size) (hq : okB 33 n = false) (w : World) :
    Calls Try.prog 21 #[.int .i64 k, .agg #[.string u, .string p], .string n, .string b] w fun e w' => e = .returned (.tuple #[.agg #[.string { data := #[] }, .string { data := #[] }], .int .i64 8]) ∧ Below w.heap.size w w' := by
  have hsz := typ_size k hk1 hk3
  have hte := empty_no hsz
  have c1 := Lib.hid (refType_any k)
  have c2 := Lib.hid (fun w => refCheck_any u p (by omega) (by omega) w)
  rw [hc] at c2
  have hl' : ¬ (60 : Int) < n.size := by omega
  have c3 := Lib.hid (fun w => refBytes33 n w (by omega))
  rw [hq] at c3
  generalize typ k = T at *
  obtain ⟨w3, hw3, hP0, hP1, hB3⟩ := two_new w u p
  obtain ⟨⟨a0, a1, a2⟩, a3, a4⟩ := hP0
  have HP0 : Hid (Pair w3 w.heap.size u p) := ⟨⟨a0, a1, a2⟩, a3, a4⟩
  have HP1 := Lib.hid hP1
  have HB3 := Lib.hid hB3
  have b0' : Hid (w3 = ((w.alloc (.cells #[.string u, .string p] 40)).alloc (.cells #[.string { data := #[] }, .string { data := #[] }] 42))) := hw3
  have a0' := Lib.hid (And.intro a0 a1)
  clear hw3 hP1 hB3 hsz a0 a1 hc hk1 hk3 hl hq
  have k0 : ((w.alloc (.cells #[.string u, .string p] 40)).alloc (.cells #[.string { data := #[] }, .string { data := #[] }] 42)).cell? ⟨w.heap.size, 0, none⟩ = some (.string u) := by rw [← b0'.out]; exact a0'.out.1
  have k1 : ((w.alloc (.cells #[.string u, .string p] 40)).alloc (.cells #[.string { data := #[] }, .string { data := #[] }] 42)).cell? ⟨w.heap.size, 1, none⟩ = some (.string p) := by rw [← b0'.out]; exact a0'.out.2
  go_enter Try.func21, Try.ntmps21
  go_wp2_with (go_at_call 23; with_reducible refine (c1.out _).mono ?_; rintro e w' ⟨rfl, rfl⟩)
  rw [← b0'.out]
  clear b0' k0 k1
  refine (c2.out _).mono ?_
  rintro e w4 ⟨rfl, hb4⟩
  obtain ⟨⟨d0, d1, d2⟩, d3, d4⟩ := HP1.out.below hb4
  obtain ⟨⟨f0, f1, f2⟩, f3, f4⟩ := HP0.out.below hb4
  have HP14 : Hid (Pair w4 (w.heap.size + 1) { data := #[] } { data := #[] }) := HP1.out.below hb4
  have HB4 := Lib.hid (HB3.out.trans (hb4.mono HB3.out.size))
  clear a0' a2 a3 a4 HP0 HP1 HB3 hb4
  go_wp2_with fail
  refine (c3.out _).mono ?_
  rintro e w5 ⟨rfl, rfl⟩
  go_wp2_with fail
  refine bodyPost_ret (v := .tuple #[.agg #[.string { data := #[] }, .string { data := #[] }], .int .i64 8]) (by simp [results, Try.results21, go_sem, d0, d1]) rfl ⟨rfl, ?_⟩
  exact (HB4.out.setCell (by simp) _).setCell (by simp) _

set_option maxRecDepth 100000 in
set_option maxHeartbeats 4000000 in
theorem refCred_ok1 (u p n b : ByteArray) (hu : u.size ≤ 5000) (hp : p.size ≤ 5000) (hn : n.size ≤ 5000) (hb : b.size ≤ 5000) (hc : chkE u p = 0) (hl : ¬ 60 < n.size) (hq : okB 33 n = true) (w : World) :
    Calls Try.prog 21 #[.int .i64 1, .agg #[.string u, .string p], .string n, .string b] w fun e w' => e = .returned (.tuple #[.agg #[.string (typ 1), .string (dataOf 1 u p n b)], .int .i64 0]) ∧ Below w.heap.size w w' := by
  have hsz := typ_size 1 (by decide) (by decide)
  have hte := empty_no hsz
  have c1 := Lib.hid (refType_any 1)
  have c2 := Lib.hid (fun w => refCheck_any u p (by omega) (by omega) w)
  rw [hc] at c2
  have hl' : ¬ (60 : Int) < n.size := by omega
  have c3 := Lib.hid (fun w => refBytes33 n w (by omega))
  rw [hq] at c3
  obtain ⟨hu32, hp32⟩ := chk_small hc
  have y1 : ¬ 9223372036854775807 < u.size + 1 := by omega
  have y2 : ¬ 9223372036854775807 < u.size + 1 + p.size := by omega
  have hkn : (known u p).size ≤ 65 := by unfold known; rw [size_app, size_app, colon_size]; omega
  have hs1 := sumB_size (known u p)
  have c5 : Hid (∀ w, Calls Try.prog 11 #[.string (u ++ { data := #[58] } ++ p)] w fun e w' => e = .returned (.string (mkS (md5 (known u p).data.toList))) ∧ Below w.heap.size w w') := fun w => refSum_any (known u p) (by omega) w
  have c6 : Hid (∀ w, Calls Try.prog 45 #[.string (mkS (md5 (known u p).data.toList))] w fun e w' => e = .returned (.string (sumB (known u p))) ∧ Below w.heap.size w w') := fun w => refEnc_any _ w (by rw [mkS_size, md5_len]; omega)
  have c8 : Hid (∀ w, Calls Try.prog 45 #[.string (u ++ { data := #[58] } ++ p)] w fun e w' => e = .returned (.string (dataOf 1 u p n b)) ∧ Below w.heap.size w w') := fun w => refEnc_any (known u p) w (by omega)
  generalize mkS (md5 (known u p).data.toList) = m1 at *
  generalize sumB (known u p) = S1 at *
  generalize hD : dataOf 1 u p n b = D at *
  clear hD hkn
  generalize typ 1 = T at *
  obtain ⟨w3, hw3, hP0, hP1, hB3⟩ := two_new w u p
  obtain ⟨⟨a0, a1, a2⟩, a3, a4⟩ := hP0
  have HP0 : Hid (Pair w3 w.heap.size u p) := ⟨⟨a0, a1, a2⟩, a3, a4⟩
  have HP1 := Lib.hid hP1
  have HB3 := Lib.hid hB3
  have b0' : Hid (w3 = ((w.alloc (.cells #[.string u, .string p] 40)).alloc (.cells #[.string { data := #[] }, .string { data := #[] }] 42))) := hw3
  have a0' := Lib.hid (And.intro a0 a1)
  clear hw3 hP1 hB3 hsz a0 a1 hc hl hq
  have k0 : ((w.alloc (.cells #[.string u, .string p] 40)).alloc (.cells #[.string { data := #[] }, .string { data := #[] }] 42)).cell? ⟨w.heap.size, 0, none⟩ = some (.string u) := by rw [← b0'.out]; exact a0'.out.1
  have k1 : ((w.alloc (.cells #[.string u, .string p] 40)).alloc (.cells #[.string { data := #[] }, .string { data := #[] }] 42)).cell? ⟨w.heap.size, 1, none⟩ = some (.string p) := by rw [← b0'.out]; exact a0'.out.2
  go_enter Try.func21, Try.ntmps21
  go_wp2_with (go_at_call 23; with_reducible refine (c1.out _).mono ?_; rintro e w' ⟨rfl, rfl⟩)
  rw [← b0'.out]
  clear b0' k0 k1
  refine (c2.out _).mono ?_
  rintro e w4 ⟨rfl, hb4⟩
  obtain ⟨⟨d0, d1, d2⟩, d3, d4⟩ := HP1.out.below hb4
  obtain ⟨⟨f0, f1, f2⟩, f3, f4⟩ := HP0.out.below hb4
  have HP14 : Hid (Pair w4 (w.heap.size + 1) { data := #[] } { data := #[] }) := HP1.out.below hb4
  have HB4 := Lib.hid (HB3.out.trans (hb4.mono HB3.out.size))
  clear a0' a2 a3 a4 HP0 HP1 HB3 hb4
  go_wp2_with fail
  refine (c3.out _).mono ?_
  rintro e w5 ⟨rfl, rfl⟩
  go_wp2_with fail
  refine (c5.out _).mono ?_
  rintro e w5 ⟨rfl, hb5⟩
  have HP15 : Hid (Pair w5 (w.heap.size + 1) { data := #[] } { data := #[] }) := HP14.out.below hb5
  have HB5 := Lib.hid (HB4.out.trans (hb5.mono HB4.out.size))
  clear HP14 HB4 hb5
  go_wp2_with fail
  refine (c6.out _).mono ?_
  rintro e w6 ⟨rfl, hb6⟩
  have HP16 : Hid (Pair w6 (w.heap.size + 1) { data := #[] } { data := #[] }) := HP15.out.below hb6
  have HB6 := Lib.hid (HB5.out.trans (hb6.mono HB5.out.size))
  clear HP15 HB5 hb6
  go_wp2_with (go_at_call 23; with_reducible refine (c1.out _).mono ?_; rintro e w' ⟨rfl, rfl⟩)
  have hg := HB6.out.size
  have hg1 := HP16.out.1.2.2
  have HP17 : Hid (Pair (w6.alloc (.cells #[.string T, .string { data := #[] }] 42)) (w.heap.size + 1) { data := #[] } { data := #[] }) := HP16.out.below ((Below.refl _ _).alloc (Nat.le_refl _) _)
  have HP27 : Hid (Pair (w6.alloc (.cells #[.string T, .string { data := #[] }] 42)) w6.heap.size T { data := #[] }) := Pair.new w6 T _ 42
  have HB7 : Hid (Below w.heap.size w (w6.alloc (.cells #[.string T, .string { data := #[] }] 42))) := HB6.out.alloc hg _
  generalize w6.heap.size = G at *
  generalize w6.alloc (.cells #[.string T, .string { data := #[] }] 42) = w7 at *
  clear HP16 HB6
  refine (c8.out _).mono ?_
  rintro e w8 ⟨rfl, hb8⟩
  obtain ⟨⟨p80, p81, p82⟩, p83, p84⟩ := HP17.out.below hb8
  obtain ⟨⟨q80, q81, q82⟩, q83, q84⟩ := HP27.out.below hb8
  have HP18 : Hid (Pair w8 (w.heap.size + 1) { data := #[] } { data := #[] }) := HP17.out.below hb8
  have HP28 : Hid (Pair w8 G T { data := #[] }) := HP27.out.below hb8
  have HB8 := Lib.hid (HB7.out.trans (hb8.mono HB7.out.size))
  clear HP17 HP27 HB7 hb8
  go_wp2_with fail
  have hR : Hid (Pair (((w8.setCell ⟨G, 1, none⟩ (.string D)).setCell ⟨w.heap.size + 1, 0, none⟩ (.string T)).setCell ⟨w.heap.size + 1, 1, none⟩ (.string D)) (w.heap.size + 1) T D) := (HP18.out.other (c := G) (i := 1) (by omega) (.string D)).set2 T D
  obtain ⟨⟨r0, r1, r2⟩, r3, r4⟩ := hR.out
  refine bodyPost_ret (v := .tuple #[.agg #[.string T, .string D], .int .i64 0]) (by simp [results, Try.results21, go_sem, r0, r1]) rfl ⟨rfl, ?_⟩
  exact ((HB8.out.setCell (by simp; omega) _).setCell (by simp) _).setCell (by simp) _

set_option maxRecDepth 100000 in
set_option maxHeartbeats 4000000 in
theorem refCred_ok2 (u p n b : ByteArray) (hu : u.size ≤ 5000) (hp : p.size ≤ 5000) (hn : n.size ≤ 5000) (hb : b.size ≤ 5000) (hc : chkE u p = 0) (hl : ¬ 60 < n.size) (hq : okB 33 n = true) (w : World) :
    Calls Try.prog 21 #[.int .i64 2, .agg #[.string u, .string p], .string n, .string b] w fun e w' => e = .returned (.tuple #[.agg #[.string (typ 2), .string (dataOf 2 u p n b)], .int .i64 0]) ∧ Below w.heap.size w w' := by
  have hsz := typ_size 2 (by decide) (by decide)
  have hte := empty_no hsz
  have c1 := Lib.hid (refType_any 2)
  have c2 := Lib.hid (fun w => refCheck_any u p (by omega) (by omega) w)
  rw [hc] at c2
  have hl' : ¬ (60 : Int) < n.size := by omega
  have c3 := Lib.hid (fun w => refBytes33 n w (by omega))
  rw [hq] at c3
  obtain ⟨hu32, hp32⟩ := chk_small hc
  have y1 : ¬ 9223372036854775807 < u.size + 1 := by omega
  have y2 : ¬ 9223372036854775807 < u.size + 1 + p.size := by omega
  have hkn : (known u p).size ≤ 65 := by unfold known; rw [size_app, size_app, colon_size]; omega
  have hs1 := sumB_size (known u p)
  have c5 : Hid (∀ w, Calls Try.prog 11 #[.string (u ++ { data := #[58] } ++ p)] w fun e w' => e = .returned (.string (mkS (md5 (known u p).data.toList))) ∧ Below w.heap.size w w') := fun w => refSum_any (known u p) (by omega) w
  have c6 : Hid (∀ w, Calls Try.prog 45 #[.string (mkS (md5 (known u p).data.toList))] w fun e w' => e = .returned (.string (sumB (known u p))) ∧ Below w.heap.size w w') := fun w => refEnc_any _ w (by rw [mkS_size, md5_len]; omega)
  have y3 : ¬ 9223372036854775807 < (sumB (known u p)).size + 1 := by omega
  have y4 : ¬ 9223372036854775807 < (sumB (known u p)).size + 1 + n.size := by omega
  have c8 : Hid (∀ w, Calls Try.prog 11 #[.string (sumB (known u p) ++ { data := #[58] } ++ n)] w fun e w' => e = .returned (.string (mkS (md5 (sumB (known u p) ++ colon ++ n).data.toList))) ∧ Below w.heap.size w w') := fun w => refSum_any (sumB (known u p) ++ colon ++ n) (by rw [size_app, size_app, colon_size]; omega) w
  have c9 : Hid (∀ w, Calls Try.prog 45 #[.string (mkS (md5 (sumB (known u p) ++ colon ++ n).data.toList))] w fun e w' => e = .returned (.string (dataOf 2 u p n b)) ∧ Below w.heap.size w w') := fun w => refEnc_any _ w (by rw [mkS_size, md5_len]; omega)
  generalize mkS (md5 (sumB (known u p) ++ colon ++ n).data.toList) = m2 at *
  generalize mkS (md5 (known u p).data.toList) = m1 at *
  generalize sumB (known u p) = S1 at *
  generalize hD : dataOf 2 u p n b = D at *
  clear hD hkn
  generalize typ 2 = T at *
  obtain ⟨w3, hw3, hP0, hP1, hB3⟩ := two_new w u p
  obtain ⟨⟨a0, a1, a2⟩, a3, a4⟩ := hP0
  have HP0 : Hid (Pair w3 w.heap.size u p) := ⟨⟨a0, a1, a2⟩, a3, a4⟩
  have HP1 := Lib.hid hP1
  have HB3 := Lib.hid hB3
  have b0' : Hid (w3 = ((w.alloc (.cells #[.string u, .string p] 40)).alloc (.cells #[.string { data := #[] }, .string { data := #[] }] 42))) := hw3
  have a0' := Lib.hid (And.intro a0 a1)
  clear hw3 hP1 hB3 hsz a0 a1 hc hl hq
  have k0 : ((w.alloc (.cells #[.string u, .string p] 40)).alloc (.cells #[.string { data := #[] }, .string { data := #[] }] 42)).cell? ⟨w.heap.size, 0, none⟩ = some (.string u) := by rw [← b0'.out]; exact a0'.out.1
  have k1 : ((w.alloc (.cells #[.string u, .string p] 40)).alloc (.cells #[.string { data := #[] }, .string { data := #[] }] 42)).cell? ⟨w.heap.size, 1, none⟩ = some (.string p) := by rw [← b0'.out]; exact a0'.out.2
  go_enter Try.func21, Try.ntmps21
  go_wp2_with (go_at_call 23; with_reducible refine (c1.out _).mono ?_; rintro e w' ⟨rfl, rfl⟩)
  rw [← b0'.out]
  clear b0' k0 k1
  refine (c2.out _).mono ?_
  rintro e w4 ⟨rfl, hb4⟩
  obtain ⟨⟨d0, d1, d2⟩, d3, d4⟩ := HP1.out.below hb4
  obtain ⟨⟨f0, f1, f2⟩, f3, f4⟩ := HP0.out.below hb4
  have HP14 : Hid (Pair w4 (w.heap.size + 1) { data := #[] } { data := #[] }) := HP1.out.below hb4
  have HB4 := Lib.hid (HB3.out.trans (hb4.mono HB3.out.size))
  clear a0' a2 a3 a4 HP0 HP1 HB3 hb4
  go_wp2_with fail
  refine (c3.out _).mono ?_
  rintro e w5 ⟨rfl, rfl⟩
  go_wp2_with fail
  refine (c5.out _).mono ?_
  rintro e w5 ⟨rfl, hb5⟩
  have HP15 : Hid (Pair w5 (w.heap.size + 1) { data := #[] } { data := #[] }) := HP14.out.below hb5
  have HB5 := Lib.hid (HB4.out.trans (hb5.mono HB4.out.size))
  clear HP14 HB4 hb5
  go_wp2_with fail
  refine (c6.out _).mono ?_
  rintro e w6 ⟨rfl, hb6⟩
  have HP16 : Hid (Pair w6 (w.heap.size + 1) { data := #[] } { data := #[] }) := HP15.out.below hb6
  have HB6 := Lib.hid (HB5.out.trans (hb6.mono HB5.out.size))
  clear HP15 HB5 hb6
  go_wp2_with (go_at_call 23; with_reducible refine (c1.out _).mono ?_; rintro e w' ⟨rfl, rfl⟩)
  have hg := HB6.out.size
  have hg1 := HP16.out.1.2.2
  have HP17 : Hid (Pair (w6.alloc (.cells #[.string T, .string { data := #[] }] 42)) (w.heap.size + 1) { data := #[] } { data := #[] }) := HP16.out.below ((Below.refl _ _).alloc (Nat.le_refl _) _)
  have HP27 : Hid (Pair (w6.alloc (.cells #[.string T, .string { data := #[] }] 42)) w6.heap.size T { data := #[] }) := Pair.new w6 T _ 42
  have HB7 : Hid (Below w.heap.size w (w6.alloc (.cells #[.string T, .string { data := #[] }] 42))) := HB6.out.alloc hg _
  generalize w6.heap.size = G at *
  generalize w6.alloc (.cells #[.string T, .string { data := #[] }] 42) = w7 at *
  clear HP16 HB6
  refine (c8.out _).mono ?_
  rintro e w8 ⟨rfl, hb8⟩
  obtain ⟨⟨p80, p81, p82⟩, p83, p84⟩ := HP17.out.below hb8
  obtain ⟨⟨q80, q81, q82⟩, q83, q84⟩ := HP27.out.below hb8
  have HP18 : Hid (Pair w8 (w.heap.size + 1) { data := #[] } { data := #[] }) := HP17.out.below hb8
  have HP28 : Hid (Pair w8 G T { data := #[] }) := HP27.out.below hb8
  have HB8 := Lib.hid (HB7.out.trans (hb8.mono HB7.out.size))
  clear HP17 HP27 HB7 hb8
  go_wp2_with fail
  refine (c9.out _).mono ?_
  rintro e w9 ⟨rfl, hb9⟩
  obtain ⟨⟨p90, p91, p92⟩, p93, p94⟩ := HP18.out.below hb9
  obtain ⟨⟨q90, q91, q92⟩, q93, q94⟩ := HP28.out.below hb9
  have HP19 : Hid (Pair w9 (w.heap.size + 1) { data := #[] } { data := #[] }) := HP18.out.below hb9
  have HP29 : Hid (Pair w9 G T { data := #[] }) := HP28.out.below hb9
  have HB9 := Lib.hid (HB8.out.trans (hb9.mono HB8.out.size))
  clear HP18 HP28 HB8 hb9
  go_wp2_with fail
  have hR : Hid (Pair (((w9.setCell ⟨G, 1, none⟩ (.string D)).setCell ⟨w.heap.size + 1, 0, none⟩ (.string T)).setCell ⟨w.heap.size + 1, 1, none⟩ (.string D)) (w.heap.size + 1) T D) := (HP19.out.other (c := G) (i := 1) (by omega) (.string D)).set2 T D
  obtain ⟨⟨r0, r1, r2⟩, r3, r4⟩ := hR.out
  refine bodyPost_ret (v := .tuple #[.agg #[.string T, .string D], .int .i64 0]) (by simp [results, Try.results21, go_sem, r0, r1]) rfl ⟨rfl, ?_⟩
  exact ((HB9.out.setCell (by simp; omega) _).setCell (by simp) _).setCell (by simp) _

set_option maxRecDepth 100000 in
set_option maxHeartbeats 4000000 in
theorem refCred_ok3 (u p n b : ByteArray) (hu : u.size ≤ 5000) (hp : p.size ≤ 5000) (hn : n.size ≤ 5000) (hb : b.size ≤ 5000) (hc : chkE u p = 0) (hl : ¬ 60 < n.size) (hq : okB 33 n = true) (w : World) :
    Calls Try.prog 21 #[.int .i64 3, .agg #[.string u, .string p], .string n, .string b] w fun e w' => e = .returned (.tuple #[.agg #[.string (typ 3), .string (dataOf 3 u p n b)], .int .i64 0]) ∧ Below w.heap.size w w' := by
  have hsz := typ_size 3 (by decide) (by decide)
  have hte := empty_no hsz
  have c1 := Lib.hid (refType_any 3)
  have c2 := Lib.hid (fun w => refCheck_any u p (by omega) (by omega) w)
  rw [hc] at c2
  have hl' : ¬ (60 : Int) < n.size := by omega
  have c3 := Lib.hid (fun w => refBytes33 n w (by omega))
  rw [hq] at c3
  obtain ⟨hu32, hp32⟩ := chk_small hc
  have y1 : ¬ 9223372036854775807 < u.size + 1 := by omega
  have y2 : ¬ 9223372036854775807 < u.size + 1 + p.size := by omega
  have hkn : (known u p).size ≤ 65 := by unfold known; rw [size_app, size_app, colon_size]; omega
  have hs1 := sumB_size (known u p)
  have c5 : Hid (∀ w, Calls Try.prog 11 #[.string (u ++ { data := #[58] } ++ p)] w fun e w' => e = .returned (.string (mkS (md5 (known u p).data.toList))) ∧ Below w.heap.size w w') := fun w => refSum_any (known u p) (by omega) w
  have c6 : Hid (∀ w, Calls Try.prog 45 #[.string (mkS (md5 (known u p).data.toList))] w fun e w' => e = .returned (.string (sumB (known u p))) ∧ Below w.heap.size w w') := fun w => refEnc_any _ w (by rw [mkS_size, md5_len]; omega)
  have hs2 := sumB_size b
  have y3 : ¬ 9223372036854775807 < (sumB (known u p)).size + 1 := by omega
  have y4 : ¬ 9223372036854775807 < (sumB (known u p)).size + 1 + n.size := by omega
  have y5 : ¬ 9223372036854775807 < (sumB (known u p)).size + 1 + n.size + 1 := by omega
  have y6 : ¬ 9223372036854775807 < (sumB (known u p)).size + 1 + n.size + 1 + (sumB b).size := by omega
  have c10 : Hid (∀ w, Calls Try.prog 11 #[.string b] w fun e w' => e = .returned (.string (mkS (md5 b.data.toList))) ∧ Below w.heap.size w w') := fun w => refSum_any b (by omega) w
  have c11 : Hid (∀ w, Calls Try.prog 45 #[.string (mkS (md5 b.data.toList))] w fun e w' => e = .returned (.string (sumB b)) ∧ Below w.heap.size w w') := fun w => refEnc_any _ w (by rw [mkS_size, md5_len]; omega)
  have c8 : Hid (∀ w, Calls Try.prog 11 #[.string (sumB (known u p) ++ { data := #[58] } ++ n ++ { data := #[58] } ++ sumB b)] w fun e w' => e = .returned (.string (mkS (md5 (sumB (known u p) ++ colon ++ n ++ colon ++ sumB b).data.toList))) ∧ Below w.heap.size w w') := fun w => refSum_any (sumB (known u p) ++ colon ++ n ++ colon ++ sumB b) (by rw [size_app, size_app, size_app, size_app, colon_size]; omega) w
  have c9 : Hid (∀ w, Calls Try.prog 45 #[.string (mkS (md5 (sumB (known u p) ++ colon ++ n ++ colon ++ sumB b).data.toList))] w fun e w' => e = .returned (.string (dataOf 3 u p n b)) ∧ Below w.heap.size w w') := fun w => refEnc_any _ w (by rw [mkS_size, md5_len]; omega)
  generalize mkS (md5 (sumB (known u p) ++ colon ++ n ++ colon ++ sumB b).data.toList) = m2 at *
  generalize mkS (md5 b.data.toList) = m3 at *
  generalize sumB b = S2 at *
  generalize mkS (md5 (known u p).data.toList) = m1 at *
  generalize sumB (known u p) = S1 at *
  generalize hD : dataOf 3 u p n b = D at *
  clear hD hkn
  generalize typ 3 = T at *
  obtain ⟨w3, hw3, hP0, hP1, hB3⟩ := two_new w u p
  obtain ⟨⟨a0, a1, a2⟩, a3, a4⟩ := hP0
  have HP0 : Hid (Pair w3 w.heap.size u p) := ⟨⟨a0, a1, a2⟩, a3, a4⟩
  have HP1 := Lib.hid hP1
  have HB3 := Lib.hid hB3
  have b0' : Hid (w3 = ((w.alloc (.cells #[.string u, .string p] 40)).alloc (.cells #[.string { data := #[] }, .string { data := #[] }] 42))) := hw3
  have a0' := Lib.hid (And.intro a0 a1)
  clear hw3 hP1 hB3 hsz a0 a1 hc hl hq
  have k0 : ((w.alloc (.cells #[.string u, .string p] 40)).alloc (.cells #[.string { data := #[] }, .string { data := #[] }] 42)).cell? ⟨w.heap.size, 0, none⟩ = some (.string u) := by rw [← b0'.out]; exact a0'.out.1
  have k1 : ((w.alloc (.cells #[.string u, .string p] 40)).alloc (.cells #[.string { data := #[] }, .string { data := #[] }] 42)).cell? ⟨w.heap.size, 1, none⟩ = some (.string p) := by rw [← b0'.out]; exact a0'.out.2
  go_enter Try.func21, Try.ntmps21
  go_wp2_with (go_at_call 23; with_reducible refine (c1.out _).mono ?_; rintro e w' ⟨rfl, rfl⟩)
  rw [← b0'.out]
  clear b0' k0 k1
  refine (c2.out _).mono ?_
  rintro e w4 ⟨rfl, hb4⟩
  obtain ⟨⟨d0, d1, d2⟩, d3, d4⟩ := HP1.out.below hb4
  obtain ⟨⟨f0, f1, f2⟩, f3, f4⟩ := HP0.out.below hb4
  have HP14 : Hid (Pair w4 (w.heap.size + 1) { data := #[] } { data := #[] }) := HP1.out.below hb4
  have HB4 := Lib.hid (HB3.out.trans (hb4.mono HB3.out.size))
  clear a0' a2 a3 a4 HP0 HP1 HB3 hb4
  go_wp2_with fail
  refine (c3.out _).mono ?_
  rintro e w5 ⟨rfl, rfl⟩
  go_wp2_with fail
  refine (c5.out _).mono ?_
  rintro e w5 ⟨rfl, hb5⟩
  have HP15 : Hid (Pair w5 (w.heap.size + 1) { data := #[] } { data := #[] }) := HP14.out.below hb5
  have HB5 := Lib.hid (HB4.out.trans (hb5.mono HB4.out.size))
  clear HP14 HB4 hb5
  go_wp2_with fail
  refine (c6.out _).mono ?_
  rintro e w6 ⟨rfl, hb6⟩
  have HP16 : Hid (Pair w6 (w.heap.size + 1) { data := #[] } { data := #[] }) := HP15.out.below hb6
  have HB6 := Lib.hid (HB5.out.trans (hb6.mono HB5.out.size))
  clear HP15 HB5 hb6
  go_wp2_with (go_at_call 23; with_reducible refine (c1.out _).mono ?_; rintro e w' ⟨rfl, rfl⟩)
  have hg := HB6.out.size
  have hg1 := HP16.out.1.2.2
  have HP17 : Hid (Pair (w6.alloc (.cells #[.string T, .string { data := #[] }] 42)) (w.heap.size + 1) { data := #[] } { data := #[] }) := HP16.out.below ((Below.refl _ _).alloc (Nat.le_refl _) _)
  have HP27 : Hid (Pair (w6.alloc (.cells #[.string T, .string { data := #[] }] 42)) w6.heap.size T { data := #[] }) := Pair.new w6 T _ 42
  have HB7 : Hid (Below w.heap.size w (w6.alloc (.cells #[.string T, .string { data := #[] }] 42))) := HB6.out.alloc hg _
  generalize w6.heap.size = G at *
  generalize w6.alloc (.cells #[.string T, .string { data := #[] }] 42) = w7 at *
  clear HP16 HB6
  refine (c10.out _).mono ?_
  rintro e w8 ⟨rfl, hb8⟩
  obtain ⟨⟨p80, p81, p82⟩, p83, p84⟩ := HP17.out.below hb8
  obtain ⟨⟨q80, q81, q82⟩, q83, q84⟩ := HP27.out.below hb8
  have HP18 : Hid (Pair w8 (w.heap.size + 1) { data := #[] } { data := #[] }) := HP17.out.below hb8
  have HP28 : Hid (Pair w8 G T { data := #[] }) := HP27.out.below hb8
  have HB8 := Lib.hid (HB7.out.trans (hb8.mono HB7.out.size))
  clear HP17 HP27 HB7 hb8
  go_wp2_with fail
  refine (c11.out _).mono ?_
  rintro e w9 ⟨rfl, hb9⟩
  obtain ⟨⟨p90, p91, p92⟩, p93, p94⟩ := HP18.out.below hb9
  obtain ⟨⟨q90, q91, q92⟩, q93, q94⟩ := HP28.out.below hb9
  have HP19 : Hid (Pair w9 (w.heap.size + 1) { data := #[] } { data := #[] }) := HP18.out.below hb9
  have HP29 : Hid (Pair w9 G T { data := #[] }) := HP28.out.below hb9
  have HB9 := Lib.hid (HB8.out.trans (hb9.mono HB8.out.size))
  clear HP18 HP28 HB8 hb9
  go_wp2_with fail
  refine (c8.out _).mono ?_
  rintro e w10 ⟨rfl, hb10⟩
  obtain ⟨⟨p100, p101, p102⟩, p103, p104⟩ := HP19.out.below hb10
  obtain ⟨⟨q100, q101, q102⟩, q103, q104⟩ := HP29.out.below hb10
  have HP110 : Hid (Pair w10 (w.heap.size + 1) { data := #[] } { data := #[] }) := HP19.out.below hb10
  have HP210 : Hid (Pair w10 G T { data := #[] }) := HP29.out.below hb10
  have HB10 := Lib.hid (HB9.out.trans (hb10.mono HB9.out.size))
  clear HP19 HP29 HB9 hb10
  go_wp2_with fail
  refine (c9.out _).mono ?_
  rintro e w11 ⟨rfl, hb11⟩
  obtain ⟨⟨p110, p111, p112⟩, p113, p114⟩ := HP110.out.below hb11
  obtain ⟨⟨q110, q111, q112⟩, q113, q114⟩ := HP210.out.below hb11
  have HP111 : Hid (Pair w11 (w.heap.size + 1) { data := #[] } { data := #[] }) := HP110.out.below hb11
  have HP211 : Hid (Pair w11 G T { data := #[] }) := HP210.out.below hb11
  have HB11 := Lib.hid (HB10.out.trans (hb11.mono HB10.out.size))
  clear HP110 HP210 HB10 hb11
  go_wp2_with fail
  have hR : Hid (Pair (((w11.setCell ⟨G, 1, none⟩ (.string D)).setCell ⟨w.heap.size + 1, 0, none⟩ (.string T)).setCell ⟨w.heap.size + 1, 1, none⟩ (.string D)) (w.heap.size + 1) T D) := (HP111.out.other (c := G) (i := 1) (by omega) (.string D)).set2 T D
  obtain ⟨⟨r0, r1, r2⟩, r3, r4⟩ := hR.out
  refine bodyPost_ret (v := .tuple #[.agg #[.string T, .string D], .int .i64 0]) (by simp [results, Try.results21, go_sem, r0, r1]) rfl ⟨rfl, ?_⟩
  exact ((HB11.out.setCell (by simp; omega) _).setCell (by simp) _).setCell (by simp) _

theorem refCred_any (k : Int) (u p n b : ByteArray) (hu : u.size ≤ 5000) (hp : p.size ≤ 5000) (hn : n.size ≤ 5000) (hb : b.size ≤ 5000) (w : World) :
    Calls Try.prog 21 #[.int .i64 k, .agg #[.string u, .string p], .string n, .string b] w fun e w' => e = .returned (.tuple #[.agg #[.string (credT k u p n), .string (credD k u p n b)], .int .i64 (credE k u p n)]) ∧ Below w.heap.size w w' := by
  rcases cred_steps k u p n with ⟨h1, he⟩ | ⟨h1, h2, h3, he⟩ | ⟨h1, h2, h3, h4, he⟩ | ⟨h1, h2, h3, h4, h5, he⟩ | ⟨h1, h2, h3, h4, h5, he⟩
  · obtain ⟨e1, e2⟩ := cred_none (k := k) (u := u) (p := p) (n := n) (b := b) (by omega)
    exact (refCred_bad k u p n b h1 w).mono fun e w' h => ⟨h.1.trans (ret_cred e1 e2 he), h.2⟩
  · obtain ⟨e1, e2⟩ := cred_none (k := k) (u := u) (p := p) (n := n) (b := b) (by omega)
    exact (refCred_chk k u p n b hu hp hn hb h1 h2 h3 w).mono fun e w' h => ⟨h.1.trans (ret_cred e1 e2 he), h.2⟩
  · obtain ⟨e1, e2⟩ := cred_none (k := k) (u := u) (p := p) (n := n) (b := b) (by omega)
    exact (refCred_long k u p n b hu hp hn hb h1 h2 h3 h4 w).mono fun e w' h => ⟨h.1.trans (ret_cred e1 e2 he), h.2⟩
  · obtain ⟨e1, e2⟩ := cred_none (k := k) (u := u) (p := p) (n := n) (b := b) (by omega)
    exact (refCred_nonce k u p n b hu hp hn hb h1 h2 h3 h4 h5 w).mono fun e w' h => ⟨h.1.trans (ret_cred e1 e2 he), h.2⟩
  · obtain ⟨e1, e2⟩ := cred_some (k := k) (u := u) (p := p) (n := n) (b := b) he
    rcases (by omega : k = 1 ∨ k = 2 ∨ k = 3) with rfl | rfl | rfl
    · exact (refCred_ok1 u p n b hu hp hn hb h3 h4 h5 w).mono fun e w' h => ⟨h.1.trans (ret_cred e1 e2 he), h.2⟩
    · exact (refCred_ok2 u p n b hu hp hn hb h3 h4 h5 w).mono fun e w' h => ⟨h.1.trans (ret_cred e1 e2 he), h.2⟩
    · exact (refCred_ok3 u p n b hu hp hn hb h3 h4 h5 w).mono fun e w' h => ⟨h.1.trans (ret_cred e1 e2 he), h.2⟩
end Go.Proofs.Yteheibgdjpkeaaa
