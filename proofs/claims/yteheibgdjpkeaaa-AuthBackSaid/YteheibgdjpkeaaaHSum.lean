/- digest: the program's sum of what was taken so far. -/
import Derived.Test.YteheibgdjpkeaaaTxt
namespace Go.Proofs.Yteheibgdjpkeaaa
open Go.RowKit

theorem CellsF.four {w : World} {b : Nat} {q : St} (h : CellsF w b 4 (f4 q)) :
    (w.cell? ⟨b, 0, none⟩ = some (.int .u32 (q.a : Int)) ∧ w.cell? ⟨b, 1, none⟩ = some (.int .u32 (q.b : Int)) ∧ w.cell? ⟨b, 2, none⟩ = some (.int .u32 (q.c : Int)) ∧ w.cell? ⟨b, 3, none⟩ = some (.int .u32 (q.d : Int))) ∧
    (w.frozen? ⟨b, 0, none⟩ = false ∧ w.frozen? ⟨b, 1, none⟩ = false ∧ w.frozen? ⟨b, 2, none⟩ = false ∧ w.frozen? ⟨b, 3, none⟩ = false) :=
  ⟨⟨(h 0 (by omega)).1, (h 1 (by omega)).1, (h 2 (by omega)).1, (h 3 (by omega)).1⟩, ⟨(h 0 (by omega)).2, (h 1 (by omega)).2, (h 2 (by omega)).2, (h 3 (by omega)).2⟩⟩
theorem four_all {p : Nat → Prop} (h0 : p 0) (h1 : p 1) (h2 : p 2) (h3 : p 3) : ∀ j, j < 4 → p j := by
  intro j hj
  rcases (by omega : j = 0 ∨ j = 1 ∨ j = 2 ∨ j = 3) with rfl | rfl | rfl | rfl <;> assumption
theorem CellsF.setf {w : World} {b : Nat} {q : St} (h : CellsF w b 4 (f4 q)) (a1 b1 c1 d1 : Nat) : CellsF ((((w.setCell ⟨b, 0, none⟩ (.int .u32 (a1 : Int))).setCell ⟨b, 1, none⟩ (.int .u32 (b1 : Int))).setCell ⟨b, 2, none⟩ (.int .u32 (c1 : Int))).setCell ⟨b, 3, none⟩ (.int .u32 (d1 : Int))) b 4 (f4 ⟨a1, b1, c1, d1⟩) :=
  ((((h.set 0 _ (by omega)).set 1 _ (by omega)).set 2 _ (by omega)).set 3 _ (by omega)).congr (four_all rfl rfl rfl rfl)
theorem md5_fin (t L : List UInt8) (q : St) (m J : Nat) (hm : t.length = m) (hq : fold (t.length / 64) begin0 t = q) (hL : t.drop (64 * (t.length / 64)) ++ padL m = L) (hJ : L.length = 64 * J) : md5 t = textSt (fold J q L) := by
  subst hm
  have h1 := md5_rest t (t.length / 64) (by omega) (by omega)
  rw [h1, hq, hL]
  have h5 : (List.drop (64 * (t.length / 64)) t).length = t.length % 64 := by rw [List.length_drop]; omega
  have h6 : L.length = t.length % 64 + (zs t.length + 9) := by rw [← hL, List.length_append, h5, padL_len]
  congr 2
  omega
theorem not_empty (s : ByteArray) (h : s.size ≠ 0) : s.toList.isEmpty = false := by
  rw [ByteArray.toList_eq, List.isEmpty_eq_false_iff]; intro e; apply h; rw [← len_toList, e]; rfl
theorem is_empty (s : ByteArray) (h : s.size = 0) : s.toList = [] := by
  rw [empty_of_size s h, ByteArray.toList_eq]; rfl

set_option maxRecDepth 100000 in
set_option maxHeartbeats 8000000 in
theorem sumH_any (b : Nat) (t : List UInt8) (w : World) (h : Hs w b t) (hs : t.length ≤ 1099511627776) : Calls Try.prog 15 #[.pointer (some ⟨b, 0, none⟩)] w fun e w' => e = .returned (.string (mkS (md5 t))) ∧ Below w.heap.size w w' := by
  obtain ⟨h6, hlt⟩ := h
  obtain ⟨m, hm⟩ : ∃ m, t.length = m := ⟨_, rfl⟩
  have hrs : (mkS (t.drop (64 * (t.length / 64)))).size = m % 64 := by rw [mkS_size, List.length_drop, hm]; omega
  generalize hr : mkS (t.drop (64 * (t.length / 64))) = r at *
  generalize hq : fold (t.length / 64) begin0 t = q at *
  have hqo : q.ok := by rw [← hq]; exact fold_ok _ _ _ begin0_ok
  rw [hm] at h6 hs
  have HR := Lib.hid hr
  have HQ := Lib.hid hq
  have HM := Lib.hid hm
  have H6 := Lib.hid h6
  have HRS := Lib.hid hrs
  have hrl : r.size < 64 := by rw [hrs]; omega
  obtain ⟨⟨c0, c1, c2, c3, c4, c5⟩, -, -, -, -, -, -⟩ := h6.six
  clear hr hq hm h6 hrs
  have own := OwnG.of_own (owns_lit w w.heap.size 5 [.int .u8 128] (Nat.le_refl _) (by simp [maxLen])) (by simp)
  have HO0 : Hid (OwnG (w.alloc (.cells #[.int .u8 128] 5)) w.heap.size (.slice (some ⟨w.heap.size, 0, none⟩) 1 1) 1 (chs (pad0 0))) := own
  clear own
  go_enter Try.func15, Try.ntmps15
  go_wp2
  go_loopw [3] (fun v wr => ∃ (N k g c : Nat), k ≤ zs m ∧ N = 1 + k ∧ v = .slice (some ⟨g, 0, none⟩) N c ∧ Hid (OwnG wr w.heap.size (.slice (some ⟨g, 0, none⟩) N c) N (chs (pad0 k))) ∧ Hid (Below w.heap.size w wr) ∧ w.heap.size < wr.heap.size) (fun v _ => 100 - lenV v)
  case atStart => exact ⟨1, 0, w.heap.size, 1, by omega, rfl, rfl, HO0, (Below.refl _ _).alloc (Nat.le_refl _) _, by simp⟩
  case round =>
    clear HO0 c0 c1 c2 c3 c4 c5
    obtain ⟨N, k, g, c, hk, hN, rfl, HO, HB, hz⟩ := hrel
    obtain ⟨⟨c0, c1, c2, c3, c4, c5⟩, -, -, -, -, -, -⟩ := (H6.out.below HB.out hlt).six
    have hzl := zs_lt m
    by_cases hlt : k < zs m
    · have hne := zs_before m k hlt
      have hrx := HRS.out
      have t1 : ((((r.size : Nat) : Int) + ((N : Nat) : Int)) % 64 != 56) = true := by rw [bne_iff_ne]; omega
      have t2 : ((((r.size : Nat) : Int) + ((N : Nat) : Int)) % 64 == 56) = false := by rw [beq_eq_false_iff_ne]; omega
      have hN2 : N ≤ 64 := by omega
      have hNx : Hid (N = 1 + k) := hN
      clear hne hN hrx
      go_wp2_with (refine wpList_appG1 _ (.int .u8 0) rfl _ _ 34 5 _ _ S34 rfl w.heap.size _ N (chs (pad0 k)) rfl rfl rfl HO.out (by unfold maxLen; omega) (by omega) (by omega) (fun g' c' w3 h1 h2 => ?_))
      have HO3 : Hid (OwnG w3 w.heap.size (.slice (some ⟨g', 0, none⟩) (N + 1) c') (N + 1) (chs (pad0 (k + 1)))) := by
        unfold Hid
        rw [pad0_succ, chs_append]; exact h1
      have HB3 : Hid (Below w.heap.size w w3) := (HB.out).trans h2
      have hz3 : w.heap.size < w3.heap.size := by have := h2.size; omega
      clear h1 h2
      go_wp2
      go_roundw
      case rel => exact ⟨N + 1, k + 1, g', c', by omega, by have := hNx.out; omega, rfl, HO3, HB3, hz3⟩
      case measure => 
        have := hNx.out
        simp only [lenV]; omega
    · have e : k = zs m := by omega
      have hz0 := zs_at m
      have hrx := HRS.out
      have t1 : ((((r.size : Nat) : Int) + ((N : Nat) : Int)) % 64 != 56) = false := by rw [← Bool.not_eq_true, bne_iff_ne]; omega
      have t2 : ((((r.size : Nat) : Int) + ((N : Nat) : Int)) % 64 == 56) = true := by rw [beq_iff_eq]; omega
      have hN2 : N ≤ 64 := by omega
      have hNx : Hid (N = 1 + zs m) := by unfold Hid; omega
      have HO3 : Hid (OwnG wr w.heap.size (.slice (some ⟨g, 0, none⟩) N c) N (chs (pad0 (zs m)))) := by rw [← e]; exact HO
      clear HO hN e hlt hk hz0 hrx
      go_wp2
      clear t1 t2 c0 c1 c2 c3 c4 c5
      go_loopw [3, 5] (fun v iv wr => ∃ (M k g c : Nat), k ≤ 8 ∧ M = N + k ∧ iv = .int .i64 k ∧ v = .slice (some ⟨g, 0, none⟩) M c ∧ Hid (OwnG wr w.heap.size (.slice (some ⟨g, 0, none⟩) M c) M (chs (pad0 (zs m) ++ len8 m k))) ∧ Hid (Below w.heap.size w wr) ∧ w.heap.size < wr.heap.size) (fun _ iv _ => 8 - (intOf iv).toNat)
      case atStart => exact ⟨N, 0, g, c, by omega, rfl, rfl, rfl, by rw [show len8 m 0 = [] from rfl, List.append_nil]; exact HO3, HB, hz⟩
      case round =>
        clear HO3 HB hz
        obtain ⟨M, k, g, c, hk, hM, rfl, rfl, HO, HB, hz⟩ := hrel
        by_cases hlt2 : k < 8
        · have hM2 : M ≤ 72 := by omega
          have hMx : Hid (M = N + k) := hM
          clear hM
          have HV : Hid ((m : Int) * 8 / 2 ^ (8 * k) % 256 = ((ub (8 * m / 256 ^ k)).toNat : Int)) := len8_val _ _ _ rfl
          go_wp2_with (refine wpList_appG1 _ (.int .u8 ((m : Int) * 8 / 2 ^ (8 * k) % 256)) rfl _ _ 34 5 _ _ S34 rfl w.heap.size _ M (chs (pad0 (zs m) ++ len8 m k)) rfl rfl rfl HO.out (by unfold maxLen; omega) (by omega) (by omega) (fun g' c' w3 h1 h2 => ?_))
          have HO3 : Hid (OwnG w3 w.heap.size (.slice (some ⟨g', 0, none⟩) (M + 1) c') (M + 1) (chs (pad0 (zs m) ++ len8 m (k + 1)))) := by
            unfold Hid
            rw [len8_succ, ← List.append_assoc, chs_append _ [_]]
            have e : chs [ub (8 * m / 256 ^ k)] = [.int .u8 ((m : Int) * 8 / 2 ^ (8 * k) % 256)] := by rw [HV.out]; rfl
            rw [e]
            exact h1
          have HB3 : Hid (Below w.heap.size w w3) := (HB.out).trans h2
          have hz3 : w.heap.size < w3.heap.size := by have := h2.size; omega
          clear h1 h2
          go_wp2
          go_roundw
          case rel => exact ⟨M + 1, k + 1, g', c', by omega, by have := hMx.out; omega, by go_num, rfl, HO3, HB3, hz3⟩
          case measure => simp [intOf]; omega
        · have e : k = 8 := by omega
          have HO3 : Hid (OwnG wr w.heap.size (.slice (some ⟨g, 0, none⟩) M c) M (chs (padL m))) := by
            have := HO.out
            rw [e] at this
            exact this
          have hM2 : M ≤ 72 := by omega
          obtain ⟨⟨c0, c1, c2, c3, c4, c5⟩, -, -, -, -, -, -⟩ := (H6.out.below HB.out hlt).six
          have hbw : b < wr.heap.size := by omega
          clear HO hM e
          go_wp2
          have hq0 : CellsF (wr.alloc (.cells #[.int .u32 (q.a : Int), .int .u32 (q.b : Int), .int .u32 (q.c : Int), .int .u32 (q.d : Int)] 67)) wr.heap.size 4 (f4 q) := CellsF.new wr _ 67 4 _ _ rfl (f4_at q)
          have hb1 : Below wr.heap.size wr (wr.alloc (.cells #[.int .u32 (q.a : Int), .int .u32 (q.b : Int), .int .u32 (q.c : Int), .int .u32 (q.d : Int)] 67)) := (Below.refl _ _).alloc (Nat.le_refl _) _
          have HO4 := HO3.out.below hb1
          have HB4 := Lib.hid (HB.out.trans (hb1.mono (by omega)))
          have hz4 : wr.heap.size < (wr.alloc (.cells #[.int .u32 (q.a : Int), .int .u32 (q.b : Int), .int .u32 (q.c : Int), .int .u32 (q.d : Int)] 67)).heap.size := by simp
          have hzB : w.heap.size < wr.heap.size := hz
          have H6b := (H6.out.below HB4.out hlt)
          clear hb1 c0 c1 c2 c3 c4 c5
          generalize wr.alloc (.cells #[.int .u32 (q.a : Int), .int .u32 (q.b : Int), .int .u32 (q.c : Int), .int .u32 (q.d : Int)] 67) = w6 at *
          generalize wr.heap.size = B6 at *
          have hst : ∀ n, (convert 34 9 (.slice (some ⟨g, 0, none⟩) M c)).run Try.prog (w6.drewN n) = .ok (.string (mkS (padL m))) (w6.drewN n) := fun n =>
            run_strG (w6.drewN n) 34 9 5 Try.underlying34 Try.underlying9 Try.underlying5 w.heap.size _ M _ HO4
          obtain ⟨⟨c0, c1, c2, c3, c4, c5⟩, -, -, -, -, -, -⟩ := H6b.six
          have hP : (mkS (padL m)).size = zs m + 9 := by rw [mkS_size, padL_len]
          have hPl : (mkS (padL m)).size ≤ 100 := by omega
          have HT : Hid (r ++ mkS (padL m) = mkS (t.drop (64 * (t.length / 64)) ++ padL m)) := by
            unfold Hid; rw [← mkS_append, HR.out]
          have HP := Lib.hid hP
          clear hP
          generalize mkS (padL m) = P at *
          have y1 : ¬ 9223372036854775807 < r.size + P.size := by omega
          have H4 := Lib.hid hq0
          clear hq0 HO4 H6b c0 c1 c2 c3 c5
          go_quiet (fail)
          go_wp2
          obtain ⟨L, hL⟩ : ∃ L, t.drop (64 * (t.length / 64)) ++ padL m = L := ⟨_, rfl⟩
          have hS : (r ++ P).size = L.length := by
            rw [HT.out, hL, mkS_size]
          have hJ : ∃ J, L.length = 64 * J := by
            have h1 := HP.out
            have h2 := HRS.out
            have h3 := zs_at m
            have h4 : (r ++ P).size = r.size + P.size := ByteArray.size_append
            exact ⟨(m % 64 + zs m + 9) / 64, by omega⟩
          obtain ⟨J, hJ⟩ := hJ
          have hS2 : r ++ P = mkS (L.drop (64 * 0)) := by rw [HT.out, hL]; rfl
          have hfin : Hid (md5 t = textSt (fold J q L)) := md5_fin t L q m J HM.out HQ.out hL hJ
          have hB6 : w.heap.size < B6 := hzB
          clear c4 hst y1 hPl
          have HS2 := Lib.hid hS2
          have HJ := Lib.hid hJ
          have HB7 : Hid (Below w.heap.size w (w6.drewN nq)) := below_drewN HB4.out _
          have H7 : Hid (CellsF (w6.drewN nq) B6 4 (f4 (fold 0 q L))) := H4.out
          have hz7 : B6 < (w6.drewN nq).heap.size := by simpa using hz4
          clear hL hS hS2 hJ hzB HB4 H4 hz4
          generalize w6.drewN nq = w7 at *
          go_loopw [7] (fun sv wr => ∃ (j : Nat) (S : ByteArray), j ≤ J ∧ sv = .string S ∧ Hid (S = mkS (L.drop (64 * j))) ∧ Hid (CellsF wr B6 4 (f4 (fold j q L))) ∧ Hid (Below w.heap.size w wr) ∧ B6 < wr.heap.size) (fun sv _ => match sv with | .string S => S.size | _ => 0)
          case atStart => exact ⟨0, r ++ P, by omega, rfl, HS2, H7, HB7, hz7⟩
          case round =>
            clear HS2 H7 HB7 hz7
            obtain ⟨j, S, hj, rfl, HS, H4, HB, hz⟩ := hrel
            have hsz : S.size = 64 * J - 64 * j := by rw [HS.out, mkS_size, List.length_drop, HJ.out]
            obtain ⟨⟨c0, c1, c2, c3⟩, f0, f1, f2, f3⟩ := H4.out.four
            have hqj := fold_ok j q L hqo
            generalize hqq : fold j q L = qq at *
            have HQQ := Lib.hid hqq
            clear hqq
            by_cases hlt3 : j < J
            · have h64 : 64 ≤ S.size := by omega
              have h64' : 64 ≤ (S.size : Int) := by omega
              have hne := not_empty S (by omega)
              have cT := Lib.hid (fun w => take_any qq.a qq.b qq.c qq.d hqj (S.extract 0 64) (by simp; omega) w)
              have e0 : (⟨qq.a, qq.b, qq.c, qq.d⟩ : St) = qq := rfl
              rw [e0] at cT
              clear e0
              generalize hX : take qq (S.extract 0 64).data.toList = X at *
              have HX := Lib.hid hX
              clear hX
              obtain ⟨na, nb, nc, nd⟩ := X
              have cT2 : Hid (∀ w, Calls Try.prog 39 #[.agg #[.int .u32 (qq.a : Int), .int .u32 (qq.b : Int), .int .u32 (qq.c : Int), .int .u32 (qq.d : Int)], .string (S.extract 0 64)] w fun e w' => e = .returned (.agg #[.int .u32 (na : Int), .int .u32 (nb : Int), .int .u32 (nc : Int), .int .u32 (nd : Int)]) ∧ Below w.heap.size w w') := cT.out
              clear cT
              have HSZ := Lib.hid hsz
              clear hsz
              go_wp2
              go_region_law (first | (go_simp; go_at_call 39; refine (cT2.out _).mono ?_; rintro e w8 ⟨rfl, hb8⟩; obtain ⟨⟨k0, k1, k2, k3⟩, g0, g1, g2, g3⟩ := (CellsF.below (CellsF.drew H4.out) hb8 hz).four))
              all_goals
                have H9 := Lib.hid ((CellsF.below (CellsF.drew H4.out) hb8 hz).setf na nb nc nd)
                have HB9 := Lib.hid (((((HB.out.drew).trans (hb8.mono (by simp; omega))).setCell (p := ⟨B6, 0, none⟩) (by simp; omega) (.int .u32 (na : Int))).setCell (p := ⟨B6, 1, none⟩) (by simp; omega) (.int .u32 (nb : Int))).setCell (p := ⟨B6, 2, none⟩) (by simp; omega) (.int .u32 (nc : Int)) |>.setCell (p := ⟨B6, 3, none⟩) (by simp; omega) (.int .u32 (nd : Int)))
                have hsz9 : B6 < ((((w8.setCell ⟨B6, 0, none⟩ (.int .u32 (na : Int))).setCell ⟨B6, 1, none⟩ (.int .u32 (nb : Int))).setCell ⟨B6, 2, none⟩ (.int .u32 (nc : Int))).setCell ⟨B6, 3, none⟩ (.int .u32 (nd : Int))).heap.size := by
                  have := hb8.size
                  simp [World.setCell] at this ⊢
                  omega
                clear k0 k1 k2 k3 g0 g1 g2 g3 hb8
                generalize (((w8.setCell ⟨B6, 0, none⟩ (.int .u32 (na : Int))).setCell ⟨B6, 1, none⟩ (.int .u32 (nb : Int))).setCell ⟨B6, 2, none⟩ (.int .u32 (nc : Int))).setCell ⟨B6, 3, none⟩ (.int .u32 (nd : Int)) = w9 at *
                have HS9 : Hid (S.extract 64 S.size = mkS (L.drop (64 * (j + 1)))) := by
                  unfold Hid
                  rw [HS.out, mkS_cut, List.drop_drop]; rfl
                have HF9 : Hid (CellsF w9 B6 4 (f4 (fold (j + 1) q L))) := by
                  have e1 : fold (j + 1) q L = ⟨na, nb, nc, nd⟩ := by
                    rw [fold_succ, HQQ.out, ← HX.out, HS.out]
                    congr 1
                    rw [mkS_take, mkS_list]
                  unfold Hid
                  rw [e1]; exact H9.out
                go_wp2
                go_roundw
                case rel => exact ⟨j + 1, _, by omega, rfl, HS9, HF9, HB9, hsz9⟩
                case measure => 
                  show (S.extract 64 S.size).size < S.size
                  rw [ByteArray.size_extract]; omega
            · have hemp := is_empty S (by omega)
              have e : j = J := by omega
              have HF : Hid (textSt qq = md5 t) := by
                unfold Hid
                rw [hfin.out, ← e, HQQ.out]
              clear e hsz
              have cX := Lib.hid (fun w => text_any qq hqj w)
              go_wp2_with (go_at_call 40; refine (cX.out _).mono ?_; rintro e w8 ⟨rfl, hb8⟩)
              go_ret
              exact ⟨ret_bytes' (by rw [HF.out]), HB.out.trans (hb8.mono (by omega))⟩

set_option maxHeartbeats 1000000 in
theorem sum_any (s : ByteArray) (hs : s.size ≤ 1099511627776) (w : World) : Calls Try.prog 10 #[.string s] w fun e w' => e = .returned (.string (mkS (md5 s.data.toList))) ∧ Below w.heap.size w w' := by
  have cW := Lib.hid (fun b w h => write_any b [] s w h (by simpa using hs))
  have cS := Lib.hid (fun b w h => sumH_any b s.data.toList w h (by simpa using hs))
  go_enter Try.func10, Try.ntmps10
  go_wp2_with (go_at_call 13; refine (new_any _).mono ?_; rintro e w1 ⟨g, rfl, hg, hh, hb1⟩)
  have HH := Lib.hid hh
  clear hh
  go_wp2_with (go_at_call 14; refine (cW.out g _ HH.out).mono ?_; rintro e w2 ⟨⟨v, rfl⟩, hh2, hb2⟩)
  go_wp2_with (go_at_call 15; refine (cS.out g _ hh2).mono ?_; rintro e w3 ⟨rfl, hb3⟩)
  go_ret
  exact ⟨rfl, ((hb1.grown hb2 hb1.size (fun k hk => by injection hk with hk; omega)).trans (hb3.mono (by have := hb1.size; have := hb2.size; omega)))⟩
end Go.Proofs.Yteheibgdjpkeaaa
