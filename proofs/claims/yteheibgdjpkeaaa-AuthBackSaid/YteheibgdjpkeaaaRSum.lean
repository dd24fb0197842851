/- digest: the reference's sum. -/
import Derived.Test.YteheibgdjpkeaaaMd5P
namespace Go.Proofs.Yteheibgdjpkeaaa
open Go.RowKit

def lenV : Value → Nat
  | .slice _ n _ => n
  | _ => 0

theorem len8_val (n m k : Nat) (h : n = m) : (n : Int) * 8 / 2 ^ (8 * k) % 256 = ((ub (8 * m / 256 ^ k)).toNat : Int) := by
  subst h
  have e : (2 : Int) ^ (8 * k) = ((256 ^ k : Nat) : Int) := by
    rw [Int.pow_mul, Int.natCast_pow]; rfl
  rw [ub_toNat, e, show (n : Int) * 8 = ((8 * n : Nat) : Int) from by omega]
  rfl

/-- the cells of a part of such a slice. -/
theorem OwnG.part {w : World} {B g n c : Nat} {full : List UInt8} (h : OwnG w B (.slice (some ⟨g, 0, none⟩) n c) n (chs full)) (a : Nat) (ha : a + 64 ≤ n) :
    CellsO w g a 64 (fun j => .int .u8 ((by8 ((full.drop a).take 64) j : Nat) : Int)) := by
  obtain ⟨hl, g2, cap, hv, _, _, _, _, hx, _⟩ := h
  simp only [Value.slice.injEq, Option.some.injEq, Addr.mk.injEq] at hv
  obtain ⟨⟨rfl, _⟩, _⟩ := hv
  intro j hj
  rw [chs_len] at hl
  have hj2 : a + j < full.length := by omega
  refine (hx (a + j) (.int .u8 (full[a + j].toNat : Int)) (by rw [chs, List.getElem?_map, List.getElem?_eq_getElem hj2]; rfl)).trans ?_
  have e : ((full.drop a).take 64)[j]? = some full[a + j] := by
    rw [List.getElem?_take, if_pos hj, List.getElem?_drop, List.getElem?_eq_getElem hj2]
  show _ = some (Value.int .u8 ((by8 _ j : Nat) : Int))
  unfold by8
  rw [e]; rfl

theorem keep40 {w : World} {p0 p1 p2 p3 : Addr} {v0 v1 v2 v3 : Option Value} (h0 : w.cell? p0 = v0) (h1 : w.cell? p1 = v1) (h2 : w.cell? p2 = v2) (h3 : w.cell? p3 = v3) :
    w.drew.cell? p0 = v0 ∧ w.drew.cell? p1 = v1 ∧ w.drew.cell? p2 = v2 ∧ w.drew.cell? p3 = v3 ∧ Below w.heap.size w w.drew := ⟨h0, h1, h2, h3, (Below.refl _ _).drew⟩
theorem keep41 {wq W w' : World} {b o0 o1 o2 o3 : Nat} {v0 v1 v2 v3 : Option Value} (h : W.cell? ⟨b, o0, none⟩ = v0 ∧ W.cell? ⟨b, o1, none⟩ = v1 ∧ W.cell? ⟨b, o2, none⟩ = v2 ∧ W.cell? ⟨b, o3, none⟩ = v3 ∧ Below wq.heap.size wq W) (hz : b < wq.heap.size) (hb : Below W.heap.size W w') :
    w'.cell? ⟨b, o0, none⟩ = v0 ∧ w'.cell? ⟨b, o1, none⟩ = v1 ∧ w'.cell? ⟨b, o2, none⟩ = v2 ∧ w'.cell? ⟨b, o3, none⟩ = v3 ∧ Below wq.heap.size wq w' := by
  obtain ⟨a0, a1, a2, a3, a4⟩ := h
  have hs := a4.size
  exact ⟨(hb.cell (p := ⟨b, o0, none⟩) (by simp; omega)).trans a0, (hb.cell (p := ⟨b, o1, none⟩) (by simp; omega)).trans a1, (hb.cell (p := ⟨b, o2, none⟩) (by simp; omega)).trans a2, (hb.cell (p := ⟨b, o3, none⟩) (by simp; omega)).trans a3, a4.trans (hb.mono hs)⟩

set_option maxRecDepth 100000 in
set_option maxHeartbeats 8000000 in
theorem refSum_any (s : ByteArray) (hs : s.size ≤ 1099511627776) (w : World) : Calls Try.prog 11 #[.string s] w fun e w' => e = .returned (.string (mkS (md5 s.data.toList))) ∧ Below w.heap.size w w' := by
  obtain ⟨l, hl⟩ : ∃ l, s.data.toList = l := ⟨_, rfl⟩
  obtain ⟨m, hm⟩ : ∃ m, s.size = m := ⟨_, rfl⟩
  have hlm : Hid (l.length = m) := by unfold Hid; rw [← hl, ← hm]; simp
  have own := OwnG.of_bytes s 5 w w.heap.size (Nat.le_refl _) (by unfold maxLen; omega)
  have hcv := run_bytesW (P := Try.prog) 9 34 5 Try.underlying9 Try.underlying34 Try.underlying5 s w
  have hbb := bytesW_below s 5 w
  have hs1 := hs
  rw [hl, hm] at own
  rw [hm] at hs hcv
  rw [hl]
  have hz := bytesW_size s 5 w
  generalize bytesC s 5 w = C at *
  generalize bytesW s 5 w = w1 at *
  have HO := Lib.hid own
  have HB := Lib.hid hbb
  have HM := Lib.hid hm
  have hlt0 : 0 < s.size + 1 := by omega
  clear own hl hm hbb
  go_enter Try.func11, Try.ntmps11
  go_wp2_with (refine wpList_appG1 w1 (.int .u8 128) rfl _ _ 34 5 _ _ S34 rfl w.heap.size _ m (chs l) rfl rfl rfl HO.out (by unfold maxLen; omega) (by omega) (by omega) (fun g c w2 h1 h2 => ?_))
  have HO2 : Hid (OwnG w2 w.heap.size (.slice (some ⟨g, 0, none⟩) (m + 1) c) (m + 1) (chs (l ++ pad0 0))) := by
    unfold Hid
    rw [chs_append]; exact h1
  have HB2 : Hid (Below w.heap.size w w2) := (HB.out).trans h2
  have hz2 : w.heap.size < w2.heap.size := by have := h2.size; omega
  clear h1 h2 HO HB
  go_wp2
  go_loopw [3] (fun v wr => ∃ (N k g c : Nat), k ≤ zs m ∧ N = m + 1 + k ∧ v = .slice (some ⟨g, 0, none⟩) N c ∧ Hid (OwnG wr w.heap.size (.slice (some ⟨g, 0, none⟩) N c) N (chs (l ++ pad0 k))) ∧ Hid (Below w.heap.size w wr) ∧ w.heap.size < wr.heap.size) (fun v _ => m + 100 - lenV v)
  case atStart => exact ⟨m + 1, 0, g, c, by omega, rfl, rfl, HO2, HB2, hz2⟩
  case round =>
    clear HO2 HB2 hz2 hcv
    obtain ⟨N, k, g, c, hk, hN, rfl, HO, HB, hz⟩ := hrel
    have hzl := zs_lt m
    by_cases hlt : k < zs m
    · have hne := zs_before m k hlt
      have t1 : (((N : Nat) : Int) % 64 != 56) = true := by rw [bne_iff_ne]; omega
      have t2 : ((((N : Nat) : Int) % 64) == 56) = false := by rw [beq_eq_false_iff_ne]; omega
      have hN2 : N ≤ 1099511627776 + 64 := by omega
      have hNx : Hid (N = m + 1 + k) := hN
      clear hne hN
      go_wp2_with (refine wpList_appG1 _ (.int .u8 0) rfl _ _ 34 5 _ _ S34 rfl w.heap.size _ N (chs (l ++ pad0 k)) rfl rfl rfl HO.out (by unfold maxLen; omega) (by omega) (by omega) (fun g' c' w3 h1 h2 => ?_))
      have HO3 : Hid (OwnG w3 w.heap.size (.slice (some ⟨g', 0, none⟩) (N + 1) c') (N + 1) (chs (l ++ pad0 (k + 1)))) := by
        unfold Hid
        rw [pad0_succ, ← List.append_assoc, chs_append]; exact h1
      have HB3 : Hid (Below w.heap.size w w3) := (HB.out).trans h2
      have hz3 : w.heap.size < w3.heap.size := by have := h2.size; omega
      clear h1 h2
      go_wp2
      go_roundw
      case rel => exact ⟨N + 1, k + 1, g', c', by omega, by have := hNx.out; omega, rfl, HO3, HB3, hz3⟩
      case measure => 
        have := hNx.out
        simp only [lenV]; omega
    · have e : k = zs m := by omega
      have hz0 := zs_at m
      have t1 : (((N : Nat) : Int) % 64 != 56) = false := by rw [← Bool.not_eq_true, bne_iff_ne]; omega
      have t2 : ((((N : Nat) : Int) % 64) == 56) = true := by rw [beq_iff_eq]; omega
      have hN2 : N ≤ 1099511627776 + 64 := by omega
      have hNx : Hid (N = m + 1 + zs m) := by unfold Hid; omega
      have HO3 : Hid (OwnG wr w.heap.size (.slice (some ⟨g, 0, none⟩) N c) N (chs (l ++ pad0 (zs m)))) := by rw [← e]; exact HO
      clear HO hN e hlt hk hz0
      go_wp2
      clear t1 t2 hz
      have hz : w.heap.size < wr.heap.size := by
        obtain ⟨_, _, _, _, h1, h2, _⟩ := HO3.out
        omega
      go_loopw [3, 5] (fun v iv wr => ∃ (M k g c : Nat), k ≤ 8 ∧ M = N + k ∧ iv = .int .i64 k ∧ v = .slice (some ⟨g, 0, none⟩) M c ∧ Hid (OwnG wr w.heap.size (.slice (some ⟨g, 0, none⟩) M c) M (chs (l ++ pad0 (zs m) ++ len8 m k))) ∧ Hid (Below w.heap.size w wr) ∧ w.heap.size < wr.heap.size) (fun _ iv _ => 8 - (intOf iv).toNat)
      case atStart => exact ⟨N, 0, g, c, by omega, rfl, rfl, rfl, by rw [show len8 m 0 = [] from rfl, List.append_nil]; exact HO3, HB, hz⟩
      case round =>
        clear HO3 HB hz
        obtain ⟨M, k, g, c, hk, hM, rfl, rfl, HO, HB, hz⟩ := hrel
        by_cases hlt : k < 8
        · have hM2 : M ≤ 1099511627776 + 72 := by omega
          have hMx : Hid (M = N + k) := hM
          clear hM
          have HV : Hid ((s.size : Int) * 8 / 2 ^ (8 * k) % 256 = ((ub (8 * m / 256 ^ k)).toNat : Int)) := len8_val _ _ _ HM.out
          go_wp2_with (refine wpList_appG1 _ (.int .u8 ((s.size : Int) * 8 / 2 ^ (8 * k) % 256)) rfl _ _ 34 5 _ _ S34 rfl w.heap.size _ M (chs (l ++ pad0 (zs m) ++ len8 m k)) rfl rfl rfl HO.out (by unfold maxLen; omega) (by omega) (by omega) (fun g' c' w3 h1 h2 => ?_))
          have HO3 : Hid (OwnG w3 w.heap.size (.slice (some ⟨g', 0, none⟩) (M + 1) c') (M + 1) (chs (l ++ pad0 (zs m) ++ len8 m (k + 1)))) := by
            unfold Hid
            rw [len8_succ, ← List.append_assoc, chs_append _ [_]]
            have e : chs [ub (8 * m / 256 ^ k)] = [.int .u8 ((s.size : Int) * 8 / 2 ^ (8 * k) % 256)] := by rw [HV.out]; rfl
            rw [e]
            exact h1
          have HB3 : Hid (Below w.heap.size w w3) := (HB.out).trans h2
          have hz3 : w.heap.size < w3.heap.size := by have := h2.size; omega
          clear h1 h2
          go_wp2
          go_roundw
          case rel => exact ⟨M + 1, k + 1, g', c', by omega, by have := hMx.out; omega, by go_num, rfl, HO3, HB3, hz3⟩
          case measure => simp [intOf]; omega
        · have e : k = 8 := by omega
          have hMx : Hid (M = 64 * nblk m) := by
            unfold Hid
            have := nblk_len m
            have := hNx.out
            omega
          have HO3 : Hid (OwnG wr w.heap.size (.slice (some ⟨g, 0, none⟩) M c) M (chs (l ++ padL m))) := by
            have := HO.out
            rw [e, List.append_assoc] at this
            exact this
          have hM2 : M ≤ 1099511627776 + 72 := by omega
          clear HO hM e
          go_wp2
          have hw0 : Hid (CellsO (wr.alloc (.cells #[.int .u32 1732584193, .int .u32 4023233417, .int .u32 2562383102, .int .u32 271733878] 61)) wr.heap.size 0 4 (f4 begin0)) := by
            intro j hj
            rw [Nat.zero_add]
            exact cell_box wr _ 61 j _ (f4_at begin0 j hj)
          have hb1 : Below wr.heap.size wr (wr.alloc (.cells #[.int .u32 1732584193, .int .u32 4023233417, .int .u32 2562383102, .int .u32 271733878] 61)) := (Below.refl _ _).alloc (Nat.le_refl _) _
          have HO4 := Lib.hid (HO3.out.below hb1)
          have HB4 := Lib.hid (HB.out.trans (hb1.mono (by omega)))
          have hz4 : wr.heap.size < (wr.alloc (.cells #[.int .u32 1732584193, .int .u32 4023233417, .int .u32 2562383102, .int .u32 271733878] 61)).heap.size := by simp
          clear hb1
          generalize wr.alloc (.cells #[.int .u32 1732584193, .int .u32 4023233417, .int .u32 2562383102, .int .u32 271733878] 61) = w6 at *
          go_loopw [6, 7] (fun v av wr => ∃ (n a gw : Nat), n ≤ nblk m ∧ Hid (a = 64 * n) ∧ a ≤ M ∧ av = .int .i64 a ∧ v = .slice (some ⟨gw, 0, none⟩) 4 4 ∧ Hid (CellsO wr gw 0 4 (f4 (fold n begin0 (l ++ padL m)))) ∧ gw < wr.heap.size ∧ Hid (Below w.heap.size w wr) ∧ Hid (OwnG wr w.heap.size (.slice (some ⟨g, 0, none⟩) M c) M (chs (l ++ padL m))) ∧ w.heap.size < wr.heap.size) (fun _ av _ => M - (intOf av).toNat)
          case atStart => exact ⟨0, 0, wr.heap.size, by omega, rfl, by omega, rfl, rfl, hw0, hz4, HB4, HO4, by omega⟩
          case round =>
            clear hw0 hz4 HB4 HO4 HO3 HB hz
            obtain ⟨n, a, gw, hn, ha, haM, rfl, rfl, HW, hgw, HB, HO, hz⟩ := hrel
            by_cases hlt3 : a < M
            · have haM2 : a + 64 ≤ M := by
                have h1 := ha.out
                have h2 := hMx.out
                omega
              have hcM : M ≤ c := by
                obtain ⟨_, _, _, hv, _, _, h5, _⟩ := HO.out
                simp only [Value.slice.injEq] at hv
                obtain ⟨_, _, rfl⟩ := hv
                exact h5
              have hgB : g < wr.heap.size := by
                obtain ⟨_, _, _, hv, _, h5, _⟩ := HO.out
                simp only [Value.slice.injEq, Option.some.injEq, Addr.mk.injEq] at hv
                obtain ⟨⟨rfl, _⟩, _⟩ := hv
                exact h5
              have hac : ¬ c = a := by omega
              have cB := Lib.hid (fun h => block_any (fold n begin0 (l ++ padL m)) (fold_ok _ _ _ begin0_ok) (((l ++ padL m).drop a).take 64) gw 4 g a (c - a) wr hgw hgB (by omega) h HW.out (HO.out.part a haM2))
              go_wp2_with (fail)
              refine (cB.out (by omega)).mono ?_
              rintro e w8 ⟨gn, rfl, hb8, _, hgn, hc8⟩
              have HW8 : Hid (CellsO w8 gn 0 4 (f4 (fold (n + 1) begin0 (l ++ padL m)))) := by
                unfold Hid
                rw [fold_succ, ← ha.out]; exact hc8
              have HO8 := Lib.hid (HO.out.below hb8)
              have HB8 := Lib.hid (HB.out.trans (hb8.mono (by omega)))
              have hz8 : w.heap.size < w8.heap.size := by have := hb8.size; omega
              clear hb8 hc8
              go_wp2_with (fail)
              go_roundw
              case rel => exact ⟨n + 1, a + 64, gn, by have h1 := ha.out; have h2 := hMx.out; omega, by have h1 := ha.out; unfold Hid; omega, by omega, by go_num, rfl, HW8, hgn, HB8, HO8, hz8⟩
              case measure => simp [intOf]; omega
            · have e : n = nblk m := by
                have h1 := ha.out
                have h2 := hMx.out
                omega
              have hq := fold_ok n begin0 (l ++ padL m) begin0_ok
              have HT : Hid (mkS (le4 (fold n begin0 (l ++ padL m)).a) ++ mkS (le4 (fold n begin0 (l ++ padL m)).b) ++ mkS (le4 (fold n begin0 (l ++ padL m)).c) ++ mkS (le4 (fold n begin0 (l ++ padL m)).d) = mkS (md5 l)) := by
                unfold Hid
                rw [mkS_append, mkS_append, mkS_append]
                unfold md5
                rw [hlm.out, ← e]; rfl
              clear e
              have h0 : wr.cell? ⟨gw, 0, none⟩ = some (.int .u32 ((fold n begin0 (l ++ padL m)).a : Int)) := HW.out 0 (by omega)
              have h1 : wr.cell? ⟨gw, 1, none⟩ = some (.int .u32 ((fold n begin0 (l ++ padL m)).b : Int)) := HW.out 1 (by omega)
              have h2 : wr.cell? ⟨gw, 2, none⟩ = some (.int .u32 ((fold n begin0 (l ++ padL m)).c : Int)) := HW.out 2 (by omega)
              have h3 : wr.cell? ⟨gw, 3, none⟩ = some (.int .u32 ((fold n begin0 (l ++ padL m)).d : Int)) := HW.out 3 (by omega)
              generalize fold n begin0 (l ++ padL m) = q at *
              obtain ⟨qa, qb, qc, qd⟩ := q
              obtain ⟨q0, q1, q2, q3⟩ := hq
              simp only at q0 q1 q2 q3 h0 h1 h2 h3 HT
              have z : ∀ n, (mkS (le4 n)).size ≤ 4 := fun n => by rw [mkS_size]; simp [le4]
              have z0 := z qa
              have z1 := z qb
              have z2 := z qc
              have z3 := z qd
              have y1 : ¬ 9223372036854775807 < (mkS (le4 qa)).size + (mkS (le4 qb)).size := by omega
              have y2 : ¬ 9223372036854775807 < (mkS (le4 qa)).size + (mkS (le4 qb)).size + (mkS (le4 qc)).size := by omega
              have y3 : ¬ 9223372036854775807 < (mkS (le4 qa)).size + (mkS (le4 qb)).size + (mkS (le4 qc)).size + (mkS (le4 qd)).size := by omega
              clear z
              clear HW
              go_wp2
              go_region_held3 (fun w' => w'.cell? ⟨gw, 0, none⟩ = some (.int .u32 (qa : Int)) ∧ w'.cell? ⟨gw, 1, none⟩ = some (.int .u32 (qb : Int)) ∧ w'.cell? ⟨gw, 2, none⟩ = some (.int .u32 (qc : Int)) ∧ w'.cell? ⟨gw, 3, none⟩ = some (.int .u32 (qd : Int)) ∧ Below wr.heap.size wr w')
                (first | exact keep40 h0 h1 h2 h3 | exact keep41 (by assumption) hgw hb9 | exact keep41 (keep40 h0 h1 h2 h3) hgw hb9)
                (first | (go_at_call 36; refine (le_any _ (by omega) _).mono ?_; rintro e w9 ⟨rfl, hb9⟩))
              go_wp2
              go_ret
              have hb8 : Below wr.heap.size wr w9 := (by assumption : _ ∧ _ ∧ _ ∧ _ ∧ Below wr.heap.size wr w9).2.2.2.2
              exact ⟨ret_bytes' HT.out, HB.out.trans (hb8.mono (by omega))⟩
end Go.Proofs.Yteheibgdjpkeaaa
