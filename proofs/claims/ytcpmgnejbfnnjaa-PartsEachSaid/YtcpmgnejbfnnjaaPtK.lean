/- parts: Join, the reference's; Same; great. No condition but sizes. -/
import Derived.Test.YtcpmgnejbfnnjaaPtJ
import Derived.Test.YtcpmgnejbfnnjaaPtR
namespace Go.Proofs.Ytcpmgnejbfnnjaa
open Go.RowKit

def nmB (b : List UInt8) : List Int := b.map fun c : UInt8 => (c.toNat : Int)
theorem nmB_len (b : List UInt8) : (nmB b).length = b.length := by simp [nmB]
theorem nmB_snoc (b : List UInt8) (c : UInt8) : (nmB b).map (Value.int .u8) ++ [.int .u8 (c.toNat : Int)] = (nmB (b ++ [c])).map (Value.int .u8) := by simp [nmB]

set_option maxRecDepth 100000 in
set_option maxHeartbeats 8000000 in
theorem refJoin_any (a : Option Addr) (c : Nat) (l : List ByteArray) (w : World) (hT : Txts w a l) (hl : l.length ≤ 100000) (hs : (l.map (·.size)).sum ≤ 1000000) :
    Calls Try.prog 30 #[.slice a l.length c] w fun e w' => e = .returned (.string (mkT (jnL (lts l)))) ∧ Below w.heap.size w w' := by
  have HT := Lib.hid hT
  obtain ⟨n, hn⟩ : ∃ n, l.length = n := ⟨_, rfl⟩
  have HJ : Hid (mkT (jnL (lts l)) = mkT (jnK l n)) := by unfold Hid jnK; rw [← hn, List.take_length]
  have HN := Lib.hid hn
  rw [hn]
  have hn1 : n ≤ 100000 := by omega
  clear hT hn hl
  go_enter Try.func30, Try.ntmps30
  go_wp2_with fail
  go_loopw [3, 4, 5, 6] (fun bv iv _ _ wr => ∃ (k : Nat) (b : List UInt8) (a2 : Option Addr) (c2 : Nat), k ≤ n ∧ iv = .int .i64 (k : Int) ∧ bv = .slice a2 b.length c2 ∧ Hid (b = jnK l k) ∧ Hid (wr.ownsRow w.heap.size 5 1 (.slice a2 b.length c2) b.length ((nmB b).map (Value.int .u8))) ∧ Hid (Below w.heap.size w wr)) (fun _ iv _ _ _ => n - (intOf iv).toNat)
  case atStart => exact ⟨0, [], none, 0, Nat.zero_le _, rfl, rfl, by simp [jnK, lts, jnL, Hid], World.ownsRow_nil _ _ _ _, Below.refl _ _⟩
  case round =>
    obtain ⟨wo, rfl⟩ : ∃ wo : World, wo = wr := ⟨_, rfl⟩
    obtain ⟨k, b, a2, c2, hk, rfl, rfl, HP, HO, HB⟩ := hrel
    by_cases hlt : k < n
    · have hkl : k < l.length := by rw [HN.out]; exact hlt
      have HC : Hid (∀ wz : World, Below w.heap.size w wz → ∃ (tb to : Nat), a = some ⟨tb, to, none⟩ ∧ tb < w.heap.size ∧ wz.cell? ⟨tb, to + k, none⟩ = some (.string l[k])) := fun wz hb => by
        obtain ⟨tb, to, ha, htl, htc⟩ := HT.out k hkl
        exact ⟨tb, to, ha, htl, (hb.cell (p := ⟨tb, to + k, none⟩) htl).trans htc⟩
      obtain ⟨tb, to, rfl, htl, htc⟩ := HC.out _ HB.out
      have hJs := jnK_succ l k hkl
      have hJl := jnK_len l k (by omega)
      rw [← HP.out] at hJs hJl
      have hz1 := szs_le l (k + 1)
      rw [szs_succ l k hkl] at hz1
      generalize l[k] = x at *
      generalize szs l k = zk at *
      have k0 : (0 : Int) ≤ (k : Int) := by omega
      have k1 : (k : Int) < (n : Int) := by omega
      have HCx : Hid (∀ wz : World, Below w.heap.size w wz → wz.cell? ⟨tb, to + k, none⟩ = some (.string x)) := fun wz hb => by
        obtain ⟨tb2, to2, ha, _, hc⟩ := HC.out wz hb
        simp only [Option.some.injEq, Addr.mk.injEq, and_true] at ha
        obtain ⟨rfl, rfl⟩ := ha
        exact hc
      clear HC HT
      by_cases hk0 : k = 0
      · have hP0 : b = [] := by rw [HP.out]; subst hk0; simp [jnK, lts, jnL]
        subst hP0
        rw [if_pos hk0, List.nil_append] at hJs
        have HJs : Hid (jnK l (k + 1) = ([] : List UInt8) ++ escL x.data.toList) := by unfold Hid; rw [hJs]; rfl
        have hP2z : ([] : List UInt8).length ≤ 2 * zk + k + 1 := Nat.zero_le _
        have hk0' : ¬ (0 : Int) < (k : Int) := by omega
        clear hk0 hJs
        have HO0 : Hid (wo.ownsRow w.heap.size 5 1 (.slice a2 (([] : List UInt8) ++ escL (x.data.toList.take 0)).length c2) (([] : List UInt8) ++ escL (x.data.toList.take 0)).length ((nmB (([] : List UInt8) ++ escL (x.data.toList.take 0))).map (Value.int .u8))) := by
          have e : ([] : List UInt8) ++ escL (x.data.toList.take 0) = ([] : List UInt8) := by simp [escL]
          unfold Hid; rw [e]; exact HO.out
        have HL0 : Hid ((([] : List UInt8) ++ escL (x.data.toList.take 0)).length = ([] : List UInt8).length) := by unfold Hid; simp [escL]
        go_wp2_with fail
        go_loopw [3, 5, 6] (fun bv jv _ wr => ∃ (j : Nat) (a3 : Option Addr) (c3 : Nat), j ≤ x.size ∧ jv = .int .i64 (j : Int) ∧ bv = .slice a3 (([] : List UInt8) ++ escL (x.data.toList.take j)).length c3 ∧ Hid (wr.ownsRow w.heap.size 5 1 (.slice a3 (([] : List UInt8) ++ escL (x.data.toList.take j)).length c3) (([] : List UInt8) ++ escL (x.data.toList.take j)).length ((nmB (([] : List UInt8) ++ escL (x.data.toList.take j))).map (Value.int .u8))) ∧ Hid (Below w.heap.size w wr)) (fun _ jv _ _ => x.size - (intOf jv).toNat)
        case atStart => exact ⟨0, a2, c2, Nat.zero_le _, rfl, by rw [HL0.out] <;> rfl, HO0, HB⟩
        case round =>
          clear HO0 HL0
          obtain ⟨j, a3, c3, hj, rfl, rfl, HO3, HB3⟩ := hrel
          have htx := HCx.out _ HB3.out
          have hsz3 := HB3.out.size
          by_cases hjl : j < x.size
          · have hx := run_atP x j hjl
            have htk : Hid (x.data.toList.take (j + 1) = x.data.toList.take j ++ [x[j]]) := by
              have h' : j < x.data.toList.length := by simpa using hjl
              unfold Hid; rw [List.take_succ_eq_append_getElem h']; congr 1
            have hel := escL_len (x.data.toList.take j)
            rw [List.length_take, len_toList] at hel
            have hel2 : (escL (x.data.toList.take j)).length ≤ 2 * x.size := by omega
            have HQ0 : Hid (([] : List UInt8) ++ escL (x.data.toList.take (j + 1)) = (([] : List UInt8) ++ escL (x.data.toList.take j)) ++ escC x[j]) := by unfold Hid; rw [htk.out, escL_snoc, List.append_assoc]
            have hQl : (([] : List UInt8) ++ escL (x.data.toList.take j)).length = ([] : List UInt8).length + (escL (x.data.toList.take j)).length := List.length_append
            have hQz : (([] : List UInt8) ++ escL (x.data.toList.take j)).length ≤ 5000000 := by omega
            generalize ([] : List UInt8) ++ escL (x.data.toList.take j) = Q at *
            generalize x[j] = ch at *
            clear htk hel hQl hel2
            by_cases h59 : ch = 59
            · have HQ : Hid (([] : List UInt8) ++ escL (x.data.toList.take (j + 1)) = Q ++ [92] ++ [59]) := by unfold Hid; rw [HQ0.out, h59]; simp [escC, spc]
              rw [h59] at hx
              clear h59 HQ0
              have HS1 := Lib.hid (nmB_snoc Q 92)
              have HS2 := Lib.hid (nmB_snoc (Q ++ [92]) 59)
              have HL1 : (Q ++ [92]).length = Q.length + 1 := by simp
              have HL2 : Hid ((Q ++ [92] ++ [59]).length = Q.length + 1 + 1) := by unfold Hid; simp
              go_wp2_with (first | (at_builtin; (refine wpList_app1 _ _ rfl (.tmp 39) (.tmp 40) 76 5 _ _ S76 rfl w.heap.size _ _ _ rfl rfl rfl HO3.out (by simp [maxLen]; omega) (by omega) hsz3 ?_); intro a4 c4 w4 hownw4 hgrw4 _ hbw4; have HO4 : Hid (w4.ownsRow w.heap.size 5 1 (.slice a4 (Q.length + 1) c4) (Q.length + 1) ((nmB (Q ++ [92])).map (Value.int .u8))) := (by unfold Hid; rw [← HS1.out]; exact hownw4); have HB4 := Lib.hid (HB3.out.trans hbw4); have hsz4 := HB4.out.size; clear hownw4 hgrw4 hbw4) | (at_builtin; (refine wpList_app1 _ _ rfl (.tmp 42) (.tmp 44) 76 5 _ _ S76 rfl w.heap.size _ _ _ rfl rfl rfl HO4.out (by simp [maxLen]; omega) (by omega) hsz4 ?_); intro a5 c5 w5 hownw5 hgrw5 _ hbw5))
              have HO5 : Hid (w5.ownsRow w.heap.size 5 1 (.slice a5 (Q.length + 1 + 1) c5) (Q.length + 1 + 1) ((nmB (Q ++ [92] ++ [59])).map (Value.int .u8))) := by unfold Hid; rw [← HS2.out]; exact hownw5
              have HB5 := Lib.hid (HB4.out.trans hbw5)
              clear hownw5 hgrw5 hbw5
              go_wp2_with fail
              go_roundw
              case rel => exact ⟨j + 1, a5, c5, by omega, by go_num, by rw [HQ.out, HL2.out], by rw [HQ.out, HL2.out]; exact HO5, HB5⟩
              case measure => simp [intOf]; omega
            · by_cases h92 : ch = 92
              · have HQ : Hid (([] : List UInt8) ++ escL (x.data.toList.take (j + 1)) = Q ++ [92] ++ [92]) := by unfold Hid; rw [HQ0.out, h92]; simp [escC, spc]
                rw [h92] at hx
                clear h59 h92 HQ0
                have HS1 := Lib.hid (nmB_snoc Q 92)
                have HS2 := Lib.hid (nmB_snoc (Q ++ [92]) 92)
                have HL1 : (Q ++ [92]).length = Q.length + 1 := by simp
                have HL2 : Hid ((Q ++ [92] ++ [92]).length = Q.length + 1 + 1) := by unfold Hid; simp
                go_wp2_with (first | (at_builtin; (refine wpList_app1 _ _ rfl (.tmp 39) (.tmp 40) 76 5 _ _ S76 rfl w.heap.size _ _ _ rfl rfl rfl HO3.out (by simp [maxLen]; omega) (by omega) hsz3 ?_); intro a4 c4 w4 hownw4 hgrw4 _ hbw4; have HO4 : Hid (w4.ownsRow w.heap.size 5 1 (.slice a4 (Q.length + 1) c4) (Q.length + 1) ((nmB (Q ++ [92])).map (Value.int .u8))) := (by unfold Hid; rw [← HS1.out]; exact hownw4); have HB4 := Lib.hid (HB3.out.trans hbw4); have hsz4 := HB4.out.size; clear hownw4 hgrw4 hbw4) | (at_builtin; (refine wpList_app1 _ _ rfl (.tmp 42) (.tmp 44) 76 5 _ _ S76 rfl w.heap.size _ _ _ rfl rfl rfl HO4.out (by simp [maxLen]; omega) (by omega) hsz4 ?_); intro a5 c5 w5 hownw5 hgrw5 _ hbw5))
                have HO5 : Hid (w5.ownsRow w.heap.size 5 1 (.slice a5 (Q.length + 1 + 1) c5) (Q.length + 1 + 1) ((nmB (Q ++ [92] ++ [92])).map (Value.int .u8))) := by unfold Hid; rw [← HS2.out]; exact hownw5
                have HB5 := Lib.hid (HB4.out.trans hbw5)
                clear hownw5 hgrw5 hbw5
                go_wp2_with fail
                go_roundw
                case rel => exact ⟨j + 1, a5, c5, by omega, by go_num, by rw [HQ.out, HL2.out], by rw [HQ.out, HL2.out]; exact HO5, HB5⟩
                case measure => simp [intOf]; omega
              · have HQ : Hid (([] : List UInt8) ++ escL (x.data.toList.take (j + 1)) = Q ++ [ch]) := by unfold Hid; rw [HQ0.out]; simp [escC, spc, h59, h92]
                have g1c : ((ch.toNat : Int) == 59) = false := by
                  have : ch.toNat ≠ 59 := fun e => h59 (UInt8.toNat_inj.1 e)
                  simp; omega
                have g2c : ((ch.toNat : Int) == 92) = false := by
                  have : ch.toNat ≠ 92 := fun e => h92 (UInt8.toNat_inj.1 e)
                  simp; omega
                have HS1 := Lib.hid (nmB_snoc Q ch)
                clear h59 h92 HQ0
                generalize ch.toNat = dn at *
                go_wp2_with (at_builtin; go_must (refine wpList_app1 _ _ rfl _ _ 76 5 _ _ S76 rfl w.heap.size _ _ _ rfl rfl rfl HO3.out (by simp [maxLen]; omega) (by omega) hsz3 ?_); intro a4 c4 w4 hownw4 hgrw4 _ hbw4)
                have HO4 : Hid (w4.ownsRow w.heap.size 5 1 (.slice a4 (Q.length + 1) c4) (Q.length + 1) ((nmB (Q ++ [ch])).map (Value.int .u8))) := by unfold Hid; rw [← HS1.out]; exact hownw4
                have HB4 := Lib.hid (HB3.out.trans hbw4)
                have HL4 : Hid ((Q ++ [ch]).length = Q.length + 1) := by unfold Hid; simp
                clear hownw4 hgrw4 hbw4
                go_wp2_with fail
                go_roundw
                case rel => exact ⟨j + 1, a4, c4, by omega, by go_num, by rw [HQ.out, HL4.out], by rw [HQ.out, HL4.out]; exact HO4, HB4⟩
                case measure => simp [intOf]; omega
          · have e : x.data.toList.take j = x.data.toList := List.take_of_length_le (by rw [len_toList]; omega)
            rw [e, ← HJs.out] at HO3
            rw [e, ← HJs.out]
            clear e
            go_wp2_with fail
            go_roundw
            case rel => exact ⟨k + 1, jnK l (k + 1), a3, c3, by omega, by go_num, rfl, rfl, HO3, HB3⟩
            case measure => simp [intOf]; omega
      · have hk0' : (0 : Int) < (k : Int) := by omega
        rw [if_neg hk0] at hJs
        have hszo := HB.out.size
        have HS0 := Lib.hid (nmB_snoc b 59)
        have hP2 : (b ++ [59]).length = b.length + 1 := by simp
        have HJs := Lib.hid hJs
        clear hk0 hJs
        go_wp2_with (at_builtin; go_must (refine wpList_app1 _ _ rfl _ _ 76 5 _ _ S76 rfl w.heap.size _ _ _ rfl rfl rfl HO.out (by simp [maxLen]; omega) (by omega) hszo ?_); intro a4 c4 w2 hownw2 hgrw2 _ hbw2)
        have HO2 : Hid (w2.ownsRow w.heap.size 5 1 (.slice a4 (b.length + 1) c4) (b.length + 1) ((nmB (b ++ [59])).map (Value.int .u8))) := by unfold Hid; rw [← HS0.out]; exact hownw2
        have HB2 := Lib.hid (HB.out.trans hbw2)
        clear hownw2 hgrw2 hbw2 HS0
        rw [← hP2] at HO2
        rw [← hP2]
        have hP2z : (b ++ [59]).length ≤ 2 * zk + k + 1 := by omega
        clear hP2
        generalize b ++ [59] = P2 at *
        have HO0 : Hid (w2.ownsRow w.heap.size 5 1 (.slice a4 (P2 ++ escL (x.data.toList.take 0)).length c4) (P2 ++ escL (x.data.toList.take 0)).length ((nmB (P2 ++ escL (x.data.toList.take 0))).map (Value.int .u8))) := by
          have e : P2 ++ escL (x.data.toList.take 0) = P2 := by simp [escL]
          unfold Hid; rw [e]; exact HO2.out
        have HL0 : Hid ((P2 ++ escL (x.data.toList.take 0)).length = P2.length) := by unfold Hid; simp [escL]
        go_wp2_with fail
        go_loopw [3, 5, 6] (fun bv jv _ wr => ∃ (j : Nat) (a3 : Option Addr) (c3 : Nat), j ≤ x.size ∧ jv = .int .i64 (j : Int) ∧ bv = .slice a3 (P2 ++ escL (x.data.toList.take j)).length c3 ∧ Hid (wr.ownsRow w.heap.size 5 1 (.slice a3 (P2 ++ escL (x.data.toList.take j)).length c3) (P2 ++ escL (x.data.toList.take j)).length ((nmB (P2 ++ escL (x.data.toList.take j))).map (Value.int .u8))) ∧ Hid (Below w.heap.size w wr)) (fun _ jv _ _ => x.size - (intOf jv).toNat)
        case atStart => exact ⟨0, a4, c4, Nat.zero_le _, rfl, by rw [HL0.out] <;> rfl, HO0, HB2⟩
        case round =>
          clear HO0 HL0
          obtain ⟨j, a3, c3, hj, rfl, rfl, HO3, HB3⟩ := hrel
          have htx := HCx.out _ HB3.out
          have hsz3 := HB3.out.size
          by_cases hjl : j < x.size
          · have hx := run_atP x j hjl
            have htk : Hid (x.data.toList.take (j + 1) = x.data.toList.take j ++ [x[j]]) := by
              have h' : j < x.data.toList.length := by simpa using hjl
              unfold Hid; rw [List.take_succ_eq_append_getElem h']; congr 1
            have hel := escL_len (x.data.toList.take j)
            rw [List.length_take, len_toList] at hel
            have hel2 : (escL (x.data.toList.take j)).length ≤ 2 * x.size := by omega
            have HQ0 : Hid (P2 ++ escL (x.data.toList.take (j + 1)) = (P2 ++ escL (x.data.toList.take j)) ++ escC x[j]) := by unfold Hid; rw [htk.out, escL_snoc, List.append_assoc]
            have hQl : (P2 ++ escL (x.data.toList.take j)).length = P2.length + (escL (x.data.toList.take j)).length := List.length_append
            have hQz : (P2 ++ escL (x.data.toList.take j)).length ≤ 5000000 := by omega
            generalize P2 ++ escL (x.data.toList.take j) = Q at *
            generalize x[j] = ch at *
            clear htk hel hQl hel2
            by_cases h59 : ch = 59
            · have HQ : Hid (P2 ++ escL (x.data.toList.take (j + 1)) = Q ++ [92] ++ [59]) := by unfold Hid; rw [HQ0.out, h59]; simp [escC, spc]
              rw [h59] at hx
              clear h59 HQ0
              have HS1 := Lib.hid (nmB_snoc Q 92)
              have HS2 := Lib.hid (nmB_snoc (Q ++ [92]) 59)
              have HL1 : (Q ++ [92]).length = Q.length + 1 := by simp
              have HL2 : Hid ((Q ++ [92] ++ [59]).length = Q.length + 1 + 1) := by unfold Hid; simp
              go_wp2_with (first | (at_builtin; (refine wpList_app1 _ _ rfl (.tmp 39) (.tmp 40) 76 5 _ _ S76 rfl w.heap.size _ _ _ rfl rfl rfl HO3.out (by simp [maxLen]; omega) (by omega) hsz3 ?_); intro a4 c4 w4 hownw4 hgrw4 _ hbw4; have HO4 : Hid (w4.ownsRow w.heap.size 5 1 (.slice a4 (Q.length + 1) c4) (Q.length + 1) ((nmB (Q ++ [92])).map (Value.int .u8))) := (by unfold Hid; rw [← HS1.out]; exact hownw4); have HB4 := Lib.hid (HB3.out.trans hbw4); have hsz4 := HB4.out.size; clear hownw4 hgrw4 hbw4) | (at_builtin; (refine wpList_app1 _ _ rfl (.tmp 42) (.tmp 44) 76 5 _ _ S76 rfl w.heap.size _ _ _ rfl rfl rfl HO4.out (by simp [maxLen]; omega) (by omega) hsz4 ?_); intro a5 c5 w5 hownw5 hgrw5 _ hbw5))
              have HO5 : Hid (w5.ownsRow w.heap.size 5 1 (.slice a5 (Q.length + 1 + 1) c5) (Q.length + 1 + 1) ((nmB (Q ++ [92] ++ [59])).map (Value.int .u8))) := by unfold Hid; rw [← HS2.out]; exact hownw5
              have HB5 := Lib.hid (HB4.out.trans hbw5)
              clear hownw5 hgrw5 hbw5
              go_wp2_with fail
              go_roundw
              case rel => exact ⟨j + 1, a5, c5, by omega, by go_num, by rw [HQ.out, HL2.out], by rw [HQ.out, HL2.out]; exact HO5, HB5⟩
              case measure => simp [intOf]; omega
            · by_cases h92 : ch = 92
              · have HQ : Hid (P2 ++ escL (x.data.toList.take (j + 1)) = Q ++ [92] ++ [92]) := by unfold Hid; rw [HQ0.out, h92]; simp [escC, spc]
                rw [h92] at hx
                clear h59 h92 HQ0
                have HS1 := Lib.hid (nmB_snoc Q 92)
                have HS2 := Lib.hid (nmB_snoc (Q ++ [92]) 92)
                have HL1 : (Q ++ [92]).length = Q.length + 1 := by simp
                have HL2 : Hid ((Q ++ [92] ++ [92]).length = Q.length + 1 + 1) := by unfold Hid; simp
                go_wp2_with (first | (at_builtin; (refine wpList_app1 _ _ rfl (.tmp 39) (.tmp 40) 76 5 _ _ S76 rfl w.heap.size _ _ _ rfl rfl rfl HO3.out (by simp [maxLen]; omega) (by omega) hsz3 ?_); intro a4 c4 w4 hownw4 hgrw4 _ hbw4; have HO4 : Hid (w4.ownsRow w.heap.size 5 1 (.slice a4 (Q.length + 1) c4) (Q.length + 1) ((nmB (Q ++ [92])).map (Value.int .u8))) := (by unfold Hid; rw [← HS1.out]; exact hownw4); have HB4 := Lib.hid (HB3.out.trans hbw4); have hsz4 := HB4.out.size; clear hownw4 hgrw4 hbw4) | (at_builtin; (refine wpList_app1 _ _ rfl (.tmp 42) (.tmp 44) 76 5 _ _ S76 rfl w.heap.size _ _ _ rfl rfl rfl HO4.out (by simp [maxLen]; omega) (by omega) hsz4 ?_); intro a5 c5 w5 hownw5 hgrw5 _ hbw5))
                have HO5 : Hid (w5.ownsRow w.heap.size 5 1 (.slice a5 (Q.length + 1 + 1) c5) (Q.length + 1 + 1) ((nmB (Q ++ [92] ++ [92])).map (Value.int .u8))) := by unfold Hid; rw [← HS2.out]; exact hownw5
                have HB5 := Lib.hid (HB4.out.trans hbw5)
                clear hownw5 hgrw5 hbw5
                go_wp2_with fail
                go_roundw
                case rel => exact ⟨j + 1, a5, c5, by omega, by go_num, by rw [HQ.out, HL2.out], by rw [HQ.out, HL2.out]; exact HO5, HB5⟩
                case measure => simp [intOf]; omega
              · have HQ : Hid (P2 ++ escL (x.data.toList.take (j + 1)) = Q ++ [ch]) := by unfold Hid; rw [HQ0.out]; simp [escC, spc, h59, h92]
                have g1c : ((ch.toNat : Int) == 59) = false := by
                  have : ch.toNat ≠ 59 := fun e => h59 (UInt8.toNat_inj.1 e)
                  simp; omega
                have g2c : ((ch.toNat : Int) == 92) = false := by
                  have : ch.toNat ≠ 92 := fun e => h92 (UInt8.toNat_inj.1 e)
                  simp; omega
                have HS1 := Lib.hid (nmB_snoc Q ch)
                clear h59 h92 HQ0
                generalize ch.toNat = dn at *
                go_wp2_with (at_builtin; go_must (refine wpList_app1 _ _ rfl _ _ 76 5 _ _ S76 rfl w.heap.size _ _ _ rfl rfl rfl HO3.out (by simp [maxLen]; omega) (by omega) hsz3 ?_); intro a4 c4 w4 hownw4 hgrw4 _ hbw4)
                have HO4 : Hid (w4.ownsRow w.heap.size 5 1 (.slice a4 (Q.length + 1) c4) (Q.length + 1) ((nmB (Q ++ [ch])).map (Value.int .u8))) := by unfold Hid; rw [← HS1.out]; exact hownw4
                have HB4 := Lib.hid (HB3.out.trans hbw4)
                have HL4 : Hid ((Q ++ [ch]).length = Q.length + 1) := by unfold Hid; simp
                clear hownw4 hgrw4 hbw4
                go_wp2_with fail
                go_roundw
                case rel => exact ⟨j + 1, a4, c4, by omega, by go_num, by rw [HQ.out, HL4.out], by rw [HQ.out, HL4.out]; exact HO4, HB4⟩
                case measure => simp [intOf]; omega
          · have e : x.data.toList.take j = x.data.toList := List.take_of_length_le (by rw [len_toList]; omega)
            rw [e, ← HJs.out] at HO3
            rw [e, ← HJs.out]
            clear e
            go_wp2_with fail
            go_roundw
            case rel => exact ⟨k + 1, jnK l (k + 1), a3, c3, by omega, by go_num, rfl, rfl, HO3, HB3⟩
            case measure => simp [intOf]; omega
    · obtain rfl : k = n := by omega
      have hcv := run_str (P := Try.prog) wo 76 9 5 Try.underlying76 Try.underlying9 Try.underlying5 w.heap.size _ _ (nmB b) HO.out
      unfold nmB at hcv
      rw [mkT_nums] at hcv
      have HE : Hid (mkT (jnL (lts l)) = mkT b) := by unfold Hid; rw [HJ.out, HP.out]
      generalize mkT b = R at *
      go_wp2_with fail
      go_ret
      exact ⟨ret_bytes' HE.out.symm, HB.out⟩

/-- two slices that read as the same texts are the same -/
theorem same_any (a1 a2 : Option Addr) (c1 c2 : Nat) (l : List ByteArray) (w : World) (h1 : Txts w a1 l) (h2 : Txts w a2 l) (hl : l.length ≤ 100000) :
    Calls Try.prog 28 #[.slice a1 l.length c1, .slice a2 l.length c2] w fun e w' => e = .returned (.bool true) ∧ Below w.heap.size w w' := by
  have H1 := Lib.hid h1
  have H2 := Lib.hid h2
  obtain ⟨n, hn⟩ : ∃ n, l.length = n := ⟨_, rfl⟩
  have HN := Lib.hid hn
  rw [hn]
  have hn1 : n ≤ 100000 := by omega
  clear h1 h2 hn hl
  go_enter Try.func28, Try.ntmps28
  go_wp2_with fail
  go_loopw [5] (fun iv wr => ∃ k : Nat, k ≤ n ∧ iv = .int .i64 (k : Int) ∧ Hid (Below w.heap.size w wr)) (fun iv _ => n - (intOf iv).toNat)
  case atStart => exact ⟨0, Nat.zero_le _, rfl, Below.refl _ _⟩
  case round =>
    obtain ⟨k, hk, rfl, HB⟩ := hrel
    by_cases hlt : k < n
    · have hkl : k < l.length := by rw [HN.out]; exact hlt
      obtain ⟨b1, o1, rfl, _, hc1⟩ := (H1.out.below HB.out (Nat.le_refl _)) k hkl
      obtain ⟨b2, o2, rfl, _, hc2⟩ := (H2.out.below HB.out (Nat.le_refl _)) k hkl
      generalize l[k] = x at *
      have k0 : (0 : Int) ≤ (k : Int) := by omega
      have k1 : (k : Int) < (n : Int) := by omega
      have k2 : decide (k < n) = true := by simp; omega
      go_wp2_with fail
      go_quiet (fail)
      go_wp2_with fail
      go_roundw
      case rel => exact ⟨k + 1, by omega, by go_num, below_drewN HB.out nq⟩
      case measure => simp [intOf]; omega
    · have k2 : decide (k < n) = false := by simp; omega
      go_wp2_with fail
      go_ret
      exact ⟨rfl, HB.out⟩

/-- great's answer -/
def GreatP (l : List ByteArray) (w : World) (e : Ending) (w' : World) : Prop := ∃ q, e = .returned (.bool q) ∧ (q = false → l.length ≤ 301 ∧ (l.map (·.size)).sum ≤ 3000) ∧ w = w'

set_option maxHeartbeats 2000000 in
theorem great_anyP (a : Option Addr) (c : Nat) (l : List ByteArray) (w : World) (hT : Txts w a l) (hl : l.length ≤ 140737488355328) (hs : ∀ x ∈ l, x.size ≤ 140737488355328) :
    Calls Try.prog 25 #[.slice a l.length c] w (GreatP l w) := by
  have HT := Lib.hid hT
  obtain ⟨n, hn⟩ : ∃ n, l.length = n := ⟨_, rfl⟩
  have HN := Lib.hid hn
  rw [hn]
  have hn1 : n ≤ 140737488355328 := by omega
  clear hT hn hl
  go_enter Try.func25, Try.ntmps25
  go_wp2_with fail
  go_loop [3, 4] (fun zv iv => ∃ k : Nat, k ≤ n ∧ iv = .int .i64 (k : Int) ∧ zv = .int .i64 ((szs l k : Nat) : Int) ∧ szs l k ≤ 3000 ∧ k ≤ 301) (fun _ iv => n - (intOf iv).toNat)
  case atStart => exact ⟨0, Nat.zero_le _, rfl, by simp [szs], by simp [szs], by omega⟩
  case round =>
    obtain ⟨k, hk, rfl, rfl, hz, hk3⟩ := hrel
    by_cases hlt : k < n
    · have hkl : k < l.length := by rw [HN.out]; exact hlt
      obtain ⟨b1, o1, rfl, _, hc1⟩ := HT.out k hkl
      have HS := Lib.hid (szs_succ l k hkl)
      have hxs := hs l[k] (List.getElem_mem hkl)
      generalize l[k] = x at *
      generalize szs l k = z at *
      have k0 : (0 : Int) ≤ (k : Int) := by omega
      have k1 : (k : Int) < (n : Int) := by omega
      by_cases hbig : 3000 < z + x.size
      · have g1 : decide ((3000 : Int) < (z : Int) + (x.size : Int)) = true := by simp; omega
        go_wp2_with fail
        go_ret
        exact ⟨true, rfl, (fun h => by cases h), rfl⟩
      · have g1 : decide ((3000 : Int) < (z : Int) + (x.size : Int)) = false := by simp; omega
        by_cases hk300 : 300 < k
        · have g2 : decide ((300 : Int) < (k : Int)) = true := by simp; omega
          go_wp2_with fail
          go_ret
          exact ⟨true, rfl, (fun h => by cases h), rfl⟩
        · have g2 : decide ((300 : Int) < (k : Int)) = false := by simp; omega
          go_wp2_with fail
          go_round
          case rel => exact ⟨k + 1, by omega, by go_num, by rw [HS.out]; go_num, by rw [HS.out]; omega, by omega⟩
          case measure => simp [intOf]; omega
    · have HF : Hid (l.length ≤ 301 ∧ (l.map (·.size)).sum ≤ 3000) := by
        have e : szs l k = (l.map (·.size)).sum := by unfold szs; rw [List.take_of_length_le (by rw [HN.out]; omega)]
        unfold Hid; rw [← e, HN.out]; omega
      go_wp2_with fail
      go_ret
      exact ⟨false, rfl, fun _ => HF.out, rfl⟩
end Go.Proofs.Ytcpmgnejbfnnjaa
