/- digest: the reference's sum under a key. -/
import Derived.Test.YteheibgdjpkeaaaMac2
namespace Go.Proofs.Yteheibgdjpkeaaa
open Go.RowKit

set_option maxRecDepth 100000 in
set_option maxHeartbeats 4000000 in
theorem refMac_any (key s : ByteArray) (hk : key.size ≤ 1099511600000) (hs : s.size ≤ 1099511600000) (w : World) :
    Calls Try.prog 18 #[.string key, .string s] w fun e w' => e = .returned (.string (mkS (macL key.data.toList s.data.toList))) ∧ Below w.heap.size w w' := by
  have cK := Lib.hid (fun w => refSum_any key (by omega) w)
  have hKs : (KeyOf key).size ≤ 1099511600000 := by unfold KeyOf; rw [mkS_size]; have := key64_len key.data.toList; omega
  have hKK : 64 < key.size → mkS (md5 key.data.toList) = KeyOf key := fun hbig => by
    unfold KeyOf key64
    rw [if_pos (by rw [len_toList]; exact hbig)]
  have hKN : ¬ 64 < key.size → key = KeyOf key := fun hbig => by
    unfold KeyOf key64
    rw [if_neg (by rw [len_toList]; exact hbig), mkS_self]
  generalize hKey : KeyOf key = K at *
  have HKey := Lib.hid hKey
  have HKK := Lib.hid hKK
  have HKN := Lib.hid hKN
  clear hKey hKK hKN
  generalize ht1 : mkS (turnL K.data.toList 92) = t1 at *
  generalize ht2 : mkS (turnL K.data.toList 54) = t2 at *
  have c92 : Hid (∀ (w : World), Calls Try.prog 42 #[.string K, .int .u8 92] w fun e w' => e = .returned (.string t1) ∧ Below w.heap.size w w') := fun w => by
    rw [← ht1]; exact refTurned_any K (by omega) 92 (by omega) w
  have c54 : Hid (∀ (w : World), Calls Try.prog 42 #[.string K, .int .u8 54] w fun e w' => e = .returned (.string t2) ∧ Below w.heap.size w w') := fun w => by
    rw [← ht2]; exact refTurned_any K (by omega) 54 (by omega) w
  have z1 : t1.size = 64 := by rw [← ht1, mkS_size, turnL_len]
  have z2 : t2.size = 64 := by rw [← ht2, mkS_size, turnL_len]
  have HT1 := Lib.hid ht1
  have HT2 := Lib.hid ht2
  clear ht1 ht2
  have a2 : (t2 ++ s).size = t2.size + s.size := ByteArray.size_append
  have cU := Lib.hid (fun w => refSum_any (t2 ++ s) (by rw [a2]; omega) w)
  generalize hu : mkS (md5 (t2 ++ s).data.toList) = u at *
  have zu : u.size = 16 := by rw [← hu, mkS_size, md5_len]
  have HU := Lib.hid hu
  clear hu
  have a1 : (t1 ++ u).size = t1.size + u.size := ByteArray.size_append
  have cV := Lib.hid (fun w => refSum_any (t1 ++ u) (by rw [a1]; omega) w)
  generalize hv : mkS (md5 (t1 ++ u).data.toList) = v at *
  have HV : Hid (v = mkS (macL key.data.toList s.data.toList)) := mac_parts key s K t1 t2 u v HKey.out HT1.out HT2.out HU.out hv
  have y1 : ¬ 9223372036854775807 < t2.size + s.size := by omega
  have y2 : ¬ 9223372036854775807 < t1.size + u.size := by omega
  have z1' : t1.size ≤ 64 := by omega
  have z2' : t2.size ≤ 64 := by omega
  have zu' : u.size ≤ 64 := by omega
  clear hv z1 z2 zu a1 a2
  by_cases hbig : 64 < key.size
  · have hbig' : (64 : Int) < key.size := by omega
    go_enter Try.func18, Try.ntmps18
    go_wp2_with fail
    refine (cK.out _).mono ?_
    rw [HKK.out hbig]
    rintro e w2 ⟨rfl, hb2⟩
    go_wp2_with fail
    refine (c92.out _).mono ?_
    rintro e w3 ⟨rfl, hb3⟩
    go_wp2_with fail
    refine (c54.out _).mono ?_
    rintro e w4 ⟨rfl, hb4⟩
    go_wp2_with fail
    refine (cU.out _).mono ?_
    rintro e w5 ⟨rfl, hb5⟩
    go_wp2_with fail
    refine (cV.out _).mono ?_
    rintro e w6 ⟨rfl, hb6⟩
    go_wp2_with fail
    go_ret
    have s2 := hb2.size
    have s3 := hb3.size
    have s4 := hb4.size
    have s5 := hb5.size
    exact ⟨ret_bytes' HV.out, (((hb2.trans (hb3.mono s2)).trans (hb4.mono (by omega))).trans (hb5.mono (by omega))).trans (hb6.mono (by omega))⟩
  · have hbig' : ¬ (64 : Int) < key.size := by omega
    have e := HKN.out hbig
    subst e
    go_enter Try.func18, Try.ntmps18
    go_wp2_with fail
    refine (c92.out _).mono ?_
    rintro e w3 ⟨rfl, hb3⟩
    go_wp2_with fail
    refine (c54.out _).mono ?_
    rintro e w4 ⟨rfl, hb4⟩
    go_wp2_with fail
    refine (cU.out _).mono ?_
    rintro e w5 ⟨rfl, hb5⟩
    go_wp2_with fail
    refine (cV.out _).mono ?_
    rintro e w6 ⟨rfl, hb6⟩
    go_wp2_with fail
    go_ret
    have s3 := hb3.size
    have s4 := hb4.size
    have s5 := hb5.size
    exact ⟨ret_bytes' HV.out, ((hb3.trans (hb4.mono s3)).trans (hb5.mono (by omega))).trans (hb6.mono (by omega))⟩

/-- a key of more than 64 bytes is as good as its sum. -/
theorem mac_long (key s : List UInt8) (h : 64 < key.length) : macL (md5 key) s = macL key s := by
  have e : key64 (md5 key) = key64 key := by
    unfold key64
    rw [if_pos h, if_neg (by rw [md5_len]; omega)]
  unfold macL
  rw [e]
/-- noughts behind a key turn nothing. -/
theorem turn_noughts (key : List UInt8) (n : Nat) (c : Nat) : turnL (key ++ List.replicate n 0) c = turnL key c := by
  unfold turnL
  apply List.map_congr_left
  intro j _
  unfold turnB
  have e : by8 (key ++ List.replicate n 0) j = by8 key j := by
    unfold by8
    rcases Nat.lt_or_ge j key.length with hl | hl
    · rw [List.getElem?_append_left hl]
    · rw [List.getElem?_append_right hl, List.getElem?_eq_none hl, List.getElem?_replicate]
      split <;> rfl
  rw [e]
theorem mac_noughts (key s : List UInt8) (n : Nat) (h : key.length + n ≤ 64) : macL (key ++ List.replicate n 0) s = macL key s := by
  have e1 : key64 (key ++ List.replicate n 0) = key ++ List.replicate n 0 := by unfold key64; rw [if_neg (by simp; omega)]
  have e2 : key64 key = key := by unfold key64; rw [if_neg (by omega)]
  unfold macL
  rw [e1, e2, turn_noughts, turn_noughts]
end Go.Proofs.Yteheibgdjpkeaaa
