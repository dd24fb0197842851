/- digest: the program's sum under a key. -/
import Derived.Test.YteheibgdjpkeaaaMac
import Derived.Lib.LazyBuf
namespace Go.Proofs.Yteheibgdjpkeaaa
open Go.RowKit

/-- the program's turning: the first k turned, the key behind. -/
def uv (key : List UInt8) (c k : Nat) (j : Nat) : Value := .int .u8 (if j < k then ((turnB key c j).toNat : Int) else ((by8 key j : Nat) : Int))
theorem uv_succ (key : List UInt8) (c k j : Nat) : (if j = k then Value.int .u8 ((turnB key c k).toNat : Int) else uv key c k j) = uv key c (k + 1) j := by
  unfold uv
  by_cases h : j = k
  · subst h; rw [if_pos rfl, if_pos (by omega)]
  · rw [if_neg h]
    by_cases h2 : j < k
    · rw [if_pos h2, if_pos (by omega)]
    · rw [if_neg h2, if_neg (by omega)]
theorem uv_last (key : List UInt8) (c : Nat) (j : Nat) (h : j < 64) : uv key c 64 j = tv key c 64 j := by unfold uv tv; rw [if_pos h, if_pos h]

/-- what a copy of a text into 64 noughts leaves. -/
theorem copied (w : World) (g : Nat) (s : ByteArray) (c : Nat) (hs : s.size ≤ 64) (h : CellsF w g 64 (fun _ => .int .u8 0)) :
    CellsF (w.setCells g 0 (s.data.toList.map fun x => Value.int .u8 (x.toNat : Int))) g 64 (uv s.data.toList c 0) := by
  have hl : (s.data.toList.map fun x => Value.int .u8 (x.toNat : Int)).length = s.size := by rw [List.length_map, len_toList]
  intro j hj
  refine ⟨?_, by rw [World.frozen?_setCells]; exact (h j hj).2⟩
  unfold uv
  rw [if_neg (by omega)]
  by_cases hin : j < s.size
  · have h1 := World.cell?_setCells_in g (s.data.toList.map fun x => Value.int .u8 (x.toNat : Int)) 0 w (fun i hi => by rw [hl] at hi; rw [Nat.zero_add, (h i (by omega)).1]; rfl) j (by rw [hl]; exact hin)
    rw [Nat.zero_add] at h1
    rw [h1]
    congr 2
    rw [← by8_at s j hin, List.getElem_map]
    rfl
  · rw [World.cell?_setCells_out g _ 0 w ⟨g, j, none⟩ (fun _ _ => .inr (by rw [hl]; simp; omega)), (h j hj).1, by8_out s j hin]
    rfl

set_option maxRecDepth 100000 in
set_option maxHeartbeats 4000000 in
theorem turned_any (s : ByteArray) (hs : s.size ≤ 64) (c : Nat) (hc : c < 256) (kb : Nat) (w : World) (hk : w.cell? ⟨kb, 0, none⟩ = some (.string s)) :
    Calls Try.prog 41 #[.int .u8 (c : Int), .pointer (some ⟨kb, 0, none⟩)] w fun e w' => e = .returned (.string (mkS (turnL s.data.toList c))) ∧ Below w.heap.size w w' := by
  have hz : ∀ w, (Go.sizeOf 5).run Try.prog w = .ok 1 w := fun w => by kernel_rfl
  have hkb := World.block_lt_of_cell? w _ hk
  go_enter Try.func41, Try.ntmps41
  go_wp2_with fail
  have hC0 : CellsF (w.alloc (.cells #[.int .u8 0, .int .u8 0, .int .u8 0, .int .u8 0, .int .u8 0, .int .u8 0, .int .u8 0, .int .u8 0, .int .u8 0, .int .u8 0, .int .u8 0, .int .u8 0, .int .u8 0, .int .u8 0, .int .u8 0, .int .u8 0, .int .u8 0, .int .u8 0, .int .u8 0, .int .u8 0, .int .u8 0, .int .u8 0, .int .u8 0, .int .u8 0, .int .u8 0, .int .u8 0, .int .u8 0, .int .u8 0, .int .u8 0, .int .u8 0, .int .u8 0, .int .u8 0, .int .u8 0, .int .u8 0, .int .u8 0, .int .u8 0, .int .u8 0, .int .u8 0, .int .u8 0, .int .u8 0, .int .u8 0, .int .u8 0, .int .u8 0, .int .u8 0, .int .u8 0, .int .u8 0, .int .u8 0, .int .u8 0, .int .u8 0, .int .u8 0, .int .u8 0, .int .u8 0, .int .u8 0, .int .u8 0, .int .u8 0, .int .u8 0, .int .u8 0, .int .u8 0, .int .u8 0, .int .u8 0, .int .u8 0, .int .u8 0, .int .u8 0, .int .u8 0] 72)) w.heap.size 64 (fun _ => .int .u8 0) := CellsF.new w _ 72 64 _ _ rfl (fun j hj => by
    have e : (#[.int .u8 0, .int .u8 0, .int .u8 0, .int .u8 0, .int .u8 0, .int .u8 0, .int .u8 0, .int .u8 0, .int .u8 0, .int .u8 0, .int .u8 0, .int .u8 0, .int .u8 0, .int .u8 0, .int .u8 0, .int .u8 0, .int .u8 0, .int .u8 0, .int .u8 0, .int .u8 0, .int .u8 0, .int .u8 0, .int .u8 0, .int .u8 0, .int .u8 0, .int .u8 0, .int .u8 0, .int .u8 0, .int .u8 0, .int .u8 0, .int .u8 0, .int .u8 0, .int .u8 0, .int .u8 0, .int .u8 0, .int .u8 0, .int .u8 0, .int .u8 0, .int .u8 0, .int .u8 0, .int .u8 0, .int .u8 0, .int .u8 0, .int .u8 0, .int .u8 0, .int .u8 0, .int .u8 0, .int .u8 0, .int .u8 0, .int .u8 0, .int .u8 0, .int .u8 0, .int .u8 0, .int .u8 0, .int .u8 0, .int .u8 0, .int .u8 0, .int .u8 0, .int .u8 0, .int .u8 0, .int .u8 0, .int .u8 0, .int .u8 0, .int .u8 0] : Array Value) = Array.replicate 64 (.int .u8 0) := rfl
    rw [e]; exact zero_at 64 j hj _)
  have hb0 : Below w.heap.size w (w.alloc (.cells #[.int .u8 0, .int .u8 0, .int .u8 0, .int .u8 0, .int .u8 0, .int .u8 0, .int .u8 0, .int .u8 0, .int .u8 0, .int .u8 0, .int .u8 0, .int .u8 0, .int .u8 0, .int .u8 0, .int .u8 0, .int .u8 0, .int .u8 0, .int .u8 0, .int .u8 0, .int .u8 0, .int .u8 0, .int .u8 0, .int .u8 0, .int .u8 0, .int .u8 0, .int .u8 0, .int .u8 0, .int .u8 0, .int .u8 0, .int .u8 0, .int .u8 0, .int .u8 0, .int .u8 0, .int .u8 0, .int .u8 0, .int .u8 0, .int .u8 0, .int .u8 0, .int .u8 0, .int .u8 0, .int .u8 0, .int .u8 0, .int .u8 0, .int .u8 0, .int .u8 0, .int .u8 0, .int .u8 0, .int .u8 0, .int .u8 0, .int .u8 0, .int .u8 0, .int .u8 0, .int .u8 0, .int .u8 0, .int .u8 0, .int .u8 0, .int .u8 0, .int .u8 0, .int .u8 0, .int .u8 0, .int .u8 0, .int .u8 0, .int .u8 0, .int .u8 0] 72)) := (Below.refl _ _).alloc (Nat.le_refl _) _
  have hk1 : (w.alloc (.cells #[.int .u8 0, .int .u8 0, .int .u8 0, .int .u8 0, .int .u8 0, .int .u8 0, .int .u8 0, .int .u8 0, .int .u8 0, .int .u8 0, .int .u8 0, .int .u8 0, .int .u8 0, .int .u8 0, .int .u8 0, .int .u8 0, .int .u8 0, .int .u8 0, .int .u8 0, .int .u8 0, .int .u8 0, .int .u8 0, .int .u8 0, .int .u8 0, .int .u8 0, .int .u8 0, .int .u8 0, .int .u8 0, .int .u8 0, .int .u8 0, .int .u8 0, .int .u8 0, .int .u8 0, .int .u8 0, .int .u8 0, .int .u8 0, .int .u8 0, .int .u8 0, .int .u8 0, .int .u8 0, .int .u8 0, .int .u8 0, .int .u8 0, .int .u8 0, .int .u8 0, .int .u8 0, .int .u8 0, .int .u8 0, .int .u8 0, .int .u8 0, .int .u8 0, .int .u8 0, .int .u8 0, .int .u8 0, .int .u8 0, .int .u8 0, .int .u8 0, .int .u8 0, .int .u8 0, .int .u8 0, .int .u8 0, .int .u8 0, .int .u8 0, .int .u8 0] 72)).cell? ⟨kb, 0, none⟩ = some (.string s) := (hb0.cell (p := ⟨kb, 0, none⟩) hkb).trans hk
  generalize w.alloc (.cells #[.int .u8 0, .int .u8 0, .int .u8 0, .int .u8 0, .int .u8 0, .int .u8 0, .int .u8 0, .int .u8 0, .int .u8 0, .int .u8 0, .int .u8 0, .int .u8 0, .int .u8 0, .int .u8 0, .int .u8 0, .int .u8 0, .int .u8 0, .int .u8 0, .int .u8 0, .int .u8 0, .int .u8 0, .int .u8 0, .int .u8 0, .int .u8 0, .int .u8 0, .int .u8 0, .int .u8 0, .int .u8 0, .int .u8 0, .int .u8 0, .int .u8 0, .int .u8 0, .int .u8 0, .int .u8 0, .int .u8 0, .int .u8 0, .int .u8 0, .int .u8 0, .int .u8 0, .int .u8 0, .int .u8 0, .int .u8 0, .int .u8 0, .int .u8 0, .int .u8 0, .int .u8 0, .int .u8 0, .int .u8 0, .int .u8 0, .int .u8 0, .int .u8 0, .int .u8 0, .int .u8 0, .int .u8 0, .int .u8 0, .int .u8 0, .int .u8 0, .int .u8 0, .int .u8 0, .int .u8 0, .int .u8 0, .int .u8 0, .int .u8 0, .int .u8 0] 72) = w1 at *
  have HC := Lib.hid hC0
  have HB := Lib.hid hb0
  have q1 : ∀ j, j < s.size → (w1.drew.cell? ⟨w.heap.size, 0 + j, none⟩).isSome = true := fun j hj => by
    rw [Nat.zero_add, World.cell?_drew, (HC.out j (by omega)).1]; rfl
  have q2 : ∀ j, j < s.size → w1.drew.frozen? ⟨w.heap.size, 0 + j, none⟩ = false := fun j hj => by
    rw [Nat.zero_add]; exact (HC.out j (by omega)).2
  have Q1 := Lib.hid q1
  have Q2 := Lib.hid q2
  clear hC0 hb0 q1 q2 hk
  go_region_law (first | (refine step_copy_string rfl _ _ 34 9 rfl 5 Try.underlying34 hz w.heap.size 0 64 64 rfl s rfl hs Q1.out Q2.out ?_))
  have HC2 : Hid (CellsF (w1.drew.setCells w.heap.size 0 (s.data.toList.map fun x => Value.int .u8 (x.toNat : Int))) w.heap.size 64 (uv s.data.toList c 0)) := copied _ _ s c hs HC.out.drew
  have HB2 : Hid (Below w.heap.size w (w1.drew.setCells w.heap.size 0 (s.data.toList.map fun x => Value.int .u8 (x.toNat : Int)))) := Go.below_setCells (Nat.le_refl _) _ _ _ HB.out.drew
  clear HC HB Q1 Q2 hz hk1
  generalize w1.drew.setCells w.heap.size 0 (s.data.toList.map fun x => Value.int .u8 (x.toNat : Int)) = w2 at *
  go_wp2
  go_loopw [9] (fun i wr => ∃ k : Nat, k ≤ 64 ∧ i = .int .i64 k ∧ Hid (CellsF wr w.heap.size 64 (uv s.data.toList c k)) ∧ Hid (Below w.heap.size w wr)) (fun i _ => 64 - (intOf i).toNat)
  case atStart => exact ⟨0, by omega, rfl, HC2, HB2⟩
  case round =>
    clear HC2 HB2
    obtain ⟨k, hk, rfl, HC, HB⟩ := hrel
    by_cases hlt : k < 64
    · have hk0 : wr.cell? ⟨w.heap.size, k, none⟩ = some (.int .u8 ((by8 s.data.toList k : Nat) : Int)) := by
        have := (HC.out k hlt).1
        unfold uv at this
        rw [if_neg (by omega)] at this
        exact this
      have hf0 := (HC.out k hlt).2
      have hV := turnB_val s.data.toList c k hc
      have hb8 := by8_lt s.data.toList k
      generalize by8 s.data.toList k = B at *
      go_wp2
      go_roundw
      case rel => exact ⟨k + 1, by omega, by go_num, ((HC.out.set k _ hlt).congr (fun j _ => uv_succ _ _ _ _)), (HB.out.setCell (by simp) _)⟩
      case measure => simp [intOf]; omega
    · have e : k = 64 := by omega
      have hst := turn_str wr w.heap.size s.data.toList c (HC.out.congr (fun j hj => by rw [e]; exact uv_last _ _ _ hj))
      clear e
      go_wp2
      go_ret
      exact ⟨rfl, HB.out⟩

theorem key64_len (l : List UInt8) : (key64 l).length ≤ 64 := by
  unfold key64
  split
  · rw [md5_len]; omega
  · omega

def KeyOf (key : ByteArray) : ByteArray := mkS (key64 key.data.toList)

theorem app_list (a b : ByteArray) : (a ++ b).data.toList = a.data.toList ++ b.data.toList := by simp

/-- what mac_any needs of a turned key. -/
theorem mac_parts (key s : ByteArray) (K t1 t2 u v : ByteArray) (hK : KeyOf key = K) (h1 : mkS (turnL K.data.toList 92) = t1) (h2 : mkS (turnL K.data.toList 54) = t2)
    (hu : mkS (md5 (t2 ++ s).data.toList) = u) (hv : mkS (md5 (t1 ++ u).data.toList) = v) : v = mkS (macL key.data.toList s.data.toList) := by
  subst hv hu h1 h2 hK
  unfold macL KeyOf
  simp only [app_list, mkS_list]

set_option maxRecDepth 100000 in
set_option maxHeartbeats 4000000 in
theorem mac_any (key s : ByteArray) (hk : key.size ≤ 1099511600000) (hs : s.size ≤ 1099511600000) (w : World) :
    Calls Try.prog 17 #[.string key, .string s] w fun e w' => e = .returned (.string (mkS (macL key.data.toList s.data.toList))) ∧ Below w.heap.size w w' := by
  have cK := Lib.hid (fun w => sum_any key (by omega) w)
  have hKs : (KeyOf key).size ≤ 64 := by unfold KeyOf; rw [mkS_size]; exact key64_len _
  have hKK : 64 < key.size → mkS (md5 key.data.toList) = KeyOf key := fun hbig => by
    unfold KeyOf key64
    rw [if_pos (by rw [len_toList]; exact hbig)]
  have hKN : ¬ 64 < key.size → key = KeyOf key := fun hbig => by
    unfold KeyOf key64
    rw [if_neg (by rw [len_toList]; exact hbig), mkS_self]
  generalize hKey : KeyOf key = K at *
  have HKey := Lib.hid hKey
  have HKK := Lib.hid hKK
  have HKN := Lib.hid hKN
  clear hKey hKK hKN
  generalize ht1 : mkS (turnL K.data.toList 92) = t1 at *
  generalize ht2 : mkS (turnL K.data.toList 54) = t2 at *
  have c92 : Hid (∀ (kb : Nat) (w : World), w.cell? ⟨kb, 0, none⟩ = some (.string K) → Calls Try.prog 41 #[.int .u8 92, .pointer (some ⟨kb, 0, none⟩)] w fun e w' => e = .returned (.string t1) ∧ Below w.heap.size w w') := fun kb w h => by
    rw [← ht1]; exact turned_any K hKs 92 (by omega) kb w h
  have c54 : Hid (∀ (kb : Nat) (w : World), w.cell? ⟨kb, 0, none⟩ = some (.string K) → Calls Try.prog 41 #[.int .u8 54, .pointer (some ⟨kb, 0, none⟩)] w fun e w' => e = .returned (.string t2) ∧ Below w.heap.size w w') := fun kb w h => by
    rw [← ht2]; exact turned_any K hKs 54 (by omega) kb w h
  have z1 : t1.size = 64 := by rw [← ht1, mkS_size, turnL_len]
  have z2 : t2.size = 64 := by rw [← ht2, mkS_size, turnL_len]
  have HT1 := Lib.hid ht1
  have HT2 := Lib.hid ht2
  clear ht1 ht2
  have a2 : (t2 ++ s).size = t2.size + s.size := ByteArray.size_append
  have cU := Lib.hid (fun w => sum_any (t2 ++ s) (by rw [a2]; omega) w)
  generalize hu : mkS (md5 (t2 ++ s).data.toList) = u at *
  have zu : u.size = 16 := by rw [← hu, mkS_size, md5_len]
  have HU := Lib.hid hu
  clear hu
  have a1 : (t1 ++ u).size = t1.size + u.size := ByteArray.size_append
  have cV := Lib.hid (fun w => sum_any (t1 ++ u) (by rw [a1]; omega) w)
  generalize hv : mkS (md5 (t1 ++ u).data.toList) = v at *
  have HV : Hid (v = mkS (macL key.data.toList s.data.toList)) := mac_parts key s K t1 t2 u v HKey.out HT1.out HT2.out HU.out hv
  have y1 : ¬ 9223372036854775807 < t2.size + s.size := by omega
  have y2 : ¬ 9223372036854775807 < t1.size + u.size := by omega
  have z1' : t1.size ≤ 64 := by omega
  have z2' : t2.size ≤ 64 := by omega
  have zu' : u.size ≤ 64 := by omega
  clear hv z1 z2 zu a1 a2
  have hb0 : Below w.heap.size w (w.alloc (.cells #[.string key] 9)) := (Below.refl _ _).alloc (Nat.le_refl _) _
  have k00 : (w.alloc (.cells #[.string key] 9)).cell? ⟨w.heap.size, 0, none⟩ = some (.string key) := cell_box w _ 9 0 _ rfl
  have f00 : (w.alloc (.cells #[.string key] 9)).frozen? ⟨w.heap.size, 0, none⟩ = false := ((CellsF.new w #[.string key] 9 1 (fun _ => .string key) _ rfl (fun j hj => by
    have e : j = 0 := by omega
    subst e; rfl)) 0 (by omega)).2
  have hz0 : w.heap.size < (w.alloc (.cells #[.string key] 9)).heap.size := by simp
  by_cases hbig : 64 < key.size
  · have hbig' : (64 : Int) < key.size := by omega
    go_enter Try.func17, Try.ntmps17
    go_wp2_with fail
    generalize w.alloc (.cells #[.string key] 9) = w0 at *
    refine (cK.out _).mono ?_
    rw [HKK.out hbig]
    rintro e w1 ⟨rfl, hb1⟩
    have k01 : w1.cell? ⟨w.heap.size, 0, none⟩ = some (.string key) := (hb1.cell (p := ⟨w.heap.size, 0, none⟩) hz0).trans k00
    have f01 : w1.frozen? ⟨w.heap.size, 0, none⟩ = false := (hb1.frozen (p := ⟨w.heap.size, 0, none⟩) hz0).trans f00
    have hB1 := Lib.hid (hb0.trans (hb1.mono (Nat.le_of_lt hz0)))
    have hz1 : w.heap.size < w1.heap.size := by have := hb1.size; omega
    clear hb0 hb1 k00 f00 hz0
    go_wp2_with fail
    have k02 : (w1.setCell ⟨w.heap.size, 0, none⟩ (.string K)).cell? ⟨w.heap.size, 0, none⟩ = some (.string K) := World.cell?_setCell_same _ _ _ k01
    have hB2 : Hid (Below w.heap.size w (w1.setCell ⟨w.heap.size, 0, none⟩ (.string K))) := hB1.out.setCell (by simp) _
    have hz2 : w.heap.size < (w1.setCell ⟨w.heap.size, 0, none⟩ (.string K)).heap.size := by simpa [World.setCell] using hz1
    clear k01 f01 hB1 hz1
    generalize w1.setCell ⟨w.heap.size, 0, none⟩ (.string K) = w2 at *
    refine (c92.out _ _ k02).mono ?_
    rintro e w3 ⟨rfl, hb3⟩
    have k03 := Lib.hid ((hb3.cell (p := ⟨w.heap.size, 0, none⟩) hz2).trans k02)
    have hB3 := Lib.hid (hB2.out.trans (hb3.mono (Nat.le_of_lt hz2)))
    clear hb3 k02 hB2
    go_wp2_with fail
    refine (c54.out _ _ k03.out).mono ?_
    rintro e w4 ⟨rfl, hb4⟩
    go_wp2_with fail
    refine (cU.out _).mono ?_
    rintro e w5 ⟨rfl, hb5⟩
    go_wp2_with fail
    refine (cV.out _).mono ?_
    rintro e w6 ⟨rfl, hb6⟩
    go_wp2_with fail
    go_ret
    have s3 := hB3.out.size
    have s4 := hb4.size
    have s5 := hb5.size
    exact ⟨ret_bytes' HV.out, ((hB3.out.trans (hb4.mono s3)).trans (hb5.mono (by omega))).trans (hb6.mono (by omega))⟩
  · have hbig' : ¬ (64 : Int) < key.size := by omega
    have k02 : (w.alloc (.cells #[.string key] 9)).cell? ⟨w.heap.size, 0, none⟩ = some (.string K) := by rw [← HKN.out hbig]; exact k00
    have hz2 := hz0
    have hB2 := Lib.hid hb0
    clear k00 f00 hb0 hz0
    go_enter Try.func17, Try.ntmps17
    go_wp2_with fail
    generalize w.alloc (.cells #[.string key] 9) = w2 at *
    refine (c92.out _ _ k02).mono ?_
    rintro e w3 ⟨rfl, hb3⟩
    have k03 := Lib.hid ((hb3.cell (p := ⟨w.heap.size, 0, none⟩) hz2).trans k02)
    have hB3 := Lib.hid (hB2.out.trans (hb3.mono (Nat.le_of_lt hz2)))
    clear hb3 k02 hB2
    go_wp2_with fail
    refine (c54.out _ _ k03.out).mono ?_
    rintro e w4 ⟨rfl, hb4⟩
    go_wp2_with fail
    refine (cU.out _).mono ?_
    rintro e w5 ⟨rfl, hb5⟩
    go_wp2_with fail
    refine (cV.out _).mono ?_
    rintro e w6 ⟨rfl, hb6⟩
    go_wp2_with fail
    go_ret
    have s3 := hB3.out.size
    have s4 := hb4.size
    have s5 := hb5.size
    exact ⟨ret_bytes' HV.out, ((hB3.out.trans (hb4.mono s3)).trans (hb5.mono (by omega))).trans (hb6.mono (by omega))⟩
end Go.Proofs.Yteheibgdjpkeaaa
