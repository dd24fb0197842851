/- markup: a text as it stands between marks, both. No condition but the text's size. -/
import Derived.Test.YtgechifbbhipaaaDoorMkB
import Derived.Test.YtgechifbbhipaaaDoorMkP
set_option linter.unusedVariables false
set_option linter.unusedSimpArgs false
namespace Go.Proofs.YtgechifbbhipaaaDoor
open Go.RowKit

theorem take_snocB (s : ByteArray) (k : Nat) (h : k < s.size) : s.data.toList.take (k + 1) = s.data.toList.take k ++ [s[k]] := by
  rw [List.take_succ_eq_append_getElem (by rw [len_toList]; exact h)]; rfl
theorem ret_bs {a b : List UInt8} (h : a = b) : Ending.returned (.string ⟨a.toArray⟩) = Ending.returned (.string ⟨b.toArray⟩) := by rw [h]
theorem nums_cells (E : List UInt8) : (nums ⟨E.toArray⟩).map (Value.int .u8) = Lib.byteCells E := by
  simp [nums, Lib.byteCells]
theorem grown_below2 {w w' : World} {B : Nat} {e : TypeId} {sz : Nat} {v : Value} {n : Nat} {xs : List Value} (h : w.ownsRow B e sz v n xs) (hg : w.grownBy w' v.ownBlock) (hs : B ≤ w.heap.size) : Below B w w' :=
  ⟨hg.os, hg.tape, hg.output, hg.size, fun k hk => hg.block k (by omega) (fun e => by have := (h.lt k e.symm).1; omega)⟩
theorem esc_38 {c : UInt8} (h : c.toNat = 38) : escC c = [38, 97, 109, 112, 59] := by
  have : c = 38 := UInt8.toNat_inj.1 h
  subst this; rfl
theorem esc_60 {c : UInt8} (h : c.toNat = 60) : escC c = [38, 108, 116, 59] := by
  have : c = 60 := UInt8.toNat_inj.1 h
  subst this; rfl
theorem esc_62 {c : UInt8} (h : c.toNat = 62) : escC c = [38, 103, 116, 59] := by
  have : c = 62 := UInt8.toNat_inj.1 h
  subst this; rfl
theorem esc_other {c : UInt8} (h1 : c.toNat ≠ 38) (h2 : c.toNat ≠ 60) (h3 : c.toNat ≠ 62) : escC c = [c] := by
  unfold escC
  rw [if_neg (fun e => h1 (by rw [e]; rfl)), if_neg (fun e => h2 (by rw [e]; rfl)), if_neg (fun e => h3 (by rw [e]; rfl))]
/-- what is written when a byte more is read -/
theorem esc_step (s : ByteArray) (k : Nat) (h : k < s.size) {r : List UInt8} (hr : escC s[k] = r) : Lib.byteCells (esc (s.data.toList.take (k + 1))) = Lib.byteCells (esc (s.data.toList.take k)) ++ Lib.byteCells r := by
  rw [take_snocB s k h, esc_snoc, Lib.byteCells_append, hr]

set_option maxRecDepth 100000 in
set_option maxHeartbeats 4000000 in
theorem escape_any (s : ByteArray) (w : World) (hs : s.size ≤ 1000000) :
    Calls Tryd.prog 159 #[.string s] w fun e w' => e = .returned (.string ⟨(esc s.data.toList).toArray⟩) ∧ Below w.heap.size w w' := by
  go_enter Tryd.func159, Tryd.ntmps159
  go_wp2_with (with_reducible refine wpList_bytes _ rfl _ 9 136 5 rfl Tryd.underlying9 Tryd.underlying136 Tryd.underlying5 s rfl ?_; intro cap w1 hcap hc1 hb1 hz1 hf1)
  clear hf1
  simp only [World.size_alloc] at hc1 hb1 hz1
  have hB1 : Below w.heap.size w w1 := ((Below.refl _ w).alloc (Nat.le_refl _) _).trans (hb1.mono (by omega))
  have hv1 : BdV (w.heap.size + 2) w.heap.size [] (.slice none 0 0) w1 := (BdV.new w _).below (by simpa using hb1)
  have HC1 := Lib.hid hc1
  clear hc1 hb1
  go_loopw [9] (fun iv wr => ∃ (k : Nat) (v : Value), k ≤ s.size ∧ iv = .int .i64 (k : Int) ∧ Hid (BdV (w.heap.size + 2) w.heap.size (Lib.byteCells (esc (s.data.toList.take k))) v wr) ∧ Hid (Below w.heap.size w wr) ∧ Hid (w.heap.size + 2 ≤ wr.heap.size) ∧ Hid (∀ j (_ : j < s.size), wr.cell? ⟨w.heap.size + 1, j, none⟩ = some (.int .u8 (s[j].toNat : Int)))) (fun iv _ => s.size - (intOf iv).toNat)
  case atStart => exact ⟨0, _, Nat.zero_le _, rfl, hv1, hB1, by unfold Hid; omega, HC1.out⟩
  case round =>
    obtain ⟨k, v, hk, rfl, HV, HB, HZ, HC⟩ := hrel
    clear HC1 hv1 hB1 hz1
    have HLen : Hid ((Lib.byteCells (esc (s.data.toList.take k))).length ≤ 5 * k) := by
      unfold Hid
      rw [Lib.byteCells_length]
      have := (esc_len (s.data.toList.take k)).2
      have h2 : (s.data.toList.take k).length ≤ k := List.length_take_le _ _
      omega
    by_cases hlt : k < s.size
    · have hcell := HC.out k hlt
      have HMs : Hid (s.size - (intOf (.int .i64 ((k : Int) + 1))).toNat < s.size - (intOf (.int .i64 (k : Int))).toNat) := by unfold Hid; simp [intOf]; omega
      have hw1 : wrap64 ((k : Int) + 1) = (k : Int) + 1 := by unfold wrap64; omega
      have HW1 := Lib.hid hw1
      have j3 : (k : Int) < (s.size : Int) := by omega
      have HStep : Hid (∀ r, escC s[k] = r → Lib.byteCells (esc (s.data.toList.take (k + 1))) = Lib.byteCells (esc (s.data.toList.take k)) ++ Lib.byteCells r) := fun r hr => esc_step s k hlt hr
      have HKeep : Hid (∀ (v' : Value) (w5 : World), GrB w.heap.size v v' wr w5 → (∀ j (_ : j < s.size), w5.cell? ⟨w.heap.size + 1, j, none⟩ = some (.int .u8 (s[j].toNat : Int)))) := fun v' w5 hg j hj =>
        hg.cell (HC.out j hj) (by omega) (fun e => by have := (HV.out.own _ e).1; omega)
      clear HC
      generalize s[k] = c at *
      have hcb : c.toNat < 256 := UInt8.toNat_lt c
      by_cases e38 : c.toNat = 38
      · have t1 : ((c.toNat : Int) == 38) = true := by simp; omega
        have HS2 := Lib.hid (HStep.out _ (esc_38 e38))
        clear HStep e38 hw1 hcb
        have cW := Lib.hid (bdv_write _ _ _ v { data := #[38, 97, 109, 112, 59] } wr HV.out (by have := HLen.out; show _ + 5 ≤ _; omega) HZ.out)
        go_wp2_with (go_at_call 127; refine cW.out.mono ?_; rintro e w5 ⟨⟨n5, rfl⟩, v5, hbd5, hgr5⟩; have HB5 := Lib.hid hbd5; have HG5 := Lib.hid hgr5; clear hbd5 hgr5)
        have hw1 := HW1.out
        go_roundw
        case rel => exact ⟨k + 1, v5, by omega, by go_num, by unfold Hid; rw [HS2.out]; exact HB5.out, HB.out.trans (HG5.out.below HV.out (by omega) (Nat.le_refl _) HB.out.size), Nat.le_trans HZ.out HG5.out.size, HKeep.out _ _ HG5.out⟩
        case measure => first | exact HMs.out | (rw [hw1]; exact HMs.out)
      · by_cases e60 : c.toNat = 60
        · have t1 : ((c.toNat : Int) == 38) = false := by simp; omega
          have t2 : ((c.toNat : Int) == 60) = true := by simp; omega
          have HS2 := Lib.hid (HStep.out _ (esc_60 e60))
          clear HStep e38 e60 hw1 hcb
          have cW := Lib.hid (bdv_write _ _ _ v { data := #[38, 108, 116, 59] } wr HV.out (by have := HLen.out; show _ + 4 ≤ _; omega) HZ.out)
          go_wp2_with (go_at_call 127; refine cW.out.mono ?_; rintro e w5 ⟨⟨n5, rfl⟩, v5, hbd5, hgr5⟩; have HB5 := Lib.hid hbd5; have HG5 := Lib.hid hgr5; clear hbd5 hgr5)
          have hw1 := HW1.out
          go_roundw
          case rel => exact ⟨k + 1, v5, by omega, by go_num, by unfold Hid; rw [HS2.out]; exact HB5.out, HB.out.trans (HG5.out.below HV.out (by omega) (Nat.le_refl _) HB.out.size), Nat.le_trans HZ.out HG5.out.size, HKeep.out _ _ HG5.out⟩
          case measure => first | exact HMs.out | (rw [hw1]; exact HMs.out)
        · by_cases e62 : c.toNat = 62
          · have t1 : ((c.toNat : Int) == 38) = false := by simp; omega
            have t2 : ((c.toNat : Int) == 60) = false := by simp; omega
            have t3 : ((c.toNat : Int) == 62) = true := by simp; omega
            have HS2 := Lib.hid (HStep.out _ (esc_62 e62))
            clear HStep e38 e60 e62 hw1 hcb
            have cW := Lib.hid (bdv_write _ _ _ v { data := #[38, 103, 116, 59] } wr HV.out (by have := HLen.out; show _ + 4 ≤ _; omega) HZ.out)
            go_wp2_with (go_at_call 127; refine cW.out.mono ?_; rintro e w5 ⟨⟨n5, rfl⟩, v5, hbd5, hgr5⟩; have HB5 := Lib.hid hbd5; have HG5 := Lib.hid hgr5; clear hbd5 hgr5)
            have hw1 := HW1.out
            go_roundw
            case rel => exact ⟨k + 1, v5, by omega, by go_num, by unfold Hid; rw [HS2.out]; exact HB5.out, HB.out.trans (HG5.out.below HV.out (by omega) (Nat.le_refl _) HB.out.size), Nat.le_trans HZ.out HG5.out.size, HKeep.out _ _ HG5.out⟩
            case measure => first | exact HMs.out | (rw [hw1]; exact HMs.out)
          · have t1 : ((c.toNat : Int) == 38) = false := by simp; omega
            have t2 : ((c.toNat : Int) == 60) = false := by simp; omega
            have t3 : ((c.toNat : Int) == 62) = false := by simp; omega
            have HS2 := Lib.hid (HStep.out _ (esc_other e38 e60 e62))
            clear HStep e38 e60 e62 hw1 hcb
            have cW := Lib.hid (bdv_byte _ _ _ v (c.toNat : Int) wr HV.out (by have := HLen.out; omega) HZ.out)
            go_wp2_with (go_at_call 189; refine cW.out.mono ?_; rintro e w5 ⟨rfl, v5, hbd5, hgr5⟩; have HB5 := Lib.hid hbd5; have HG5 := Lib.hid hgr5; clear hbd5 hgr5)
            have hw1 := HW1.out
            go_roundw
            case rel => exact ⟨k + 1, v5, by omega, by go_num, by unfold Hid; rw [HS2.out]; exact HB5.out, HB.out.trans (HG5.out.below HV.out (by omega) (Nat.le_refl _) HB.out.size), Nat.le_trans HZ.out HG5.out.size, HKeep.out _ _ HG5.out⟩
            case measure => first | exact HMs.out | (rw [hw1]; exact HMs.out)
    · have j3 : ¬ (k : Int) < (s.size : Int) := by omega
      have hkk : s.data.toList.take k = s.data.toList := List.take_of_length_le (by rw [len_toList]; omega)
      have hv2 := HV.out
      rw [hkk] at hv2
      have cS := Lib.hid (bd_string _ _ _ wr w.heap.size hv2.bd (by omega) (Nat.le_refl _) HB.out.size)
      clear hkk hv2
      go_wp2_with (go_at_call 130; refine cS.out.mono ?_; rintro e w5 ⟨rfl, hb5, _⟩)
      go_ret
      exact ⟨rfl, HB.out.trans hb5⟩

set_option maxRecDepth 100000 in
set_option maxHeartbeats 4000000 in
theorem refEscape_any (s : ByteArray) (w : World) (hs : s.size ≤ 1000000) :
    Calls Tryd.prog 163 #[.string s] w fun e w' => e = .returned (.string ⟨(esc s.data.toList).toArray⟩) ∧ Below w.heap.size w w' := by
  obtain ⟨i0, hi, hz0, hz1, hz2⟩ := info_parts (show (Tryd.prog.info? 5).map (fun i => (i.zero, i.size, i.bytes)) = some (some (.int .u8 0), 1, 1) from by kernel_rfl)
  have HI := Lib.hid hi
  have HZ0 := Lib.hid hz0
  have HZ1 := Lib.hid hz1
  have HZ2 := Lib.hid hz2
  clear hi hz0 hz1 hz2
  go_enter Tryd.func163, Tryd.ntmps163
  go_wp2_with fail
  go_loopw [3, 4] (fun b iv wr => ∃ (k : Nat) (a : Option Addr) (cp : Nat), k ≤ s.size ∧ iv = .int .i64 (k : Int) ∧ b = .slice a (esc (s.data.toList.take k)).length cp ∧ Hid (wr.ownsRow w.heap.size 5 1 (.slice a (esc (s.data.toList.take k)).length cp) (esc (s.data.toList.take k)).length (Lib.byteCells (esc (s.data.toList.take k)))) ∧ Hid (Below w.heap.size w wr)) (fun _ iv _ => s.size - (intOf iv).toNat)
  case atStart => exact ⟨0, none, 0, Nat.zero_le _, rfl, rfl, World.ownsRow_nil _ _ _ _, Below.refl _ _⟩
  case round =>
    obtain ⟨k, a, cp, hk, rfl, rfl, HO, HB⟩ := hrel
    have HLen : Hid ((esc (s.data.toList.take k)).length ≤ 5 * k) := by
      unfold Hid
      have := (esc_len (s.data.toList.take k)).2
      have h2 : (s.data.toList.take k).length ≤ k := List.length_take_le _ _
      omega
    by_cases hlt : k < s.size
    · have HMs : Hid (s.size - (intOf (.int .i64 ((k : Int) + 1))).toNat < s.size - (intOf (.int .i64 (k : Int))).toNat) := by unfold Hid; simp [intOf]; omega
      have hw1 : wrap64 ((k : Int) + 1) = (k : Int) + 1 := by unfold wrap64; omega
      have HW1 := Lib.hid hw1
      have j3 : (k : Int) < (s.size : Int) := by omega
      have HStep : Hid (∀ r, escC s[k] = r → esc (s.data.toList.take (k + 1)) = esc (s.data.toList.take k) ++ r) := fun r hr => by rw [take_snocB s k hlt, esc_snoc, hr]
      have hat := run_at9 s k hlt
      generalize s[k] = c at *
      generalize esc (s.data.toList.take k) = E at *
      generalize hE1 : esc (s.data.toList.take (k + 1)) = E1 at *
      have hcb : c.toNat < 256 := UInt8.toNat_lt c
      have HN : Hid (E.length ≤ 5 * k) := HLen.out
      clear HLen
      by_cases e38 : c.toNat = 38
      · have t1 : ((c.toNat : Int) == 38) = true := by simp; omega
        have HS2 := Lib.hid (HStep.out _ (esc_38 e38))
        clear HStep e38 hw1 hcb
        have g1 : E.length + ({ data := #[38, 97, 109, 112, 59] } : ByteArray).size ≤ maxLen := by have := HN.out; show _ + 5 ≤ _; simp [maxLen]; omega
        have g2 : E.length + ({ data := #[38, 97, 109, 112, 59] } : ByteArray).size ≤ 140737488355328 := by have := HN.out; show _ + 5 ≤ _; omega
        have hsz := HB.out.size
        go_wp2_with (at_builtin; go_must (refine wpList_append_str _ rfl _ _ 136 9 rfl w.heap.size 5 i0 Tryd.underlying136 Tryd.underlying9 HI.out HZ0.out HZ1.out HZ2.out _ _ _ rfl HO.out { data := #[38, 97, 109, 112, 59] } rfl g1 g2 hsz ?_); intro v4 w4 hown4 hgr4 hmv4; obtain ⟨a', c', rfl⟩ := own_form hown4; have HB4 := Lib.hid (grown_below2 HO.out hgr4 hsz); have HO4 := Lib.hid hown4; clear hown4 hgr4 hmv4)
        have hw1 := HW1.out
        go_roundw
        case rel =>
          have e1 : E1 = E ++ [38, 97, 109, 112, 59] := HS2.out
          exact ⟨k + 1, a', c', by omega, by go_num, by rw [hE1, e1, List.length_append]; rfl, by unfold Hid; rw [hE1, e1, List.length_append, Lib.byteCells_append]; exact HO4.out, HB.out.trans HB4.out⟩
        case measure => first | exact HMs.out | (rw [hw1]; exact HMs.out)
      · by_cases e60 : c.toNat = 60
        · have t1 : ((c.toNat : Int) == 38) = false := by simp; omega
          have t2 : ((c.toNat : Int) == 60) = true := by simp; omega
          have HS2 := Lib.hid (HStep.out _ (esc_60 e60))
          clear HStep e38 e60 hw1 hcb
          have g1 : E.length + ({ data := #[38, 108, 116, 59] } : ByteArray).size ≤ maxLen := by have := HN.out; show _ + 4 ≤ _; simp [maxLen]; omega
          have g2 : E.length + ({ data := #[38, 108, 116, 59] } : ByteArray).size ≤ 140737488355328 := by have := HN.out; show _ + 4 ≤ _; omega
          have hsz := HB.out.size
          go_wp2_with (at_builtin; go_must (refine wpList_append_str _ rfl _ _ 136 9 rfl w.heap.size 5 i0 Tryd.underlying136 Tryd.underlying9 HI.out HZ0.out HZ1.out HZ2.out _ _ _ rfl HO.out { data := #[38, 108, 116, 59] } rfl g1 g2 hsz ?_); intro v4 w4 hown4 hgr4 hmv4; obtain ⟨a', c', rfl⟩ := own_form hown4; have HB4 := Lib.hid (grown_below2 HO.out hgr4 hsz); have HO4 := Lib.hid hown4; clear hown4 hgr4 hmv4)
          have hw1 := HW1.out
          go_roundw
          case rel =>
            have e1 : E1 = E ++ [38, 108, 116, 59] := HS2.out
            exact ⟨k + 1, a', c', by omega, by go_num, by rw [hE1, e1, List.length_append]; rfl, by unfold Hid; rw [hE1, e1, List.length_append, Lib.byteCells_append]; exact HO4.out, HB.out.trans HB4.out⟩
          case measure => first | exact HMs.out | (rw [hw1]; exact HMs.out)
        · by_cases e62 : c.toNat = 62
          · have t1 : ((c.toNat : Int) == 38) = false := by simp; omega
            have t2 : ((c.toNat : Int) == 60) = false := by simp; omega
            have t3 : ((c.toNat : Int) == 62) = true := by simp; omega
            have HS2 := Lib.hid (HStep.out _ (esc_62 e62))
            clear HStep e38 e60 e62 hw1 hcb
            have g1 : E.length + ({ data := #[38, 103, 116, 59] } : ByteArray).size ≤ maxLen := by have := HN.out; show _ + 4 ≤ _; simp [maxLen]; omega
            have g2 : E.length + ({ data := #[38, 103, 116, 59] } : ByteArray).size ≤ 140737488355328 := by have := HN.out; show _ + 4 ≤ _; omega
            have hsz := HB.out.size
            go_wp2_with (at_builtin; go_must (refine wpList_append_str _ rfl _ _ 136 9 rfl w.heap.size 5 i0 Tryd.underlying136 Tryd.underlying9 HI.out HZ0.out HZ1.out HZ2.out _ _ _ rfl HO.out { data := #[38, 103, 116, 59] } rfl g1 g2 hsz ?_); intro v4 w4 hown4 hgr4 hmv4; obtain ⟨a', c', rfl⟩ := own_form hown4; have HB4 := Lib.hid (grown_below2 HO.out hgr4 hsz); have HO4 := Lib.hid hown4; clear hown4 hgr4 hmv4)
            have hw1 := HW1.out
            go_roundw
            case rel =>
              have e1 : E1 = E ++ [38, 103, 116, 59] := HS2.out
              exact ⟨k + 1, a', c', by omega, by go_num, by rw [hE1, e1, List.length_append]; rfl, by unfold Hid; rw [hE1, e1, List.length_append, Lib.byteCells_append]; exact HO4.out, HB.out.trans HB4.out⟩
            case measure => first | exact HMs.out | (rw [hw1]; exact HMs.out)
          · have t1 : ((c.toNat : Int) == 38) = false := by simp; omega
            have t2 : ((c.toNat : Int) == 60) = false := by simp; omega
            have t3 : ((c.toNat : Int) == 62) = false := by simp; omega
            have HS2 := Lib.hid (HStep.out _ (esc_other e38 e60 e62))
            clear HStep e38 e60 e62 hw1 hcb
            have g1 : E.length + 1 ≤ maxLen := by have := HN.out; simp [maxLen]; omega
            have g2 : (E.length + 1) * 1 ≤ 140737488355328 := by have := HN.out; omega
            have hsz := HB.out.size
            go_wp2_with (at_builtin; go_must (refine wpList_app1 _ _ rfl _ _ 136 5 _ _ S43 rfl w.heap.size _ _ _ rfl rfl rfl HO.out g1 g2 hsz ?_); intro a' c' w4 hown4 hgr4 _ hb4; have HO4 := Lib.hid hown4; have HB4 := Lib.hid hb4; clear hown4 hb4 hgr4)
            have hw1 := HW1.out
            go_roundw
            case rel =>
              have e1 : E1 = E ++ [c] := HS2.out
              exact ⟨k + 1, a', c', by omega, by go_num, by rw [hE1, e1, List.length_append]; rfl, by unfold Hid; rw [hE1, e1, List.length_append, Lib.byteCells_append]; exact HO4.out, HB.out.trans HB4.out⟩
            case measure => first | exact HMs.out | (rw [hw1]; exact HMs.out)
    · have j3 : ¬ (k : Int) < (s.size : Int) := by omega
      have hkk : s.data.toList.take k = s.data.toList := List.take_of_length_le (by rw [len_toList]; omega)
      have hv2 := HO.out
      rw [hkk] at hv2 ⊢
      have HV2 := Lib.hid hv2
      clear hkk hv2 HO
      generalize hEE : esc s.data.toList = E at *
      have HEE := Lib.hid hEE
      clear hEE
      have HV3 : Hid (wr.ownsRow w.heap.size 5 1 (.slice a E.length cp) E.length ((nums ⟨E.toArray⟩).map (Value.int .u8))) := by unfold Hid; rw [nums_cells]; exact HV2.out
      have HNN : Hid (strOfNums (nums ⟨E.toArray⟩) = ⟨E.toArray⟩) := strOfNums_nums _
      go_wp2_with (with_reducible refine wpList_str _ rfl _ 136 9 5 rfl Tryd.underlying136 Tryd.underlying9 Tryd.underlying5 w.heap.size _ _ _ (nums ⟨E.toArray⟩) rfl HV3.out ?_)
      rw [HNN.out]
      go_ret
      exact ⟨ret_bs HEE.out.symm, HB.out⟩
end Go.Proofs.YtgechifbbhipaaaDoor
