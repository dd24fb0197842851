/- sixbit.Encode: the walk. No condition but the text's size. -/
import Derived.Test.YtgechifbbhipaaaDoorEncP
import Derived.Test.YtgechifbbhipaaaDoorBd
import Derived.RangeFuncNested
import Derived.RangeFuncBound
import Derived.RangeFuncCalls
import Derived.LoopNIn
import Derived.LoopIn
set_option linter.unusedVariables false
set_option linter.unusedSimpArgs false
namespace Go.Proofs.YtgechifbbhipaaaDoor
open Go.RowKit Go.Shelf

attribute [local go_sem] Oper.semAt_some

theorem copy3 (X : World) (y : ByteArray) (cs : Array Value) (h : y.size ≤ 3) (hc : ((Lib.byteCells y.data.toList) ++ [Value.int .u8 0, .int .u8 0, .int .u8 0].drop y.size).toArray = cs) :
    (Builtin.copy_ #[136, 9] 3 #[.slice (some ⟨X.heap.size, 0, none⟩) 3 3, .string y]).run Tryd.prog (X.alloc (.cells #[.int .u8 0, .int .u8 0, .int .u8 0] 190)) = .ok (.int .i64 y.size) (X.alloc (.cells cs 190)) := by
  have := Lib.run_copy_row_string (P := Tryd.prog) (X.alloc (.cells #[.int .u8 0, .int .u8 0, .int .u8 0] 190)) 136 9 3 5 X.heap.size 0 3 3 y #[.int .u8 0, .int .u8 0, .int .u8 0] 190 Tryd.underlying136 (by kernel_rfl) (block_new X _) h (by simpa using h)
  rw [this]
  simp only [List.take_zero, List.nil_append, Nat.zero_add]
  rw [hc, World.setRow_alloc_new]
  rfl

theorem let64_bd (n : Nat) (h : n < 64) : 0 ≤ let64 n ∧ let64 n < 256 := by unfold let64; split <;> (try split) <;> (try split) <;> (try split) <;> omega
theorem enc3_bd (l : List UInt8) : ∀ x ∈ enc3 l, 0 ≤ x ∧ x < 256 := by
  match l with
  | [] => intro x hx; simp [enc3] at hx
  | [a] =>
    have ha : a.toNat < 256 := UInt8.toNat_lt _
    have h1 := let64_bd (a.toNat / 4) (by omega)
    have h2 := let64_bd (a.toNat % 4 * 16) (by omega)
    intro x hx; simp [enc3] at hx; rcases hx with rfl | rfl | rfl <;> omega
  | [a, b] =>
    have ha : a.toNat < 256 := UInt8.toNat_lt _
    have hb : b.toNat < 256 := UInt8.toNat_lt _
    have h1 := let64_bd (a.toNat / 4) (by omega)
    have h2 := let64_bd (a.toNat % 4 * 16 + b.toNat / 16) (by omega)
    have h3 := let64_bd (b.toNat % 16 * 4) (by omega)
    intro x hx; simp [enc3] at hx; rcases hx with rfl | rfl | rfl | rfl <;> omega
  | a :: b :: c :: _ =>
    have ha : a.toNat < 256 := UInt8.toNat_lt _
    have hb : b.toNat < 256 := UInt8.toNat_lt _
    have hc : c.toNat < 256 := UInt8.toNat_lt _
    have h1 := let64_bd (a.toNat / 4) (by omega)
    have h2 := let64_bd (a.toNat % 4 * 16 + b.toNat / 16) (by omega)
    have h3 := let64_bd (b.toNat % 16 * 4 + c.toNat / 64) (by omega)
    have h4 := let64_bd (c.toNat % 64) (by omega)
    intro x hx; simp [enc3] at hx; rcases hx with rfl | rfl | rfl | rfl <;> omega
theorem encL_bd (l : List ByteArray) : ∀ x ∈ encL l, 0 ≤ x ∧ x < 256 := by
  intro x hx
  simp only [encL, List.mem_flatMap] at hx
  obtain ⟨p, _, hp⟩ := hx
  exact enc3_bd _ x hp
theorem cells_of_nums (l : List Int) (h : ∀ x ∈ l, 0 ≤ x ∧ x < 256) : l.map (Value.int .u8) = Lib.byteCells (u8s l) := by
  unfold Lib.byteCells u8s
  rw [List.map_map]
  refine List.map_congr_left fun x hx => ?_
  obtain ⟨h0, h1⟩ := h x hx
  show Value.int .u8 x = Value.int .u8 _
  congr 1
  simp; omega

set_option maxRecDepth 100000 in
set_option maxHeartbeats 2000000 in
theorem encode_any (s : ByteArray) (w : World) (hs : s.size ≤ 1000000) :
    Calls Tryd.prog 160 #[.string s] w fun e w' => e = .returned (.string (strOfNums (encS s.data.toList))) ∧ Below w.heap.size w w' := by
  have hl := chk_len 3 s
  have HE := Lib.hid (chk_encS s.size s (Nat.le_refl _))
  generalize encS s.data.toList = E at *
  have HL := Lib.hid (fun w => lines_any s 3 w)
  have hwd : wd 3 = 3 := by decide
  rw [hwd] at HL
  refine (callsIn_wide (n := 9)).1 ?_
  refine callsIn_of_wp_marks Tryd.func160 rfl trivial ?_ rfl
  simp only [Tryd.ntmps160, List.size_toArray, List.length_cons, List.length_nil, Nat.reduceAdd, Nat.reduceSub, Array.replicate_succ, Array.replicate_zero, List.push_toArray, List.append_toArray, List.nil_append, List.cons_append]
  gi_wp2_with (refine ⟨trivial, ?_⟩; gi_at_call 190; refine (callsIn_wide.2 (HL.out _)).mono ?_; rintro e w1 ⟨rfl, hcx, hcy, hz1', hb1⟩)
  simp only [World.size_alloc] at hcx hcy hz1' hb1
  have bd0 : Bd w1.heap.size w.heap.size [] w1 := (Bd.new w _).keep (fun k o hk _ => (hb1.block k (by have := (Array.getElem?_eq_some_iff.1 hk).1; simpa using this)).trans hk)
  have hB0 : Below w.heap.size w w1 := ((Below.refl _ w).alloc (Nat.le_refl _) _).trans (hb1.mono (by omega))
  refine wpIn_rangeFunc_ownG rfl (by decide) (gf := 207) (lb := #[.pointer (some ⟨w.heap.size + 1, 0, none⟩), .pointer (some ⟨w.heap.size + 1 + 1, 0, none⟩)]) rfl trivial (enters_of Tryd.func207 (by kernel_rfl) rfl)
    (lines3_stops 8 (by decide) (w.heap.size + 1) (w.heap.size + 1 + 1) s (BelowBut w1.heap.size w.heap.size) (fun _ _ h => h.cell (by omega) (by omega)) w1 hcx hcy (by omega) (by omega)) BelowBut.trans (BelowBut.put (Nat.le_refl _)) (Below.refl _ _) (fun _ => rfl)
    (fun (pre : List P3) X => Bd w1.heap.size w.heap.size ((encL (pre.map (·.1))).map (Value.int .u8)) X ∧ BelowBut w1.heap.size w.heap.size w1 X)
    (fun _ _ _ => False)
    (OwnFrom.and (Own.from (bd_own w1.heap.size w.heap.size (fun (pre : List P3) => (encL (pre.map (·.1))).map (Value.int .u8))) _) (ownFrom_but (Nat.le_refl _) (Nat.le_refl _)))
    (fun _ _ _ _ _ hs _ _ => hs)
    ⟨bd0, BelowBut.refl _ _ _⟩
    (fun x => { tmps := #[.string s, undef, .string { data := #[] }, .pointer (some ⟨w.heap.size, 0, none⟩), .string x.1, undef, undef, undef, undef, .string s, .func (.func 207) #[] #[.pointer (some ⟨w.heap.size + 1, 0, none⟩), .pointer (some ⟨w.heap.size + 1 + 1, 0, none⟩)], .string x.1, undef, undef, undef, undef, undef, undef, undef, undef, undef, undef, undef, undef, undef, undef, undef, undef, undef, undef, undef, undef, undef, undef, undef, undef, undef, undef, undef, undef, undef, undef, undef, undef, undef], defers := [] }) ?assign ?body ?done ?stop
  case assign =>
    intro l x W K hK
    gi_wp2
    exact hK
  case body =>
    rintro l pre ⟨y, hy1, hy2⟩ X ⟨hBd, hBB⟩ hlt
    have hlp := encL_len (pre.map (·.1))
    simp only [List.length_map] at hlp
    have hX1 := hBB.size
    show Code.wpIn _ _ _ _ _ _ _
    obtain ⟨L, hL⟩ : ∃ L, y.data.toList = L := ⟨_, rfl⟩
    have hLl := len_toList y
    rw [hL] at hLl
    match L, hLl with
    | [], hLl => simp at hLl; omega
    | [a], hLl =>
      have hcp := copy3 X y #[.int .u8 a.toNat, .int .u8 0, .int .u8 0] hy2 (by rw [hL, ← hLl]; rfl)
      have ha : a.toNat < 256 := UInt8.toNat_lt _
      have hwd := word1 a.toNat ha
      have o1 : bits BinOp.or IntKind.u32 ((a.toNat : Int) * 65536) 0 = ((a.toNat * 65536 : Nat) : Int) := by
        have := or_sum1 a.toNat 0 ha (by decide); simpa using this
      have o2 : bits BinOp.or IntKind.u32 ((a.toNat * 65536 : Nat) : Int) 0 = ((a.toNat * 65536 : Nat) : Int) := by
        have := or_sum2 a.toNat 0 0 ha (by decide) (by decide); simpa using this
      obtain ⟨V, hV⟩ : ∃ V : Nat, V = a.toNat * 65536 := ⟨_, rfl⟩
      rw [← hV] at o2 hwd
      rw [← hV] at o1
      have hVb : V < 16777216 := by omega
      have hA0 : bits BinOp.and IntKind.u32 ((V : Int) / 262144) 63 = ((a.toNat / 4 : Nat) : Int) := by
        have := and63 (V / 262144) (by omega); rw [show ((V : Int) / 262144) = ((V / 262144 : Nat) : Int) from by omega, this]; omega
      have hM0 := run_let .u32 (a.toNat / 4) (by omega)
      have hA1 : bits BinOp.and IntKind.u32 ((V : Int) / 4096) 63 = ((a.toNat % 4 * 16 : Nat) : Int) := by
        have := and63 (V / 4096) (by omega); rw [show ((V : Int) / 4096) = ((V / 4096 : Nat) : Int) from by omega, this]; omega
      have hM1 := run_let .u32 (a.toNat % 4 * 16) (by omega)
      have e3 : enc3 [a] = [let64 (a.toNat / 4), let64 (a.toNat % 4 * 16), 61, 61] := rfl
      generalize a.toNat / 4 = m0 at hA0 hM0 e3
      generalize a.toNat % 4 * 16 = m1 at hA1 hM1 e3
      have hn : (y.size : Int) = 1 := by simp at hLl; omega
      have HV := Lib.hid hV
      have HE3 := Lib.hid e3
      clear hwd hV e3
      have hcp' : (Builtin.copy_ #[136, 9] 3 #[.slice (some ⟨X.heap.size, 0, none⟩) 3 3, .string y]).run Tryd.prog (X.alloc (.cells #[.int .u8 0, .int .u8 0, .int .u8 0] 190)) = .ok (.int .i64 1) (X.alloc (.cells #[.int .u8 a.toNat, .int .u8 0, .int .u8 0] 190)) := by rw [← hn]; exact hcp
      have HN := Lib.hid hn
      clear hcp hn
      gi_wp2_with (with_reducible refine wpListIn_copy_run _ rfl _ _ 136 9 rfl _ _ rfl rfl hcp' ?_)
      try rw [HN.out]
      have hkp : KeepsOthers X (X.alloc (.cells #[.int .u8 a.toNat, .int .u8 0, .int .u8 0] 190)) := KeepsOthers.alloc _ _
      have hbp : BelowBut w1.heap.size w.heap.size X (X.alloc (.cells #[.int .u8 a.toNat, .int .u8 0, .int .u8 0] 190)) := .of_below ((Below.refl _ X).alloc (by omega) _)
      have hbd : Bd w1.heap.size w.heap.size ((encL (pre.map (·.1))).map (Value.int .u8)) (X.alloc (.cells #[.int .u8 a.toNat, .int .u8 0, .int .u8 0] 190)) := hBd.below ((Below.refl _ X).alloc (Nat.le_refl _) _) (Nat.le_refl _)
      generalize (X.alloc (.cells #[.int .u8 a.toNat, .int .u8 0, .int .u8 0] 190)) = X0 at hkp hbp hbd ⊢
      clear o1 o2 hcp'
      gi_loopw [8, 28] (fun _ i wr => ∃ k : Nat, k ≤ 4 ∧ i = .int .i64 k ∧ Bd w1.heap.size w.heap.size ((encL (pre.map (·.1)) ++ (enc3 [a]).take k).map (Value.int .u8)) wr ∧ BelowBut w1.heap.size w.heap.size X wr ∧ KeepsOthers X wr) (fun _ i _ => 4 - (intOf i).toNat)
      case atStart => exact ⟨0, by omega, rfl, by simpa using hbd, hbp, hkp⟩
      case round =>
        obtain ⟨k, hk, rfl, hb, hbb, hko⟩ := hrel
        have hsz := hbb.size
        by_cases h4 : k < 4
        · have hbl : ((encL (pre.map (·.1)) ++ (enc3 [a]).take k).map (Value.int .u8)).length + 1 ≤ 140737488355328 := by
            have : ((enc3 [a]).take k).length ≤ 4 := by rw [List.length_take]; omega
            rw [List.length_map, List.length_append]; omega
          have HB := Lib.hid hb
          have HBB := Lib.hid hbb
          have HKO := Lib.hid hko
          clear hb hbb hko
          rcases (by omega : k = 0 ∨ k = 1 ∨ k = 2 ∨ k = 3) with rfl | rfl | rfl | rfl
          · have ht : (enc3 [a]).take (0 + 1) = (enc3 [a]).take 0 ++ [let64 m0] := by rw [HE3.out]; rfl
            have HT := Lib.hid ht
            clear ht
            gi_wp2_with (refine ⟨trivial, ?_⟩; gi_at_call 189; refine ((callsIn_wide.2 (bd_write _ _ _ _ _ HB.out hbl (by omega))).inRound _).mono ?_; rintro e w3 ⟨rfl, hb3, hbb3, hko3⟩)
            have HB3 : Hid (Bd w1.heap.size w.heap.size ((encL (pre.map (·.1)) ++ (enc3 [a]).take (0 + 1)).map (Value.int .u8)) w3) := by
              unfold Hid; rw [HT.out, ← List.append_assoc, List.map_append]; exact hb3
            have HBB3 := Lib.hid (HBB.out.trans hbb3)
            have HKO3 := Lib.hid (HKO.out.trans hko3)
            clear hb3 hbb3 hko3
            gi_wp2
            go_roundw
            case rel => exact ⟨1, by omega, rfl, HB3.out, HBB3.out, HKO3.out⟩
            case measure => simp [intOf]
          · have ht : (enc3 [a]).take (1 + 1) = (enc3 [a]).take 1 ++ [let64 m1] := by rw [HE3.out]; rfl
            have HT := Lib.hid ht
            clear ht
            gi_wp2_with (refine ⟨trivial, ?_⟩; gi_at_call 189; refine ((callsIn_wide.2 (bd_write _ _ _ _ _ HB.out hbl (by omega))).inRound _).mono ?_; rintro e w3 ⟨rfl, hb3, hbb3, hko3⟩)
            have HB3 : Hid (Bd w1.heap.size w.heap.size ((encL (pre.map (·.1)) ++ (enc3 [a]).take (1 + 1)).map (Value.int .u8)) w3) := by
              unfold Hid; rw [HT.out, ← List.append_assoc, List.map_append]; exact hb3
            have HBB3 := Lib.hid (HBB.out.trans hbb3)
            have HKO3 := Lib.hid (HKO.out.trans hko3)
            clear hb3 hbb3 hko3
            gi_wp2
            go_roundw
            case rel => exact ⟨2, by omega, rfl, HB3.out, HBB3.out, HKO3.out⟩
            case measure => simp [intOf]
          · have ht : (enc3 [a]).take (2 + 1) = (enc3 [a]).take 2 ++ [61] := by rw [HE3.out]; rfl
            have HT := Lib.hid ht
            clear ht
            gi_wp2_with (refine ⟨trivial, ?_⟩; gi_at_call 189; refine ((callsIn_wide.2 (bd_write _ _ _ _ _ HB.out hbl (by omega))).inRound _).mono ?_; rintro e w3 ⟨rfl, hb3, hbb3, hko3⟩)
            have HB3 : Hid (Bd w1.heap.size w.heap.size ((encL (pre.map (·.1)) ++ (enc3 [a]).take (2 + 1)).map (Value.int .u8)) w3) := by
              unfold Hid; rw [HT.out, ← List.append_assoc, List.map_append]; exact hb3
            have HBB3 := Lib.hid (HBB.out.trans hbb3)
            have HKO3 := Lib.hid (HKO.out.trans hko3)
            clear hb3 hbb3 hko3
            gi_wp2
            go_roundw
            case rel => exact ⟨3, by omega, rfl, HB3.out, HBB3.out, HKO3.out⟩
            case measure => simp [intOf]
          · have ht : (enc3 [a]).take (3 + 1) = (enc3 [a]).take 3 ++ [61] := by rw [HE3.out]; rfl
            have HT := Lib.hid ht
            clear ht
            gi_wp2_with (refine ⟨trivial, ?_⟩; gi_at_call 189; refine ((callsIn_wide.2 (bd_write _ _ _ _ _ HB.out hbl (by omega))).inRound _).mono ?_; rintro e w3 ⟨rfl, hb3, hbb3, hko3⟩)
            have HB3 : Hid (Bd w1.heap.size w.heap.size ((encL (pre.map (·.1)) ++ (enc3 [a]).take (3 + 1)).map (Value.int .u8)) w3) := by
              unfold Hid; rw [HT.out, ← List.append_assoc, List.map_append]; exact hb3
            have HBB3 := Lib.hid (HBB.out.trans hbb3)
            have HKO3 := Lib.hid (HKO.out.trans hko3)
            clear hb3 hbb3 hko3
            gi_wp2
            go_roundw
            case rel => exact ⟨4, by omega, rfl, HB3.out, HBB3.out, HKO3.out⟩
            case measure => simp [intOf]
        · obtain rfl : k = 4 := by omega
          have ht : (enc3 [a]).take 4 = enc3 [a] := by rw [HE3.out]; rfl
          rw [ht] at hb
          clear ht
          gi_wp2
          refine ⟨hko.from _, hbb, ?_, hBB.trans hbb⟩
          have : encL (List.map (·.1) (pre ++ [⟨y, hy1, hy2⟩])) = encL (pre.map (·.1)) ++ enc3 [a] := by
            rw [List.map_append]; show encL (_ ++ [y]) = _; rw [encL_snoc, hL]
          rw [this]; exact hb
    | [a, b], hLl =>
      have hcp := copy3 X y #[.int .u8 a.toNat, .int .u8 b.toNat, .int .u8 0] hy2 (by rw [hL, ← hLl]; rfl)
      have ha : a.toNat < 256 := UInt8.toNat_lt _
      have hb : b.toNat < 256 := UInt8.toNat_lt _
      have hwd := word2 a.toNat b.toNat ha hb
      have o1 := or_sum1 a.toNat b.toNat ha hb
      have o2 : bits BinOp.or IntKind.u32 ((a.toNat : Int) * 65536 + (b.toNat : Int) * 256) 0 = ((a.toNat * 65536 + b.toNat * 256 : Nat) : Int) := by
        have := or_sum2 a.toNat b.toNat 0 ha hb (by decide); simpa using this
      obtain ⟨V, hV⟩ : ∃ V : Nat, V = a.toNat * 65536 + b.toNat * 256 := ⟨_, rfl⟩
      rw [← hV] at o2 hwd
      have hVb : V < 16777216 := by omega
      have hA0 : bits BinOp.and IntKind.u32 ((V : Int) / 262144) 63 = ((a.toNat / 4 : Nat) : Int) := by
        have := and63 (V / 262144) (by omega); rw [show ((V : Int) / 262144) = ((V / 262144 : Nat) : Int) from by omega, this]; omega
      have hM0 := run_let .u32 (a.toNat / 4) (by omega)
      have hA1 : bits BinOp.and IntKind.u32 ((V : Int) / 4096) 63 = ((a.toNat % 4 * 16 + b.toNat / 16 : Nat) : Int) := by
        have := and63 (V / 4096) (by omega); rw [show ((V : Int) / 4096) = ((V / 4096 : Nat) : Int) from by omega, this]; omega
      have hM1 := run_let .u32 (a.toNat % 4 * 16 + b.toNat / 16) (by omega)
      have hA2 : bits BinOp.and IntKind.u32 ((V : Int) / 64) 63 = ((b.toNat % 16 * 4 : Nat) : Int) := by
        have := and63 (V / 64) (by omega); rw [show ((V : Int) / 64) = ((V / 64 : Nat) : Int) from by omega, this]; omega
      have hM2 := run_let .u32 (b.toNat % 16 * 4) (by omega)
      have e3 : enc3 [a, b] = [let64 (a.toNat / 4), let64 (a.toNat % 4 * 16 + b.toNat / 16), let64 (b.toNat % 16 * 4), 61] := rfl
      generalize a.toNat / 4 = m0 at hA0 hM0 e3
      generalize a.toNat % 4 * 16 + b.toNat / 16 = m1 at hA1 hM1 e3
      generalize b.toNat % 16 * 4 = m2 at hA2 hM2 e3
      have hn : (y.size : Int) = 2 := by simp at hLl; omega
      have HV := Lib.hid hV
      have HE3 := Lib.hid e3
      clear hwd hV e3
      have hcp' : (Builtin.copy_ #[136, 9] 3 #[.slice (some ⟨X.heap.size, 0, none⟩) 3 3, .string y]).run Tryd.prog (X.alloc (.cells #[.int .u8 0, .int .u8 0, .int .u8 0] 190)) = .ok (.int .i64 2) (X.alloc (.cells #[.int .u8 a.toNat, .int .u8 b.toNat, .int .u8 0] 190)) := by rw [← hn]; exact hcp
      have HN := Lib.hid hn
      clear hcp hn
      gi_wp2_with (with_reducible refine wpListIn_copy_run _ rfl _ _ 136 9 rfl _ _ rfl rfl hcp' ?_)
      try rw [HN.out]
      have hkp : KeepsOthers X (X.alloc (.cells #[.int .u8 a.toNat, .int .u8 b.toNat, .int .u8 0] 190)) := KeepsOthers.alloc _ _
      have hbp : BelowBut w1.heap.size w.heap.size X (X.alloc (.cells #[.int .u8 a.toNat, .int .u8 b.toNat, .int .u8 0] 190)) := .of_below ((Below.refl _ X).alloc (by omega) _)
      have hbd : Bd w1.heap.size w.heap.size ((encL (pre.map (·.1))).map (Value.int .u8)) (X.alloc (.cells #[.int .u8 a.toNat, .int .u8 b.toNat, .int .u8 0] 190)) := hBd.below ((Below.refl _ X).alloc (Nat.le_refl _) _) (Nat.le_refl _)
      generalize (X.alloc (.cells #[.int .u8 a.toNat, .int .u8 b.toNat, .int .u8 0] 190)) = X0 at hkp hbp hbd ⊢
      clear o1 o2 hcp'
      gi_loopw [8, 28] (fun _ i wr => ∃ k : Nat, k ≤ 4 ∧ i = .int .i64 k ∧ Bd w1.heap.size w.heap.size ((encL (pre.map (·.1)) ++ (enc3 [a, b]).take k).map (Value.int .u8)) wr ∧ BelowBut w1.heap.size w.heap.size X wr ∧ KeepsOthers X wr) (fun _ i _ => 4 - (intOf i).toNat)
      case atStart => exact ⟨0, by omega, rfl, by simpa using hbd, hbp, hkp⟩
      case round =>
        obtain ⟨k, hk, rfl, hb, hbb, hko⟩ := hrel
        have hsz := hbb.size
        by_cases h4 : k < 4
        · have hbl : ((encL (pre.map (·.1)) ++ (enc3 [a, b]).take k).map (Value.int .u8)).length + 1 ≤ 140737488355328 := by
            have : ((enc3 [a, b]).take k).length ≤ 4 := by rw [List.length_take]; omega
            rw [List.length_map, List.length_append]; omega
          have HB := Lib.hid hb
          have HBB := Lib.hid hbb
          have HKO := Lib.hid hko
          clear hb hbb hko
          rcases (by omega : k = 0 ∨ k = 1 ∨ k = 2 ∨ k = 3) with rfl | rfl | rfl | rfl
          · have ht : (enc3 [a, b]).take (0 + 1) = (enc3 [a, b]).take 0 ++ [let64 m0] := by rw [HE3.out]; rfl
            have HT := Lib.hid ht
            clear ht
            gi_wp2_with (refine ⟨trivial, ?_⟩; gi_at_call 189; refine ((callsIn_wide.2 (bd_write _ _ _ _ _ HB.out hbl (by omega))).inRound _).mono ?_; rintro e w3 ⟨rfl, hb3, hbb3, hko3⟩)
            have HB3 : Hid (Bd w1.heap.size w.heap.size ((encL (pre.map (·.1)) ++ (enc3 [a, b]).take (0 + 1)).map (Value.int .u8)) w3) := by
              unfold Hid; rw [HT.out, ← List.append_assoc, List.map_append]; exact hb3
            have HBB3 := Lib.hid (HBB.out.trans hbb3)
            have HKO3 := Lib.hid (HKO.out.trans hko3)
            clear hb3 hbb3 hko3
            gi_wp2
            go_roundw
            case rel => exact ⟨1, by omega, rfl, HB3.out, HBB3.out, HKO3.out⟩
            case measure => simp [intOf]
          · have ht : (enc3 [a, b]).take (1 + 1) = (enc3 [a, b]).take 1 ++ [let64 m1] := by rw [HE3.out]; rfl
            have HT := Lib.hid ht
            clear ht
            gi_wp2_with (refine ⟨trivial, ?_⟩; gi_at_call 189; refine ((callsIn_wide.2 (bd_write _ _ _ _ _ HB.out hbl (by omega))).inRound _).mono ?_; rintro e w3 ⟨rfl, hb3, hbb3, hko3⟩)
            have HB3 : Hid (Bd w1.heap.size w.heap.size ((encL (pre.map (·.1)) ++ (enc3 [a, b]).take (1 + 1)).map (Value.int .u8)) w3) := by
              unfold Hid; rw [HT.out, ← List.append_assoc, List.map_append]; exact hb3
            have HBB3 := Lib.hid (HBB.out.trans hbb3)
            have HKO3 := Lib.hid (HKO.out.trans hko3)
            clear hb3 hbb3 hko3
            gi_wp2
            go_roundw
            case rel => exact ⟨2, by omega, rfl, HB3.out, HBB3.out, HKO3.out⟩
            case measure => simp [intOf]
          · have ht : (enc3 [a, b]).take (2 + 1) = (enc3 [a, b]).take 2 ++ [let64 m2] := by rw [HE3.out]; rfl
            have HT := Lib.hid ht
            clear ht
            gi_wp2_with (refine ⟨trivial, ?_⟩; gi_at_call 189; refine ((callsIn_wide.2 (bd_write _ _ _ _ _ HB.out hbl (by omega))).inRound _).mono ?_; rintro e w3 ⟨rfl, hb3, hbb3, hko3⟩)
            have HB3 : Hid (Bd w1.heap.size w.heap.size ((encL (pre.map (·.1)) ++ (enc3 [a, b]).take (2 + 1)).map (Value.int .u8)) w3) := by
              unfold Hid; rw [HT.out, ← List.append_assoc, List.map_append]; exact hb3
            have HBB3 := Lib.hid (HBB.out.trans hbb3)
            have HKO3 := Lib.hid (HKO.out.trans hko3)
            clear hb3 hbb3 hko3
            gi_wp2
            go_roundw
            case rel => exact ⟨3, by omega, rfl, HB3.out, HBB3.out, HKO3.out⟩
            case measure => simp [intOf]
          · have ht : (enc3 [a, b]).take (3 + 1) = (enc3 [a, b]).take 3 ++ [61] := by rw [HE3.out]; rfl
            have HT := Lib.hid ht
            clear ht
            gi_wp2_with (refine ⟨trivial, ?_⟩; gi_at_call 189; refine ((callsIn_wide.2 (bd_write _ _ _ _ _ HB.out hbl (by omega))).inRound _).mono ?_; rintro e w3 ⟨rfl, hb3, hbb3, hko3⟩)
            have HB3 : Hid (Bd w1.heap.size w.heap.size ((encL (pre.map (·.1)) ++ (enc3 [a, b]).take (3 + 1)).map (Value.int .u8)) w3) := by
              unfold Hid; rw [HT.out, ← List.append_assoc, List.map_append]; exact hb3
            have HBB3 := Lib.hid (HBB.out.trans hbb3)
            have HKO3 := Lib.hid (HKO.out.trans hko3)
            clear hb3 hbb3 hko3
            gi_wp2
            go_roundw
            case rel => exact ⟨4, by omega, rfl, HB3.out, HBB3.out, HKO3.out⟩
            case measure => simp [intOf]
        · obtain rfl : k = 4 := by omega
          have ht : (enc3 [a, b]).take 4 = enc3 [a, b] := by rw [HE3.out]; rfl
          rw [ht] at hb
          clear ht
          gi_wp2
          refine ⟨hko.from _, hbb, ?_, hBB.trans hbb⟩
          have : encL (List.map (·.1) (pre ++ [⟨y, hy1, hy2⟩])) = encL (pre.map (·.1)) ++ enc3 [a, b] := by
            rw [List.map_append]; show encL (_ ++ [y]) = _; rw [encL_snoc, hL]
          rw [this]; exact hb
    | [a, b, c], hLl =>
      have hcp := copy3 X y #[.int .u8 a.toNat, .int .u8 b.toNat, .int .u8 c.toNat] hy2 (by rw [hL, ← hLl]; rfl)
      have ha : a.toNat < 256 := UInt8.toNat_lt _
      have hb : b.toNat < 256 := UInt8.toNat_lt _
      have hc : c.toNat < 256 := UInt8.toNat_lt _
      have hwd := word3 a.toNat b.toNat c.toNat ha hb hc
      have o1 := or_sum1 a.toNat b.toNat ha hb
      have o2 : bits BinOp.or IntKind.u32 ((a.toNat : Int) * 65536 + (b.toNat : Int) * 256) (c.toNat : Int) = ((a.toNat * 65536 + b.toNat * 256 + c.toNat : Nat) : Int) := by
        have := or_sum2 a.toNat b.toNat c.toNat ha hb hc; rw [← this]; congr 1
      obtain ⟨V, hV⟩ : ∃ V : Nat, V = a.toNat * 65536 + b.toNat * 256 + c.toNat := ⟨_, rfl⟩
      rw [← hV] at o2 hwd
      have hVb : V < 16777216 := by omega
      have hA0 : bits BinOp.and IntKind.u32 ((V : Int) / 262144) 63 = ((a.toNat / 4 : Nat) : Int) := by
        have := and63 (V / 262144) (by omega); rw [show ((V : Int) / 262144) = ((V / 262144 : Nat) : Int) from by omega, this]; omega
      have hM0 := run_let .u32 (a.toNat / 4) (by omega)
      have hA1 : bits BinOp.and IntKind.u32 ((V : Int) / 4096) 63 = ((a.toNat % 4 * 16 + b.toNat / 16 : Nat) : Int) := by
        have := and63 (V / 4096) (by omega); rw [show ((V : Int) / 4096) = ((V / 4096 : Nat) : Int) from by omega, this]; omega
      have hM1 := run_let .u32 (a.toNat % 4 * 16 + b.toNat / 16) (by omega)
      have hA2 : bits BinOp.and IntKind.u32 ((V : Int) / 64) 63 = ((b.toNat % 16 * 4 + c.toNat / 64 : Nat) : Int) := by
        have := and63 (V / 64) (by omega); rw [show ((V : Int) / 64) = ((V / 64 : Nat) : Int) from by omega, this]; omega
      have hM2 := run_let .u32 (b.toNat % 16 * 4 + c.toNat / 64) (by omega)
      have hA3 : bits BinOp.and IntKind.u32 (V : Int) 63 = ((c.toNat % 64 : Nat) : Int) := by
        have := and63 V (by omega); rw [this]; omega
      have hM3 := run_let .u32 (c.toNat % 64) (by omega)
      have e3 : enc3 [a, b, c] = [let64 (a.toNat / 4), let64 (a.toNat % 4 * 16 + b.toNat / 16), let64 (b.toNat % 16 * 4 + c.toNat / 64), let64 (c.toNat % 64)] := rfl
      generalize a.toNat / 4 = m0 at hA0 hM0 e3
      generalize a.toNat % 4 * 16 + b.toNat / 16 = m1 at hA1 hM1 e3
      generalize b.toNat % 16 * 4 + c.toNat / 64 = m2 at hA2 hM2 e3
      generalize c.toNat % 64 = m3 at hA3 hM3 e3
      have hn : (y.size : Int) = 3 := by simp at hLl; omega
      have HV := Lib.hid hV
      have HE3 := Lib.hid e3
      clear hwd hV e3
      have hcp' : (Builtin.copy_ #[136, 9] 3 #[.slice (some ⟨X.heap.size, 0, none⟩) 3 3, .string y]).run Tryd.prog (X.alloc (.cells #[.int .u8 0, .int .u8 0, .int .u8 0] 190)) = .ok (.int .i64 3) (X.alloc (.cells #[.int .u8 a.toNat, .int .u8 b.toNat, .int .u8 c.toNat] 190)) := by rw [← hn]; exact hcp
      have HN := Lib.hid hn
      clear hcp hn
      gi_wp2_with (with_reducible refine wpListIn_copy_run _ rfl _ _ 136 9 rfl _ _ rfl rfl hcp' ?_)
      try rw [HN.out]
      have hkp : KeepsOthers X (X.alloc (.cells #[.int .u8 a.toNat, .int .u8 b.toNat, .int .u8 c.toNat] 190)) := KeepsOthers.alloc _ _
      have hbp : BelowBut w1.heap.size w.heap.size X (X.alloc (.cells #[.int .u8 a.toNat, .int .u8 b.toNat, .int .u8 c.toNat] 190)) := .of_below ((Below.refl _ X).alloc (by omega) _)
      have hbd : Bd w1.heap.size w.heap.size ((encL (pre.map (·.1))).map (Value.int .u8)) (X.alloc (.cells #[.int .u8 a.toNat, .int .u8 b.toNat, .int .u8 c.toNat] 190)) := hBd.below ((Below.refl _ X).alloc (Nat.le_refl _) _) (Nat.le_refl _)
      generalize (X.alloc (.cells #[.int .u8 a.toNat, .int .u8 b.toNat, .int .u8 c.toNat] 190)) = X0 at hkp hbp hbd ⊢
      clear o1 o2 hcp'
      gi_loopw [8, 28] (fun _ i wr => ∃ k : Nat, k ≤ 4 ∧ i = .int .i64 k ∧ Bd w1.heap.size w.heap.size ((encL (pre.map (·.1)) ++ (enc3 [a, b, c]).take k).map (Value.int .u8)) wr ∧ BelowBut w1.heap.size w.heap.size X wr ∧ KeepsOthers X wr) (fun _ i _ => 4 - (intOf i).toNat)
      case atStart => exact ⟨0, by omega, rfl, by simpa using hbd, hbp, hkp⟩
      case round =>
        obtain ⟨k, hk, rfl, hb, hbb, hko⟩ := hrel
        have hsz := hbb.size
        by_cases h4 : k < 4
        · have hbl : ((encL (pre.map (·.1)) ++ (enc3 [a, b, c]).take k).map (Value.int .u8)).length + 1 ≤ 140737488355328 := by
            have : ((enc3 [a, b, c]).take k).length ≤ 4 := by rw [List.length_take]; omega
            rw [List.length_map, List.length_append]; omega
          have HB := Lib.hid hb
          have HBB := Lib.hid hbb
          have HKO := Lib.hid hko
          clear hb hbb hko
          rcases (by omega : k = 0 ∨ k = 1 ∨ k = 2 ∨ k = 3) with rfl | rfl | rfl | rfl
          · have ht : (enc3 [a, b, c]).take (0 + 1) = (enc3 [a, b, c]).take 0 ++ [let64 m0] := by rw [HE3.out]; rfl
            have HT := Lib.hid ht
            clear ht
            gi_wp2_with (refine ⟨trivial, ?_⟩; gi_at_call 189; refine ((callsIn_wide.2 (bd_write _ _ _ _ _ HB.out hbl (by omega))).inRound _).mono ?_; rintro e w3 ⟨rfl, hb3, hbb3, hko3⟩)
            have HB3 : Hid (Bd w1.heap.size w.heap.size ((encL (pre.map (·.1)) ++ (enc3 [a, b, c]).take (0 + 1)).map (Value.int .u8)) w3) := by
              unfold Hid; rw [HT.out, ← List.append_assoc, List.map_append]; exact hb3
            have HBB3 := Lib.hid (HBB.out.trans hbb3)
            have HKO3 := Lib.hid (HKO.out.trans hko3)
            clear hb3 hbb3 hko3
            gi_wp2
            go_roundw
            case rel => exact ⟨1, by omega, rfl, HB3.out, HBB3.out, HKO3.out⟩
            case measure => simp [intOf]
          · have ht : (enc3 [a, b, c]).take (1 + 1) = (enc3 [a, b, c]).take 1 ++ [let64 m1] := by rw [HE3.out]; rfl
            have HT := Lib.hid ht
            clear ht
            gi_wp2_with (refine ⟨trivial, ?_⟩; gi_at_call 189; refine ((callsIn_wide.2 (bd_write _ _ _ _ _ HB.out hbl (by omega))).inRound _).mono ?_; rintro e w3 ⟨rfl, hb3, hbb3, hko3⟩)
            have HB3 : Hid (Bd w1.heap.size w.heap.size ((encL (pre.map (·.1)) ++ (enc3 [a, b, c]).take (1 + 1)).map (Value.int .u8)) w3) := by
              unfold Hid; rw [HT.out, ← List.append_assoc, List.map_append]; exact hb3
            have HBB3 := Lib.hid (HBB.out.trans hbb3)
            have HKO3 := Lib.hid (HKO.out.trans hko3)
            clear hb3 hbb3 hko3
            gi_wp2
            go_roundw
            case rel => exact ⟨2, by omega, rfl, HB3.out, HBB3.out, HKO3.out⟩
            case measure => simp [intOf]
          · have ht : (enc3 [a, b, c]).take (2 + 1) = (enc3 [a, b, c]).take 2 ++ [let64 m2] := by rw [HE3.out]; rfl
            have HT := Lib.hid ht
            clear ht
            gi_wp2_with (refine ⟨trivial, ?_⟩; gi_at_call 189; refine ((callsIn_wide.2 (bd_write _ _ _ _ _ HB.out hbl (by omega))).inRound _).mono ?_; rintro e w3 ⟨rfl, hb3, hbb3, hko3⟩)
            have HB3 : Hid (Bd w1.heap.size w.heap.size ((encL (pre.map (·.1)) ++ (enc3 [a, b, c]).take (2 + 1)).map (Value.int .u8)) w3) := by
              unfold Hid; rw [HT.out, ← List.append_assoc, List.map_append]; exact hb3
            have HBB3 := Lib.hid (HBB.out.trans hbb3)
            have HKO3 := Lib.hid (HKO.out.trans hko3)
            clear hb3 hbb3 hko3
            gi_wp2
            go_roundw
            case rel => exact ⟨3, by omega, rfl, HB3.out, HBB3.out, HKO3.out⟩
            case measure => simp [intOf]
          · have ht : (enc3 [a, b, c]).take (3 + 1) = (enc3 [a, b, c]).take 3 ++ [let64 m3] := by rw [HE3.out]; rfl
            have HT := Lib.hid ht
            clear ht
            gi_wp2_with (refine ⟨trivial, ?_⟩; gi_at_call 189; refine ((callsIn_wide.2 (bd_write _ _ _ _ _ HB.out hbl (by omega))).inRound _).mono ?_; rintro e w3 ⟨rfl, hb3, hbb3, hko3⟩)
            have HB3 : Hid (Bd w1.heap.size w.heap.size ((encL (pre.map (·.1)) ++ (enc3 [a, b, c]).take (3 + 1)).map (Value.int .u8)) w3) := by
              unfold Hid; rw [HT.out, ← List.append_assoc, List.map_append]; exact hb3
            have HBB3 := Lib.hid (HBB.out.trans hbb3)
            have HKO3 := Lib.hid (HKO.out.trans hko3)
            clear hb3 hbb3 hko3
            gi_wp2
            go_roundw
            case rel => exact ⟨4, by omega, rfl, HB3.out, HBB3.out, HKO3.out⟩
            case measure => simp [intOf]
        · obtain rfl : k = 4 := by omega
          have ht : (enc3 [a, b, c]).take 4 = enc3 [a, b, c] := by rw [HE3.out]; rfl
          rw [ht] at hb
          clear ht
          gi_wp2
          refine ⟨hko.from _, hbb, ?_, hBB.trans hbb⟩
          have : encL (List.map (·.1) (pre ++ [⟨y, hy1, hy2⟩])) = encL (pre.map (·.1)) ++ enc3 [a, b, c] := by
            rw [List.map_append]; show encL (_ ++ [y]) = _; rw [encL_snoc, hL]
          rw [this]; exact hb
    | a :: b :: c :: d :: L, hLl => simp at hLl; omega
  case done =>
    rintro D ys X hD hys ⟨hBd, hBB⟩ hK
    have hX1 := hBB.size
    have hys' : ys.map (·.1) = chk 3 s := hys
    rw [hys', HE.out, cells_of_nums E (by rw [← HE.out]; exact encL_bd _)] at hBd
    have hcs := Lib.hid (bd_string w1.heap.size w.heap.size (u8s E) X w.heap.size hBd (by omega) (Nat.le_refl _) (by omega))
    have HBX : Hid (Below w.heap.size w X) := hB0.trans (hBB.below (by omega) (Nat.le_refl _))
    have hDX : D < X.heap.size := (Array.getElem?_eq_some_iff.1 hK).1
    clear hBd hBB hys hys'
    gi_wp2_with (refine ⟨trivial, ?_⟩; gi_at_call 130; refine (callsIn_wide.2 hcs.out).mono ?_; rintro e X2 ⟨rfl, hb2, hk2⟩)
    refine ⟨by simp, .inl ⟨_, _, rfl, run_takeDeferred (hk2 _ _ hK rfl), ?_⟩⟩
    exact ⟨_, results_tmp rfl _ _ _, rfl, (HBX.out.trans hb2).trans (belowK_b (w := w) (Nat.le_refl _) X2 D _ _ (by omega) (hk2 _ _ hK rfl) rfl rfl)⟩
  case stop =>
    rintro D c pre X _ _ h _
    exact h.elim
end Go.Proofs.YtgechifbbhipaaaDoor
