/- digest: the walk of the law on long keys. -/
import Derived.Test.YteheibgdjpkeaaaLawsW
namespace Go.Proofs.Yteheibgdjpkeaaa
open Go.RowKit

def zeroW (n : Nat) (W : World) : World := W.alloc (.cells (madeCells (Value.int .u8 0).cells (n * 1)) 5)
theorem run_zero (n : Nat) (hn : n ≤ 64) (W : World) : (Instr.makeSlice 34 (.int .i64 (n : Int)) (.int .i64 (n : Int))).run Try.prog W = .ok (.slice (some ⟨W.heap.size, 0, none⟩) n n) (zeroW n W) := by
  obtain ⟨i0, hi, hz0, hz1, hz2⟩ := info_parts S34.info
  have hr := run_make (P := Try.prog) W 34 5 i0 (.int .u8 0) S34.ht hi hz0 .i64 .i64 (n : Int) (n : Int) (by omega) (by omega) (by rw [hz2]; omega) (by omega)
  simp only [Int.toNat_natCast] at hr
  rw [hz1] at hr
  exact hr
theorem zero_own (n : Nat) (hn : n ≤ 64) (W : World) : OwnG (zeroW n W) W.heap.size (.slice (some ⟨W.heap.size, 0, none⟩) n n) n (chs (List.replicate n 0)) := by
  have hsz : (madeCells (Value.int .u8 0).cells (n * 1)).size = n := by simp [madeCells]
  have hat : ∀ j, j < n → (madeCells (Value.int .u8 0).cells (n * 1))[j]? = some (.int .u8 0) := fun j hj => by
    rw [Array.getElem?_eq_getElem (by rw [hsz]; exact hj)]
    have e : (Value.int .u8 0).cells = #[.int .u8 0] := rfl
    simp [madeCells, e, Nat.mod_one]
  have hC := CellsF.new W (madeCells (Value.int .u8 0).cells (n * 1)) 5 n (fun _ => .int .u8 0) W.heap.size rfl hat
  refine ⟨by simp [chs], W.heap.size, n, rfl, Nat.le_refl _, by unfold zeroW; simp, Nat.le_refl _, by unfold maxLen; omega, fun j u hu => ?_, fun j hj => ⟨?_, (hC j hj).2⟩⟩
  · have hj : j < n := by
      have := (List.getElem?_eq_some_iff.1 hu).1
      simpa [chs] using this
    unfold zeroW
    rw [(hC j hj).1]
    rw [chs, List.getElem?_map, List.getElem?_replicate, if_pos hj] at hu
    exact hu
  · unfold zeroW
    rw [(hC j hj).1]; rfl
theorem zero_conv (n : Nat) (hn : n ≤ 64) (W w' : World) (hb : Below (zeroW n W).heap.size (zeroW n W) w') :
    (convert 34 9 (.slice (some ⟨W.heap.size, 0, none⟩) n n)).run Try.prog w' = .ok (.string (mkS (List.replicate n 0))) w' :=
  run_strG w' 34 9 5 Try.underlying34 Try.underlying9 Try.underlying5 W.heap.size _ n _ ((zero_own n hn W).below hb)
theorem below_step {w W W' : World} (h : Below w.heap.size w W) (h2 : Below W.heap.size W W') : Below w.heap.size w W' := h.trans (h2.mono h.size)
theorem zero_below (n : Nat) (W : World) : Below W.heap.size W (zeroW n W) := (Below.refl _ _).alloc (Nat.le_refl _) _

/-- a conversion whose run is known, as a step of a region that draws. -/
theorem step_conv {P : Program} {w : World} {ops : Array Oper} {o : Oper} {a : Act} {K : Act → World → Prop} {Q : Exit → Act → World → Prop} {E : Prop}
    (hg : o.guard = none) (x : Operand) (src dst : TypeId) (hop : o.op = Op.convert src dst x) (v r : Value) (hx : a.eval x = v) (hr : (convert src dst v).run P w = .ok r w) (hK : K (a.put o.dst r) w) :
    if Region.wanted o (yielded ops a.tmps) = true then Oper.wp P o a w K Q else E := by
  have hw : Region.wanted o (yielded ops a.tmps) = true := by simp [Region.wanted, hg]
  rw [if_pos hw]
  unfold Oper.wp
  simp [execOp, hop, hx, hr, Result.andThen]
  exact hK
theorem noughts_n (x : Int) (k : Nat) (hk : k ≤ 64) : ∃ n : Nat, wrap64 ((IntKind.u64.wrap x).tmod (65 - (k : Int))) = (n : Int) ∧ n + k ≤ 64 := by
  have e2 : 0 ≤ IntKind.u64.wrap x := by rw [IntKind.wrap_u64]; omega
  generalize IntKind.u64.wrap x = y at *
  rw [Int.tmod_eq_emod_of_nonneg e2]
  have h1 : 0 ≤ y % (65 - (k : Int)) := Int.emod_nonneg _ (by omega)
  have h2 : y % (65 - (k : Int)) < 65 - (k : Int) := Int.emod_lt_of_pos _ (by omega)
  refine ⟨(y % (65 - (k : Int))).toNat, ?_, by omega⟩
  rw [IntWalk.wrap64_in _ ⟨by omega, by omega⟩]; omega

set_option maxRecDepth 100000 in
set_option maxHeartbeats 4000000 in
theorem long_walk (key : ByteArray) (_ : key.size ≤ 140737488351232) (s : ByteArray) (_ : s.size ≤ 140737488351232) (x : Int) (hx : (Lit.int .i64 x).wf = true) (w : World) : Calls Try.prog 6 #[.string key, .string s, .int .i64 x] w fun e w' => e = .returned (.bool true) ∧ Below w.heap.size w w' := by
  by_cases hk : 2000 < key.size
  · have hk' : (2000 : Int) < key.size := by omega
    go_enter Try.func6, Try.ntmps6
    go_wp2
    go_ret
    exact ⟨rfl, Below.refl _ _⟩
  have hk' : ¬ (2000 : Int) < key.size := by omega
  by_cases hbig : 2000 < s.size
  · have hbig' : (2000 : Int) < s.size := by omega
    go_enter Try.func6, Try.ntmps6
    go_wp2
    go_ret
    exact ⟨rfl, Below.refl _ _⟩
  have hbig' : ¬ (2000 : Int) < s.size := by omega
  have c1 := Lib.hid (fun w => mac_any key s (by omega) (by omega) w)
  have hz : ((mkS (macL key.data.toList s.data.toList)).size : Int) = 16 := by rw [mkS_size, macL_len]; rfl
  by_cases h64 : 64 < key.size
  · have h64' : (64 : Int) < key.size := by omega
    have c2 := Lib.hid (fun w => sum_any key (by omega) w)
    have c3 : Hid (∀ w, Calls Try.prog 17 #[.string (mkS (md5 key.data.toList)), .string s] w fun e w' => e = .returned (.string (mkS (macL key.data.toList s.data.toList))) ∧ Below w.heap.size w w') := fun w => by
      have := mac_any (mkS (md5 key.data.toList)) s (by rw [mkS_size, md5_len]; omega) (by omega) w
      rw [mkS_list, mac_long _ _ (by rw [len_toList]; exact h64)] at this
      exact this
    have hz2 : ((mkS (md5 key.data.toList)).size : Int) = 16 := by rw [mkS_size, md5_len]; rfl
    generalize mkS (macL key.data.toList s.data.toList) = R at *
    generalize mkS (md5 key.data.toList) = Q at *
    go_enter Try.func6, Try.ntmps6
    go_wp2_with fail
    refine (c1.out _).mono ?_
    rintro e w1 ⟨rfl, hb1⟩
    go_wp2_with fail
    refine (c2.out _).mono ?_
    rintro e w2 ⟨rfl, hb2⟩
    go_wp2_with fail
    refine (c3.out _).mono ?_
    rintro e w3 ⟨rfl, hb3⟩
    go_wp2_with fail
    refine (c2.out _).mono ?_
    rintro e w4 ⟨rfl, hb4⟩
    go_wp2_with fail
    go_ret
    exact ⟨rfl, below_step (below_step (below_step hb1 hb2) hb3) hb4⟩
  · have h64' : ¬ (64 : Int) < key.size := by omega
    obtain ⟨n, hn, hnk⟩ := noughts_n x key.size (by omega)
    have c3 : Hid (∀ w, Calls Try.prog 17 #[.string (key ++ mkS (List.replicate n 0)), .string s] w fun e w' => e = .returned (.string (mkS (macL key.data.toList s.data.toList))) ∧ Below w.heap.size w w') := fun w => by
      have := mac_any (key ++ mkS (List.replicate n 0)) s (by rw [ByteArray.size_append, mkS_size]; simp; omega) (by omega) w
      rw [app_list, mkS_list, mac_noughts _ _ _ (by rw [len_toList]; omega)] at this
      exact this
    have hzs : (mkS (List.replicate n 0)).size = n := by rw [mkS_size]; simp
    have y1 : ¬ 9223372036854775807 < key.size + (mkS (List.replicate n 0)).size := by omega
    have hZ := fun W => zero_conv n (by omega) W (zeroW n W) (Below.refl _ _)
    have hM := fun W => run_zero n (by omega) W
    have cZ := Lib.hid (fun W w' hb => zero_conv n (by omega) W w' hb)
    have cB := Lib.hid (fun W => zero_below n W)
    clear hzs
    generalize mkS (macL key.data.toList s.data.toList) = R at *
    generalize mkS (List.replicate n 0) = Z at *
    have HN := Lib.hid hn
    clear hn
    go_enter Try.func6, Try.ntmps6
    go_wp2_with fail
    rw [HN.out]
    have HB0 : Below w.heap.size w w.drew := (Below.refl _ _).drew
    have hZ0 : (convert 34 9 (.slice (some ⟨w.heap.size, 0, none⟩) n n)).run Try.prog (zeroW n w.drew) = .ok (.string Z) (zeroW n w.drew) := hZ w.drew
    go_region_law (first
      | (go_simp; go_at_call 17; (with_reducible refine (c1.out _).mono ?_); rintro e w8 ⟨rfl, hb8⟩; try (have hcv8 : (convert 34 9 (.slice (some ⟨w.heap.size, 0, none⟩) n n)).run Try.prog w8 = .ok (.string Z) w8 := cZ.out w.drew _ hb8))
      | (go_simp; go_at_call 17; (with_reducible refine (c3.out _).mono ?_); rintro e w8 ⟨rfl, hb8⟩))
    all_goals
      go_wp2
      go_ret
      first
        | exact ⟨rfl, below_step (below_step (below_step (below_step HB0 (cB.out _)) (by assumption)) (by assumption)) (by assumption)⟩
        | exact ⟨rfl, below_step (below_step (below_step (below_step HB0 (by assumption)) (cB.out _)) (by assumption)) (by assumption)⟩
end Go.Proofs.Yteheibgdjpkeaaa
