/- digest: sums under a key. -/
import Derived.Test.YteheibgdjpkeaaaHSum
namespace Go.Proofs.Yteheibgdjpkeaaa
open Go.RowKit

/-- byte j of a key turned by c -/
def turnB (key : List UInt8) (c : Nat) (j : Nat) : UInt8 := ub (by8 key j ^^^ c)
def turnL (key : List UInt8) (c : Nat) : List UInt8 := (List.range 64).map (turnB key c)
theorem turnL_len (key : List UInt8) (c : Nat) : (turnL key c).length = 64 := by simp [turnL]
def key64 (key : List UInt8) : List UInt8 := if 64 < key.length then md5 key else key
/-- a text's sum under a key -/
def macL (key s : List UInt8) : List UInt8 := md5 (turnL (key64 key) 92 ++ md5 (turnL (key64 key) 54 ++ s))
theorem macL_len (key s : List UInt8) : (macL key s).length = 16 := md5_len _

/-- the cells of the reference's turning: the first k turned, noughts behind. -/
def tv (key : List UInt8) (c k : Nat) (j : Nat) : Value := .int .u8 (if j < k then ((turnB key c j).toNat : Int) else 0)
theorem tv_succ (key : List UInt8) (c k j : Nat) : (if j = k then Value.int .u8 ((turnB key c k).toNat : Int) else tv key c k j) = tv key c (k + 1) j := by
  unfold tv
  by_cases h : j = k
  · subst h; rw [if_pos rfl, if_pos (by omega)]
  · rw [if_neg h]
    by_cases h2 : j < k
    · rw [if_pos h2, if_pos (by omega)]
    · rw [if_neg h2, if_neg (by omega)]
theorem turnB_val (key : List UInt8) (c j : Nat) (hc : c < 256) : bits .xor .u8 ((by8 key j : Nat) : Int) (c : Int) = ((turnB key c j).toNat : Int) := by
  have h := by8_lt key j
  have e := u8_xor_nat (by8 key j) c h hc
  rw [e]
  unfold turnB
  rw [ub_toNat, Nat.mod_eq_of_lt (Nat.xor_lt_two_pow (n := 8) h hc)]

theorem by8_at (s : ByteArray) (k : Nat) (h : k < s.size) : s[k].toNat = by8 s.data.toList k := by
  unfold by8; rw [bat_get s k h]; rfl
theorem by8_out (s : ByteArray) (k : Nat) (h : ¬ k < s.size) : by8 s.data.toList k = 0 := by
  unfold by8
  rw [List.getElem?_eq_none (by rw [len_toList]; omega)]; rfl
theorem zero_at (n j : Nat) (h : j < n) (v : Value) : (Array.replicate n v)[j]? = some v := by
  rw [Array.getElem?_replicate, if_pos h]

theorem turn_str (w : World) (g : Nat) (key : List UInt8) (c : Nat) (h : CellsF w g 64 (tv key c 64)) :
    (convert 34 9 (.slice (some ⟨g, 0, none⟩) 64 64)).run Try.prog w = .ok (.string (mkS (turnL key c))) w := by
  have hr := run_convert_bytes_arg (P := Try.prog) w 34 5 Try.underlying34 Try.underlying5 g 0 64 64 ((turnL key c).map fun b => (b.toNat : Int)) (by rw [List.length_map, turnL_len]) (fun i hi => by
    rw [Nat.zero_add, (h i hi).1]
    unfold tv
    rw [if_pos hi]
    have e : ((turnL key c).map fun b => (b.toNat : Int)).getD i 0 = ((turnB key c i).toNat : Int) := by
      rw [List.getD_eq_getElem?_getD, List.getElem?_map, turnL, List.getElem?_map, List.getElem?_range hi]; rfl
    rw [e]) 9 Try.underlying9
  rw [hr]
  have e1 : strOfNums ((turnL key c).map fun b => (b.toNat : Int)) = mkS (turnL key c) := by simp [strOfNums, mkS, Function.comp_def]
  rw [e1]

set_option maxRecDepth 100000 in
set_option maxHeartbeats 4000000 in
theorem refTurned_any (s : ByteArray) (hs : s.size ≤ 1099511627776) (c : Nat) (hc : c < 256) (w : World) : Calls Try.prog 42 #[.string s, .int .u8 (c : Int)] w fun e w' => e = .returned (.string (mkS (turnL s.data.toList c))) ∧ Below w.heap.size w w' := by
  have hmk : ∀ w, (Instr.makeSlice 34 (.int .i64 64) (.int .i64 64)).run Try.prog w = .ok (.slice (some ⟨w.heap.size, 0, none⟩) 64 64) (w.alloc (.cells (Array.replicate 64 (.int .u8 0)) 5)) := fun _ => by kernel_rfl
  go_enter Try.func42, Try.ntmps42
  go_wp2
  have hC : CellsF (w.alloc (.cells (Array.replicate 64 (.int .u8 0)) 5)) w.heap.size 64 (tv s.data.toList c 0) := CellsF.new w _ 5 64 _ _ rfl (fun j hj => by rw [zero_at 64 j hj]; rfl)
  go_loopw [6] (fun i wr => ∃ k : Nat, k ≤ 64 ∧ i = .int .i64 k ∧ Hid (CellsF wr w.heap.size 64 (tv s.data.toList c k)) ∧ Hid (Below w.heap.size w wr)) (fun i _ => 64 - (intOf i).toNat)
  case atStart => exact ⟨0, by omega, rfl, hC, (Below.refl _ _).alloc (Nat.le_refl _) _⟩
  case round =>
    clear hC hmk
    obtain ⟨k, hk, rfl, HC, HB⟩ := hrel
    by_cases hlt : k < 64
    · have hk0 : wr.cell? ⟨w.heap.size, k, none⟩ = some (.int .u8 0) := by
        have := (HC.out k hlt).1
        unfold tv at this
        rw [if_neg (by omega)] at this
        exact this
      have hf0 := (HC.out k hlt).2
      have hV := turnB_val s.data.toList c k hc
      have hb8 := by8_lt s.data.toList k
      by_cases hin : k < s.size
      · have hr := run_at s k hin _ (by8_at s k hin)
        generalize by8 s.data.toList k = B at *
        go_wp2
        go_roundw
        case rel => exact ⟨k + 1, by omega, by go_num, (((HC.out.set k _ hlt).set k _ hlt).congr (fun j hj => by
            rw [← tv_succ]
            show (if j = k then _ else if j = k then _ else _) = _
            by_cases e : j = k
            · rw [if_pos e, if_pos e]
            · rw [if_neg e, if_neg e, if_neg e])), ((HB.out.setCell (by simp) _).setCell (by simp) _)⟩
        case measure => simp [intOf]; omega
      · have h0 := by8_out s k hin
        rw [h0] at hV
        have hV0 : bits BinOp.xor IntKind.u8 0 (c : Int) = ((turnB s.data.toList c k).toNat : Int) := hV
        clear hV h0
        go_wp2
        go_roundw
        case rel => exact ⟨k + 1, by omega, by go_num, ((HC.out.set k _ hlt).congr (fun j _ => tv_succ _ _ _ _)), (HB.out.setCell (by simp) _)⟩
        case measure => simp [intOf]; omega
    · have e : k = 64 := by omega
      have hst := turn_str wr w.heap.size s.data.toList c (HC.out.congr (fun j _ => by rw [e]))
      clear e
      go_wp2
      go_ret
      exact ⟨rfl, HB.out⟩
end Go.Proofs.Yteheibgdjpkeaaa
