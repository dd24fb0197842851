/- digest: the program's words as bytes, and its sums. -/
import Derived.Test.YteheibgdjpkeaaaHash
namespace Go.Proofs.Yteheibgdjpkeaaa
open Go.RowKit

def wdOf (q : St) (j : Nat) : Nat := if j = 0 then q.a else if j = 1 then q.b else if j = 2 then q.c else q.d
theorem wdOf_lt (q : St) (h : q.ok) (j : Nat) : wdOf q j < 4294967296 := by
  obtain ⟨h0, h1, h2, h3⟩ := h
  unfold wdOf
  split
  · exact h0
  · split
    · exact h1
    · split
      · exact h2
      · exact h3
theorem run_word (q : St) (k : Nat) (hk : k < 4) (w : World) : (Instr.index 67 (.agg #[.int .u32 (q.a : Int), .int .u32 (q.b : Int), .int .u32 (q.c : Int), .int .u32 (q.d : Int)]) (.int .i64 (k : Int))).run Try.prog w = .ok (.int .u32 ((wdOf q k : Nat) : Int)) w := by
  rcases (by omega : k = 0 ∨ k = 1 ∨ k = 2 ∨ k = 3) with rfl | rfl | rfl | rfl <;> kernel_rfl
/-- the bytes of the first k words -/
def wdsL (q : St) (k : Nat) : List UInt8 := (List.range k).flatMap fun j => le4 (wdOf q j)
theorem wdsL_succ (q : St) (k : Nat) : wdsL q (k + 1) = wdsL q k ++ le4 (wdOf q k) := by simp [wdsL, List.range_succ]
theorem wdsL_len (q : St) (k : Nat) : (wdsL q k).length = 4 * k := by
  induction k with
  | zero => rfl
  | succ k ih => rw [wdsL_succ, List.length_append, ih]; simp [le4]; omega
theorem wdsL_all (q : St) : wdsL q 4 = textSt q := rfl
theorem le4_chs (n : Nat) (hn : n < 4294967296) : [Value.int .u8 ((n : Int) % 256), .int .u8 ((n : Int) / 256 % 256), .int .u8 ((n : Int) / 65536 % 256), .int .u8 ((n : Int) / 16777216)] = chs (le4 n) := by
  have h : ∀ m : Nat, ((ub m).toNat : Int) = (m : Int) % 256 := fun m => by rw [ub_toNat]; omega
  simp only [chs, le4, List.map_cons, List.map_nil, h]
  have e1 : (n : Int) / 256 % 256 = ((n / 256 : Nat) : Int) % 256 := by omega
  have e2 : (n : Int) / 65536 % 256 = ((n / 65536 : Nat) : Int) % 256 := by omega
  have e4 : (n : Int) / 16777216 = ((n / 16777216 : Nat) : Int) % 256 := by omega
  rw [e1, e2, e4]

set_option maxRecDepth 100000 in
set_option maxHeartbeats 4000000 in
theorem text_any (q : St) (hq : q.ok) (w : World) : Calls Try.prog 40 #[.agg #[.int .u32 (q.a : Int), .int .u32 (q.b : Int), .int .u32 (q.c : Int), .int .u32 (q.d : Int)]] w fun e w' => e = .returned (.string (mkS (textSt q))) ∧ Below w.heap.size w w' := by
  go_enter Try.func40, Try.ntmps40
  go_wp2
  go_loopw [3, 7] (fun v i wr => ∃ (k : Nat) (ad : Option Addr) (n c : Nat), k ≤ 4 ∧ n = 4 * k ∧ i = .int .i64 k ∧ v = .slice ad n c ∧ Hid (wr.ownsRow w.heap.size 5 1 (.slice ad n c) n (chs (wdsL q k))) ∧ Hid (Below w.heap.size w wr) ∧ w.heap.size ≤ wr.heap.size) (fun _ i _ => 4 - (intOf i).toNat)
  case atStart => exact ⟨0, none, 0, 0, by omega, rfl, rfl, rfl, World.ownsRow_nil _ _ _ _, (Below.refl _ _).alloc (Nat.le_refl _) _, by simp⟩
  case round =>
    obtain ⟨k, ad, n, c, hk, hn, rfl, rfl, HO, HB, hz⟩ := hrel
    by_cases hlt : k < 4
    · have hr := run_word q k hlt
      have hw := wdOf_lt q hq k
      have HL := Lib.hid (le4_chs (wdOf q k) hw)
      have HS := Lib.hid (wdsL_succ q k)
      have hl := wdsL_len q k
      rw [← hn, ← chs_len] at hl
      have HN := Lib.hid hn
      have hn2 : n ≤ 16 := by omega
      clear hn
      generalize hX : chs (wdsL q k) = X at *
      have HX := Lib.hid hX
      clear hX
      generalize wdOf q k = N at *
      subst hl
      go_wp2_with (at_builtin; go_must (refine wpList_app _ rfl _ _ 34 5 _ _ S34 rfl w.heap.size (.slice ad X.length c) X [.int .u8 ((N : Int) % 256), .int .u8 ((N : Int) / 256 % 256), .int .u8 ((N : Int) / 65536 % 256), .int .u8 ((N : Int) / 16777216)] rfl 4 4 rfl rfl (by simp [Value.oneCell']) HO.out (by unfold maxLen; omega) (by omega) hz (fun a' c' w3 h1 h2 _ h4 => ?_)))
      have HO2 : Hid (w3.ownsRow w.heap.size 5 1 (.slice a' (X.length + 4) c') (X.length + 4) (X ++ [.int .u8 ((N : Int) % 256), .int .u8 ((N : Int) / 256 % 256), .int .u8 ((N : Int) / 65536 % 256), .int .u8 ((N : Int) / 16777216)])) := h1
      have HB2 : Hid (Below w.heap.size w w3) := HB.out.trans h4
      have hz3 : w.heap.size ≤ w3.heap.size := HB2.out.size
      clear h1 h2 h4
      go_roundw
      case rel =>
        refine ⟨k + 1, a', X.length + 4, c', by omega, by have := HN.out; omega, by go_num, rfl, ?_, HB2, hz3⟩
        rw [HS.out, chs_append, ← HL.out, HX.out]
        exact HO2
      case measure => simp [intOf]; omega
    · have e : k = 4 := by omega
      have hst : (convert 34 9 (.slice ad n c)).run Try.prog wr = .ok (.string (mkS (textSt q))) wr := by
        have h := HO.out
        rw [e, wdsL_all] at h
        exact run_strG wr 34 9 5 Try.underlying34 Try.underlying9 Try.underlying5 w.heap.size _ n _ (OwnG.of_own h (by
          intro h2
          have : n = 0 := by injection h2
          omega))
      clear HO hn e
      go_wp2
      go_ret
      exact ⟨rfl, HB.out⟩

theorem len_any (b : Nat) (t : List UInt8) (w : World) (h : Hs w b t) : Calls Try.prog 16 #[.pointer (some ⟨b, 0, none⟩)] w fun e w' => e = .returned (.int .i64 (t.length : Int)) ∧ w = w' := by
  obtain ⟨h6, hlt⟩ := h
  obtain ⟨⟨c0, c1, c2, c3, c4, c5⟩, f0, f1, f2, f3, f4, f5⟩ := h6.six
  clear h6 c0 c1 c2 c3 c4
  go_enter Try.func16, Try.ntmps16
  go_wp2
  go_ret
  exact ⟨rfl, rfl⟩
end Go.Proofs.Yteheibgdjpkeaaa
