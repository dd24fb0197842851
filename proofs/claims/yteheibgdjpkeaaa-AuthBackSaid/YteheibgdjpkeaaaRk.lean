/- digest: the reference's number of a round, out of a constant text. No condition but the round's number. -/
import Derived.Test.YteheibgdjpkeaaaTake
namespace Go.Proofs.Yteheibgdjpkeaaa
open Go.RowKit

/-- the table's text -/
def tabL : List UInt8 := [100, 55, 54, 97, 97, 52, 55, 56, 32, 101, 56, 99, 55, 98, 55, 53, 54, 32, 50, 52, 50, 48, 55, 48, 100, 98, 32, 99, 49, 98, 100, 99, 101, 101, 101, 32, 102, 53, 55, 99, 48, 102, 97, 102, 32, 52, 55, 56, 55, 99, 54, 50, 97, 32, 97, 56, 51, 48, 52, 54, 49, 51, 32, 102, 100, 52, 54, 57, 53, 48, 49, 32, 54, 57, 56, 48, 57, 56, 100, 56, 32, 56, 98, 52, 52, 102, 55, 97, 102, 32, 102, 102, 102, 102, 53, 98, 98, 49, 32, 56, 57, 53, 99, 100, 55, 98, 101, 32, 54, 98, 57, 48, 49, 49, 50, 50, 32, 102, 100, 57, 56, 55, 49, 57, 51, 32, 97, 54, 55, 57, 52, 51, 56, 101, 32, 52, 57, 98, 52, 48, 56, 50, 49, 32, 102, 54, 49, 101, 50, 53, 54, 50, 32, 99, 48, 52, 48, 98, 51, 52, 48, 32, 50, 54, 53, 101, 53, 97, 53, 49, 32, 101, 57, 98, 54, 99, 55, 97, 97, 32, 100, 54, 50, 102, 49, 48, 53, 100, 32, 48, 50, 52, 52, 49, 52, 53, 51, 32, 100, 56, 97, 49, 101, 54, 56, 49, 32, 101, 55, 100, 51, 102, 98, 99, 56, 32, 50, 49, 101, 49, 99, 100, 101, 54, 32, 99, 51, 51, 55, 48, 55, 100, 54, 32, 102, 52, 100, 53, 48, 100, 56, 55, 32, 52, 53, 53, 97, 49, 52, 101, 100, 32, 97, 57, 101, 51, 101, 57, 48, 53, 32, 102, 99, 101, 102, 97, 51, 102, 56, 32, 54, 55, 54, 102, 48, 50, 100, 57, 32, 56, 100, 50, 97, 52, 99, 56, 97, 32, 102, 102, 102, 97, 51, 57, 52, 50, 32, 56, 55, 55, 49, 102, 54, 56, 49, 32, 54, 100, 57, 100, 54, 49, 50, 50, 32, 102, 100, 101, 53, 51, 56, 48, 99, 32, 97, 52, 98, 101, 101, 97, 52, 52, 32, 52, 98, 100, 101, 99, 102, 97, 57, 32, 102, 54, 98, 98, 52, 98, 54, 48, 32, 98, 101, 98, 102, 98, 99, 55, 48, 32, 50, 56, 57, 98, 55, 101, 99, 54, 32, 101, 97, 97, 49, 50, 55, 102, 97, 32, 100, 52, 101, 102, 51, 48, 56, 53, 32, 48, 52, 56, 56, 49, 100, 48, 53, 32, 100, 57, 100, 52, 100, 48, 51, 57, 32, 101, 54, 100, 98, 57, 57, 101, 53, 32, 49, 102, 97, 50, 55, 99, 102, 56, 32, 99, 52, 97, 99, 53, 54, 54, 53, 32, 102, 52, 50, 57, 50, 50, 52, 52, 32, 52, 51, 50, 97, 102, 102, 57, 55, 32, 97, 98, 57, 52, 50, 51, 97, 55, 32, 102, 99, 57, 51, 97, 48, 51, 57, 32, 54, 53, 53, 98, 53, 57, 99, 51, 32, 56, 102, 48, 99, 99, 99, 57, 50, 32, 102, 102, 101, 102, 102, 52, 55, 100, 32, 56, 53, 56, 52, 53, 100, 100, 49, 32, 54, 102, 97, 56, 55, 101, 52, 102, 32, 102, 101, 50, 99, 101, 54, 101, 48, 32, 97, 51, 48, 49, 52, 51, 49, 52, 32, 52, 101, 48, 56, 49, 49, 97, 49, 32, 102, 55, 53, 51, 55, 101, 56, 50, 32, 98, 100, 51, 97, 102, 50, 51, 53, 32, 50, 97, 100, 55, 100, 50, 98, 98, 32, 101, 98, 56, 54, 100, 51, 57, 49]

/-- an index into a constant text that is known whole. -/
theorem wpList_indexTab {P : Program} (w : World) {ops : Array Oper} {rest : List Oper} {o : Oper} {a : Act} {Q : Exit → Act → World → Prop}
    (hg : o.guard = none) (ty : TypeId) (s : ByteArray) (x : Operand) (hop : o.op = Op.index ty (.const (.string s)) x) (ht : P.underlying ty = some .string) (l : List UInt8) (hs : s.data.toList = l)
    (m : Nat) (hx : a.eval x = .int .i64 (m : Int)) (hm : m < l.length)
    (hK : wpList P ops Q rest (a.put o.dst (.int .u8 ((by8 l m : Nat) : Int))) w) : wpList P ops Q (o :: rest) a w := by
  refine wpList_plain hg fun K hK' => ?_
  have hsz : m < s.size := by rw [← hs] at hm; simpa using hm
  have hrun : (Instr.index ty (.string s) (.int .i64 (m : Int))).run P w = .ok (.int .u8 ((by8 l m : Nat) : Int)) w := by
    have h2 : (0 : Int) ≤ (m : Int) ∧ (m : Int) < s.size := ⟨by omega, by omega⟩
    rw [run_index_string w ty _ _ _ ht, dif_pos h2]
    unfold by8
    rw [← hs, bat_get s m hsz]; rfl
  unfold Oper.wp
  have hx2 : a.eval (Operand.const (.string s)) = .string s := rfl
  simp [execOp, hop, hx, hx2, hrun, Result.andThen]
  exact hK' _ _ hK

def kUp (i : Nat) : Nat → Nat
  | 0 => 0
  | j + 1 => 16 * kUp i j + halfN (by8 tabL (9 * i + j))
theorem kUp_all : ∀ i : Fin 64, ∀ j : Fin 8, kUp i.val (j.val + 1) < 4294967296 ∧ ((48 ≤ by8 tabL (9 * i.val + j.val) ∧ by8 tabL (9 * i.val + j.val) ≤ 57) ∨ (97 ≤ by8 tabL (9 * i.val + j.val) ∧ by8 tabL (9 * i.val + j.val) ≤ 102)) := by decide +kernel
theorem kUp_add : ∀ i : Fin 64, kUp i.val 8 = addT i.val := by decide +kernel
theorem tabL_len : tabL.length = 575 := by decide +kernel

theorem half_of (l : List UInt8) (j : Nat) (h : (48 ≤ by8 l j ∧ by8 l j ≤ 57) ∨ (97 ≤ by8 l j ∧ by8 l j ≤ 102)) (w : World) :
    Calls Try.prog 65 #[.int .u8 ((by8 l j : Nat) : Int)] w fun e w' => e = .returned (.int .u32 ((halfN (by8 l j) : Nat) : Int)) ∧ w = w' := half_any (l[j]?.getD 0) h w

set_option maxRecDepth 100000 in
set_option maxHeartbeats 1000000 in
theorem k_any (i : Nat) (hi : i < 64) (w : World) : Calls Try.prog 50 #[.int .i64 (i : Int)] w fun e w' => e = .returned (.int .u32 ((addT i : Nat) : Int)) ∧ w = w' := by
  have hK := Lib.hid (kUp_add ⟨i, hi⟩)
  have hi' : (i : Int) < 64 := by omega
  go_enter Try.func50, Try.ntmps50
  go_wp2
  go_loop [3, 4] (fun n j => ∃ k : Nat, k ≤ 8 ∧ j = .int .i64 k ∧ n = .int .u32 ((kUp i k : Nat) : Int)) (fun _ j => 8 - (intOf j).toNat)
  case atStart => exact ⟨0, by omega, rfl, rfl⟩
  case round =>
    obtain ⟨k, hk, rfl, rfl⟩ := hrel
    by_cases hlt : k < 8
    · obtain ⟨b1, b2⟩ := kUp_all ⟨i, hi⟩ ⟨k, hlt⟩
      simp only at b1 b2
      have hS : Hid (kUp i (k + 1) = 16 * kUp i k + halfN (by8 tabL (9 * i + k))) := rfl
      have hS2 := hS.out
      have b3 : 16 * kUp i k + halfN (by8 tabL (9 * i + k)) < 4294967296 := by omega
      clear hS2 b1
      have cH := Lib.hid (fun w => half_of tabL (9 * i + k) b2 w)
      clear b2
      generalize kUp i k = U at *
      generalize halfN (by8 tabL (9 * i + k)) = V at *
      go_wp2_with (first
        | (go_at_call 65; refine (cH.out _).mono ?_; rintro e w' ⟨rfl, rfl⟩)
        | (refine wpList_indexTab _ rfl 9 _ _ rfl Try.underlying9 tabL (by kernel_rfl) (9 * i + k) ?hx (by rw [tabL_len]; omega) ?_))
      go_round
      case rel => exact ⟨k + 1, by omega, by go_num, by rw [hS.out]; go_num⟩
      case measure => simp [intOf]; omega
    · have e : k = 8 := by omega
      have HU : Hid (kUp i k = addT i) := by rw [e]; exact hK
      clear e
      go_wp2
      go_ret
      exact ⟨ret_u32 (by rw [HU.out]), rfl⟩
end Go.Proofs.Yteheibgdjpkeaaa
