/- devinf.Speak: rows of forms (two texts), slices.Index, Contains, IndexFunc. No condition. -/
import Derived.Test.YtcpmgnejbfnnjaaProg
import Derived.Test.YtcpmgnejbfnnjaaKit
import Derived.BigQuiet
import Derived.Laws.StructEq
namespace Go.Proofs.Ytcpmgnejbfnnjaa
open Go.RowKit

theorem run_eq35 (a1 a2 b1 b2 : ByteArray) (w : World) : (binOp .eql 35 (.agg #[.string a1, .string a2]) (.agg #[.string b1, .string b2])).run Try.prog w = .ok (.bool (decide ((a1, a2) = (b1, b2)))) w := by
  rw [run_eql_struct, run_equalIn_struct w _ 35 _ _ (by kernel_rfl) (by kernel_rfl)]
  have e : ∀ a b : ByteArray, a.toList = b.toList ↔ a = b := fun a b => by
    rw [ByteArray.toList_eq, ByteArray.toList_eq]
    exact ⟨fun h => ByteArray.ext (Array.toList_inj.1 h), fun h => by rw [h]⟩
  simp [go_sem, e, Prod.mk.injEq]
  by_cases h1 : a1 = b1
  · by_cases h2 : a2 = b2
    · simp [h1, h2]
    · simp [h1, h2]
  · simp [h1]

abbrev Fm := ByteArray × ByteArray
/-- n elements of two texts -/
def Row2 (w : World) (ad : Option Addr) (n : Nat) (F : Nat → Fm) : Prop :=
  ∀ i, i < n → ∃ (b o : Nat), ad = some ⟨b, o, none⟩ ∧ b < w.heap.size ∧ w.cell? ⟨b, o + i * 2, none⟩ = some (.string (F i).1) ∧ w.cell? ⟨b, o + i * 2 + 1, none⟩ = some (.string (F i).2)
theorem Row2.below {w w' : World} {ad : Option Addr} {n : Nat} {F : Nat → Fm} (h : Row2 w ad n F) (hb : Below w.heap.size w w') : Row2 w' ad n F := fun i hi => by
  obtain ⟨b, o, rfl, hl, h0, h1⟩ := h i hi
  have := hb.size
  exact ⟨b, o, rfl, by omega, (hb.cell (p := ⟨b, _, none⟩) hl).trans h0, (hb.cell (p := ⟨b, _, none⟩) hl).trans h1⟩

theorem below_drewN (B : Nat) (w : World) (n : Nat) : Below B w (w.drewN n) := ⟨rfl, rfl, rfl, Nat.le_refl _, fun _ _ => rfl⟩
/-- the first of F's n that P holds of, or -1 -/
def First (n : Nat) (P : Nat → Prop) (r : Int) : Prop := (r = -1 ∧ ∀ j, j < n → ¬ P j) ∨ ∃ k : Nat, k < n ∧ r = (k : Int) ∧ P k ∧ ∀ j, j < k → ¬ P j

set_option maxHeartbeats 1000000 in
theorem fIndex_any (ad : Option Addr) (n c : Nat) (F : Nat → Fm) (p : Fm) (w : World) (hF : Row2 w ad n F) (hn : n ≤ maxLen) :
    Calls Try.prog 44 #[.slice ad n c, .agg #[.string p.1, .string p.2]] w fun e w' => (∃ r, e = .returned (.int .i64 r) ∧ First n (fun j => F j = p) r) ∧ Below w.heap.size w w' := by
  have HF := Lib.hid hF
  clear hF
  simp only [maxLen] at hn
  obtain ⟨p1, p2⟩ := p
  show Calls Try.prog 44 #[.slice ad n c, .agg #[.string p1, .string p2]] w _
  go_enter Try.func44, Try.ntmps44
  go_wp2
  go_loopw [5, 8] (fun _ i wr => ∃ k : Nat, k ≤ n ∧ i = .int .i64 (k : Int) ∧ Below w.heap.size w wr ∧ wr.heap[w.heap.size]? = some (.cells #[.string p1, .string p2] 35) ∧ Hid (∀ j, j < k → ¬ F j = (p1, p2))) (fun _ i _ => n - (intOf i).toNat)
  case atStart => exact ⟨0, Nat.zero_le _, rfl, (Below.refl _ _).alloc (Nat.le_refl _) _, block_new w _, fun j hj => by omega⟩
  case round =>
    obtain ⟨k, hk, rfl, hb, hx, HJ⟩ := hrel
    by_cases hlt : k < n
    · obtain ⟨b, o, rfl, hl, h0, h1⟩ := (HF.out.below hb) k hlt
      obtain ⟨⟨f1, f2⟩, hf⟩ : ∃ f, F k = f := ⟨_, rfl⟩
      rw [hf] at h0 h1
      have x0 : wr.cell? ⟨w.heap.size, 0, none⟩ = some (.string p1) := by unfold World.cell?; rw [hx]; rfl
      have x1 : wr.cell? ⟨w.heap.size, 1, none⟩ = some (.string p2) := by unfold World.cell?; rw [hx]; rfl
      have HB := Lib.hid hb
      have HX := Lib.hid hx
      have HFk := Lib.hid hf
      clear hb hx hf
      by_cases he : (f1, f2) = (p1, p2)
      · have heq : ∀ w, (binOp .eql 35 (.agg #[.string p1, .string p2]) (.agg #[.string f1, .string f2])).run Try.prog w = .ok (.bool true) w := fun w => by rw [run_eq35, decide_eq_true he.symm]
        have HE := Lib.hid he
        clear he
        go_wp2
        go_quiet (fail)
        go_wp2
        go_ret
        exact ⟨⟨_, rfl, .inr ⟨k, hlt, rfl, HFk.out.trans HE.out, HJ.out⟩⟩, HB.out.trans (below_drewN _ _ nq)⟩
      · have heq : ∀ w, (binOp .eql 35 (.agg #[.string p1, .string p2]) (.agg #[.string f1, .string f2])).run Try.prog w = .ok (.bool false) w := fun w => by rw [run_eq35, decide_eq_false (fun h => he h.symm)]
        have HE := Lib.hid he
        clear he
        go_wp2
        go_quiet (fail)
        go_wp2
        go_roundw
        case rel => exact ⟨k + 1, by omega, by go_num, HB.out.trans (below_drewN _ _ nq), HX.out, fun j hj => if h : j = k then by subst h; rw [HFk.out]; exact HE.out else HJ.out j (by omega)⟩
        case measure => simp [intOf]; omega
    · obtain rfl : k = n := by omega
      have HB := Lib.hid hb
      clear hb hx
      go_wp2
      go_ret
      exact ⟨⟨_, rfl, .inl ⟨rfl, HJ.out⟩⟩, HB.out⟩
end Go.Proofs.Ytcpmgnejbfnnjaa
