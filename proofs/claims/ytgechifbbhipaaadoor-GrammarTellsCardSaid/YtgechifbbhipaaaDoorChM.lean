/- charset: the reference's Letters; Valid. No condition but sizes and the tables. -/
import Derived.Test.YtgechifbbhipaaaDoorChL
set_option linter.unusedVariables false
set_option linter.unusedSimpArgs false
namespace Go.Proofs.YtgechifbbhipaaaDoor
open Go.RowKit

def rv (l : List Nat) : List Value := l.map fun x : Nat => .int .i32 (x : Int)
def szOf : Value → Nat | .string r => r.size | _ => 0
theorem S22 : Sl1 Tryd.prog 182 21 (.int .i32 0) 4 := ⟨Tryd.underlying182, by kernel_rfl, rfl⟩

theorem valid_any (s : ByteArray) (hs : s.size ≤ 1000000) (w : World) (hT : Lib.Utf8Tabs 2 3 w) :
    Calls Tryd.prog 204 #[.string s] w fun e w' => e = .returned (.bool (ltS s).2) ∧ Below w.heap.size w w' := by
  have cV := Lib.hid (Tryd.utf8_ValidString s w (by omega) hT)
  rw [valid_eq] at cV
  generalize (ltS s).2 = q at *
  go_enter Tryd.func204, Tryd.ntmps204
  go_wp2_with (go_at_call 212; refine cV.out.mono ?_; rintro e w1 ⟨rfl, hb1⟩)
  go_ret
  exact ⟨rfl, hb1⟩

def LetP (s : ByteArray) (w : World) (e : Ending) (w' : World) : Prop :=
  ∃ a c, e = .returned (.tuple #[.slice a (ltS s).1.length c, .bool (ltS s).2]) ∧ w'.ownsRow w.heap.size 21 1 (.slice a (ltS s).1.length c) (ltS s).1.length (rv (ltS s).1) ∧ Below w.heap.size w w'

set_option maxRecDepth 100000 in
set_option maxHeartbeats 4000000 in
theorem refLetters_any (s : ByteArray) (hs : s.size ≤ 1000000) (w : World) : Calls Tryd.prog 183 #[.string s] w (LetP s w) := by
  have HLe := Lib.hid (ltS_len s)
  obtain ⟨LS, hLS⟩ : ∃ LS, ltS s = LS := ⟨_, rfl⟩
  unfold LetP
  rw [hLS] at HLe ⊢
  obtain ⟨FL, FV⟩ := LS
  have H0 : Hid (FL = [] ++ (ltS s).1 ∧ FV = (ltS s).2) := by unfold Hid; rw [hLS]; exact ⟨rfl, rfl⟩
  clear hLS
  have HLe2 : Hid (FL.length ≤ s.size) := HLe.out
  clear HLe
  go_enter Tryd.func183, Tryd.ntmps183
  go_wp2_with fail
  go_loopw [0, 4, 5, 6] (fun sv lv _ _ wr => ∃ (r : ByteArray) (pre : List Nat) (a1 : Option Addr) (c1 : Nat), sv = .string r ∧ r.size ≤ s.size ∧ lv = .slice a1 pre.length c1 ∧ Hid (FL = pre ++ (ltS r).1 ∧ FV = (ltS r).2) ∧ Hid (wr.ownsRow w.heap.size 21 1 (.slice a1 pre.length c1) pre.length (rv pre)) ∧ Hid (Below w.heap.size w wr)) (fun sv _ _ _ _ => szOf sv)
  case atStart => exact ⟨s, [], none, 0, rfl, Nat.le_refl _, rfl, H0, World.ownsRow_nil _ _ _ _, Below.refl _ _⟩
  case round =>
    obtain ⟨wo, rfl⟩ : ∃ wo : World, wo = wr := ⟨_, rfl⟩
    obtain ⟨r, pre, a1, c1, rfl, hr, rfl, HR, HO, HB⟩ := hrel
    have hpl : pre.length ≤ s.size := by
      have h1 := HLe2.out
      rw [HR.out.1, List.length_append] at h1
      omega
    have hsz := HB.out.size
    have g1 : pre.length + 1 ≤ maxLen := by simp [maxLen]; omega
    have g2 : (pre.length + 1) * 4 ≤ 140737488355328 := by omega
    by_cases hz : r.size = 0
    · have hne : r.toList.isEmpty = true := by
        rw [ByteArray.toList_eq, List.isEmpty_iff]; exact List.eq_nil_of_length_eq_zero (by rw [len_toList]; exact hz)
      have hE : Hid (FL = pre ∧ FV = true) := by
        have := HR.out
        rw [ltS_nil r hz] at this
        simpa [Hid] using this
      clear HR hz hr
      go_wp2_with fail
      go_ret2
      exact ⟨a1, c1, by rw [hE.out.1, hE.out.2]; rfl, by rw [hE.out.1]; exact HO.out, HB.out⟩
    · have hne := not_empty r hz
      have cO := Lib.hid (fun w => one_any r (by omega) w)
      have hlv := oneV_le r hz
      by_cases hb : (oneV r).2 = 0
      · have hE : Hid (FL = pre ∧ FV = false) := by
          have := HR.out
          rw [ltS_bad r hz hb] at this
          simpa [Hid] using this
        clear HR hlv
        generalize oneV r = o at *
        obtain ⟨x, n⟩ := o
        obtain rfl : n = 0 := hb
        go_wp2_with (go_at_call 206; refine (cO.out _).mono ?_; rintro e w5 ⟨rfl, rfl⟩)
        go_ret2
        exact ⟨a1, c1, by rw [hE.out.1, hE.out.2]; rfl, by rw [hE.out.1]; exact HO.out, HB.out⟩
      · have hE : Hid (FL = (pre ++ [(oneV r).1]) ++ (ltS (tl r (oneV r).2)).1 ∧ FV = (ltS (tl r (oneV r).2)).2) := by
          have := HR.out
          rw [ltS_more r hz hb] at this
          simpa [Hid] using this
        have hts := tl_size r (oneV r).2
        clear HR
        generalize oneV r = o at *
        obtain ⟨x, n⟩ := o
        simp only at hb hlv hts hE cO
        have hb' : ((n : Int) == 0) = false := by simp; omega
        have hwr : IntKind.i32.wrap ((x : Nat) : Int) = (x : Int) := by simp [IntKind.wrap, IntKind.signed, IntKind.bits]; omega
        have n0 : (0 : Int) ≤ (n : Int) := by omega
        have n1 : (n : Int) ≤ (r.size : Int) := by omega
        have HLen : Hid ((pre ++ [x]).length = pre.length + 1) := by unfold Hid; simp
        go_wp2_with (first | (go_at_call 206; refine (cO.out _).mono ?_; rintro e w5 ⟨rfl, rfl⟩) | (at_builtin; go_must (refine wpList_app1 _ _ rfl _ _ 182 21 _ _ S22 rfl w.heap.size _ _ _ rfl rfl rfl HO.out g1 g2 hsz ?_); intro a' c' w4 hown4 hgr4 _ hb4))
        have HO4 : Hid (w4.ownsRow w.heap.size 21 1 (.slice a' (pre.length + 1) c') (pre.length + 1) (rv (pre ++ [x]))) := by unfold Hid rv; rw [List.map_append]; exact hown4
        have HB4 := Lib.hid (HB.out.trans hb4)
        go_roundw
        case rel => exact ⟨tl r n, pre ++ [x], a', c', rfl, by omega, by rw [HLen.out], hE, by rw [HLen.out]; exact HO4, HB4⟩
        case measure => show (tl r n).size < r.size; omega
end Go.Proofs.YtgechifbbhipaaaDoor
