/- charset: most, the reference's; the reference's Valid and put. No condition but sizes. -/
import Derived.Test.YtcpmgnejbfnnjaaDoorChM
namespace Go.Proofs.YtcpmgnejbfnnjaaDoor
open Go.RowKit

def mostN (k : Int) : Int := if k = 1 then 127 else if k = 2 then 255 else if k = 3 then 1114111 else -1
def refMostN (k : Int) : Int := if k = 1 then 127 else if k = 2 then 255 else 1114111

theorem most_any (k : Int) (w : World) : Calls Tryd.prog 36 #[.int .i64 k] w fun e w' => e = .returned (.int .i32 (mostN k)) ∧ w = w' := by
  by_cases h1 : k = 1
  · subst h1; go_enter Tryd.func36, Tryd.ntmps36; go_wp2; go_ret; exact ⟨rfl, rfl⟩
  · by_cases h2 : k = 2
    · subst h2; go_enter Tryd.func36, Tryd.ntmps36; go_wp2; go_ret; exact ⟨rfl, rfl⟩
    · by_cases h3 : k = 3
      · subst h3; go_enter Tryd.func36, Tryd.ntmps36; go_wp2; go_ret; exact ⟨rfl, rfl⟩
      · have e1 : (k == 1) = false := by simpa using h1
        have e2 : (k == 2) = false := by simpa using h2
        have e3 : (k == 3) = false := by simpa using h3
        have hR : mostN k = -1 := by unfold mostN; rw [if_neg h1, if_neg h2, if_neg h3]
        rw [hR]
        go_enter Tryd.func36, Tryd.ntmps36; go_wp2; go_ret; exact ⟨rfl, rfl⟩
theorem refMost_any (k : Int) (w : World) : Calls Tryd.prog 40 #[.int .i64 k] w fun e w' => e = .returned (.int .i64 (refMostN k)) ∧ w = w' := by
  by_cases h1 : k = 1
  · subst h1; go_enter Tryd.func40, Tryd.ntmps40; go_wp2; go_ret; exact ⟨rfl, rfl⟩
  · by_cases h2 : k = 2
    · subst h2; go_enter Tryd.func40, Tryd.ntmps40; go_wp2; go_ret; exact ⟨rfl, rfl⟩
    · have e1 : (k == 1) = false := by simpa using h1
      have e2 : (k == 2) = false := by simpa using h2
      have hR : refMostN k = 1114111 := by unfold refMostN; rw [if_neg h1, if_neg h2]
      rw [hR]
      go_enter Tryd.func40, Tryd.ntmps40; go_wp2; go_ret; exact ⟨rfl, rfl⟩

theorem refValid_any (s : ByteArray) (hs : s.size ≤ 1000000) (w : World) : Calls Tryd.prog 39 #[.string s] w fun e w' => e = .returned (.bool (ltS s).2) ∧ Below w.heap.size w w' := by
  have cL := Lib.hid (refLetters_any s hs w)
  unfold LetP at cL
  generalize (ltS s).1 = l at *
  generalize (ltS s).2 = q at *
  go_enter Tryd.func39, Tryd.ntmps39
  go_wp2_with (go_at_call 9; refine cL.out.mono ?_; rintro e w1 ⟨a, c, rfl, _, hb1⟩)
  go_ret
  exact ⟨rfl, hb1⟩

def mkT (l : List UInt8) : ByteArray := ⟨l.toArray⟩
/-- a letter below 256 as bytes -/
def putB (x : Nat) : List UInt8 := if x < 128 then [UInt8.ofNat x] else [UInt8.ofNat (192 + x / 64), UInt8.ofNat (128 + x % 64)]
end Go.Proofs.YtcpmgnejbfnnjaaDoor
