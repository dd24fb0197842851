/- msg: a command against one with nothing but its kind; bare. No condition. -/
import Derived.Test.YtgechifbbhipaaaDoorCmI
import Derived.Test.YtgechifbbhipaaaDoorCmR
import Derived.BigGuardPart
set_option linter.unusedVariables false
set_option linter.unusedSimpArgs false
namespace Go.Proofs.YtgechifbbhipaaaDoor
open Go.RowKit

theorem eqI_any (a : Option Addr) (n c : Nat) (w : World) : Calls Tryd.prog 116 #[.slice a n c, .slice none 0 0] w fun r w' => r = .returned (.bool ((n : Int) == 0)) ∧ w' = w := by
  by_cases h : n = 0
  · subst h
    go_enter Tryd.func116, Tryd.ntmps116
    go_wp2_with fail
    go_loopw [5, 13] (fun _ iv wr => iv = .int .i64 0 ∧ w = wr) (fun _ _ _ => 0)
    case atStart => exact ⟨rfl, rfl⟩
    case round =>
      obtain ⟨rfl, rfl⟩ := hrel
      go_wp2_with fail
      go_ret
      exact ⟨rfl, rfl⟩
  · have h1 : ((n : Int) == 0) = false := by rw [beq_eq_false_iff_ne]; omega
    have h2 : ((n : Int) != 0) = true := by rw [bne_iff_ne]; omega
    rw [h1]
    go_enter Tryd.func116, Tryd.ntmps116
    go_wp2_with fail
    go_ret
    exact ⟨rfl, rfl⟩
theorem eqK_any (a : Option Addr) (n c : Nat) (w : World) : Calls Tryd.prog 117 #[.slice a n c, .slice none 0 0, .func (.func 43) #[] #[]] w fun r w' => r = .returned (.bool ((n : Int) == 0)) ∧ w' = w := by
  by_cases h : n = 0
  · subst h
    go_enter Tryd.func117, Tryd.ntmps117
    go_wp2_with fail
    go_loopw [7, 8, 9, 17] (fun _ _ _ iv wr => iv = .int .i64 0 ∧ w = wr) (fun _ _ _ _ _ => 0)
    case atStart => exact ⟨rfl, rfl⟩
    case round =>
      obtain ⟨rfl, rfl⟩ := hrel
      go_wp2_with fail
      go_ret
      exact ⟨rfl, rfl⟩
  · have h1 : ((n : Int) == 0) = false := by rw [beq_eq_false_iff_ne]; omega
    have h2 : ((n : Int) != 0) = true := by rw [bne_iff_ne]; omega
    rw [h1]
    go_enter Tryd.func117, Tryd.ntmps117
    go_wp2_with fail
    go_ret
    exact ⟨rfl, rfl⟩
def Two (w : World) (c1 c2 : Array Value) (W : World) : Prop := W.heap[w.heap.size]? = some (.cells c1 27 (0, 0)) ∧ W.heap[w.heap.size + 1]? = some (.cells c2 27 (0, 0)) ∧ Below w.heap.size w W
theorem Two.start (w : World) (c1 c2 : Array Value) : Two w c1 c2 ((w.alloc (.cells c1 27)).alloc (.cells c2 27)) := ⟨two_old _ _ _, two_new _ _ _, two_bel _ _ _⟩
/-- nothing in it -/
def zB (mr cr : Int) (fr : ByteArray) (co : Int) (ta so : ByteArray) (fo ty : ByteArray) (sz ve : Int) (la ne no : ByteArray) (mm mo : Int) (li lk : Nat) : Bool := (mr == 0) && ((cr == 0) && (fr.toList.isEmpty && ((co == 0) && (ta.toList.isEmpty && (so.toList.isEmpty && (emptyMV ⟨fo, ty, sz, ve, la, ne, no, mm, mo⟩ && (((li : Int) == 0) && ((lk : Int) == 0))))))))
set_option maxRecDepth 100000 in
set_option maxHeartbeats 8000000 in
theorem sameZ_aux (C1 C2 : Array Value) (kd : Int) (mr cr : Int) (fr : ByteArray) (co : Int) (ta so : ByteArray) (fo ty : ByteArray) (sz ve : Int) (la ne no : ByteArray) (mm mo : Int) (ai : Option Addr) (li ci : Nat) (ak : Option Addr) (lk ck : Nat) (w : World) (hc1 : ∀ (i : Nat) (v : Value), (#[.int .i64 kd, .int .i64 0, .int .i64 mr, .int .i64 cr, .string fr, .int .i64 co, .string ta, .string so, .string fo, .string ty, .int .i64 sz, .int .i64 ve, .string la, .string ne, .string no, .int .i64 mm, .int .i64 mo, .slice ai li ci, .slice ak lk ck] : Array Value)[i]? = some v → C1[i]? = some v) (hc2 : ∀ (i : Nat) (v : Value), (#[.int .i64 kd, .int .i64 0, .int .i64 0, .int .i64 0, .string ⟨#[]⟩, .int .i64 0, .string ⟨#[]⟩, .string ⟨#[]⟩, .string ⟨#[]⟩, .string ⟨#[]⟩, .int .i64 0, .int .i64 0, .string ⟨#[]⟩, .string ⟨#[]⟩, .string ⟨#[]⟩, .int .i64 0, .int .i64 0, .slice none 0 0, .slice none 0 0] : Array Value)[i]? = some v → C2[i]? = some v) : Calls Tryd.prog 43 #[.agg C1, .agg C2] w fun r w' => r = .returned (.bool (zB mr cr fr co ta so fo ty sz ve la ne no mm mo li lk)) ∧ Below w.heap.size w w' := by
  have cI := Lib.hid (fun X => eqI_any ai li ci X)
  have cK := Lib.hid (fun X => eqK_any ak lk ck X)
  have hE : zB mr cr fr co ta so fo ty sz ve la ne no mm mo li lk = ((mr == 0) && ((cr == 0) && (fr.toList.isEmpty && ((co == 0) && (ta.toList.isEmpty && (so.toList.isEmpty && (emptyMV ⟨fo, ty, sz, ve, la, ne, no, mm, mo⟩ && (((li : Int) == 0) && (((lk : Int) == 0)))))))))) := rfl
  have heq := fun w => run_eq23 fo ⟨#[]⟩ ty ⟨#[]⟩ sz 0 ve 0 la ⟨#[]⟩ ne ⟨#[]⟩ no ⟨#[]⟩ mm 0 mo 0 w
  have hM : emptyMV ⟨fo, ty, sz, ve, la, ne, no, mm, mo⟩ = decide (fo = ⟨#[]⟩ ∧ ty = ⟨#[]⟩ ∧ sz = 0 ∧ ve = 0 ∧ la = ⟨#[]⟩ ∧ ne = ⟨#[]⟩ ∧ no = ⟨#[]⟩ ∧ mm = 0 ∧ mo = 0) := rfl
  rw [← hM] at heq
  clear hM
  generalize emptyMV ⟨fo, ty, sz, ve, la, ne, no, mm, mo⟩ = em at *
  have HC1 := Lib.hid hc1
  have HC2 := Lib.hid hc2
  have HW2 := Lib.hid (fun W (h : W = (w.alloc (.cells C1 27)).alloc (.cells C2 27)) => show Two w C1 C2 W from h ▸ Two.start w _ _)
  clear hc1 hc2
  go_enter Tryd.func43, Tryd.ntmps43
  go_upto_region 1 with fail
  have hW2 := HW2.out _ rfl
  generalize (w.alloc (.cells C1 27)).alloc (.cells C2 27) = W at *
  have y0 := cell_block hW2.1 0 _ (HC1.out 0 _ rfl); have y1 := cell_block hW2.1 1 _ (HC1.out 1 _ rfl); have y2 := cell_block hW2.1 2 _ (HC1.out 2 _ rfl); have y3 := cell_block hW2.1 3 _ (HC1.out 3 _ rfl); have y4 := cell_block hW2.1 4 _ (HC1.out 4 _ rfl); have y5 := cell_block hW2.1 5 _ (HC1.out 5 _ rfl); have y6 := cell_block hW2.1 6 _ (HC1.out 6 _ rfl); have y7 := cell_block hW2.1 7 _ (HC1.out 7 _ rfl); have y8 := cell_block hW2.1 8 _ (HC1.out 8 _ rfl); have y9 := cell_block hW2.1 9 _ (HC1.out 9 _ rfl); have y10 := cell_block hW2.1 10 _ (HC1.out 10 _ rfl); have y11 := cell_block hW2.1 11 _ (HC1.out 11 _ rfl); have y12 := cell_block hW2.1 12 _ (HC1.out 12 _ rfl); have y13 := cell_block hW2.1 13 _ (HC1.out 13 _ rfl); have y14 := cell_block hW2.1 14 _ (HC1.out 14 _ rfl); have y15 := cell_block hW2.1 15 _ (HC1.out 15 _ rfl); have y16 := cell_block hW2.1 16 _ (HC1.out 16 _ rfl); have y17 := cell_block hW2.1 17 _ (HC1.out 17 _ rfl); have y18 := cell_block hW2.1 18 _ (HC1.out 18 _ rfl)
  have z0 := cell_block hW2.2.1 0 _ (HC2.out 0 _ rfl); have z1 := cell_block hW2.2.1 1 _ (HC2.out 1 _ rfl); have z2 := cell_block hW2.2.1 2 _ (HC2.out 2 _ rfl); have z3 := cell_block hW2.2.1 3 _ (HC2.out 3 _ rfl); have z4 := cell_block hW2.2.1 4 _ (HC2.out 4 _ rfl); have z5 := cell_block hW2.2.1 5 _ (HC2.out 5 _ rfl); have z6 := cell_block hW2.2.1 6 _ (HC2.out 6 _ rfl); have z7 := cell_block hW2.2.1 7 _ (HC2.out 7 _ rfl); have z8 := cell_block hW2.2.1 8 _ (HC2.out 8 _ rfl); have z9 := cell_block hW2.2.1 9 _ (HC2.out 9 _ rfl); have z10 := cell_block hW2.2.1 10 _ (HC2.out 10 _ rfl); have z11 := cell_block hW2.2.1 11 _ (HC2.out 11 _ rfl); have z12 := cell_block hW2.2.1 12 _ (HC2.out 12 _ rfl); have z13 := cell_block hW2.2.1 13 _ (HC2.out 13 _ rfl); have z14 := cell_block hW2.2.1 14 _ (HC2.out 14 _ rfl); have z15 := cell_block hW2.2.1 15 _ (HC2.out 15 _ rfl); have z16 := cell_block hW2.2.1 16 _ (HC2.out 16 _ rfl); have z17 := cell_block hW2.2.1 17 _ (HC2.out 17 _ rfl); have z18 := cell_block hW2.2.1 18 _ (HC2.out 18 _ rfl)
  have HB := Lib.hid hW2.2.2
  have HE := Lib.hid hE
  clear hW2 HW2 HC1 HC2 hE
  go_wp2_with (first | (go_at_call 116; (with_reducible refine (cI.out _).mono ?_); rintro r X ⟨rfl, rfl⟩) | (go_at_call 117; (with_reducible refine (cK.out _).mono ?_); rintro r X ⟨rfl, rfl⟩))
  all_goals clear y0 z0 y1 z1 y2 z2 y3 z3 y4 z4 y5 z5 y6 z6 y7 z7 y8 z8 y9 z9 y10 z10 y11 z11 y12 z12 y13 z13 y14 z14 y15 z15 y16 z16 y17 z17 y18 z18 heq cI cK
  all_goals (go_ret; refine ⟨?_, HB.out⟩; change Ending.returned (Value.bool _) = _; rw [HE.out]; simp [*])
theorem sameZ_any (kd : Int) (mr cr : Int) (fr : ByteArray) (co : Int) (ta so : ByteArray) (fo ty : ByteArray) (sz ve : Int) (la ne no : ByteArray) (mm mo : Int) (ai : Option Addr) (li ci : Nat) (ak : Option Addr) (lk ck : Nat) (w : World) : Calls Tryd.prog 43 #[.agg #[.int .i64 kd, .int .i64 0, .int .i64 mr, .int .i64 cr, .string fr, .int .i64 co, .string ta, .string so, .string fo, .string ty, .int .i64 sz, .int .i64 ve, .string la, .string ne, .string no, .int .i64 mm, .int .i64 mo, .slice ai li ci, .slice ak lk ck], .agg #[.int .i64 kd, .int .i64 0, .int .i64 0, .int .i64 0, .string ⟨#[]⟩, .int .i64 0, .string ⟨#[]⟩, .string ⟨#[]⟩, .string ⟨#[]⟩, .string ⟨#[]⟩, .int .i64 0, .int .i64 0, .string ⟨#[]⟩, .string ⟨#[]⟩, .string ⟨#[]⟩, .int .i64 0, .int .i64 0, .slice none 0 0, .slice none 0 0]] w fun r w' => r = .returned (.bool (zB mr cr fr co ta so fo ty sz ve la ne no mm mo li lk)) ∧ Below w.heap.size w w' :=
  sameZ_aux _ _ kd mr cr fr co ta so fo ty sz ve la ne no mm mo ai li ci ak lk ck w (fun _ _ h => h) (fun _ _ h => h)
end Go.Proofs.YtgechifbbhipaaaDoor
