/- msg: bare, the reference. No condition. -/
import Derived.Test.YtgechifbbhipaaaDoorCmK
import Derived.BigGuardPart
set_option linter.unusedVariables false
set_option linter.unusedSimpArgs false
namespace Go.Proofs.YtgechifbbhipaaaDoor
open Go.RowKit

/-- nothing but what is told -/
def bareB (b1 b2 b3 b4 b5 b6 b7 : Bool) (mr cr : Int) (fr : ByteArray) (co : Int) (ta so : ByteArray) (fo ty : ByteArray) (sz ve : Int) (la ne no : ByteArray) (mm mo : Int) (li lk : Nat) : Bool := (b1 || ((mr == 0) && (cr == 0))) && ((b2 || fr.toList.isEmpty) && ((b3 || (co == 0)) && ((b4 || (ta.toList.isEmpty && so.toList.isEmpty)) && ((b5 || emptyMV ⟨fo, ty, sz, ve, la, ne, no, mm, mo⟩) && ((b6 || ((li : Int) == 0)) && (b7 || ((lk : Int) == 0)))))))
attribute [local irreducible] wpList in
set_option maxRecDepth 100000 in
set_option maxHeartbeats 8000000 in
theorem bare1_aux (C1 : Array Value) (id : Int) (mr cr : Int) (fr : ByteArray) (co : Int) (ta so : ByteArray) (fo ty : ByteArray) (sz ve : Int) (la ne no : ByteArray) (mm mo : Int) (ai : Option Addr) (li ci : Nat) (ak : Option Addr) (lk ck : Nat) (w : World) (hc1 : ∀ (i : Nat) (v : Value), (#[.int .i64 1, .int .i64 id, .int .i64 mr, .int .i64 cr, .string fr, .int .i64 co, .string ta, .string so, .string fo, .string ty, .int .i64 sz, .int .i64 ve, .string la, .string ne, .string no, .int .i64 mm, .int .i64 mo, .slice ai li ci, .slice ak lk ck] : Array Value)[i]? = some v → C1[i]? = some v) : Calls Tryd.prog 55 #[.agg C1, .bool false, .bool false, .bool true, .bool false, .bool false, .bool true] w fun r w' => r = .returned (.bool (bareB false false true false false true false mr cr fr co ta so fo ty sz ve la ne no mm mo li lk)) ∧ Below w.heap.size w w' := by
  have hE : bareB false false true false false true false mr cr fr co ta so fo ty sz ve la ne no mm mo li lk = bareB false false true false false true false mr cr fr co ta so fo ty sz ve la ne no mm mo li lk := rfl
  have cE := Lib.hid (fun X => refEmptyV_any fo ty sz ve la ne no mm mo X)
  conv at hE => rhs; unfold bareB
  have HE := Lib.hid hE
  clear hE
  generalize emptyMV ⟨fo, ty, sz, ve, la, ne, no, mm, mo⟩ = em at *
  have HC1 := Lib.hid hc1
  have HW := Lib.hid (Sb.start w C1 27)
  clear hc1
  go_enter Tryd.func55, Tryd.ntmps55
  go_upto_region 1 with fail
  dsimp only [List.append]
  have hW := HW.out
  generalize w.alloc (.cells C1 27) = W at *
  have y0 := cell_block hW.blk 0 _ (HC1.out 0 _ rfl); have y2 := cell_block hW.blk 2 _ (HC1.out 2 _ rfl); have y3 := cell_block hW.blk 3 _ (HC1.out 3 _ rfl); have y4 := cell_block hW.blk 4 _ (HC1.out 4 _ rfl); have y6 := cell_block hW.blk 6 _ (HC1.out 6 _ rfl); have y7 := cell_block hW.blk 7 _ (HC1.out 7 _ rfl); have y8 := cell_block hW.blk 8 _ (HC1.out 8 _ rfl); have y9 := cell_block hW.blk 9 _ (HC1.out 9 _ rfl); have y10 := cell_block hW.blk 10 _ (HC1.out 10 _ rfl); have y11 := cell_block hW.blk 11 _ (HC1.out 11 _ rfl); have y12 := cell_block hW.blk 12 _ (HC1.out 12 _ rfl); have y13 := cell_block hW.blk 13 _ (HC1.out 13 _ rfl); have y14 := cell_block hW.blk 14 _ (HC1.out 14 _ rfl); have y15 := cell_block hW.blk 15 _ (HC1.out 15 _ rfl); have y16 := cell_block hW.blk 16 _ (HC1.out 16 _ rfl); have y18 := cell_block hW.blk 18 _ (HC1.out 18 _ rfl)
  have HB := Lib.hid hW
  clear hW HW
  go_wp2_with (go_at_call 59; (with_reducible refine (cE.out _).mono ?_); rintro r X ⟨rfl, hb⟩; have HB := Lib.hid (HB.out.below hb); have HX := Lib.hid HB.out.bel; have y0 := cell_block HB.out.blk 0 _ (HC1.out 0 _ rfl); have y9 := cell_block HB.out.blk 9 _ (HC1.out 9 _ rfl); have y10 := cell_block HB.out.blk 10 _ (HC1.out 10 _ rfl); have y11 := cell_block HB.out.blk 11 _ (HC1.out 11 _ rfl); have y12 := cell_block HB.out.blk 12 _ (HC1.out 12 _ rfl); have y13 := cell_block HB.out.blk 13 _ (HC1.out 13 _ rfl); have y14 := cell_block HB.out.blk 14 _ (HC1.out 14 _ rfl); have y15 := cell_block HB.out.blk 15 _ (HC1.out 15 _ rfl); have y16 := cell_block HB.out.blk 16 _ (HC1.out 16 _ rfl); have y18 := cell_block HB.out.blk 18 _ (HC1.out 18 _ rfl))
  all_goals clear y0 y2 y3 y4 y6 y7 y8 y9 y10 y11 y12 y13 y14 y15 y16 y18 cE HC1
  all_goals (go_ret; refine ⟨?_, (by first | exact HB.out.bel | exact HX.out)⟩; change Ending.returned (Value.bool _) = _; rw [HE.out]; (simp [*] <;> omega))
theorem bare1_any (id : Int) (mr cr : Int) (fr : ByteArray) (co : Int) (ta so : ByteArray) (fo ty : ByteArray) (sz ve : Int) (la ne no : ByteArray) (mm mo : Int) (ai : Option Addr) (li ci : Nat) (ak : Option Addr) (lk ck : Nat) (w : World) : Calls Tryd.prog 55 #[.agg #[.int .i64 1, .int .i64 id, .int .i64 mr, .int .i64 cr, .string fr, .int .i64 co, .string ta, .string so, .string fo, .string ty, .int .i64 sz, .int .i64 ve, .string la, .string ne, .string no, .int .i64 mm, .int .i64 mo, .slice ai li ci, .slice ak lk ck], .bool false, .bool false, .bool true, .bool false, .bool false, .bool true] w fun r w' => r = .returned (.bool (bareB false false true false false true false mr cr fr co ta so fo ty sz ve la ne no mm mo li lk)) ∧ Below w.heap.size w w' :=
  bare1_aux _ id mr cr fr co ta so fo ty sz ve la ne no mm mo ai li ci ak lk ck w (fun _ _ h => h)
attribute [local irreducible] wpList in
set_option maxRecDepth 100000 in
set_option maxHeartbeats 8000000 in
theorem bare2_aux (C1 : Array Value) (id : Int) (mr cr : Int) (fr : ByteArray) (co : Int) (ta so : ByteArray) (fo ty : ByteArray) (sz ve : Int) (la ne no : ByteArray) (mm mo : Int) (ai : Option Addr) (li ci : Nat) (ak : Option Addr) (lk ck : Nat) (w : World) (hc1 : ∀ (i : Nat) (v : Value), (#[.int .i64 2, .int .i64 id, .int .i64 mr, .int .i64 cr, .string fr, .int .i64 co, .string ta, .string so, .string fo, .string ty, .int .i64 sz, .int .i64 ve, .string la, .string ne, .string no, .int .i64 mm, .int .i64 mo, .slice ai li ci, .slice ak lk ck] : Array Value)[i]? = some v → C1[i]? = some v) : Calls Tryd.prog 55 #[.agg C1, .bool false, .bool false, .bool true, .bool true, .bool false, .bool false] w fun r w' => r = .returned (.bool (bareB false false true true false false true mr cr fr co ta so fo ty sz ve la ne no mm mo li lk)) ∧ Below w.heap.size w w' := by
  have hE : bareB false false true true false false true mr cr fr co ta so fo ty sz ve la ne no mm mo li lk = bareB false false true true false false true mr cr fr co ta so fo ty sz ve la ne no mm mo li lk := rfl
  have cE := Lib.hid (fun X => refEmptyV_any fo ty sz ve la ne no mm mo X)
  conv at hE => rhs; unfold bareB
  have HE := Lib.hid hE
  clear hE
  generalize emptyMV ⟨fo, ty, sz, ve, la, ne, no, mm, mo⟩ = em at *
  have HC1 := Lib.hid hc1
  have HW := Lib.hid (Sb.start w C1 27)
  clear hc1
  go_enter Tryd.func55, Tryd.ntmps55
  go_upto_region 1 with fail
  dsimp only [List.append]
  have hW := HW.out
  generalize w.alloc (.cells C1 27) = W at *
  have y0 := cell_block hW.blk 0 _ (HC1.out 0 _ rfl); have y2 := cell_block hW.blk 2 _ (HC1.out 2 _ rfl); have y3 := cell_block hW.blk 3 _ (HC1.out 3 _ rfl); have y4 := cell_block hW.blk 4 _ (HC1.out 4 _ rfl); have y8 := cell_block hW.blk 8 _ (HC1.out 8 _ rfl); have y9 := cell_block hW.blk 9 _ (HC1.out 9 _ rfl); have y10 := cell_block hW.blk 10 _ (HC1.out 10 _ rfl); have y11 := cell_block hW.blk 11 _ (HC1.out 11 _ rfl); have y12 := cell_block hW.blk 12 _ (HC1.out 12 _ rfl); have y13 := cell_block hW.blk 13 _ (HC1.out 13 _ rfl); have y14 := cell_block hW.blk 14 _ (HC1.out 14 _ rfl); have y15 := cell_block hW.blk 15 _ (HC1.out 15 _ rfl); have y16 := cell_block hW.blk 16 _ (HC1.out 16 _ rfl); have y17 := cell_block hW.blk 17 _ (HC1.out 17 _ rfl)
  have HB := Lib.hid hW
  clear hW HW
  go_wp2_with (go_at_call 59; (with_reducible refine (cE.out _).mono ?_); rintro r X ⟨rfl, hb⟩; have HB := Lib.hid (HB.out.below hb); have HX := Lib.hid HB.out.bel; have y0 := cell_block HB.out.blk 0 _ (HC1.out 0 _ rfl); have y9 := cell_block HB.out.blk 9 _ (HC1.out 9 _ rfl); have y10 := cell_block HB.out.blk 10 _ (HC1.out 10 _ rfl); have y11 := cell_block HB.out.blk 11 _ (HC1.out 11 _ rfl); have y12 := cell_block HB.out.blk 12 _ (HC1.out 12 _ rfl); have y13 := cell_block HB.out.blk 13 _ (HC1.out 13 _ rfl); have y14 := cell_block HB.out.blk 14 _ (HC1.out 14 _ rfl); have y15 := cell_block HB.out.blk 15 _ (HC1.out 15 _ rfl); have y16 := cell_block HB.out.blk 16 _ (HC1.out 16 _ rfl); have y17 := cell_block HB.out.blk 17 _ (HC1.out 17 _ rfl))
  all_goals clear y0 y2 y3 y4 y8 y9 y10 y11 y12 y13 y14 y15 y16 y17 cE HC1
  all_goals (go_ret; refine ⟨?_, (by first | exact HB.out.bel | exact HX.out)⟩; change Ending.returned (Value.bool _) = _; rw [HE.out]; (simp [*] <;> omega))
theorem bare2_any (id : Int) (mr cr : Int) (fr : ByteArray) (co : Int) (ta so : ByteArray) (fo ty : ByteArray) (sz ve : Int) (la ne no : ByteArray) (mm mo : Int) (ai : Option Addr) (li ci : Nat) (ak : Option Addr) (lk ck : Nat) (w : World) : Calls Tryd.prog 55 #[.agg #[.int .i64 2, .int .i64 id, .int .i64 mr, .int .i64 cr, .string fr, .int .i64 co, .string ta, .string so, .string fo, .string ty, .int .i64 sz, .int .i64 ve, .string la, .string ne, .string no, .int .i64 mm, .int .i64 mo, .slice ai li ci, .slice ak lk ck], .bool false, .bool false, .bool true, .bool true, .bool false, .bool false] w fun r w' => r = .returned (.bool (bareB false false true true false false true mr cr fr co ta so fo ty sz ve la ne no mm mo li lk)) ∧ Below w.heap.size w w' :=
  bare2_aux _ id mr cr fr co ta so fo ty sz ve la ne no mm mo ai li ci ak lk ck w (fun _ _ h => h)
attribute [local irreducible] wpList in
set_option maxRecDepth 100000 in
set_option maxHeartbeats 8000000 in
theorem bare6_aux (C1 : Array Value) (id : Int) (mr cr : Int) (fr : ByteArray) (co : Int) (ta so : ByteArray) (fo ty : ByteArray) (sz ve : Int) (la ne no : ByteArray) (mm mo : Int) (ai : Option Addr) (li ci : Nat) (ak : Option Addr) (lk ck : Nat) (w : World) (hc1 : ∀ (i : Nat) (v : Value), (#[.int .i64 6, .int .i64 id, .int .i64 mr, .int .i64 cr, .string fr, .int .i64 co, .string ta, .string so, .string fo, .string ty, .int .i64 sz, .int .i64 ve, .string la, .string ne, .string no, .int .i64 mm, .int .i64 mo, .slice ai li ci, .slice ak lk ck] : Array Value)[i]? = some v → C1[i]? = some v) : Calls Tryd.prog 55 #[.agg C1, .bool false, .bool false, .bool false, .bool true, .bool false, .bool true] w fun r w' => r = .returned (.bool (bareB false false false true false true false mr cr fr co ta so fo ty sz ve la ne no mm mo li lk)) ∧ Below w.heap.size w w' := by
  have hE : bareB false false false true false true false mr cr fr co ta so fo ty sz ve la ne no mm mo li lk = bareB false false false true false true false mr cr fr co ta so fo ty sz ve la ne no mm mo li lk := rfl
  have cE := Lib.hid (fun X => refEmptyV_any fo ty sz ve la ne no mm mo X)
  conv at hE => rhs; unfold bareB
  have HE := Lib.hid hE
  clear hE
  generalize emptyMV ⟨fo, ty, sz, ve, la, ne, no, mm, mo⟩ = em at *
  have HC1 := Lib.hid hc1
  have HW := Lib.hid (Sb.start w C1 27)
  clear hc1
  go_enter Tryd.func55, Tryd.ntmps55
  go_upto_region 1 with fail
  dsimp only [List.append]
  have hW := HW.out
  generalize w.alloc (.cells C1 27) = W at *
  have y0 := cell_block hW.blk 0 _ (HC1.out 0 _ rfl); have y2 := cell_block hW.blk 2 _ (HC1.out 2 _ rfl); have y3 := cell_block hW.blk 3 _ (HC1.out 3 _ rfl); have y4 := cell_block hW.blk 4 _ (HC1.out 4 _ rfl); have y5 := cell_block hW.blk 5 _ (HC1.out 5 _ rfl); have y8 := cell_block hW.blk 8 _ (HC1.out 8 _ rfl); have y9 := cell_block hW.blk 9 _ (HC1.out 9 _ rfl); have y10 := cell_block hW.blk 10 _ (HC1.out 10 _ rfl); have y11 := cell_block hW.blk 11 _ (HC1.out 11 _ rfl); have y12 := cell_block hW.blk 12 _ (HC1.out 12 _ rfl); have y13 := cell_block hW.blk 13 _ (HC1.out 13 _ rfl); have y14 := cell_block hW.blk 14 _ (HC1.out 14 _ rfl); have y15 := cell_block hW.blk 15 _ (HC1.out 15 _ rfl); have y16 := cell_block hW.blk 16 _ (HC1.out 16 _ rfl); have y18 := cell_block hW.blk 18 _ (HC1.out 18 _ rfl)
  have HB := Lib.hid hW
  clear hW HW
  go_wp2_with (go_at_call 59; (with_reducible refine (cE.out _).mono ?_); rintro r X ⟨rfl, hb⟩; have HB := Lib.hid (HB.out.below hb); have HX := Lib.hid HB.out.bel; have y0 := cell_block HB.out.blk 0 _ (HC1.out 0 _ rfl); have y9 := cell_block HB.out.blk 9 _ (HC1.out 9 _ rfl); have y10 := cell_block HB.out.blk 10 _ (HC1.out 10 _ rfl); have y11 := cell_block HB.out.blk 11 _ (HC1.out 11 _ rfl); have y12 := cell_block HB.out.blk 12 _ (HC1.out 12 _ rfl); have y13 := cell_block HB.out.blk 13 _ (HC1.out 13 _ rfl); have y14 := cell_block HB.out.blk 14 _ (HC1.out 14 _ rfl); have y15 := cell_block HB.out.blk 15 _ (HC1.out 15 _ rfl); have y16 := cell_block HB.out.blk 16 _ (HC1.out 16 _ rfl); have y18 := cell_block HB.out.blk 18 _ (HC1.out 18 _ rfl))
  all_goals clear y0 y2 y3 y4 y5 y8 y9 y10 y11 y12 y13 y14 y15 y16 y18 cE HC1
  all_goals (go_ret; refine ⟨?_, (by first | exact HB.out.bel | exact HX.out)⟩; change Ending.returned (Value.bool _) = _; rw [HE.out]; (simp [*] <;> omega))
theorem bare6_any (id : Int) (mr cr : Int) (fr : ByteArray) (co : Int) (ta so : ByteArray) (fo ty : ByteArray) (sz ve : Int) (la ne no : ByteArray) (mm mo : Int) (ai : Option Addr) (li ci : Nat) (ak : Option Addr) (lk ck : Nat) (w : World) : Calls Tryd.prog 55 #[.agg #[.int .i64 6, .int .i64 id, .int .i64 mr, .int .i64 cr, .string fr, .int .i64 co, .string ta, .string so, .string fo, .string ty, .int .i64 sz, .int .i64 ve, .string la, .string ne, .string no, .int .i64 mm, .int .i64 mo, .slice ai li ci, .slice ak lk ck], .bool false, .bool false, .bool false, .bool true, .bool false, .bool true] w fun r w' => r = .returned (.bool (bareB false false false true false true false mr cr fr co ta so fo ty sz ve la ne no mm mo li lk)) ∧ Below w.heap.size w w' :=
  bare6_aux _ id mr cr fr co ta so fo ty sz ve la ne no mm mo ai li ci ak lk ck w (fun _ _ h => h)
attribute [local irreducible] wpList in
set_option maxRecDepth 100000 in
set_option maxHeartbeats 8000000 in
theorem bare7_aux (C1 : Array Value) (id : Int) (mr cr : Int) (fr : ByteArray) (co : Int) (ta so : ByteArray) (fo ty : ByteArray) (sz ve : Int) (la ne no : ByteArray) (mm mo : Int) (ai : Option Addr) (li ci : Nat) (ak : Option Addr) (lk ck : Nat) (w : World) (hc1 : ∀ (i : Nat) (v : Value), (#[.int .i64 7, .int .i64 id, .int .i64 mr, .int .i64 cr, .string fr, .int .i64 co, .string ta, .string so, .string fo, .string ty, .int .i64 sz, .int .i64 ve, .string la, .string ne, .string no, .int .i64 mm, .int .i64 mo, .slice ai li ci, .slice ak lk ck] : Array Value)[i]? = some v → C1[i]? = some v) : Calls Tryd.prog 55 #[.agg C1, .bool true, .bool true, .bool true, .bool true, .bool true, .bool true] w fun r w' => r = .returned (.bool (bareB true true true true true true false mr cr fr co ta so fo ty sz ve la ne no mm mo li lk)) ∧ Below w.heap.size w w' := by
  have hE : bareB true true true true true true false mr cr fr co ta so fo ty sz ve la ne no mm mo li lk = bareB true true true true true true false mr cr fr co ta so fo ty sz ve la ne no mm mo li lk := rfl
  conv at hE => rhs; unfold bareB
  have HE := Lib.hid hE
  clear hE
  generalize emptyMV ⟨fo, ty, sz, ve, la, ne, no, mm, mo⟩ = em at *
  have HC1 := Lib.hid hc1
  have HW := Lib.hid (Sb.start w C1 27)
  clear hc1
  go_enter Tryd.func55, Tryd.ntmps55
  go_upto_region 1 with fail
  dsimp only [List.append]
  have hW := HW.out
  generalize w.alloc (.cells C1 27) = W at *
  have y0 := cell_block hW.blk 0 _ (HC1.out 0 _ rfl); have y18 := cell_block hW.blk 18 _ (HC1.out 18 _ rfl)
  have HB := Lib.hid hW
  clear hW HW HC1
  go_wp2_with fail
  all_goals clear y0 y18 
  all_goals (go_ret; refine ⟨?_, HB.out.bel⟩; change Ending.returned (Value.bool _) = _; rw [HE.out]; (simp [*] <;> omega))
theorem bare7_any (id : Int) (mr cr : Int) (fr : ByteArray) (co : Int) (ta so : ByteArray) (fo ty : ByteArray) (sz ve : Int) (la ne no : ByteArray) (mm mo : Int) (ai : Option Addr) (li ci : Nat) (ak : Option Addr) (lk ck : Nat) (w : World) : Calls Tryd.prog 55 #[.agg #[.int .i64 7, .int .i64 id, .int .i64 mr, .int .i64 cr, .string fr, .int .i64 co, .string ta, .string so, .string fo, .string ty, .int .i64 sz, .int .i64 ve, .string la, .string ne, .string no, .int .i64 mm, .int .i64 mo, .slice ai li ci, .slice ak lk ck], .bool true, .bool true, .bool true, .bool true, .bool true, .bool true] w fun r w' => r = .returned (.bool (bareB true true true true true true false mr cr fr co ta so fo ty sz ve la ne no mm mo li lk)) ∧ Below w.heap.size w w' :=
  bare7_aux _ id mr cr fr co ta so fo ty sz ve la ne no mm mo ai li ci ak lk ck w (fun _ _ h => h)
attribute [local irreducible] wpList in
set_option maxRecDepth 100000 in
set_option maxHeartbeats 8000000 in
theorem bare10_aux (C1 : Array Value) (id : Int) (mr cr : Int) (fr : ByteArray) (co : Int) (ta so : ByteArray) (fo ty : ByteArray) (sz ve : Int) (la ne no : ByteArray) (mm mo : Int) (ai : Option Addr) (li ci : Nat) (ak : Option Addr) (lk ck : Nat) (w : World) (hc1 : ∀ (i : Nat) (v : Value), (#[.int .i64 10, .int .i64 id, .int .i64 mr, .int .i64 cr, .string fr, .int .i64 co, .string ta, .string so, .string fo, .string ty, .int .i64 sz, .int .i64 ve, .string la, .string ne, .string no, .int .i64 mm, .int .i64 mo, .slice ai li ci, .slice ak lk ck] : Array Value)[i]? = some v → C1[i]? = some v) : Calls Tryd.prog 55 #[.agg C1, .bool true, .bool false, .bool false, .bool false, .bool true, .bool true] w fun r w' => r = .returned (.bool (bareB true false false false true true false mr cr fr co ta so fo ty sz ve la ne no mm mo li lk)) ∧ Below w.heap.size w w' := by
  have hE : bareB true false false false true true false mr cr fr co ta so fo ty sz ve la ne no mm mo li lk = bareB true false false false true true false mr cr fr co ta so fo ty sz ve la ne no mm mo li lk := rfl
  conv at hE => rhs; unfold bareB
  have HE := Lib.hid hE
  clear hE
  generalize emptyMV ⟨fo, ty, sz, ve, la, ne, no, mm, mo⟩ = em at *
  have HC1 := Lib.hid hc1
  have HW := Lib.hid (Sb.start w C1 27)
  clear hc1
  go_enter Tryd.func55, Tryd.ntmps55
  go_upto_region 1 with fail
  dsimp only [List.append]
  have hW := HW.out
  generalize w.alloc (.cells C1 27) = W at *
  have y0 := cell_block hW.blk 0 _ (HC1.out 0 _ rfl); have y4 := cell_block hW.blk 4 _ (HC1.out 4 _ rfl); have y5 := cell_block hW.blk 5 _ (HC1.out 5 _ rfl); have y6 := cell_block hW.blk 6 _ (HC1.out 6 _ rfl); have y7 := cell_block hW.blk 7 _ (HC1.out 7 _ rfl); have y18 := cell_block hW.blk 18 _ (HC1.out 18 _ rfl)
  have HB := Lib.hid hW
  clear hW HW HC1
  go_wp2_with fail
  all_goals clear y0 y4 y5 y6 y7 y18 
  all_goals (go_ret; refine ⟨?_, HB.out.bel⟩; change Ending.returned (Value.bool _) = _; rw [HE.out]; (simp [*] <;> omega))
theorem bare10_any (id : Int) (mr cr : Int) (fr : ByteArray) (co : Int) (ta so : ByteArray) (fo ty : ByteArray) (sz ve : Int) (la ne no : ByteArray) (mm mo : Int) (ai : Option Addr) (li ci : Nat) (ak : Option Addr) (lk ck : Nat) (w : World) : Calls Tryd.prog 55 #[.agg #[.int .i64 10, .int .i64 id, .int .i64 mr, .int .i64 cr, .string fr, .int .i64 co, .string ta, .string so, .string fo, .string ty, .int .i64 sz, .int .i64 ve, .string la, .string ne, .string no, .int .i64 mm, .int .i64 mo, .slice ai li ci, .slice ak lk ck], .bool true, .bool false, .bool false, .bool false, .bool true, .bool true] w fun r w' => r = .returned (.bool (bareB true false false false true true false mr cr fr co ta so fo ty sz ve la ne no mm mo li lk)) ∧ Below w.heap.size w w' :=
  bare10_aux _ id mr cr fr co ta so fo ty sz ve la ne no mm mo ai li ci ak lk ck w (fun _ _ h => h)
attribute [local irreducible] wpList in
set_option maxRecDepth 100000 in
set_option maxHeartbeats 8000000 in
theorem bare0_aux (C1 : Array Value) (kd : Int) (e2 : (kd == 2) = false) (id : Int) (mr cr : Int) (fr : ByteArray) (co : Int) (ta so : ByteArray) (fo ty : ByteArray) (sz ve : Int) (la ne no : ByteArray) (mm mo : Int) (ai : Option Addr) (li ci : Nat) (ak : Option Addr) (lk ck : Nat) (w : World) (hc1 : ∀ (i : Nat) (v : Value), (#[.int .i64 kd, .int .i64 id, .int .i64 mr, .int .i64 cr, .string fr, .int .i64 co, .string ta, .string so, .string fo, .string ty, .int .i64 sz, .int .i64 ve, .string la, .string ne, .string no, .int .i64 mm, .int .i64 mo, .slice ai li ci, .slice ak lk ck] : Array Value)[i]? = some v → C1[i]? = some v) : Calls Tryd.prog 55 #[.agg C1, .bool false, .bool false, .bool false, .bool false, .bool true, .bool true] w fun r w' => r = .returned (.bool (bareB false false false false true true false mr cr fr co ta so fo ty sz ve la ne no mm mo li lk)) ∧ Below w.heap.size w w' := by
  have hE : bareB false false false false true true false mr cr fr co ta so fo ty sz ve la ne no mm mo li lk = bareB false false false false true true false mr cr fr co ta so fo ty sz ve la ne no mm mo li lk := rfl
  conv at hE => rhs; unfold bareB
  have HE := Lib.hid hE
  clear hE
  generalize emptyMV ⟨fo, ty, sz, ve, la, ne, no, mm, mo⟩ = em at *
  have HC1 := Lib.hid hc1
  have HW := Lib.hid (Sb.start w C1 27)
  clear hc1
  go_enter Tryd.func55, Tryd.ntmps55
  go_upto_region 1 with fail
  dsimp only [List.append]
  have hW := HW.out
  generalize w.alloc (.cells C1 27) = W at *
  have y0 := cell_block hW.blk 0 _ (HC1.out 0 _ rfl); have y2 := cell_block hW.blk 2 _ (HC1.out 2 _ rfl); have y3 := cell_block hW.blk 3 _ (HC1.out 3 _ rfl); have y4 := cell_block hW.blk 4 _ (HC1.out 4 _ rfl); have y5 := cell_block hW.blk 5 _ (HC1.out 5 _ rfl); have y6 := cell_block hW.blk 6 _ (HC1.out 6 _ rfl); have y7 := cell_block hW.blk 7 _ (HC1.out 7 _ rfl); have y18 := cell_block hW.blk 18 _ (HC1.out 18 _ rfl)
  have HB := Lib.hid hW
  clear hW HW HC1
  go_wp2_with fail
  all_goals clear y0 y2 y3 y4 y5 y6 y7 y18 
  all_goals (go_ret; refine ⟨?_, HB.out.bel⟩; change Ending.returned (Value.bool _) = _; rw [HE.out]; (simp [*] <;> omega))
theorem bare0_any (kd : Int) (e2 : (kd == 2) = false) (id : Int) (mr cr : Int) (fr : ByteArray) (co : Int) (ta so : ByteArray) (fo ty : ByteArray) (sz ve : Int) (la ne no : ByteArray) (mm mo : Int) (ai : Option Addr) (li ci : Nat) (ak : Option Addr) (lk ck : Nat) (w : World) : Calls Tryd.prog 55 #[.agg #[.int .i64 kd, .int .i64 id, .int .i64 mr, .int .i64 cr, .string fr, .int .i64 co, .string ta, .string so, .string fo, .string ty, .int .i64 sz, .int .i64 ve, .string la, .string ne, .string no, .int .i64 mm, .int .i64 mo, .slice ai li ci, .slice ak lk ck], .bool false, .bool false, .bool false, .bool false, .bool true, .bool true] w fun r w' => r = .returned (.bool (bareB false false false false true true false mr cr fr co ta so fo ty sz ve la ne no mm mo li lk)) ∧ Below w.heap.size w w' :=
  bare0_aux _ kd e2 id mr cr fr co ta so fo ty sz ve la ne no mm mo ai li ci ak lk ck w (fun _ _ h => h)
end Go.Proofs.YtgechifbbhipaaaDoor
