/- digest: its tables, and the reference's. No condition but the round's number. -/
import Derived.Test.YteheibgdjpkeaaaMix
import Derived.Laws.Tables
import Derived.Deep.WholeRow
import Derived.Great.BuildSlice
namespace Go.Proofs.Yteheibgdjpkeaaa
open Go.RowKit Go.Great

def adds : List Nat := [3614090360, 3905402710, 606105819, 3250441966, 4118548399, 1200080426, 2821735955, 4249261313, 1770035416, 2336552879, 4294925233, 2304563134, 1804603682, 4254626195, 2792965006, 1236535329, 4129170786, 3225465664, 643717713, 3921069994, 3593408605, 38016083, 3634488961, 3889429448, 568446438, 3275163606, 4107603335, 1163531501, 2850285829, 4243563512, 1735328473, 2368359562, 4294588738, 2272392833, 1839030562, 4259657740, 2763975236, 1272893353, 4139469664, 3200236656, 681279174, 3936430074, 3572445317, 76029189, 3654602809, 3873151461, 530742520, 3299628645, 4096336452, 1126891415, 2878612391, 4237533241, 1700485571, 2399980690, 4293915773, 2240044497, 1873313359, 4264355552, 2734768916, 1309151649, 4149444226, 3174756917, 718787259, 3951481745]
def shs : List Nat := [7, 12, 17, 22, 5, 9, 14, 20, 4, 11, 16, 23, 6, 10, 15, 21]
def addT (i : Nat) : Nat := adds[i]?.getD 0
def shT (i : Nat) : Nat := shs[i / 16 * 4 + i % 4]?.getD 0
theorem addT_lt (i : Nat) : addT i < 4294967296 := by
  have key : ∀ x ∈ adds, x < 4294967296 := by decide
  unfold addT
  cases h : adds[i]? with
  | none => simp
  | some x => exact key x (List.mem_of_getElem? h)
theorem shT_in (i : Nat) (h : i < 64) : shT i ∈ shs := by
  have key : ∀ i : Fin 64, shT i.val ∈ shs := by decide
  exact key ⟨i, h⟩

theorem cell_box (w : World) (xs : Array Value) (t : TypeId) (i : Nat) (v : Value) (h : xs[i]? = some v) : (w.alloc (.cells xs t)).cell? ⟨w.heap.size, i, none⟩ = some v := by
  unfold World.cell?; rw [block_new]; exact h

/-- a whole value stored into a variable that has just been laid. -/
theorem wpList_storeNew {P : Program} (w0 : World) {ops : Array Oper} {rest : List Oper} {o : Oper} {a : Act} {Q : Exit → Act → World → Prop} (hgd : o.guard = none) (ty : TypeId) (x y : Operand) (ho : o.op = .store ty x y)
    (cells zs : Array Value) (hx : a.eval x = .pointer (some ⟨w0.heap.size, 0, none⟩)) (hy : a.eval y = .agg cells) (hi : (P.info? ty).map (·.size) = some cells.size)
    (hold : zs.size = cells.size) (h1 : cells.all (·.oneCell') = true)
    (h : wpList P ops Q rest (a.put o.dst undef) (w0.alloc (.cells cells ty))) : wpList P ops Q (o :: rest) a (w0.alloc (.cells zs ty)) := by
  refine wpList_store_row hgd ty x y ho w0.heap.size cells hx hy ty zs (block_new w0 _) hi hold h1 ?_
  rw [World.setRow_alloc_new]
  exact h
def addZ : List Int := adds.map fun n : Nat => (n : Int)
theorem addA (i : Nat) (h : i < 64) : (addZ.map (Value.int .u32)).toArray[i]? = some (.int .u32 ((addT i : Nat) : Int)) := by
  have h2 : i < adds.length := h
  rw [List.getElem?_toArray, List.getElem?_map, addZ, List.getElem?_map, List.getElem?_eq_getElem h2]
  unfold addT
  rw [List.getElem?_eq_getElem h2]; rfl
theorem addS1 : (Try.prog.info? 102).map (·.size) = some (addZ.map (Value.int .u32)).toArray.size := by kernel_rfl
theorem addS3 : (addZ.map (Value.int .u32)).toArray.all (·.oneCell') = true := by kernel_rfl
theorem shA (j : Nat) (h : j < 16) : (#[.int .i64 7, .int .i64 12, .int .i64 17, .int .i64 22, .int .i64 5, .int .i64 9, .int .i64 14, .int .i64 20, .int .i64 4, .int .i64 11, .int .i64 16, .int .i64 23, .int .i64 6, .int .i64 10, .int .i64 15, .int .i64 21] : Array Value)[j]? = some (.int .i64 ((shs[j]?.getD 0 : Nat) : Int)) := by
  have e : (#[.int .i64 7, .int .i64 12, .int .i64 17, .int .i64 22, .int .i64 5, .int .i64 9, .int .i64 14, .int .i64 20, .int .i64 4, .int .i64 11, .int .i64 16, .int .i64 23, .int .i64 6, .int .i64 10, .int .i64 15, .int .i64 21] : Array Value) = (shs.map fun n : Nat => Value.int .i64 (n : Int)).toArray := rfl
  have h2 : j < shs.length := h
  rw [e, List.getElem?_toArray, List.getElem?_map, List.getElem?_eq_getElem h2]; rfl
theorem shU (j : Nat) (h : j < 16) : (#[.int .u64 7, .int .u64 12, .int .u64 17, .int .u64 22, .int .u64 5, .int .u64 9, .int .u64 14, .int .u64 20, .int .u64 4, .int .u64 11, .int .u64 16, .int .u64 23, .int .u64 6, .int .u64 10, .int .u64 15, .int .u64 21] : Array Value)[j]? = some (.int .u64 ((shs[j]?.getD 0 : Nat) : Int)) := by
  have e : (#[.int .u64 7, .int .u64 12, .int .u64 17, .int .u64 22, .int .u64 5, .int .u64 9, .int .u64 14, .int .u64 20, .int .u64 4, .int .u64 11, .int .u64 16, .int .u64 23, .int .u64 6, .int .u64 10, .int .u64 15, .int .u64 21] : Array Value) = (shs.map fun n : Nat => Value.int .u64 (n : Int)).toArray := rfl
  have h2 : j < shs.length := h
  rw [e, List.getElem?_toArray, List.getElem?_map, List.getElem?_eq_getElem h2]; rfl

set_option maxRecDepth 100000 in
set_option maxHeartbeats 1000000 in
theorem addend_any (i : Nat) (hi : i < 64) (w : World) : Calls Try.prog 53 #[.int .i64 (i : Int)] w fun e w' => e = .returned (.int .u32 ((addT i : Nat) : Int)) ∧ Below w.heap.size w w' := by
  have hc := cell_box w (addZ.map (Value.int .u32)).toArray 102 i _ (addA i hi)
  have hi' : (i : Int) < 64 := by omega
  generalize addT i = r at *
  go_enter Try.func53, Try.ntmps53
  go_wp2_with (first
    | (refine wpList_buildFlatArr rfl 102 61 64 _ rfl .u32 addZ (by kernel_rfl) (by kernel_rfl) (by kernel_rfl) (by kernel_rfl) ?_)
    | (refine wpList_storeNew w rfl 102 _ _ rfl (addZ.map (Value.int .u32)).toArray _ rfl rfl addS1 (by kernel_rfl) addS3 ?_))
  go_ret
  exact ⟨rfl, (Below.refl _ _).alloc (Nat.le_refl _) _⟩

set_option maxRecDepth 100000 in
theorem shift_any (i : Nat) (hi : i < 64) (w : World) : Calls Try.prog 55 #[.int .i64 (i : Int)] w fun e w' => e = .returned (.int .i64 ((shT i : Nat) : Int)) ∧ Below w.heap.size w w' := by
  have hc := cell_box w #[.int .i64 7, .int .i64 12, .int .i64 17, .int .i64 22, .int .i64 5, .int .i64 9, .int .i64 14, .int .i64 20, .int .i64 4, .int .i64 11, .int .i64 16, .int .i64 23, .int .i64 6, .int .i64 10, .int .i64 15, .int .i64 21] 103 (i / 16 * 4 + i % 4) _ (shA _ (by omega))
  have hr : shs[i / 16 * 4 + i % 4]?.getD 0 = shT i := rfl
  rw [hr] at hc
  generalize shT i = r at *
  obtain ⟨j, hj⟩ : ∃ j, i / 16 * 4 + i % 4 = j := ⟨_, rfl⟩
  have hj1 : (i : Int) / 16 * 4 + (i : Int) % 4 = (j : Int) := by omega
  have hj2 : j < 16 := by omega
  rw [hj] at hc
  clear hr hj
  go_enter Try.func55, Try.ntmps55
  go_wp2
  go_ret
  exact ⟨rfl, (Below.refl _ _).alloc (Nat.le_refl _) _⟩

set_option maxRecDepth 100000 in
theorem refShift_any (i : Nat) (hi : i < 64) (w : World) : Calls Try.prog 51 #[.int .i64 (i : Int)] w fun e w' => e = .returned (.int .u64 ((shT i : Nat) : Int)) ∧ Below w.heap.size w w' := by
  have hc := cell_box w #[.int .u64 7, .int .u64 12, .int .u64 17, .int .u64 22, .int .u64 5, .int .u64 9, .int .u64 14, .int .u64 20, .int .u64 4, .int .u64 11, .int .u64 16, .int .u64 23, .int .u64 6, .int .u64 10, .int .u64 15, .int .u64 21] 60 (i / 16 * 4 + i % 4) _ (shU _ (by omega))
  have hr : shs[i / 16 * 4 + i % 4]?.getD 0 = shT i := rfl
  rw [hr] at hc
  generalize shT i = r at *
  obtain ⟨j, hj⟩ : ∃ j, i / 16 * 4 + i % 4 = j := ⟨_, rfl⟩
  have hj1 : (i : Int) / 16 * 4 + (i : Int) % 4 = (j : Int) := by omega
  have hj2 : j < 16 := by omega
  rw [hj] at hc
  clear hr hj
  go_enter Try.func51, Try.ntmps51
  go_wp2
  go_ret
  exact ⟨rfl, (Below.refl _ _).alloc (Nat.le_refl _) _⟩
end Go.Proofs.Yteheibgdjpkeaaa
