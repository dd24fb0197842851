/- strings.Builder: what is written, told of the row that it lies in. No condition but the bytes' number. -/
import Derived.Test.YtgechifbbhipaaaDoorBd
import Derived.Maps.AppendAt
set_option linter.unusedVariables false
set_option linter.unusedSimpArgs false
namespace Go.Proofs.YtgechifbbhipaaaDoor
open Go.RowKit Go.Shelf

def BdV (C b : Nat) (bs : List Value) (v : Value) (w : World) : Prop :=
  ∃ p, (p = .pointer none ∨ p = .pointer (some ⟨b, 0, none⟩)) ∧ w.heap[b]? = some (.cells #[p, v] 139 (0, 0)) ∧ w.ownsRow C 5 1 v bs.length bs ∧ v.ownBlock ≠ some b
/-- what a write leaves: all but the builder and the row that it had -/
structure GrB (b : Nat) (v v' : Value) (w w' : World) : Prop where
  os : w'.os = w.os
  tape : w'.tape = w.tape
  output : w'.output = w.output
  size : w.heap.size ≤ w'.heap.size
  block : ∀ k, k < w.heap.size → k ≠ b → v.ownBlock ≠ some k → w'.heap[k]? = w.heap[k]?
  moved : v'.ownBlock = v.ownBlock ∨ ∀ g, v'.ownBlock = some g → w.heap.size ≤ g
theorem GrB.refl (b : Nat) (v : Value) (w : World) : GrB b v v w w := ⟨rfl, rfl, rfl, Nat.le_refl _, fun _ _ _ _ => rfl, .inl rfl⟩
theorem GrB.trans {b : Nat} {v v1 v2 : Value} {w w1 w2 : World} (h : GrB b v v1 w w1) (k : GrB b v1 v2 w1 w2) : GrB b v v2 w w2 := by
  refine ⟨k.os.trans h.os, k.tape.trans h.tape, k.output.trans h.output, Nat.le_trans h.size k.size, fun i hi hb hv => ?_, ?_⟩
  · refine (k.block i (Nat.lt_of_lt_of_le hi h.size) hb (fun e => ?_)).trans (h.block i hi hb hv)
    rcases h.moved with h1 | h1
    · exact hv (h1 ▸ e)
    · have := h1 i e; omega
  · rcases k.moved with h2 | h2
    · rw [h2]; exact h.moved
    · exact .inr fun g hg => Nat.le_trans h.size (h2 g hg)
theorem GrB.of_below {b : Nat} {v : Value} {w w' : World} (h : Below w.heap.size w w') : GrB b v v w w' := ⟨h.os, h.tape, h.output, h.size, fun k hk _ _ => h.block k hk, .inl rfl⟩
theorem GrB.cell {b : Nat} {v v' : Value} {w w' : World} (h : GrB b v v' w w') {k j : Nat} {u : Value} (hk : w.cell? ⟨k, j, none⟩ = some u) (hb : k ≠ b) (hv : v.ownBlock ≠ some k) : w'.cell? ⟨k, j, none⟩ = some u :=
  (World.cell?_of_block (a := ⟨k, j, none⟩) (h.block k (World.block_lt_of_cell? _ _ hk) hb hv)).trans hk
theorem GrB.below {b B C : Nat} {bs : List Value} {v v' : Value} {w w' : World} (h : GrB b v v' w w') (hv : BdV C b bs v w) (h1 : B ≤ C) (h2 : B ≤ b) (h3 : B ≤ w.heap.size) : Below B w w' := by
  obtain ⟨p, _, _, ho, _⟩ := hv
  exact ⟨h.os, h.tape, h.output, h.size, fun k hk => h.block k (by omega) (by omega) (fun e => by have := (ho.lt k e).1; omega)⟩
theorem BdV.bd {C b : Nat} {bs : List Value} {v : Value} {w : World} (h : BdV C b bs v w) : Bd C b bs w := by
  obtain ⟨p, hp, h1, h2, h3⟩ := h
  exact ⟨p, v, hp, h1, h2, h3⟩
theorem BdV.below {C b : Nat} {bs : List Value} {v : Value} {w w' : World} (h : BdV C b bs v w) (hb : Below w.heap.size w w') : BdV C b bs v w' := by
  obtain ⟨p, hp, h1, h2, h3⟩ := h
  refine ⟨p, hp, (hb.block b (Array.getElem?_eq_some_iff.1 h1).1).trans h1, ⟨h2.1, ?_⟩, h3⟩
  rcases h2.2 with h4 | ⟨g, cap, cur, hv, hg, hh, r⟩
  · exact .inl h4
  · exact .inr ⟨g, cap, cur, hv, hg, (hb.block g (Array.getElem?_eq_some_iff.1 hh).1).trans hh, r⟩
theorem BdV.lt {C b : Nat} {bs : List Value} {v : Value} {w : World} (h : BdV C b bs v w) : b < w.heap.size := h.bd.lt
theorem BdV.own {C b : Nat} {bs : List Value} {v : Value} {w : World} (h : BdV C b bs v w) : ∀ k, v.ownBlock = some k → C ≤ k ∧ k < w.heap.size := fun k hk => by
  obtain ⟨p, _, _, ho, _⟩ := h
  exact ho.lt k hk
theorem BdV.new (w : World) (C : Nat) : BdV C w.heap.size [] (.slice none 0 0) (w.alloc (.cells #[.pointer none, .slice none 0 0] 139)) :=
  ⟨_, .inl rfl, block_new w _, World.ownsRow_nil _ _ _ _, by simp [Value.ownBlock]⟩
/-- written: the builder holds bs now, v was its row -/
def Wr (C b : Nat) (bs : List Value) (v : Value) (w w' : World) : Prop := ∃ v', BdV C b bs v' w' ∧ GrB b v v' w w'
theorem Wr.trans {C b : Nat} {bs bs' : List Value} {v v1 : Value} {w w1 w2 : World} (h : GrB b v v1 w w1) (k : Wr C b bs' v1 w1 w2) : Wr C b bs' v w w2 := by
  obtain ⟨v2, h1, h2⟩ := k
  exact ⟨v2, h1, h.trans h2⟩

section
open Go.Lib
variable {P : Program} (w : World)
/-- a text's bytes behind a row: where the row lies then -/
theorem run_append_str (base : Nat) (t u ty e : TypeId) (i : TypeInfo) (ht : P.underlying t = some (.slice e)) (hu : P.underlying u = some .string) (hi : P.info? e = some i) (hz : i.zero = some (.int .u8 0)) (hsize : i.size = 1) (hby : i.bytes = 1)
    (v : Value) (n : Nat) (xs : List Value) (hown : w.ownsRow base e 1 v n xs) (s : ByteArray) (h63 : n + s.size ≤ maxLen) (hbytes : n + s.size ≤ 140737488355328) (hbase : base ≤ w.heap.size) :
    ∃ v' w', (Builtin.append_ #[t, u] ty #[v, .string s]).run P w = .ok v' w' ∧ w'.ownsRow base e 1 v' (n + s.size) (xs ++ strCells s) ∧ w.grownBy w' v.ownBlock ∧ (v'.ownBlock = v.ownBlock ∨ v'.ownBlock = some w.heap.size) := by
  obtain ⟨v', w', hr, h2, h3, h4⟩ := run_append_own_string (P := P) w base t u ty e i ht hu hi hz hsize hby v n xs hown s h63 hbytes hbase
  refine ⟨v', w', hr, h2, h3, ?_⟩
  have hs63 : n + s.size ≤ 9223372036854775807 := by simp only [maxLen] at h63; omega
  have hxl : xs.length = n := by simpa using hown.1
  rcases hown.2 with ⟨rfl, rfl⟩ | ⟨g, cap, cur, rfl, hbg, hg, hnc, hcm, hcs, htake⟩
  · by_cases hm : s.size = 0
    · exact .inl (by rw [h4.2 ⟨rfl, hm⟩])
    · have hk := run_append_nil_string (P := P) w t u ty e i (.int .u8 0) ht hu hi hz s (by omega) (by omega) (by rw [hby]; omega)
      rw [hk] at hr
      injection hr with hr1 hr2
      exact .inr (by rw [← hr1]; rfl)
  · by_cases hroom : n + s.size ≤ cap
    · have hcs' : cur.size = cap := by simpa using hcs
      have hk := run_append_room_string (P := P) w t u ty e i ht hu hi hsize g n cap cur hg s hroom (by omega)
      rw [hk] at hr
      injection hr with hr1 hr2
      exact .inl (by rw [← hr1]; rfl)
    · have holds : ∀ j u, xs[j]? = some u → w.cell? ((⟨g, 0, none⟩ : Addr).add j) = some u := hown.cells (g := g) rfl
      have hk := run_append_grow_string (P := P) w t u ty e i (.int .u8 0) ht hu hi hz ⟨g, 0, none⟩ n cap xs (by rw [hsize]; simpa using hxl) holds s (by omega) (by omega) (by rw [hby]; exact growslice_fits (by omega) (by omega))
      rw [hk] at hr
      injection hr with hr1 hr2
      exact .inr (by rw [← hr1]; rfl)
theorem wpList_append_str {ops : Array Oper} {rest : List Oper} {o : Oper} {a : Act} {Q : Exit → Act → World → Prop} (hgd : o.guard = none) (sl x : Operand) (t u : TypeId)
    (ho : o.op = .call { callee := .builtin .append, args := #[sl, x], argTypes := #[t, u] })
    (base : Nat) (e : TypeId) (i : TypeInfo) (ht : P.underlying t = some (.slice e)) (hu : P.underlying u = some .string) (hi : P.info? e = some i) (hz : i.zero = some (.int .u8 0)) (hsize : i.size = 1) (hby : i.bytes = 1)
    (v : Value) (n : Nat) (xs : List Value) (hs : a.eval sl = v) (hown : w.ownsRow base e 1 v n xs) (s : ByteArray) (hx : a.eval x = .string s)
    (h63 : n + s.size ≤ maxLen) (hbytes : n + s.size ≤ 140737488355328) (hbase : base ≤ w.heap.size)
    (h : ∀ v' w', w'.ownsRow base e 1 v' (n + s.size) (xs ++ strCells s) → w.grownBy w' v.ownBlock → (v'.ownBlock = v.ownBlock ∨ v'.ownBlock = some w.heap.size) → wpList P ops Q rest (a.put o.dst v') w') : wpList P ops Q (o :: rest) a w := by
  refine wpList_plain hgd fun K hK => ?_
  obtain ⟨v', w', hr, h2, h3, h4⟩ := run_append_str (P := P) w base t u o.type e i ht hu hi hz hsize hby v n xs hown s h63 hbytes hbase
  unfold Oper.wp execOp
  simp only [ho, resolve, invoke, builtin, Sem.run_bind, Sem.run_pure, Result.andThen_ok, List.map_toArray, List.map_cons, List.map_nil, hs, hx, hr]
  exact hK _ _ (h v' w' h2 h3 h4)
end

theorem bdv_copyCheck (C b : Nat) (bs : List Value) (v : Value) (w : World) (h : BdV C b bs v w) :
    Calls Tryd.prog 157 #[.pointer (some ⟨b, 0, none⟩)] w fun e w' => e = .returned (.tuple #[]) ∧ w'.heap[b]? = some (.cells #[.pointer (some ⟨b, 0, none⟩), v] 139 (0, 0)) ∧ w'.ownsRow C 5 1 v bs.length bs ∧ v.ownBlock ≠ some b ∧ GrB b v v w w' ∧ w'.heap.size = w.heap.size := by
  obtain ⟨p, hp, hb, ho, hne⟩ := h
  have c0 : w.cell? ⟨b, 0, none⟩ = some p := by rw [Lib.cell_of_heap hb]; rfl
  rcases hp with rfl | rfl
  · refine (copyCheck_fresh b w c0 (by simp [World.shape?, hb]) (Lib.frozen_of_heap hb 0)).mono ?_
    rintro e w' ⟨rfl, rfl⟩
    have hr : ∀ k, k ≠ b → (w.setCell ⟨b, 0, none⟩ (.pointer (some ⟨b, 0, none⟩))).heap[k]? = w.heap[k]? := fun k hk => Below.heap_setCell _ _ _ _ (by simpa using hk)
    refine ⟨rfl, ?_, ?_, hne, ⟨rfl, rfl, rfl, by simp [World.setCell], fun k _ hk _ => hr k hk, .inl rfl⟩, by simp [World.setCell]⟩
    · simp [World.setCell, Array.getElem?_modify, hb]
    · exact ho.kept (row := some b) ⟨rfl, rfl, rfl, by simp [World.setCell], fun k _ hk => hr k (fun e => hk (by rw [e]))⟩ (.inr hne)
  · refine (copyCheck_used b w c0).mono ?_
    rintro e w' ⟨rfl, rfl⟩
    exact ⟨rfl, hb, ho, hne, GrB.refl _ _ _, rfl⟩

/-- the new row put into the builder -/
theorem bdv_put {C b : Nat} {bs bs2 : List Value} {v v' : Value} {w w1 w2 : World} (hbk : w1.heap[b]? = some (.cells #[.pointer (some ⟨b, 0, none⟩), v] 139 (0, 0))) (hne : v.ownBlock ≠ some b) (h1 : GrB b v v w w1)
    (hgrow : w1.grownBy w2 v.ownBlock) (hown' : w2.ownsRow C 5 1 v' bs2.length bs2) (hmoved : v'.ownBlock = v.ownBlock ∨ ∀ g, v'.ownBlock = some g → w1.heap.size ≤ g) : Wr C b bs2 v w (w2.setCell ⟨b, 1, none⟩ v') := by
  have hlt : b < w1.heap.size := (Array.getElem?_eq_some_iff.1 hbk).1
  have hb2 : w2.heap[b]? = some (.cells #[.pointer (some ⟨b, 0, none⟩), v] 139 (0, 0)) := (hgrow.block b hlt (fun e => hne e.symm)).trans hbk
  have hne2 : v'.ownBlock ≠ some b := by
    rcases hmoved with h | h
    · rw [h]; exact hne
    · intro e; have := h b e; omega
  have hr : ∀ k, k ≠ b → (w2.setCell ⟨b, 1, none⟩ v').heap[k]? = w2.heap[k]? := fun k hk => Below.heap_setCell _ _ _ _ (by simpa using hk)
  have hs := hgrow.size
  refine ⟨v', ⟨_, .inr rfl, by simp [World.setCell, Array.getElem?_modify, hb2], hown'.kept (row := some b) ⟨rfl, rfl, rfl, by simp [World.setCell], fun k _ hk => hr k (fun e => hk (by rw [e]))⟩ (.inr hne2), hne2⟩, h1.trans ⟨hgrow.os, hgrow.tape, hgrow.output, by simpa [World.setCell] using hs, fun k hk hkb hkv => (hr k hkb).trans (hgrow.block k hk (fun e => hkv e.symm)), hmoved⟩⟩

set_option maxRecDepth 100000 in
set_option maxHeartbeats 2000000 in
theorem bdv_byte (C b : Nat) (bs : List Value) (v : Value) (c : Int) (w : World) (h : BdV C b bs v w) (hlen : bs.length + 1 ≤ 140737488355328) (hCw : C ≤ w.heap.size) :
    Calls Tryd.prog 189 #[.pointer (some ⟨b, 0, none⟩), .int .u8 c] w fun e w' => e = .returned .nilIface ∧ Wr C b (bs ++ [.int .u8 c]) v w w' := by
  obtain ⟨i0, hi, hz0, hz1, hz2⟩ := info_parts (show (Tryd.prog.info? 5).map (fun i => (i.zero, i.size, i.bytes)) = some (some (.int .u8 0), 1, 1) from by kernel_rfl)
  go_enter Tryd.func189, Tryd.ntmps189
  go_wp2_with (go_at_call 157; refine (bdv_copyCheck C b bs v _ h).mono ?_)
  rintro e w1 ⟨rfl, hbk, hown, hne, hg1, hsz1⟩
  have hCw1 : C ≤ w1.heap.size := by omega
  clear hsz1
  have c0 : w1.cell? ⟨b, 0, none⟩ = some (.pointer (some ⟨b, 0, none⟩)) := by rw [Lib.cell_of_heap hbk]; rfl
  have c1 : w1.cell? ⟨b, 1, none⟩ = some v := by rw [Lib.cell_of_heap hbk]; rfl
  go_wp2_with (at_builtin; refine wpList_append_own_at _ rfl _ _ 136 rfl C 5 i0 (.int .u8 0) 1 1 Tryd.underlying136 hi hz0 hz1 hz2 rfl (by decide) _ _ _ rfl (hown.alloc _) ⟨w1.heap.size, 0, none⟩ 1 1 [.int .u8 c] rfl rfl ?c1 ?c2 ?c3 ?c4 ?c5 ?_)
  case c1 =>
    intro j u hj
    match j, hj with
    | 0, hj => simp at hj; subst hj; simp [Addr.add]
  case c2 => intro u hu; simp at hu; subst hu; rfl
  case c3 => unfold maxLen; omega
  case c4 => omega
  case c5 => simp; omega
  intro v' w2 hown' hgrow _ hmv
  have hg2 : w1.grownBy w2 v.ownBlock := ⟨hgrow.os, hgrow.tape, hgrow.output, Nat.le_trans (by simp) hgrow.size, fun k hk hne => (hgrow.block k (by simp; omega) hne).trans (Lib.alloc_old w1 _ k hk)⟩
  have hb2 : w2.heap[b]? = some (.cells #[.pointer (some ⟨b, 0, none⟩), v] 139 (0, 0)) := (hg2.block b (Array.getElem?_eq_some_iff.1 hbk).1 (fun e => hne e.symm)).trans hbk
  have d0 : w2.cell? ⟨b, 0, none⟩ = some (.pointer (some ⟨b, 0, none⟩)) := by rw [Lib.cell_of_heap hb2]; rfl
  have d1 : w2.cell? ⟨b, 1, none⟩ = some v := by rw [Lib.cell_of_heap hb2]; rfl
  have f1 : w2.frozen? ⟨b, 1, none⟩ = false := Lib.frozen_of_heap hb2 1
  have HP := Lib.hid (bdv_put (bs := bs) (bs2 := bs ++ [.int .u8 c]) hbk hne hg1 hg2 (by simpa using hown') (hmv.imp id (fun e g hg => by
    rw [e] at hg
    have := Option.some.inj hg
    (try simp at this); omega)))
  obtain ⟨ao, n', cap, rfl⟩ : ∃ ao n' cap, v' = .slice ao n' cap := by
    rcases hown'.2 with ⟨rfl, _⟩ | ⟨g, cap, cur, hv, _⟩
    · exact ⟨_, _, _, rfl⟩
    · exact ⟨_, _, _, hv⟩
  clear hmv
  go_wp2
  go_ret
  exact ⟨rfl, HP.out⟩

set_option maxRecDepth 100000 in
set_option maxHeartbeats 2000000 in
theorem bdv_write (C b : Nat) (bs : List Value) (v : Value) (s : ByteArray) (w : World) (h : BdV C b bs v w) (hlen : bs.length + s.size ≤ 140737488355328) (hCw : C ≤ w.heap.size) :
    Calls Tryd.prog 127 #[.pointer (some ⟨b, 0, none⟩), .string s] w fun e w' => (∃ n, e = .returned (.tuple #[.int .i64 n, .nilIface])) ∧ Wr C b (bs ++ Lib.strCells s) v w w' := by
  obtain ⟨i0, hi, hz0, hz1, hz2⟩ := info_parts (show (Tryd.prog.info? 5).map (fun i => (i.zero, i.size, i.bytes)) = some (some (.int .u8 0), 1, 1) from by kernel_rfl)
  go_enter Tryd.func127, Tryd.ntmps127
  go_wp2_with (go_at_call 157; refine (bdv_copyCheck C b bs v _ h).mono ?_)
  rintro e w1 ⟨rfl, hbk, hown, hne, hg1, hsz1⟩
  have hCw1 : C ≤ w1.heap.size := by omega
  clear hsz1
  have c0 : w1.cell? ⟨b, 0, none⟩ = some (.pointer (some ⟨b, 0, none⟩)) := by rw [Lib.cell_of_heap hbk]; rfl
  have c1 : w1.cell? ⟨b, 1, none⟩ = some v := by rw [Lib.cell_of_heap hbk]; rfl
  go_wp2_with (at_builtin; refine wpList_append_str _ rfl _ _ 136 9 rfl C 5 i0 Tryd.underlying136 Tryd.underlying9 hi hz0 hz1 hz2 _ _ _ rfl hown s rfl ?c3 ?c4 ?c5 ?_)
  case c3 => unfold maxLen; omega
  case c4 => omega
  case c5 => omega
  intro v' w2 hown' hgrow hmv
  have hb2 : w2.heap[b]? = some (.cells #[.pointer (some ⟨b, 0, none⟩), v] 139 (0, 0)) := (hgrow.block b (Array.getElem?_eq_some_iff.1 hbk).1 (fun e => hne e.symm)).trans hbk
  have d0 : w2.cell? ⟨b, 0, none⟩ = some (.pointer (some ⟨b, 0, none⟩)) := by rw [Lib.cell_of_heap hb2]; rfl
  have d1 : w2.cell? ⟨b, 1, none⟩ = some v := by rw [Lib.cell_of_heap hb2]; rfl
  have f1 : w2.frozen? ⟨b, 1, none⟩ = false := Lib.frozen_of_heap hb2 1
  have hsl : (Lib.strCells s).length = s.size := by simp [Lib.strCells]
  have HP := Lib.hid (bdv_put (bs := bs) (bs2 := bs ++ Lib.strCells s) hbk hne hg1 hgrow (by rw [List.length_append, hsl]; exact hown') (hmv.imp id (fun e g hg => by
    rw [e] at hg
    have := Option.some.inj hg
    omega)))
  obtain ⟨ao, n', cap, rfl⟩ : ∃ ao n' cap, v' = .slice ao n' cap := by
    rcases hown'.2 with ⟨rfl, _⟩ | ⟨g, cap, cur, hv, _⟩
    · exact ⟨_, _, _, rfl⟩
    · exact ⟨_, _, _, hv⟩
  clear hmv hsl
  go_wp2
  go_ret2
  exact ⟨⟨_, rfl⟩, HP.out⟩

theorem bdv_len (C b : Nat) (bs : List Value) (v : Value) (w : World) (h : BdV C b bs v w) :
    Calls Tryd.prog 129 #[.pointer (some ⟨b, 0, none⟩)] w fun e w' => e = .returned (.int .i64 (bs.length : Int)) ∧ w = w' := by
  obtain ⟨p, hp, hb, ho, hne⟩ := h
  obtain ⟨a, c, rfl⟩ := own_form ho
  have c1 : w.cell? ⟨b, 1, none⟩ = some (.slice a bs.length c) := by rw [Lib.cell_of_heap hb]; rfl
  clear hp hb ho hne
  go_enter Tryd.func129, Tryd.ntmps129
  go_wp2
  go_ret
  exact ⟨rfl, rfl⟩
end Go.Proofs.YtgechifbbhipaaaDoor
