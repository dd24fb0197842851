/- tree: an element put to a list that lies in a cell: the parts that each such place shares. No condition. -/
import Derived.Test.YtgechifbbhipaaaDoorTrG
import Derived.RangeFuncBox
set_option linter.unusedVariables false
set_option linter.unusedSimpArgs false
namespace Go.Proofs.YtgechifbbhipaaaDoor
open Go.RowKit

theorem step_appR {P : Program} {w : World} {ops : Array Oper} {o : Oper} {a : Act} {K : Act → World → Prop} {Q : Exit → Act → World → Prop} {E : Prop} (hgd : o.guard = none) (s x : Operand) (t : TypeId)
    (ho : o.op = .call { callee := .builtin .append, args := #[s, x], argTypes := #[t, t] })
    (base : Nat) (e : TypeId) (i : TypeInfo) (z : Value) (size bytes : Nat) (ht : P.underlying t = some (.slice e)) (hi : P.info? e = some i) (hz : i.zero = some z)
    (hsize : i.size = size) (hby : i.bytes = bytes) (hzs : z.cells.size = size) (hsz : 0 < size)
    (v : Value) (n : Nat) (xs : List Value) (hs : a.eval s = v) (hown : w.ownsRow base e size v n xs)
    (ad : Option Addr) (m c : Nat) (news : List Value) (hx : a.eval x = .slice ad m c) (hl : news.length = m * size) (hnone : ad = none → m = 0 ∧ c = 0) (hnews : ∀ q, ad = some q → ∀ j u, news[j]? = some u → w.cell? (q.add j) = some u) (h1 : ∀ u ∈ news, u.oneCell' = true)
    (h63 : n + m ≤ maxLen) (hbytes : (n + m) * bytes ≤ 140737488355328) (hbase : base ≤ w.heap.size)
    (h : ∀ a' c' w', w'.ownsRow base e size (.slice a' (n + m) c') (n + m) (xs ++ news) → w.grownBy w' v.ownBlock → ((.slice a' (n + m) c' : Value).ownBlock = v.ownBlock ∨ (.slice a' (n + m) c' : Value).ownBlock = some w.heap.size) → K (a.put o.dst (.slice a' (n + m) c')) w') :
    if Region.wanted o (yielded ops a.tmps) = true then Oper.wp P o a w K Q else E := by
  have hw : Region.wanted o (yielded ops a.tmps) = true := by simp [Region.wanted, hgd]
  rw [if_pos hw]
  have form : ∀ {W : World} {v : Value} {n : Nat} {xs : List Value}, W.ownsRow base e size v n xs → ∃ a' c', v = .slice a' n c' := by
    intro W v n xs h
    rcases h.2 with ⟨rfl, rfl⟩ | ⟨g, cap, _, rfl, _⟩
    · exact ⟨none, 0, rfl⟩
    · exact ⟨_, cap, rfl⟩
  cases ad with
  | none =>
    obtain ⟨rfl, rfl⟩ := hnone rfl
    obtain rfl : news = [] := List.eq_nil_of_length_eq_zero (by omega)
    have hrun := run_append_owned_none (P := P) (w := w) base t o.type e i size ht hi v n xs hown
    obtain ⟨a', c', rfl⟩ := form hown
    unfold Oper.wp execOp
    simp only [ho, resolve, invoke, builtin, Sem.run_bind, Sem.run_pure, Result.andThen_ok, List.map_toArray, List.map_cons, List.map_nil, hs, hx, hrun]
    exact h a' c' w (by rw [List.append_nil]; exact hown) (World.grownBy.refl w _) (.inl rfl)
  | some ad =>
    obtain ⟨v', w', hr, h2, h3, h4, h5⟩ := run_append_own_at (P := P) w base t o.type e i z size bytes ht hi hz hsize hby hzs hsz v n xs hown ad m c news hl (hnews ad rfl) h1 h63 hbytes hbase
    obtain ⟨a', c', rfl⟩ := form h2
    unfold Oper.wp execOp
    simp only [ho, resolve, invoke, builtin, Sem.run_bind, Sem.run_pure, Result.andThen_ok, List.map_toArray, List.map_cons, List.map_nil, hs, hx, hr]
    exact h a' c' w' h2 h3 h5
theorem cell_allocG {w : World} {ad : Addr} {u : Value} (h : w.cell? ad = some u) (o : Obj) : (w.alloc o).cell? ad = some u := by
  rw [← h]; exact World.cell?_of_block (Below.heap_alloc _ _ _ (World.block_lt_of_cell? _ _ h))
/-- a row has grown, over whatever was laid before -/
theorem push_grown {w X w' : World} {row : Option Nat} (h : Below w.heap.size w X) (k : X.grownBy w' row) : w.grownBy w' row := ⟨k.os.trans h.os, k.tape.trans h.tape, k.output.trans h.output, Nat.le_trans h.size k.size, fun b hb hne => (k.block b (Nat.lt_of_lt_of_le hb h.size) hne).trans (h.block b hb)⟩
theorem push_moved {w X : World} {g n c : Nat} {v : Value} (h : Below w.heap.size w X) (k : (.slice (some ⟨g, 0, none⟩) n c : Value).ownBlock = v.ownBlock ∨ (.slice (some ⟨g, 0, none⟩) n c : Value).ownBlock = some X.heap.size) :
    (.slice (some ⟨g, 0, none⟩) n c : Value).ownBlock = v.ownBlock ∨ w.heap.size ≤ g := k.imp id (fun e => by
  have e : some g = some X.heap.size := e
  have := h.size
  injection e
  omega)
/-- the list in the cell bl is now ks -/
def PutP (bl B : Nat) (ks : List Tr) (w : World) (r : Ending) (w' : World) : Prop := (∃ u, r = .returned u) ∧ (∃ v', Boxed w' bl 44 v' ∧ RowQ w' B v' ks) ∧ BelowBut B bl w w'
def zero5 : List Value := [.int .i64 0, .string ⟨#[]⟩, .string ⟨#[]⟩, .bool false, .slice none 0 0]
/-- the cells of a block just laid, over whatever was laid behind -/
theorem new_cells {w X : World} {cs : List Value} {t : TypeId} (hb : Below (w.heap.size + 1) (w.alloc (.cells cs.toArray t)) X) : ∀ q : Addr, some (⟨w.heap.size, 0, none⟩ : Addr) = some q → ∀ j u, cs[j]? = some u → X.cell? (q.add j) = some u := fun q hq j u hu => by
  simp only [Option.some.injEq] at hq
  subst hq
  have := cells_new w cs t j u hu
  rw [addr_addN] at this ⊢
  exact (hb.cell (p := ⟨w.heap.size, 0 + j, none⟩) (Nat.lt_succ_self _)).trans this

theorem own_push {w : World} {B n c : Nat} {a : Option Addr} {xs : List Value} (h : w.ownsRow B 46 5 (.slice a (n + 1) c) (n + 1) (xs ++ zero5)) (hl : xs.length = n * 5) :
    ∃ g, a = some ⟨g, 0, none⟩ ∧ B ≤ g ∧ g < w.heap.size ∧ (∀ j u, zero5[j]? = some u → w.cell? ⟨g, n * 5 + j, none⟩ = some u) ∧ (∀ j, w.frozen? ⟨g, j, none⟩ = false) := by
  rcases h.2 with ⟨_, h0⟩ | ⟨g, cap, cur, hv, _⟩
  · omega
  · simp only [Value.slice.injEq] at hv
    obtain ⟨rfl, _, rfl⟩ := hv
    refine ⟨g, rfl, (h.lt g rfl).1, (h.lt g rfl).2, fun j u hu => ?_, fun j => h.frozenAt j⟩
    have := h.cells (g := g) rfl (n * 5 + j) u (by rw [List.getElem?_append_right (by omega), hl]; simpa using hu)
    rwa [addr_addN, Nat.zero_add] at this

/-- the five cells of the last element, written -/
theorem row5 {w : World} {B g n c : Nat} {xs : List Value} {c0 c1 c2 c3 c4 : Value} (h : w.ownsRow B 46 5 (.slice (some ⟨g, 0, none⟩) (n + 1) c) (n + 1) (xs ++ zero5)) (hl : xs.length = n * 5) :
    (((((w.setCell ⟨g, n * 5, none⟩ c0).setCell ⟨g, n * 5 + 1, none⟩ c1).setCell ⟨g, n * 5 + 2, none⟩ c2).setCell ⟨g, n * 5 + 3, none⟩ c3).setCell ⟨g, n * 5 + 4, none⟩ c4).ownsRow B 46 5 (.slice (some ⟨g, 0, none⟩) (n + 1) c) (n + 1) (xs ++ [c0, c1, c2, c3, c4]) := by
  have h0 := (h.stored (n * 5) c0).1
  have h1 := (h0.stored (n * 5 + 1) c1).1
  have h2 := (h1.stored (n * 5 + 2) c2).1
  have h3 := (h2.stored (n * 5 + 3) c3).1
  have h4 := (h3.stored (n * 5 + 4) c4).1
  have e : ((((((xs ++ zero5).set (n * 5) c0).set (n * 5 + 1) c1).set (n * 5 + 2) c2).set (n * 5 + 3) c3).set (n * 5 + 4) c4) = xs ++ [c0, c1, c2, c3, c4] := by
    rw [← hl]
    simp only [zero5]
    rw [List.set_append_right _ _ (Nat.le_refl _), List.set_append_right _ _ (by omega), List.set_append_right _ _ (by omega), List.set_append_right _ _ (by omega), List.set_append_right _ _ (by omega)]
    simp
  rw [e] at h4
  exact h4
theorem setCell_os (w : World) (a : Addr) (u : Value) : (w.setCell a u).os = w.os ∧ (w.setCell a u).tape = w.tape ∧ (w.setCell a u).output = w.output ∧ (w.setCell a u).heap.size = w.heap.size := ⟨rfl, rfl, rfl, by simp [World.setCell]⟩
/-- the list has been put to: whatever order the two stores had -/
theorem push_fin {w w' W : World} {B bl g n c c' : Nat} {a : Option Addr} {xs cs : List Value} {ks : List Tr} {k : Tr} {P : Nat → Prop} (hbl : bl < B) (hlen : ks.length = n)
    (hB : B ≤ w.heap.size) (hq : KLQ w (fun b => B ≤ b ∧ b < w.heap.size ∧ (.slice a n c : Value).ownBlock ≠ some b) ks xs) (hown0 : ∀ b, (.slice a n c : Value).ownBlock = some b → B ≤ b)
    (hg : w.grownBy w' (.slice a n c : Value).ownBlock) (hm : (.slice (some ⟨g, 0, none⟩) (n + 1) c' : Value).ownBlock = (.slice a n c : Value).ownBlock ∨ w.heap.size ≤ g)
    (hW : ∀ b, b ≠ g → b ≠ bl → W.heap[b]? = w'.heap[b]?) (hWo : W.os = w'.os ∧ W.tape = w'.tape ∧ W.output = w'.output ∧ W.heap.size = w'.heap.size)
    (ho : W.ownsRow B 46 5 (.slice (some ⟨g, 0, none⟩) (n + 1) c') (n + 1) (xs ++ cs)) (hc : cs.length = 5) (hk : AtQ W P k (.agg cs.toArray)) (hP : ∀ b, P b → B ≤ b ∧ b < W.heap.size ∧ b ≠ g)
    (hbx : Boxed W bl 44 (.slice (some ⟨g, 0, none⟩) (n + 1) c')) : (∃ v', Boxed W bl 44 v' ∧ RowQ W B v' (ks ++ [k])) ∧ BelowBut B bl w W := by
  have hgB : B ≤ g := (ho.lt g rfl).1
  refine ⟨⟨_, hbx, xs ++ cs, by rw [List.length_append, hlen]; exact ho, (hq.keep (fun b hb => ?_)).append ⟨cs, [], by simp, hc, AtQ.keep (fun b hb => ⟨⟨(hP b hb).1, (hP b hb).2.1, fun e => (hP b hb).2.2 (Option.some.inj e).symm⟩, rfl⟩) _ _ hk, rfl⟩⟩, ?_⟩
  · have hbg : b ≠ g := by
      rintro rfl
      rcases hm with hm | hm
      · exact hb.2.2 hm.symm
      · omega
    refine ⟨⟨hb.1, Nat.lt_of_lt_of_le hb.2.1 (by rw [hWo.2.2.2]; exact hg.size), fun e => hbg (Option.some.inj e).symm⟩, ?_⟩
    exact (hW b hbg (by omega)).trans (hg.block b hb.2.1 (fun e => hb.2.2 e.symm))
  · refine ⟨hWo.1.trans hg.os, hWo.2.1.trans hg.tape, hWo.2.2.1.trans hg.output, by rw [hWo.2.2.2]; exact hg.size, fun b hb hne => (hW b (by omega) hne).trans (hg.block b (by omega) (fun e => ?_))⟩
    have := hown0 b e.symm
    omega
theorem set5_heap (w : World) (g n : Nat) (c0 c1 c2 c3 c4 : Value) (b : Nat) (h : b ≠ g) : (((((w.setCell ⟨g, n * 5, none⟩ c0).setCell ⟨g, n * 5 + 1, none⟩ c1).setCell ⟨g, n * 5 + 2, none⟩ c2).setCell ⟨g, n * 5 + 3, none⟩ c3).setCell ⟨g, n * 5 + 4, none⟩ c4).heap[b]? = w.heap[b]? := by
  rw [Below.heap_setCell _ _ _ _ h, Below.heap_setCell _ _ _ _ h, Below.heap_setCell _ _ _ _ h, Below.heap_setCell _ _ _ _ h, Below.heap_setCell _ _ _ _ h]
theorem set5_os (w : World) (g n : Nat) (c0 c1 c2 c3 c4 : Value) : (((((w.setCell ⟨g, n * 5, none⟩ c0).setCell ⟨g, n * 5 + 1, none⟩ c1).setCell ⟨g, n * 5 + 2, none⟩ c2).setCell ⟨g, n * 5 + 3, none⟩ c3).setCell ⟨g, n * 5 + 4, none⟩ c4).heap.size = w.heap.size := by rw [(setCell_os _ _ _).2.2.2, (setCell_os _ _ _).2.2.2, (setCell_os _ _ _).2.2.2, (setCell_os _ _ _).2.2.2, (setCell_os _ _ _).2.2.2]
theorem set5_all (w : World) (g n : Nat) (c0 c1 c2 c3 c4 : Value) : (((((w.setCell ⟨g, n * 5, none⟩ c0).setCell ⟨g, n * 5 + 1, none⟩ c1).setCell ⟨g, n * 5 + 2, none⟩ c2).setCell ⟨g, n * 5 + 3, none⟩ c3).setCell ⟨g, n * 5 + 4, none⟩ c4).os = w.os ∧
    (((((w.setCell ⟨g, n * 5, none⟩ c0).setCell ⟨g, n * 5 + 1, none⟩ c1).setCell ⟨g, n * 5 + 2, none⟩ c2).setCell ⟨g, n * 5 + 3, none⟩ c3).setCell ⟨g, n * 5 + 4, none⟩ c4).tape = w.tape ∧
    (((((w.setCell ⟨g, n * 5, none⟩ c0).setCell ⟨g, n * 5 + 1, none⟩ c1).setCell ⟨g, n * 5 + 2, none⟩ c2).setCell ⟨g, n * 5 + 3, none⟩ c3).setCell ⟨g, n * 5 + 4, none⟩ c4).output = w.output := by
  refine ⟨?_, ?_, ?_⟩
  · rw [(setCell_os _ _ _).1, (setCell_os _ _ _).1, (setCell_os _ _ _).1, (setCell_os _ _ _).1, (setCell_os _ _ _).1]
  · rw [(setCell_os _ _ _).2.1, (setCell_os _ _ _).2.1, (setCell_os _ _ _).2.1, (setCell_os _ _ _).2.1, (setCell_os _ _ _).2.1]
  · rw [(setCell_os _ _ _).2.2.1, (setCell_os _ _ _).2.2.1, (setCell_os _ _ _).2.2.1, (setCell_os _ _ _).2.2.1, (setCell_os _ _ _).2.2.1]
theorem set5_boxed {w : World} {g n bl : Nat} {c0 c1 c2 c3 c4 v : Value} (h : Boxed w bl 44 v) (hne : bl ≠ g) : Boxed (((((w.setCell ⟨g, n * 5, none⟩ c0).setCell ⟨g, n * 5 + 1, none⟩ c1).setCell ⟨g, n * 5 + 2, none⟩ c2).setCell ⟨g, n * 5 + 3, none⟩ c3).setCell ⟨g, n * 5 + 4, none⟩ c4) bl 44 v :=
  (set5_heap w g n c0 c1 c2 c3 c4 bl hne).trans h
/-- the element stored, then the list -/
theorem push_A {w w' : World} {B bl g n c c' : Nat} {a : Option Addr} {xs : List Value} {c0 c1 c2 c3 c4 : Value} {ks : List Tr} {k : Tr} {P : Nat → Prop} (hbl : bl < B) (hlen : ks.length = n) (hxl : xs.length = n * 5)
    (hB : B ≤ w.heap.size) (hq : KLQ w (fun b => B ≤ b ∧ b < w.heap.size ∧ (.slice a n c : Value).ownBlock ≠ some b) ks xs) (hown0 : ∀ b, (.slice a n c : Value).ownBlock = some b → B ≤ b)
    (hg : w.grownBy w' (.slice a n c : Value).ownBlock) (hm : (.slice (some ⟨g, 0, none⟩) (n + 1) c' : Value).ownBlock = (.slice a n c : Value).ownBlock ∨ w.heap.size ≤ g)
    (ho : w'.ownsRow B 46 5 (.slice (some ⟨g, 0, none⟩) (n + 1) c') (n + 1) (xs ++ zero5)) (hbx : Boxed w' bl 44 (.slice a n c))
    (hk : AtQ w' P k (.agg #[c0, c1, c2, c3, c4])) (hP : ∀ b, P b → B ≤ b ∧ b < w'.heap.size ∧ b ≠ g) :
    (∃ v', Boxed ((((((w'.setCell ⟨g, n * 5, none⟩ c0).setCell ⟨g, n * 5 + 1, none⟩ c1).setCell ⟨g, n * 5 + 2, none⟩ c2).setCell ⟨g, n * 5 + 3, none⟩ c3).setCell ⟨g, n * 5 + 4, none⟩ c4).setCell ⟨bl, 0, none⟩ (.slice (some ⟨g, 0, none⟩) (n + 1) c')) bl 44 v' ∧
      RowQ ((((((w'.setCell ⟨g, n * 5, none⟩ c0).setCell ⟨g, n * 5 + 1, none⟩ c1).setCell ⟨g, n * 5 + 2, none⟩ c2).setCell ⟨g, n * 5 + 3, none⟩ c3).setCell ⟨g, n * 5 + 4, none⟩ c4).setCell ⟨bl, 0, none⟩ (.slice (some ⟨g, 0, none⟩) (n + 1) c')) B v' (ks ++ [k])) ∧
      BelowBut B bl w ((((((w'.setCell ⟨g, n * 5, none⟩ c0).setCell ⟨g, n * 5 + 1, none⟩ c1).setCell ⟨g, n * 5 + 2, none⟩ c2).setCell ⟨g, n * 5 + 3, none⟩ c3).setCell ⟨g, n * 5 + 4, none⟩ c4).setCell ⟨bl, 0, none⟩ (.slice (some ⟨g, 0, none⟩) (n + 1) c')) := by
  have hgB : B ≤ g := (ho.lt g rfl).1
  have hs := set5_os w' g n c0 c1 c2 c3 c4
  have hw := set5_all w' g n c0 c1 c2 c3 c4
  have hr5 := row5 (c0 := c0) (c1 := c1) (c2 := c2) (c3 := c3) (c4 := c4) ho hxl
  have hb5 := set5_boxed (g := g) (n := n) (c0 := c0) (c1 := c1) (c2 := c2) (c3 := c3) (c4 := c4) hbx (by omega)
  have hh := fun b h => set5_heap w' g n c0 c1 c2 c3 c4 b h
  generalize (((((w'.setCell ⟨g, n * 5, none⟩ c0).setCell ⟨g, n * 5 + 1, none⟩ c1).setCell ⟨g, n * 5 + 2, none⟩ c2).setCell ⟨g, n * 5 + 3, none⟩ c3).setCell ⟨g, n * 5 + 4, none⟩ c4) = Y at *
  have ho5 := setCell_os Y ⟨bl, 0, none⟩ (.slice (some ⟨g, 0, none⟩) (n + 1) c')
  refine push_fin (cs := [c0, c1, c2, c3, c4]) hbl hlen hB hq hown0 hg hm (fun b h1 h2 => ?_) ⟨ho5.1.trans hw.1, ho5.2.1.trans hw.2.1, ho5.2.2.1.trans hw.2.2, ho5.2.2.2.trans hs⟩ (ownsRow_setCell_below hr5 hbl _) rfl
    (AtQ.keep (P' := P) (fun b hb => ⟨hb, ?_⟩) _ _ hk) (fun b hb => ⟨(hP b hb).1, by rw [ho5.2.2.2, hs]; exact (hP b hb).2.1, (hP b hb).2.2⟩) (hb5.set _)
  · rw [Below.heap_setCell _ _ _ _ h2, hh _ h1]
  · have := hP b hb
    rw [Below.heap_setCell _ _ _ _ (show b ≠ bl by omega), hh _ this.2.2]
/-- the list stored, then the element -/
theorem push_B {w w' : World} {B bl g n c c' : Nat} {a : Option Addr} {xs : List Value} {c0 c1 c2 c3 c4 : Value} {ks : List Tr} {k : Tr} {P : Nat → Prop} (hbl : bl < B) (hlen : ks.length = n) (hxl : xs.length = n * 5)
    (hB : B ≤ w.heap.size) (hq : KLQ w (fun b => B ≤ b ∧ b < w.heap.size ∧ (.slice a n c : Value).ownBlock ≠ some b) ks xs) (hown0 : ∀ b, (.slice a n c : Value).ownBlock = some b → B ≤ b)
    (hg : w.grownBy w' (.slice a n c : Value).ownBlock) (hm : (.slice (some ⟨g, 0, none⟩) (n + 1) c' : Value).ownBlock = (.slice a n c : Value).ownBlock ∨ w.heap.size ≤ g)
    (ho : w'.ownsRow B 46 5 (.slice (some ⟨g, 0, none⟩) (n + 1) c') (n + 1) (xs ++ zero5)) (hbx : Boxed w' bl 44 (.slice a n c))
    (hk : AtQ w' P k (.agg #[c0, c1, c2, c3, c4])) (hP : ∀ b, P b → B ≤ b ∧ b < w'.heap.size ∧ b ≠ g) :
    (∃ v', Boxed ((((((w'.setCell ⟨bl, 0, none⟩ (.slice (some ⟨g, 0, none⟩) (n + 1) c')).setCell ⟨g, n * 5, none⟩ c0).setCell ⟨g, n * 5 + 1, none⟩ c1).setCell ⟨g, n * 5 + 2, none⟩ c2).setCell ⟨g, n * 5 + 3, none⟩ c3).setCell ⟨g, n * 5 + 4, none⟩ c4) bl 44 v' ∧
      RowQ ((((((w'.setCell ⟨bl, 0, none⟩ (.slice (some ⟨g, 0, none⟩) (n + 1) c')).setCell ⟨g, n * 5, none⟩ c0).setCell ⟨g, n * 5 + 1, none⟩ c1).setCell ⟨g, n * 5 + 2, none⟩ c2).setCell ⟨g, n * 5 + 3, none⟩ c3).setCell ⟨g, n * 5 + 4, none⟩ c4) B v' (ks ++ [k])) ∧
      BelowBut B bl w ((((((w'.setCell ⟨bl, 0, none⟩ (.slice (some ⟨g, 0, none⟩) (n + 1) c')).setCell ⟨g, n * 5, none⟩ c0).setCell ⟨g, n * 5 + 1, none⟩ c1).setCell ⟨g, n * 5 + 2, none⟩ c2).setCell ⟨g, n * 5 + 3, none⟩ c3).setCell ⟨g, n * 5 + 4, none⟩ c4) := by
  have hgB : B ≤ g := (ho.lt g rfl).1
  have hs := set5_os (w'.setCell ⟨bl, 0, none⟩ (.slice (some ⟨g, 0, none⟩) (n + 1) c')) g n c0 c1 c2 c3 c4
  have hs2 := (setCell_os w' ⟨bl, 0, none⟩ (.slice (some ⟨g, 0, none⟩) (n + 1) c')).2.2.2
  have ho5 := setCell_os w' ⟨bl, 0, none⟩ (.slice (some ⟨g, 0, none⟩) (n + 1) c')
  have hy : ∀ b, b ≠ bl → (w'.setCell ⟨bl, 0, none⟩ (.slice (some ⟨g, 0, none⟩) (n + 1) c')).heap[b]? = w'.heap[b]? := fun b h => Below.heap_setCell _ _ _ _ h
  have hyo := ownsRow_setCell_below ho (a := ⟨bl, 0, none⟩) hbl (.slice (some ⟨g, 0, none⟩) (n + 1) c')
  have hyb := hbx.set (.slice (some ⟨g, 0, none⟩) (n + 1) c')
  generalize w'.setCell ⟨bl, 0, none⟩ (.slice (some ⟨g, 0, none⟩) (n + 1) c') = V at *
  have hw := set5_all V g n c0 c1 c2 c3 c4
  have hr5 := row5 (c0 := c0) (c1 := c1) (c2 := c2) (c3 := c3) (c4 := c4) hyo hxl
  have hb5 := set5_boxed (g := g) (n := n) (c0 := c0) (c1 := c1) (c2 := c2) (c3 := c3) (c4 := c4) hyb (by omega)
  have hh := fun b h => set5_heap V g n c0 c1 c2 c3 c4 b h
  generalize (((((V.setCell ⟨g, n * 5, none⟩ c0).setCell ⟨g, n * 5 + 1, none⟩ c1).setCell ⟨g, n * 5 + 2, none⟩ c2).setCell ⟨g, n * 5 + 3, none⟩ c3).setCell ⟨g, n * 5 + 4, none⟩ c4) = Y at *
  refine push_fin (cs := [c0, c1, c2, c3, c4]) hbl hlen hB hq hown0 hg hm (fun b h1 h2 => ?_) ⟨hw.1.trans ho5.1, hw.2.1.trans ho5.2.1, hw.2.2.trans ho5.2.2.1, hs.trans hs2⟩ hr5 rfl
    (AtQ.keep (P' := P) (fun b hb => ⟨hb, ?_⟩) _ _ hk) (fun b hb => ⟨(hP b hb).1, by rw [hs, hs2]; exact (hP b hb).2.1, (hP b hb).2.2⟩) hb5
  · rw [hh _ h1, hy _ h2]
  · have := hP b hb
    rw [hh _ this.2.2, hy _ (show b ≠ bl by omega)]
end Go.Proofs.YtgechifbbhipaaaDoor
