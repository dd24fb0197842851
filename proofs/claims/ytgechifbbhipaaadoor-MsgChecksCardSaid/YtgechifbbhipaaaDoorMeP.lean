/- metinf, in plain Lean: what an element says; an element that is as its rule has it is small. No condition. -/
import Derived.Test.YtgechifbbhipaaaDoorMeT
import Derived.Test.YtgechifbbhipaaaDoorMeI
import Derived.Test.YtgechifbbhipaaaDoorGrK
set_option linter.unusedVariables false
set_option linter.unusedSimpArgs false
namespace Go.Proofs.YtgechifbbhipaaaDoor
open Go.RowKit

def badE (x : Tr) : Bool := x.opq || (decide (x.text.size = 0) && decide (x.kids.length = 0))
def takeK (m : MetV) (k : Tr) : MetV × Int := takeV m k.name k.text k.kids
def foldV : MetV → List Tr → MetV × Int
  | m, [] => (m, 0)
  | m, k :: ks => if (takeK m k).2 = 0 then foldV (takeK m k).1 ks else takeK m k
def chkMV (m : MetV) : Int := chkM m.fo m.ty m.sz m.ve m.la m.ne m.no m.mm m.mo
def endV (m : MetV) : MetV × Int := if chkMV m = 0 then (m, 0) else (met0, chkMV m)
def sayV (e : Tr) : MetV × Int := if (foldV met0 e.kids).2 = 0 then endV (foldV met0 e.kids).1 else (met0, (foldV met0 e.kids).2)
/-- what an element says -/
noncomputable def ofV (e : Tr) : MetV × Int :=
  if e.page ≠ 0 ∨ e.name ≠ metaN then (met0, 5) else if (chkG e).2 ≠ 0 then (met0, (chkG e).2) else if ((preT 20 1 e).drop 1).any (fun p => badE p.2) = true then (met0, 3) else sayV e

def manyW (w : List UInt8) : Bool := decide (w.getLast? = some 42) || decide (w.getLast? = some 43)
def candW (pg : Int) (n : List UInt8) : Int × List UInt8 := if 1 < n.length ∧ n[1]? = some 46 then ((((n[0]?.getD 0).toNat : Int) - 48) % 256, n.drop 2) else (pg, n)
theorem takes1_cand {pg p : Int} {n nm : List UInt8} (h : takes1 pg n p nm = true) : (p, nm) = candW pg n := by
  unfold takes1 at h
  unfold candW
  split at h
  · rename_i hc
    rw [if_pos hc]
    simp only [Bool.and_eq_true, decide_eq_true_eq] at h
    rw [h.1, h.2]
  · rename_i hc
    rw [if_neg hc]
    simp only [Bool.and_eq_true, decide_eq_true_eq] at h
    rw [h.1, h.2]
theorem fits_few {pg : Int} : ∀ (ws : List (List UInt8)) (ks : List Tr), (∀ w ∈ ws, manyW w = false) → fitsW pg ws ks = true → ks.length ≤ ws.length ∧ ∀ k ∈ ks, ∃ w ∈ ws, w ≠ textW ∧ takesB pg (namesW w) k = true := by
  intro ws
  induction ws with
  | nil =>
    intro ks _ h
    rw [fitsW, List.isEmpty_iff] at h
    subst h
    exact ⟨Nat.le_refl _, fun k hk => by cases hk⟩
  | cons w ws ih =>
    intro ks hm h
    have hm2 : ∀ w ∈ ws, manyW w = false := fun x hx => hm x (List.mem_cons_of_mem _ hx)
    rw [fitsW] at h
    by_cases ht : w = textW
    · rw [if_pos ht] at h
      obtain ⟨h1, h2⟩ := ih ks hm2 h
      exact ⟨Nat.le_succ_of_le h1, fun k hk => by obtain ⟨x, a, b⟩ := h2 k hk; exact ⟨x, List.mem_cons_of_mem _ a, b⟩⟩
    · rw [if_neg ht] at h
      split at h
      · cases h
      · have hw := hm w List.mem_cons_self
        unfold manyW at hw
        rw [Bool.or_eq_false_iff, decide_eq_false_iff_not, decide_eq_false_iff_not] at hw
        unfold takeW at h
        rw [if_neg (by rintro (a | a); exact hw.1 a; exact hw.2 a)] at h
        cases ks with
        | nil => exact ⟨Nat.zero_le _, fun k hk => by cases hk⟩
        | cons k t =>
          simp only [] at h
          by_cases hk : takesB pg (namesW w) k = true
          · rw [if_pos hk, List.drop_succ_cons, List.drop_zero] at h
            obtain ⟨h1, h2⟩ := ih t hm2 h
            refine ⟨Nat.succ_le_succ h1, fun x hx => ?_⟩
            rcases List.mem_cons.1 hx with rfl | hx
            · exact ⟨w, List.mem_cons_self, ht, hk⟩
            · obtain ⟨y, a, b⟩ := h2 x hx
              exact ⟨y, List.mem_cons_of_mem _ a, b⟩
          · rw [if_neg hk, List.drop_zero] at h
            obtain ⟨h1, h2⟩ := ih (k :: t) hm2 h
            exact ⟨Nat.le_succ_of_le h1, fun x hx => by obtain ⟨y, a, b⟩ := h2 x hx; exact ⟨y, List.mem_cons_of_mem _ a, b⟩⟩

/-- a rule that allows few kids, and those few themselves -/
noncomputable def deepS (f : Int × List UInt8 → Bool) (c : Int × List UInt8) : Bool := match ruleF c.1 c.2 with
  | none => false
  | some r => decide ((wordsR r).length ≤ 8) && (wordsR r).all fun w => !manyW w && (w == textW || (cutB 124 (namesW w)).all fun x => f (candW c.1 x))
noncomputable def deepOk : Nat → Int × List UInt8 → Bool
  | 0 => fun _ => false
  | n + 1 => deepS (deepOk n)
theorem deepOk_zero (c : Int × List UInt8) : deepOk 0 c = false := rfl
theorem deepOk_succ (n : Nat) (c : Int × List UInt8) (r : List UInt8) (hr : ruleF c.1 c.2 = some r) : deepOk (n + 1) c = (decide ((wordsR r).length ≤ 8) && (wordsR r).all fun w => !manyW w && (w == textW || (cutB 124 (namesW w)).all fun x => deepOk n (candW c.1 x))) := by
  show deepS (deepOk n) c = _
  unfold deepS
  rw [hr]
def mostN : Nat → Nat
  | 0 => 0
  | n + 1 => 1 + 8 * mostN n
theorem hL_le {n : Nat} : ∀ ks : List Tr, (∀ k ∈ ks, hT k ≤ n) → hL ks ≤ n
  | [], _ => by rw [hL]; exact Nat.zero_le _
  | k :: ks, h => by
    rw [hL]
    have h1 := h k List.mem_cons_self
    have h2 := hL_le ks (fun x hx => h x (List.mem_cons_of_mem _ hx))
    omega
theorem preL_most {g m d : Nat} : ∀ ks : List Tr, (∀ k ∈ ks, (preT m d k).length ≤ g) → (preL m d ks).length ≤ ks.length * g
  | [], _ => by rw [preL]; simp
  | k :: ks, h => by
    rw [preL, List.length_append, List.length_cons, Nat.succ_mul]
    have h1 := h k List.mem_cons_self
    have h2 := preL_most ks (fun x hx => h x (List.mem_cons_of_mem _ hx))
    omega
set_option maxRecDepth 100000 in
theorem deep_of : ∀ (n : Nat) (x : Tr), deepOk n (x.page, x.name.data.toList) = true → (chkG x).2 = 0 → hT x ≤ n ∧ ∀ m d, (preT m d x).length ≤ mostN n := by
  intro n
  induction n with
  | zero =>
    intro x h
    have h0 : deepOk 0 (x.page, x.name.data.toList) = false := deepOk_zero _
    rw [h0] at h
    exact absurd h (fun e => by cases e)
  | succ n ih =>
    intro x h hg
    obtain ⟨r, h1, h2, _⟩ := chkG_self hg
    rw [deepOk_succ n _ r h1] at h
    simp only [Bool.and_eq_true, decide_eq_true_eq] at h
    obtain ⟨h3, h4⟩ := h
    have h5 := List.all_eq_true.1 h4
    obtain ⟨h6, h7⟩ := fits_few (wordsR r) x.kids (fun w hw => by
      have := h5 w hw
      simp only [Bool.and_eq_true, Bool.not_eq_true'] at this
      exact this.1) h2
    have hk : ∀ k ∈ x.kids, hT k ≤ n ∧ ∀ m d, (preT m d k).length ≤ mostN n := fun k hk => by
      obtain ⟨w, hw, ht, htk⟩ := h7 k hk
      have h8 := h5 w hw
      simp only [Bool.and_eq_true, Bool.or_eq_true, beq_iff_eq] at h8
      rcases h8.2 with h9 | h9
      · exact absurd h9 ht
      · unfold takesB takesV at htk
        obtain ⟨y, hy, hy2⟩ := List.any_eq_true.1 htk
        have h10 := List.all_eq_true.1 h9 y hy
        rw [← takes1_cand hy2] at h10
        exact ih k h10 (chkG_kid hk hg)
    refine ⟨?_, fun m d => ?_⟩
    · have := hL_le x.kids (fun k hk2 => (hk k hk2).1)
      cases x
      rw [hT]
      exact Nat.succ_le_succ this
    · by_cases hd : m < d
      · rw [preT_deep hd]; exact Nat.zero_le _
      · rw [preT_in hd, List.length_cons, mostN]
        have h8 := preL_most x.kids (fun k hk2 => (hk k hk2).2 m (d + 1))
        have h9 : x.kids.length * mostN n ≤ 8 * mostN n := Nat.mul_le_mul_right _ (Nat.le_trans h6 h3)
        omega
theorem meta_deep : deepOk 3 (0, metaN.data.toList) = true := by kernel_rfl
/-- what the reference looks at is all that there is -/
theorem meta_all {e : Tr} (hp : e.page = 0) (hn : e.name = metaN) (hg : (chkG e).2 = 0) : (preT 5 1 e).take 100 = preT 20 1 e := by
  obtain ⟨h1, h2⟩ := deep_of 3 e (by rw [hp, hn]; exact meta_deep) hg
  rw [preT_full (m := 20) (m' := 5) 1 e (by omega) (by omega)]
  have h3 := h2 5 1
  exact List.take_of_length_le (by have : mostN 3 = 73 := rfl; omega)
end Go.Proofs.YtgechifbbhipaaaDoor

/- metinf: the reference's Of. No condition. -/
set_option linter.unusedVariables false
set_option linter.unusedSimpArgs false
namespace Go.Proofs.YtgechifbbhipaaaDoor
open Go.RowKit

theorem results_row_tmp {fn : Func} {p q : Tmp} {ty : TypeId} {P : Program} (h : fn.results = #[.cell p ty, .tmp q]) {tmps : Array Value} {w : World} {g : Nat} {v u : Value}
    (hp : tmps.getD p undef = .pointer (some ⟨g, 0, none⟩)) (hq : tmps.getD q undef = u) (hl : (loadVar ty ⟨g, 0, none⟩).run P w = .ok v w) :
    (results fn tmps).run P w = .ok (.tuple #[v, u]) w := by
  have hp' : tmps[p]?.getD undef = .pointer (some ⟨g, 0, none⟩) := by simpa using hp
  have hq' : tmps[q]?.getD undef = u := by simpa using hq
  simp [results, h, hp', hq', asAddr, hl]

def SmallK (k : Tr) : Prop := k.kids.length ≤ 200 ∧ k.text.size ≤ 4000 ∧ ∀ q ∈ k.kids, q.text.size ≤ 4000
theorem smallK {e k : Tr} (hg : (chkG e).2 = 0) (hk : k ∈ e.kids) : SmallK k := by
  have self : ∀ x : Tr, (chkG x).2 = 0 → x.kids.length ≤ 200 ∧ x.text.size ≤ 4000 := fun x hx => by
    obtain ⟨_, _, _, _, h1, h2⟩ := chkA_mem (x := x) (chkG_zero hx).1 (by rw [preT_in (by omega), List.map_cons]; exact List.mem_cons_self)
    exact ⟨h1, h2⟩
  have h1 := chkG_kid hk hg
  exact ⟨(self k h1).1, (self k h1).2, fun q hq => (self q (chkG_kid hq h1)).2⟩

def SmallM (m : MetV) : Prop := m.fo.size ≤ 4000 ∧ m.ty.size ≤ 4000 ∧ m.la.size ≤ 4000 ∧ m.ne.size ≤ 4000 ∧ m.no.size ≤ 4000
theorem textK_small {ks : List Tr} (h : ∀ q ∈ ks, q.text.size ≤ 4000) (key : ByteArray) : (textK ks key).1.size ≤ 4000 := by
  unfold textK
  cases hf : flK key ks with
  | nil => exact Nat.zero_le _
  | cons k l =>
    have hm : k ∈ flK key ks := by rw [hf]; exact List.mem_cons_self
    exact h k (List.mem_filter.1 hm).1
/-- the variables: the element, the result, what is said so far -/
def RSt (z bm : Nat) (cb : Array Value) (m : MetV) (X : World) : Prop :=
  X.heap[z]? = some (.cells cb 46 (0, 0)) ∧ X.heap[z + 1]? = some (.cells met0.cells 23 (0, 0)) ∧ MetB bm m X ∧ z + 2 ≤ bm
theorem RSt.below {z bm : Nat} {cb : Array Value} {m : MetV} {X Y : World} (h : RSt z bm cb m X) (hb : Below X.heap.size X Y) : RSt z bm cb m Y :=
  ⟨(hb.block z (Array.getElem?_eq_some_iff.1 h.1).1).trans h.1, (hb.block (z + 1) (Array.getElem?_eq_some_iff.1 h.2.1).1).trans h.2.1, h.2.2.1.low hb, h.2.2.2⟩
theorem RSt.set {z bm : Nat} {cb : Array Value} {m m' : MetV} {X : World} (h : RSt z bm cb m X) (j : Nat) (v : Value) (hm : m.cells.setIfInBounds j v = m'.cells) : RSt z bm cb m' (X.setCell ⟨bm, j, none⟩ v) :=
  ⟨(Below.heap_setCell _ _ _ _ (by show z ≠ bm; have := h.2.2.2; omega)).trans h.1, (Below.heap_setCell _ _ _ _ (by show z + 1 ≠ bm; have := h.2.2.2; omega)).trans h.2.1, h.2.2.1.set j v hm, h.2.2.2⟩

set_option maxRecDepth 100000 in
set_option maxHeartbeats 4000000 in
theorem refOf_any (e : Tr) (v : Value) (w : World) (hv : AtT w w.heap.size e v) :
    Calls Tryd.prog 36 #[v] w fun r w' => r = .returned (.tuple #[.agg (ofV e).1.cells, .int .i64 (ofV e).2]) ∧ Below w.heap.size w w' := by
  obtain ⟨hz1, hz2, hz3, a, c, rfl, hk⟩ := hv.parts
  by_cases hpn : e.page ≠ 0 ∨ e.name ≠ metaN
  · have hV : ofV e = (met0, 5) := by unfold ofV; rw [if_pos hpn]
    rw [hV]
    have key : (¬ e.page = 0) ∨ (e.page = 0 ∧ (e.name.toList == [77, 101, 116, 97]) = false) := by
      by_cases h : e.page = 0
      · refine .inr ⟨h, nameN (w := metaN) (hpn.resolve_left (fun h2 => h2 h)) rfl⟩
      · exact .inl h
    clear hv hk hV hpn hz1 hz2 hz3
    generalize e.page = p at *
    generalize e.name = nm at *
    generalize e.text = tx at *
    generalize e.opq = o at *
    generalize e.kids.length = nk at *
    rcases key with h1 | ⟨h1, h2⟩
    · go_enter Tryd.func36, Tryd.ntmps36
      go_wp2_with fail
      exact bodyPost_ret (results_row_tmp rfl rfl rfl (run_loadVar_row _ (w.heap.size + 1) 23 23 met0.cells (0, 0) _ (by have h := World.alloc_heap_new (w.alloc (.cells #[.int .i64 p, .string nm, .string tx, .bool o, .slice a nk c] 46)) (.cells #[.string ⟨#[]⟩, .string ⟨#[]⟩, .int .i64 0, .int .i64 0, .string ⟨#[]⟩, .string ⟨#[]⟩, .string ⟨#[]⟩, .int .i64 0, .int .i64 0] 23); rw [World.size_alloc] at h; exact h) Tryd.underlying23 rfl (by kernel_rfl))) rfl ⟨rfl, ((Below.refl _ w).alloc (Nat.le_refl _) _).alloc (by simp) _⟩
    · subst h1
      go_enter Tryd.func36, Tryd.ntmps36
      go_wp2_with fail
      exact bodyPost_ret (results_row_tmp rfl rfl rfl (run_loadVar_row _ (w.heap.size + 1) 23 23 met0.cells (0, 0) _ (by have h := World.alloc_heap_new (w.alloc (.cells #[.int .i64 0, .string nm, .string tx, .bool o, .slice a nk c] 46)) (.cells #[.string ⟨#[]⟩, .string ⟨#[]⟩, .int .i64 0, .int .i64 0, .string ⟨#[]⟩, .string ⟨#[]⟩, .string ⟨#[]⟩, .int .i64 0, .int .i64 0] 23); rw [World.size_alloc] at h; exact h) Tryd.underlying23 rfl (by kernel_rfl))) rfl ⟨rfl, ((Below.refl _ w).alloc (Nat.le_refl _) _).alloc (by simp) _⟩
  · have hp : e.page = 0 := Classical.byContradiction fun h => hpn (.inl h)
    have hn : e.name = metaN := Classical.byContradiction fun h => hpn (.inr h)
    have hnm : (e.name.toList == [77, 101, 116, 97]) = true := nameY (w := metaN) hn rfl
    have HZ0 : Hid (((w.alloc (.cells #[.int .i64 e.page, .string e.name, .string e.text, .bool e.opq, .slice a e.kids.length c] 46)).alloc (.cells #[.string ⟨#[]⟩, .string ⟨#[]⟩, .int .i64 0, .int .i64 0, .string ⟨#[]⟩, .string ⟨#[]⟩, .string ⟨#[]⟩, .int .i64 0, .int .i64 0] 23)).heap[w.heap.size + 1]? = some (.cells met0.cells 23 (0, 0))) := by
      have h := World.alloc_heap_new (w.alloc (.cells #[.int .i64 e.page, .string e.name, .string e.text, .bool e.opq, .slice a e.kids.length c] 46)) (.cells #[.string ⟨#[]⟩, .string ⟨#[]⟩, .int .i64 0, .int .i64 0, .string ⟨#[]⟩, .string ⟨#[]⟩, .string ⟨#[]⟩, .int .i64 0, .int .i64 0] 23)
      rw [World.size_alloc] at h; exact h
    have HBox : Hid (Below w.heap.size w ((w.alloc (.cells #[.int .i64 e.page, .string e.name, .string e.text, .bool e.opq, .slice a e.kids.length c] 46)).alloc (.cells #[.string ⟨#[]⟩, .string ⟨#[]⟩, .int .i64 0, .int .i64 0, .string ⟨#[]⟩, .string ⟨#[]⟩, .string ⟨#[]⟩, .int .i64 0, .int .i64 0] 23))) := ((Below.refl _ w).alloc (Nat.le_refl _) _).alloc (by simp) _
    have HBk0 : Hid (((w.alloc (.cells #[.int .i64 e.page, .string e.name, .string e.text, .bool e.opq, .slice a e.kids.length c] 46)).alloc (.cells #[.string ⟨#[]⟩, .string ⟨#[]⟩, .int .i64 0, .int .i64 0, .string ⟨#[]⟩, .string ⟨#[]⟩, .string ⟨#[]⟩, .int .i64 0, .int .i64 0] 23)).heap[w.heap.size]? = some (.cells #[.int .i64 e.page, .string e.name, .string e.text, .bool e.opq, .slice a e.kids.length c] 46 (0, 0))) := (Below.heap_alloc _ _ _ (by simp)).trans (World.alloc_heap_new w _)
    have HSz0 : Hid (((w.alloc (.cells #[.int .i64 e.page, .string e.name, .string e.text, .bool e.opq, .slice a e.kids.length c] 46)).alloc (.cells #[.string ⟨#[]⟩, .string ⟨#[]⟩, .int .i64 0, .int .i64 0, .string ⟨#[]⟩, .string ⟨#[]⟩, .string ⟨#[]⟩, .int .i64 0, .int .i64 0] 23)).heap.size = w.heap.size + 2) := by unfold Hid; rw [World.size_alloc, World.size_alloc]
    have cC := Lib.hid (fun X (hX : Below w.heap.size w X) => gRefCheck_any e _ X (AtT.mono hX.size _ _ (AtT.below hX _ _ hv)))
    have cA := Lib.hid (fun X (hX : Below w.heap.size w X) => all_any 100 5 (by decide) (by decide) e _ X (AtT.mono hX.size _ _ (AtT.below hX _ _ hv)))
    have HKs := Lib.hid hk
    by_cases hg : (chkG e).2 = 0
    case neg =>
      have hV : ofV e = (met0, (chkG e).2) := by unfold ofV; rw [if_neg hpn, if_pos hg]
      rw [hV]
      have q1 : ((chkG e).2 != 0) = true := bne_iff_ne.2 hg
      clear hV hg hpn hn hz1 hz2 hz3 hk hv cA HKs
      generalize (chkG e).1 = n at *
      generalize (chkG e).2 = f at *
      generalize e.page = p at *
      generalize e.name = nm at *
      generalize e.text = tx at *
      generalize e.opq = o at *
      generalize e.kids.length = nk at *
      subst hp
      go_enter Tryd.func36, Tryd.ntmps36
      go_wp2_with fail
      have cX := cC.out _ HBox.out
      refine cX.mono ?_
      clear cX cC
      rintro r X1 ⟨rfl, hb1⟩
      have HX1 := Lib.hid (HBox.out.trans (hb1.mono HBox.out.size))
      have HZ1 : Hid (X1.heap[w.heap.size + 1]? = some (.cells met0.cells 23 (0, 0))) := (hb1.block (w.heap.size + 1) (by have := HSz0.out; unfold Hid at this; omega)).trans HZ0.out
      clear hb1
      go_wp2_with (refine wpList_store_row rfl 23 (.tmp 2) (.tmp 29) rfl (w.heap.size + 1) #[.string ⟨#[]⟩, .string ⟨#[]⟩, .int .i64 0, .int .i64 0, .string ⟨#[]⟩, .string ⟨#[]⟩, .string ⟨#[]⟩, .int .i64 0, .int .i64 0] rfl rfl 23 _ HZ1.out (by kernel_rfl) rfl (by simp [Value.oneCell']) ?_)
      exact bodyPost_ret (results_row_tmp rfl rfl rfl (run_loadVar_row _ (w.heap.size + 1) 23 23 met0.cells (0, 0) _ (setRow_heap _ _ _ _ _ _ HZ1.out) Tryd.underlying23 rfl (by kernel_rfl))) rfl ⟨rfl, HX1.out.trans (below_setRow _ _ (Nat.le_succ _))⟩
    case pos =>
      have hall := meta_all hp hn hg
      have hV : ofV e = if ((preT 20 1 e).drop 1).any (fun p => badE p.2) = true then (met0, 3) else sayV e := by unfold ofV; rw [if_neg hpn, if_neg (fun h => h hg)]
      have HBad : Hid (∀ i l, (preT 20 1 e)[i]? = some l → 1 ≤ i → badE l.2 = true → ofV e = (met0, 3)) := fun i l hl hi hb => by
        rw [hV, if_pos]
        refine List.any_eq_true.2 ⟨l, ?_, hb⟩
        obtain ⟨j, rfl⟩ : ∃ j, i = j + 1 := ⟨i - 1, by omega⟩
        exact List.mem_of_getElem? (i := j) (by rw [List.getElem?_drop, Nat.add_comm]; exact hl)
      have HGood : Hid ((∀ i l, (preT 20 1 e)[i]? = some l → 1 ≤ i → badE l.2 = false) → ofV e = sayV e) := fun h => by
        rw [hV, if_neg]
        rw [Bool.not_eq_true, List.any_eq_false]
        intro l hl
        obtain ⟨j, hj⟩ := List.getElem?_of_mem hl
        rw [List.getElem?_drop] at hj
        rw [h (1 + j) l hj (by omega)]; simp
      have HLen : Hid (1 ≤ (preT 20 1 e).length ∧ (preT 20 1 e).length ≤ 2000) := by
        refine ⟨by rw [preT_in (by omega)]; simp, chkA_len (chkG_zero hg).1⟩
      have HKf : Hid (∀ k ∈ e.kids, SmallK k) := fun k hk2 => smallK hg hk2
      have HSay : Hid (sayV e = if (foldV met0 e.kids).2 = 0 then endV (foldV met0 e.kids).1 else (met0, (foldV met0 e.kids).2)) := rfl
      have HKl : Hid (e.kids.length ≤ 200) := by obtain ⟨_, _, _, _, _, _, _, h⟩ := chkG_self hg; exact h
      rw [hall] at cA
      rw [hg] at cC
      clear hV hall hg hpn hn hz1 hz2 hz3 hk hv
      generalize (chkG e).1 = n1 at *
      generalize preT 20 1 e = L at *
      generalize ofV e = R at *
      generalize sayV e = RS at *
      obtain ⟨ks, hks⟩ : ∃ ks, e.kids = ks := ⟨_, rfl⟩
      rw [hks] at HKs HKf HKl HSay HBox HZ0 HBk0 HSz0 cC cA ⊢
      generalize e.page = p at *
      generalize e.name = nm at *
      generalize e.text = tx at *
      generalize e.opq = o at *
      clear hks
      generalize hnk : ks.length = nk at *
      have HNK := Lib.hid hnk
      clear hnk
      subst hp
      go_enter Tryd.func36, Tryd.ntmps36
      go_wp2_with fail
      have cX := cC.out _ HBox.out
      refine cX.mono ?_
      clear cX cC
      rintro r X1 ⟨rfl, hb1⟩
      have HX1 := Lib.hid (HBox.out.trans (hb1.mono HBox.out.size))
      have HZ1 : Hid (X1.heap[w.heap.size + 1]? = some (.cells met0.cells 23 (0, 0))) := (hb1.block (w.heap.size + 1) (by have := HSz0.out; unfold Hid at this; omega)).trans HZ0.out
      have HBk1 : Hid (X1.heap[w.heap.size]? = some (.cells #[.int .i64 0, .string nm, .string tx, .bool o, .slice a nk c] 46 (0, 0))) := (hb1.block w.heap.size (by have := HSz0.out; unfold Hid at this; omega)).trans HBk0.out
      have HSz1 : Hid (w.heap.size + 2 ≤ X1.heap.size) := by have h1 := HSz0.out; have h2 := hb1.size; unfold Hid at *; omega
      have y0 := cell_block HBk1.out 0 _ rfl
      have y1 := cell_block HBk1.out 1 _ rfl
      have y2 := cell_block HBk1.out 2 _ rfl
      have y3 := cell_block HBk1.out 3 _ rfl
      have y4 := cell_block HBk1.out 4 _ rfl
      clear hb1
      go_wp2_with fail
      have cX := cA.out _ HX1.out
      refine cX.mono ?_
      clear cX cA
      rintro r w5 ⟨⟨l, rfl, aL, cL, xsL, rfl, ho, hpl⟩, hb5⟩
      have HO := Lib.hid ho
      have HP := Lib.hid hpl
      have HX5 := Lib.hid (HX1.out.trans (hb5.mono HX1.out.size))
      have HZ5 : Hid (w5.heap[w.heap.size + 1]? = some (.cells met0.cells 23 (0, 0))) := (hb5.block (w.heap.size + 1) (by have := HSz1.out; unfold Hid at this; omega)).trans HZ1.out
      have HBk5 : Hid (w5.heap[w.heap.size]? = some (.cells #[.int .i64 0, .string nm, .string tx, .bool o, .slice a nk c] 46 (0, 0))) := (hb5.block w.heap.size (by have := HSz1.out; unfold Hid at this; omega)).trans HBk1.out
      have HSz5 : Hid (w.heap.size + 2 ≤ w5.heap.size) := Nat.le_trans HSz1.out hb5.size
      clear ho hpl hb5 y0 y1 y2 y3 y4
      go_wp2_with fail
      go_loopw [7, 8] (fun iv _ wr => ∃ i : Nat, 1 ≤ i ∧ i ≤ L.length ∧ iv = .int .i64 (i : Int) ∧ Hid (Below w5.heap.size w5 wr) ∧ Hid (∀ j l, L[j]? = some l → 1 ≤ j → j < i → badE l.2 = false)) (fun iv _ _ => L.length - (intOf iv).toNat)
      case atStart => exact ⟨1, Nat.le_refl _, HLen.out.1, rfl, Below.refl _ _, fun j l _ h1 h2 => by omega⟩
      case round =>
        obtain ⟨i, hi1, hi2, rfl, HB, HG⟩ := hrel
        by_cases hlt : i < L.length
        · have j3 : (i : Int) < (L.length : Int) := by omega
          have d3 : decide (i < L.length) = true := by simp; omega
          have hL2 := HLen.out.2
          have hw1 : wrap64 ((i : Int) + 1) = (i : Int) + 1 := by unfold wrap64; omega
          have HMs : Hid (L.length - (intOf (.int .i64 ((i : Int) + 1))).toNat < L.length - (intOf (.int .i64 (i : Int))).toNat) := by unfold Hid; simp [intOf]; omega
          obtain ⟨g, a2, c2, rfl, hrg, hat⟩ := HP.out.at HO.out i hlt
          have hgl : g < w5.heap.size := World.block_lt_of_cell? _ _ (hrg 0 _ rfl)
          have x0 : wr.cell? ⟨g, i * 6 + 1, none⟩ = _ := (HB.out.cell (p := ⟨g, i * 6 + 1, none⟩) hgl).trans (hrg 1 _ rfl)
          have x1 : wr.cell? ⟨g, i * 6 + 1 + 1, none⟩ = _ := (HB.out.cell (p := ⟨g, i * 6 + 1 + 1, none⟩) hgl).trans (hrg 2 _ rfl)
          have x2 : wr.cell? ⟨g, i * 6 + 1 + 2, none⟩ = _ := (HB.out.cell (p := ⟨g, i * 6 + 1 + 2, none⟩) hgl).trans (hrg 3 _ rfl)
          have x3 : wr.cell? ⟨g, i * 6 + 1 + 3, none⟩ = _ := (HB.out.cell (p := ⟨g, i * 6 + 1 + 3, none⟩) hgl).trans (hrg 4 _ rfl)
          have x4 : wr.cell? ⟨g, i * 6 + 1 + 4, none⟩ = _ := (HB.out.cell (p := ⟨g, i * 6 + 1 + 4, none⟩) hgl).trans (hrg 5 _ rfl)
          have hB := HBad.out i _ (List.getElem?_eq_getElem hlt) hi1
          have hGn : badE L[i].2 = false → ∀ j l, L[j]? = some l → 1 ≤ j → j < i + 1 → badE l.2 = false := fun h j l hj h1 h2 => by
            by_cases e : j = i
            · subst e; rw [List.getElem?_eq_getElem hlt] at hj; cases hj; exact h
            · exact HG.out j l hj h1 (by omega)
          have hbe : badE L[i].2 = (L[i].2.opq || (decide (L[i].2.text.size = 0) && decide (L[i].2.kids.length = 0))) := rfl
          rw [hbe] at hB hGn
          have HI2 : Hid (i + 1 ≤ L.length) := hlt
          have HI1 : Hid (1 ≤ i + 1) := by unfold Hid; omega
          clear hrg hat hbe hL2
          generalize L[i].2.page = kp at *
          generalize L[i].2.name = kn at *
          generalize L[i].2.text = kt at *
          generalize L[i].2.opq = ko at *
          generalize L[i].2.kids.length = kl at *
          have HW1 := Lib.hid hw1
          have HBi := Lib.hid hB
          have HGi := Lib.hid hGn
          have HXr : Hid (Below w.heap.size w (wr.alloc (.cells #[.int .i64 kp, .string kn, .string kt, .bool ko, .slice a2 kl c2] 46))) := (HX5.out.trans (HB.out.mono HX5.out.size)).alloc (Nat.le_trans HX5.out.size HB.out.size) _
          have HZr : Hid ((wr.alloc (.cells #[.int .i64 kp, .string kn, .string kt, .bool ko, .slice a2 kl c2] 46)).heap[w.heap.size + 1]? = some (.cells met0.cells 23 (0, 0))) := (Below.heap_alloc _ _ _ (by have h1 := HSz5.out; have h2 := HB.out.size; unfold Hid at *; omega)).trans ((HB.out.block (w.heap.size + 1) (by have h1 := HSz5.out; unfold Hid at h1; omega)).trans HZ5.out)
          have HBn : Hid (Below w5.heap.size w5 (wr.alloc (.cells #[.int .i64 kp, .string kn, .string kt, .bool ko, .slice a2 kl c2] 46))) := HB.out.alloc HB.out.size _
          clear hB hGn hi1 hi2 hlt hw1
          have hw1 := HW1.out
          cases ko with
          | true =>
            have HBi2 : Hid (R = (met0, 3)) := HBi.out (by rw [Bool.true_or])
            clear HBi HGi
            go_upto_region 12 with fail
            go_wp2_with (refine wpList_store_row rfl 23 (.tmp 2) (.tmp 57) rfl (w.heap.size + 1) #[.string ⟨#[]⟩, .string ⟨#[]⟩, .int .i64 0, .int .i64 0, .string ⟨#[]⟩, .string ⟨#[]⟩, .string ⟨#[]⟩, .int .i64 0, .int .i64 0] rfl rfl 23 _ HZr.out (by kernel_rfl) rfl (by simp [Value.oneCell']) ?_)
            exact bodyPost_ret (results_row_tmp rfl rfl rfl (run_loadVar_row _ (w.heap.size + 1) 23 23 met0.cells (0, 0) _ (setRow_heap _ _ _ _ _ _ HZr.out) Tryd.underlying23 rfl (by kernel_rfl))) rfl ⟨by rw [HBi2.out]; rfl, HXr.out.trans (below_setRow _ _ (Nat.le_succ _))⟩
          | false =>
            by_cases hs : kt.size = 0
            · have i1 := emptyB kt hs
              by_cases hk0 : kl = 0
              · have q0 : ((kl : Int) == 0) = true := by rw [hk0]; rfl
                have HBi2 : Hid (R = (met0, 3)) := HBi.out (by rw [decide_eq_true hs, decide_eq_true hk0]; rfl)
                clear hs hk0
                go_upto_region 12 with fail
                go_wp2_with (refine wpList_store_row rfl 23 (.tmp 2) (.tmp 57) rfl (w.heap.size + 1) #[.string ⟨#[]⟩, .string ⟨#[]⟩, .int .i64 0, .int .i64 0, .string ⟨#[]⟩, .string ⟨#[]⟩, .string ⟨#[]⟩, .int .i64 0, .int .i64 0] rfl rfl 23 _ HZr.out (by kernel_rfl) rfl (by simp [Value.oneCell']) ?_)
                exact bodyPost_ret (results_row_tmp rfl rfl rfl (run_loadVar_row _ (w.heap.size + 1) 23 23 met0.cells (0, 0) _ (setRow_heap _ _ _ _ _ _ HZr.out) Tryd.underlying23 rfl (by kernel_rfl))) rfl ⟨by rw [HBi2.out]; rfl, HXr.out.trans (below_setRow _ _ (Nat.le_succ _))⟩
              · have q0 : ((kl : Int) == 0) = false := by rw [beq_eq_false_iff_ne]; omega
                have HGi2 := Lib.hid (HGi.out (by rw [decide_eq_false hk0]; simp))
                clear hs hk0
                go_wp2_with fail
                go_roundw
                case rel => exact ⟨i + 1, HI1.out, HI2.out, by go_num, HBn.out, HGi2.out⟩
                case measure => first | exact HMs.out | (rw [HW1.out]; exact HMs.out)
            · have i1 := not_empty kt hs
              have HGi2 := Lib.hid (HGi.out (by rw [decide_eq_false hs]; simp))
              clear hs
              go_wp2_with fail
              go_roundw
              case rel => exact ⟨i + 1, HI1.out, HI2.out, by go_num, HBn.out, HGi2.out⟩
              case measure => first | exact HMs.out | (rw [HW1.out]; exact HMs.out)
        · have hRS0 : R = RS := HGood.out (fun j l hj h1 => HG.out j l hj h1 (by have := (List.getElem?_eq_some_iff.1 hj).1; omega))
          have hRS := Lib.hid hRS0
          have HXw : Hid (Below w.heap.size w wr) := HX5.out.trans (HB.out.mono HX5.out.size)
          have j3 : ¬ (i : Int) < (L.length : Int) := by omega
          have HSz6 : Hid (w.heap.size + 2 ≤ wr.heap.size) := Nat.le_trans HSz5.out HB.out.size
          have HZw : Hid (wr.heap[w.heap.size + 1]? = some (.cells met0.cells 23 (0, 0))) := (HB.out.block (w.heap.size + 1) (by have h1 := HSz5.out; unfold Hid at h1; omega)).trans HZ5.out
          have HBkw : Hid (wr.heap[w.heap.size]? = some (.cells #[.int .i64 0, .string nm, .string tx, .bool o, .slice a nk c] 46 (0, 0))) := (HB.out.block w.heap.size (by have h1 := HSz5.out; unfold Hid at h1; omega)).trans HBk5.out
          obtain ⟨CB, hCB⟩ : ∃ CB : Array Value, (#[.int .i64 0, .string nm, .string tx, .bool o, .slice a nk c] : Array Value) = CB := ⟨_, rfl⟩
          have hCB4 : CB[4]? = some (.slice a nk c) := by rw [← hCB]; rfl
          have HCB4 := Lib.hid hCB4
          have HRS0 : Hid (RSt w.heap.size wr.heap.size CB met0 (wr.alloc (.cells #[.string ⟨#[]⟩, .string ⟨#[]⟩, .int .i64 0, .int .i64 0, .string ⟨#[]⟩, .string ⟨#[]⟩, .string ⟨#[]⟩, .int .i64 0, .int .i64 0] 23))) := ⟨(Below.heap_alloc _ _ _ (by have h1 := HSz6.out; unfold Hid at h1; omega)).trans (hCB ▸ HBkw.out), (Below.heap_alloc _ _ _ (by have h1 := HSz6.out; unfold Hid at h1; omega)).trans HZw.out, World.alloc_heap_new wr _, HSz6.out⟩
          have HXa : Hid (Below w.heap.size w (wr.alloc (.cells #[.string ⟨#[]⟩, .string ⟨#[]⟩, .int .i64 0, .int .i64 0, .string ⟨#[]⟩, .string ⟨#[]⟩, .string ⟨#[]⟩, .int .i64 0, .int .i64 0] 23))) := HXw.out.alloc HXw.out.size _
          clear hCB hCB4 hRS0 HBad HGood HLen HO HP HX1 HZ1 HBk1 HSz1 HX5 HZ5 HBk5 HSz5 HBox HZ0 HBk0 HSz0 HZw HBkw hi1 hi2 hlt
          go_wp2_with fail
          generalize hbm : wr.heap.size = bm at *
          generalize wr.alloc (.cells #[.string ⟨#[]⟩, .string ⟨#[]⟩, .int .i64 0, .int .i64 0, .string ⟨#[]⟩, .string ⟨#[]⟩, .string ⟨#[]⟩, .int .i64 0, .int .i64 0] 23) = wm at *
          clear HB HG HXw HSz6 hbm j3
          go_loopw [5, 10, 11, 12] (fun fv iv _ _ wr => ∃ (i : Nat) (m : MetV), i ≤ nk ∧ fv = .int .i64 0 ∧ iv = .int .i64 (i : Int) ∧ Hid (RSt w.heap.size bm CB m wr) ∧ Hid (Below w.heap.size w wr) ∧ Hid (foldV met0 ks = foldV m (ks.drop i)) ∧ Hid (SmallM m)) (fun _ iv _ _ _ => nk - (intOf iv).toNat)
          case atStart => exact ⟨0, met0, Nat.zero_le _, rfl, rfl, HRS0.out, HXa.out, rfl, by unfold Hid SmallM met0; decide⟩
          case round =>
            obtain ⟨i, m, hi, rfl, rfl, HR, HX, HFo, HSm⟩ := hrel
            clear HRS0 HXa
            have y4 := cell_block HR.out.1 4 _ HCB4.out
            by_cases hlt : i < nk
            · have j3 : (i : Int) < (nk : Int) := by omega
              have d3 : decide (i < nk) = true := by simp; omega
              have HMs : Hid (nk - (intOf (.int .i64 ((i : Int) + 1))).toNat < nk - (intOf (.int .i64 (i : Int))).toNat) := by unfold Hid; simp [intOf]; omega
              have HI1 : Hid (i + 1 ≤ nk) := hlt
              have hik : i < ks.length := by rw [HNK.out]; exact hlt
              have hw1 : wrap64 ((i : Int) + 1) = (i : Int) + 1 := by
                have h1 := HKl.out
                unfold Hid at h1
                unfold wrap64; omega
              have HW1 := Lib.hid hw1
              obtain ⟨bb, oo, a2, c2, rfl, hbb, hrg0, hat⟩ := HKs.out.kid i hik
              have hrg := range_below hrg0 HX.out hbb
              obtain ⟨x0, x1, x2, x3, x4⟩ := elem_cells hrg
              obtain ⟨hk1, hk2, hk3⟩ := HKf.out ks[i] (List.getElem_mem hik)
              obtain ⟨_, _, _, a2', c2', he2, hkk0⟩ := hat.parts
              have HKt : Hid (ks[i].text.size ≤ 4000) := hk2
              have HTx : Hid (∀ key, (textK ks[i].kids key).1.size ≤ 4000) := fun key => textK_small hk3 key
              have hkk : AtL w w.heap.size a2 0 ks[i].kids := by
                have h2 : a2 = a2' ∧ c2 = c2' := by simpa using he2
                rw [h2.1]; exact hkk0
              have cT := Lib.hid (fun (key : ByteArray) X (hX : Below w.heap.size w X) => textR_any ks[i].page ks[i].name ks[i].text ks[i].opq a2 c2 w.heap.size ks[i].kids key X hX.size (AtL.below hX a2 ks[i].kids 0 hkk) (by omega))
              have cR := Lib.hid (fun X => refRead_any ks[i].text X (by omega))
              have hdrop : ks.drop i = ks[i] :: ks.drop (i + 1) := List.drop_eq_getElem_cons hik
              have hst : (takeV m ks[i].name ks[i].text ks[i].kids).2 = 0 → foldV met0 ks = foldV (takeV m ks[i].name ks[i].text ks[i].kids).1 (ks.drop (i + 1)) := fun h => by
                rw [HFo.out, hdrop, foldV]; exact if_pos h
              have herr : (takeV m ks[i].name ks[i].text ks[i].kids).2 ≠ 0 → foldV met0 ks = takeV m ks[i].name ks[i].text ks[i].kids := fun h => by
                rw [HFo.out, hdrop, foldV]; exact if_neg h
              clear hrg hrg0 hbb hat hk1 hk2 hk3 he2 hkk0 hkk hdrop HFo hlt hi hw1
              generalize ks[i] = ke at *
              clear hik
              generalize ke.page = kp at *
              generalize ke.name = kn at *
              generalize ke.text = kt at *
              generalize ke.opq = ko at *
              generalize ke.kids = kks at *
              generalize hkl : kks.length = kl at *
              clear hkl
              have HBm : Hid (bm < wr.heap.size) := HR.out.2.2.1.lt
              have HXk : Hid (Below w.heap.size w (wr.alloc (.cells #[.int .i64 kp, .string kn, .string kt, .bool ko, .slice a2 kl c2] 46))) := HX.out.alloc HX.out.size _
              have HR1 : Hid (RSt w.heap.size bm CB m (wr.alloc (.cells #[.int .i64 kp, .string kn, .string kt, .bool ko, .slice a2 kl c2] 46))) := HR.out.below ((Below.refl _ _).alloc (Nat.le_refl _) _)
              have hw1 := HW1.out
              by_cases h0 : kn = nFormat
              · have hk := h0
                clear h0
                have t0 : (kn.toList == [70, 111, 114, 109, 97, 116]) = true := nameY (w := nFormat) hk rfl
                have t1 : (kn.toList == [84, 121, 112, 101]) = false := nameN (show ¬ kn = nType by rw [hk]; decide) rfl
                have t2 : (kn.toList == [78, 101, 120, 116, 78, 111, 110, 99, 101]) = false := nameN (show ¬ kn = nNextNonce by rw [hk]; decide) rfl
                have t3 : (kn.toList == [65, 110, 99, 104, 111, 114]) = false := nameN (show ¬ kn = nAnchor by rw [hk]; decide) rfl
                have t4 : (kn.toList == [83, 105, 122, 101]) = false := nameN (show ¬ kn = nSize by rw [hk]; decide) rfl
                have t5 : (kn.toList == [86, 101, 114, 115, 105, 111, 110]) = false := nameN (show ¬ kn = nVersion by rw [hk]; decide) rfl
                have t6 : (kn.toList == [77, 97, 120, 77, 115, 103, 83, 105, 122, 101]) = false := nameN (show ¬ kn = nMaxMsgSize by rw [hk]; decide) rfl
                have t7 : (kn.toList == [77, 97, 120, 79, 98, 106, 83, 105, 122, 101]) = false := nameN (show ¬ kn = nMaxObjSize by rw [hk]; decide) rfl
                have hV : takeV m kn kt kks = ({ m with fo := kt }, 0) := by unfold takeV; rw [if_pos hk]
                clear hk
                rw [hV] at hst herr
                have HFo2 := Lib.hid (hst rfl)
                have z1 := HR1.out.2.2.1.cell 0 _ rfl
                have z2 := HR1.out.2.2.1.frozen 0
                have HR2 : Hid (RSt w.heap.size bm CB { m with fo := kt } ((wr.alloc (.cells #[.int .i64 kp, .string kn, .string kt, .bool ko, .slice a2 kl c2] 46)).setCell ⟨bm, 0, none⟩ (.string kt))) := HR1.out.set 0 _ (by simp [MetV.cells])
                have HXk2 : Hid (Below w.heap.size w ((wr.alloc (.cells #[.int .i64 kp, .string kn, .string kt, .bool ko, .slice a2 kl c2] 46)).setCell ⟨bm, 0, none⟩ (.string kt))) := HXk.out.setCell (p := ⟨bm, 0, none⟩) (Nat.le_trans (Nat.le_add_right _ 2) HR1.out.2.2.2) _
                clear hst herr
                go_wp2_with fail
                go_roundw
                case rel => exact ⟨i + 1, _, HI1.out, rfl, by go_num, HR2.out, HXk2.out, HFo2.out, ⟨HKt.out, HSm.out.2.1, HSm.out.2.2.1, HSm.out.2.2.2.1, HSm.out.2.2.2.2⟩⟩
                case measure => first | exact HMs.out | (rw [HW1.out]; exact HMs.out)
              by_cases h1 : kn = nType
              · have hk := h1
                clear h0 h1
                have t0 : (kn.toList == [70, 111, 114, 109, 97, 116]) = false := nameN (show ¬ kn = nFormat by rw [hk]; decide) rfl
                have t1 : (kn.toList == [84, 121, 112, 101]) = true := nameY (w := nType) hk rfl
                have t2 : (kn.toList == [78, 101, 120, 116, 78, 111, 110, 99, 101]) = false := nameN (show ¬ kn = nNextNonce by rw [hk]; decide) rfl
                have t3 : (kn.toList == [65, 110, 99, 104, 111, 114]) = false := nameN (show ¬ kn = nAnchor by rw [hk]; decide) rfl
                have t4 : (kn.toList == [83, 105, 122, 101]) = false := nameN (show ¬ kn = nSize by rw [hk]; decide) rfl
                have t5 : (kn.toList == [86, 101, 114, 115, 105, 111, 110]) = false := nameN (show ¬ kn = nVersion by rw [hk]; decide) rfl
                have t6 : (kn.toList == [77, 97, 120, 77, 115, 103, 83, 105, 122, 101]) = false := nameN (show ¬ kn = nMaxMsgSize by rw [hk]; decide) rfl
                have t7 : (kn.toList == [77, 97, 120, 79, 98, 106, 83, 105, 122, 101]) = false := nameN (show ¬ kn = nMaxObjSize by rw [hk]; decide) rfl
                have hV : takeV m kn kt kks = ({ m with ty := kt }, 0) := by unfold takeV; rw [if_neg (show ¬ kn = nFormat by rw [hk]; decide), if_pos hk]
                clear hk
                rw [hV] at hst herr
                have HFo2 := Lib.hid (hst rfl)
                have z1 := HR1.out.2.2.1.cell 1 _ rfl
                have z2 := HR1.out.2.2.1.frozen 1
                have HR2 : Hid (RSt w.heap.size bm CB { m with ty := kt } ((wr.alloc (.cells #[.int .i64 kp, .string kn, .string kt, .bool ko, .slice a2 kl c2] 46)).setCell ⟨bm, 1, none⟩ (.string kt))) := HR1.out.set 1 _ (by simp [MetV.cells])
                have HXk2 : Hid (Below w.heap.size w ((wr.alloc (.cells #[.int .i64 kp, .string kn, .string kt, .bool ko, .slice a2 kl c2] 46)).setCell ⟨bm, 1, none⟩ (.string kt))) := HXk.out.setCell (p := ⟨bm, 1, none⟩) (Nat.le_trans (Nat.le_add_right _ 2) HR1.out.2.2.2) _
                clear hst herr
                go_wp2_with fail
                go_roundw
                case rel => exact ⟨i + 1, _, HI1.out, rfl, by go_num, HR2.out, HXk2.out, HFo2.out, ⟨HSm.out.1, HKt.out, HSm.out.2.2.1, HSm.out.2.2.2.1, HSm.out.2.2.2.2⟩⟩
                case measure => first | exact HMs.out | (rw [HW1.out]; exact HMs.out)
              by_cases h2 : kn = nNextNonce
              · have hk := h2
                clear h0 h1 h2
                have t0 : (kn.toList == [70, 111, 114, 109, 97, 116]) = false := nameN (show ¬ kn = nFormat by rw [hk]; decide) rfl
                have t1 : (kn.toList == [84, 121, 112, 101]) = false := nameN (show ¬ kn = nType by rw [hk]; decide) rfl
                have t2 : (kn.toList == [78, 101, 120, 116, 78, 111, 110, 99, 101]) = true := nameY (w := nNextNonce) hk rfl
                have t3 : (kn.toList == [65, 110, 99, 104, 111, 114]) = false := nameN (show ¬ kn = nAnchor by rw [hk]; decide) rfl
                have t4 : (kn.toList == [83, 105, 122, 101]) = false := nameN (show ¬ kn = nSize by rw [hk]; decide) rfl
                have t5 : (kn.toList == [86, 101, 114, 115, 105, 111, 110]) = false := nameN (show ¬ kn = nVersion by rw [hk]; decide) rfl
                have t6 : (kn.toList == [77, 97, 120, 77, 115, 103, 83, 105, 122, 101]) = false := nameN (show ¬ kn = nMaxMsgSize by rw [hk]; decide) rfl
                have t7 : (kn.toList == [77, 97, 120, 79, 98, 106, 83, 105, 122, 101]) = false := nameN (show ¬ kn = nMaxObjSize by rw [hk]; decide) rfl
                have hV : takeV m kn kt kks = ({ m with no := kt }, 0) := by unfold takeV; rw [if_neg (show ¬ kn = nFormat by rw [hk]; decide), if_neg (show ¬ kn = nType by rw [hk]; decide), if_pos hk]
                clear hk
                rw [hV] at hst herr
                have HFo2 := Lib.hid (hst rfl)
                have z1 := HR1.out.2.2.1.cell 6 _ rfl
                have z2 := HR1.out.2.2.1.frozen 6
                have HR2 : Hid (RSt w.heap.size bm CB { m with no := kt } ((wr.alloc (.cells #[.int .i64 kp, .string kn, .string kt, .bool ko, .slice a2 kl c2] 46)).setCell ⟨bm, 6, none⟩ (.string kt))) := HR1.out.set 6 _ (by simp [MetV.cells])
                have HXk2 : Hid (Below w.heap.size w ((wr.alloc (.cells #[.int .i64 kp, .string kn, .string kt, .bool ko, .slice a2 kl c2] 46)).setCell ⟨bm, 6, none⟩ (.string kt))) := HXk.out.setCell (p := ⟨bm, 6, none⟩) (Nat.le_trans (Nat.le_add_right _ 2) HR1.out.2.2.2) _
                clear hst herr
                go_wp2_with fail
                go_roundw
                case rel => exact ⟨i + 1, _, HI1.out, rfl, by go_num, HR2.out, HXk2.out, HFo2.out, ⟨HSm.out.1, HSm.out.2.1, HSm.out.2.2.1, HSm.out.2.2.2.1, HKt.out⟩⟩
                case measure => first | exact HMs.out | (rw [HW1.out]; exact HMs.out)
              by_cases h3 : kn = nAnchor
              · have hk := h3
                clear h0 h1 h2 h3
                have t0 : (kn.toList == [70, 111, 114, 109, 97, 116]) = false := nameN (show ¬ kn = nFormat by rw [hk]; decide) rfl
                have t1 : (kn.toList == [84, 121, 112, 101]) = false := nameN (show ¬ kn = nType by rw [hk]; decide) rfl
                have t2 : (kn.toList == [78, 101, 120, 116, 78, 111, 110, 99, 101]) = false := nameN (show ¬ kn = nNextNonce by rw [hk]; decide) rfl
                have t3 : (kn.toList == [65, 110, 99, 104, 111, 114]) = true := nameY (w := nAnchor) hk rfl
                have t4 : (kn.toList == [83, 105, 122, 101]) = false := nameN (show ¬ kn = nSize by rw [hk]; decide) rfl
                have t5 : (kn.toList == [86, 101, 114, 115, 105, 111, 110]) = false := nameN (show ¬ kn = nVersion by rw [hk]; decide) rfl
                have t6 : (kn.toList == [77, 97, 120, 77, 115, 103, 83, 105, 122, 101]) = false := nameN (show ¬ kn = nMaxMsgSize by rw [hk]; decide) rfl
                have t7 : (kn.toList == [77, 97, 120, 79, 98, 106, 83, 105, 122, 101]) = false := nameN (show ¬ kn = nMaxObjSize by rw [hk]; decide) rfl
                have hV : takeV m kn kt kks = ({ m with la := (textK kks nLast).1, ne := (textK kks nNext).1 }, 0) := by unfold takeV; rw [if_neg (show ¬ kn = nFormat by rw [hk]; decide), if_neg (show ¬ kn = nType by rw [hk]; decide), if_neg (show ¬ kn = nNextNonce by rw [hk]; decide), if_pos hk]
                clear hk
                rw [hV] at hst herr
                have HFo2 := Lib.hid (hst rfl)
                have cL := cT.out nLast
                have cN := cT.out nNext
                have HS2 : Hid (SmallM { m with la := (textK kks nLast).1, ne := (textK kks nNext).1 }) := ⟨HSm.out.1, HSm.out.2.1, HTx.out nLast, HTx.out nNext, HSm.out.2.2.2.2⟩
                clear hst herr HTx cT
                generalize textK kks nLast = L1 at *
                generalize textK kks nNext = N1 at *
                obtain ⟨la, lb⟩ := L1
                obtain ⟨na, nb⟩ := N1
                simp only [] at cL cN HFo2 HS2
                unfold nLast at cL
                unfold nNext at cN
                have CL := Lib.hid cL
                have CN := Lib.hid cN
                clear cL cN
                go_wp2_with fail
                have cX := CL.out _ HXk.out
                refine cX.mono ?_
                clear cX CL
                rintro r Y1 ⟨rfl, hb1⟩
                have HY1 := Lib.hid (HXk.out.trans (hb1.mono HXk.out.size))
                have HRY := Lib.hid (HR1.out.below hb1)
                have hkb : Y1.heap[wr.heap.size]? = some (.cells #[.int .i64 kp, .string kn, .string kt, .bool ko, .slice a2 kl c2] 46 (0, 0)) := (hb1.block wr.heap.size (by simp)).trans (World.alloc_heap_new wr _)
                have HKb2 : Hid ((Y1.setCell ⟨bm, 4, none⟩ (.string la)).heap[wr.heap.size]? = some (.cells #[.int .i64 kp, .string kn, .string kt, .bool ko, .slice a2 kl c2] 46 (0, 0))) := (Below.heap_setCell _ _ _ _ (by show wr.heap.size ≠ bm; have := HBm.out; unfold Hid at this; omega)).trans hkb
                have z1 := HRY.out.2.2.1.cell 4 _ rfl
                have z2 := HRY.out.2.2.1.frozen 4
                have HR2 : Hid (RSt w.heap.size bm CB { m with la := la } (Y1.setCell ⟨bm, 4, none⟩ (.string la))) := HRY.out.set 4 _ (by simp [MetV.cells])
                have HX2 : Hid (Below w.heap.size w (Y1.setCell ⟨bm, 4, none⟩ (.string la))) := HY1.out.setCell (p := ⟨bm, 4, none⟩) (Nat.le_trans (Nat.le_add_right _ 2) HR1.out.2.2.2) _
                have u0 := cell_block HKb2.out 0 _ rfl
                have u1 := cell_block HKb2.out 1 _ rfl
                have u2 := cell_block HKb2.out 2 _ rfl
                have u3 := cell_block HKb2.out 3 _ rfl
                have u4 := cell_block HKb2.out 4 _ rfl
                clear hb1 hkb x0 x1 x2 x3 x4 y4
                go_wp2_with fail
                clear z1 z2
                generalize Y1.setCell ⟨bm, 4, none⟩ (.string la) = Y2 at *
                have cX := CN.out _ HX2.out
                refine cX.mono ?_
                clear cX CN
                rintro r Y3 ⟨rfl, hb1⟩
                have HY3 := Lib.hid (HX2.out.trans (hb1.mono HX2.out.size))
                have HR3 := Lib.hid (HR2.out.below hb1)
                have z1 := HR3.out.2.2.1.cell 5 _ rfl
                have z2 := HR3.out.2.2.1.frozen 5
                have HR4 : Hid (RSt w.heap.size bm CB { m with la := la, ne := na } (Y3.setCell ⟨bm, 5, none⟩ (.string na))) := HR3.out.set 5 _ (by simp [MetV.cells])
                have HX4 : Hid (Below w.heap.size w (Y3.setCell ⟨bm, 5, none⟩ (.string na))) := HY3.out.setCell (p := ⟨bm, 5, none⟩) (Nat.le_trans (Nat.le_add_right _ 2) HR1.out.2.2.2) _
                have hw1 := HW1.out
                clear hb1 u0 u1 u2 u3 u4
                go_wp2_with fail
                go_roundw
                case rel => exact ⟨i + 1, _, HI1.out, rfl, by go_num, HR4.out, HX4.out, HFo2.out, HS2.out⟩
                case measure => first | exact HMs.out | (rw [HW1.out]; exact HMs.out)
              by_cases h4 : kn = nSize
              · have hk := h4
                clear h0 h1 h2 h3 h4
                have t0 : (kn.toList == [70, 111, 114, 109, 97, 116]) = false := nameN (show ¬ kn = nFormat by rw [hk]; decide) rfl
                have t1 : (kn.toList == [84, 121, 112, 101]) = false := nameN (show ¬ kn = nType by rw [hk]; decide) rfl
                have t2 : (kn.toList == [78, 101, 120, 116, 78, 111, 110, 99, 101]) = false := nameN (show ¬ kn = nNextNonce by rw [hk]; decide) rfl
                have t3 : (kn.toList == [65, 110, 99, 104, 111, 114]) = false := nameN (show ¬ kn = nAnchor by rw [hk]; decide) rfl
                have t4 : (kn.toList == [83, 105, 122, 101]) = true := nameY (w := nSize) hk rfl
                have t5 : (kn.toList == [86, 101, 114, 115, 105, 111, 110]) = false := nameN (show ¬ kn = nVersion by rw [hk]; decide) rfl
                have t6 : (kn.toList == [77, 97, 120, 77, 115, 103, 83, 105, 122, 101]) = false := nameN (show ¬ kn = nMaxMsgSize by rw [hk]; decide) rfl
                have t7 : (kn.toList == [77, 97, 120, 79, 98, 106, 83, 105, 122, 101]) = false := nameN (show ¬ kn = nMaxObjSize by rw [hk]; decide) rfl
                have hV : takeV m kn kt kks = ({ m with sz := (cntV kt).1 }, (cntV kt).2) := by unfold takeV; rw [if_neg (show ¬ kn = nFormat by rw [hk]; decide), if_neg (show ¬ kn = nType by rw [hk]; decide), if_neg (show ¬ kn = nNextNonce by rw [hk]; decide), if_neg (show ¬ kn = nAnchor by rw [hk]; decide), if_pos hk]
                clear hk
                rw [hV] at hst herr
                have hcv0 : cntV kt = ((rdS kt).1, if (rdS kt).2 = 0 ∧ (rdS kt).1 = 0 then 3 else (rdS kt).2) := rfl
                have CR := Lib.hid cR.out
                generalize cntV kt = cv at *
                generalize rdS kt = rv at *
                obtain ⟨rn, rf⟩ := rv
                simp only [] at hcv0 CR
                by_cases hf0 : rf = 0
                · have q1 : (rf == 0) = true := by rw [hf0]; rfl
                  by_cases hn0 : rn = 0
                  · have q2 : (rn == 0) = true := by rw [hn0]; rfl
                    have hcv : cv = (rn, 3) := by rw [hcv0, if_pos ⟨hf0, hn0⟩]
                    have hff : (3 : Int) ≠ 0 := by decide
                    clear hcv0 hf0 hn0
                    have herr2 := Lib.hid (herr (by rw [hcv]; exact hff))
                    have HRe : Hid (RS = (met0, 3)) := by unfold Hid; rw [HSay.out, herr2.out, hcv, if_neg hff]
                    have HRR : Hid (R = (met0, 3)) := hRS.out.trans HRe.out
                    clear hst herr hcv hff
                    go_upto_region 28 with (first | (go_at_call 104; refine (CR.out _).mono ?_; rintro r Y ⟨rfl, rfl⟩) | fail)
                    go_wp2_with (refine wpList_store_row rfl 23 (.tmp 2) (.tmp 91) rfl (w.heap.size + 1) #[.string ⟨#[]⟩, .string ⟨#[]⟩, .int .i64 0, .int .i64 0, .string ⟨#[]⟩, .string ⟨#[]⟩, .string ⟨#[]⟩, .int .i64 0, .int .i64 0] rfl rfl 23 _ HR1.out.2.1 (by kernel_rfl) rfl (by simp [Value.oneCell']) ?_)
                    exact bodyPost_ret (results_row_tmp rfl rfl rfl (run_loadVar_row _ (w.heap.size + 1) 23 23 met0.cells (0, 0) _ (setRow_heap _ _ _ _ _ _ HR1.out.2.1) Tryd.underlying23 rfl (by kernel_rfl))) rfl ⟨by rw [HRR.out]; rfl, HXk.out.trans (below_setRow _ _ (Nat.le_succ _))⟩
                  · have q2 : (rn == 0) = false := beq_eq_false_iff_ne.2 hn0
                    have hcv : cv = (rn, 0) := by rw [hcv0, if_neg (fun h => hn0 h.2), hf0]
                    rw [hcv] at hst
                    have HFo2 := Lib.hid (hst rfl)
                    have z1 := HR1.out.2.2.1.cell 2 _ rfl
                    have z2 := HR1.out.2.2.1.frozen 2
                    have HR2 : Hid (RSt w.heap.size bm CB { m with sz := rn } ((wr.alloc (.cells #[.int .i64 kp, .string kn, .string kt, .bool ko, .slice a2 kl c2] 46)).setCell ⟨bm, 2, none⟩ (.int .i64 rn))) := HR1.out.set 2 _ (by simp [MetV.cells])
                    have HXk2 : Hid (Below w.heap.size w ((wr.alloc (.cells #[.int .i64 kp, .string kn, .string kt, .bool ko, .slice a2 kl c2] 46)).setCell ⟨bm, 2, none⟩ (.int .i64 rn))) := HXk.out.setCell (p := ⟨bm, 2, none⟩) (Nat.le_trans (Nat.le_add_right _ 2) HR1.out.2.2.2) _
                    subst hf0
                    clear hst herr hcv hcv0 hn0 q1
                    go_wp2_with (first | (go_at_call 104; refine (CR.out _).mono ?_; rintro r Y ⟨rfl, rfl⟩) | fail)
                    go_roundw
                    case rel => exact ⟨i + 1, _, HI1.out, rfl, by go_num, HR2.out, HXk2.out, HFo2.out, HSm.out⟩
                    case measure => first | exact HMs.out | (rw [HW1.out]; exact HMs.out)
                · have q1 : (rf == 0) = false := beq_eq_false_iff_ne.2 hf0
                  have q3 : (rf != 0) = true := bne_iff_ne.2 hf0
                  have hcv : cv = (rn, rf) := by rw [hcv0, if_neg (fun h => hf0 h.1)]
                  have hff : rf ≠ 0 := hf0
                  clear hcv0 hf0
                  have herr2 := Lib.hid (herr (by rw [hcv]; exact hff))
                  have HRe : Hid (RS = (met0, rf)) := by unfold Hid; rw [HSay.out, herr2.out, hcv, if_neg hff]
                  have HRR : Hid (R = (met0, rf)) := hRS.out.trans HRe.out
                  clear hst herr hcv hff
                  go_upto_region 28 with (first | (go_at_call 104; refine (CR.out _).mono ?_; rintro r Y ⟨rfl, rfl⟩) | fail)
                  go_wp2_with (refine wpList_store_row rfl 23 (.tmp 2) (.tmp 91) rfl (w.heap.size + 1) #[.string ⟨#[]⟩, .string ⟨#[]⟩, .int .i64 0, .int .i64 0, .string ⟨#[]⟩, .string ⟨#[]⟩, .string ⟨#[]⟩, .int .i64 0, .int .i64 0] rfl rfl 23 _ HR1.out.2.1 (by kernel_rfl) rfl (by simp [Value.oneCell']) ?_)
                  exact bodyPost_ret (results_row_tmp rfl rfl rfl (run_loadVar_row _ (w.heap.size + 1) 23 23 met0.cells (0, 0) _ (setRow_heap _ _ _ _ _ _ HR1.out.2.1) Tryd.underlying23 rfl (by kernel_rfl))) rfl ⟨by rw [HRR.out]; rfl, HXk.out.trans (below_setRow _ _ (Nat.le_succ _))⟩
              by_cases h5 : kn = nVersion
              · have hk := h5
                clear h0 h1 h2 h3 h4 h5
                have t0 : (kn.toList == [70, 111, 114, 109, 97, 116]) = false := nameN (show ¬ kn = nFormat by rw [hk]; decide) rfl
                have t1 : (kn.toList == [84, 121, 112, 101]) = false := nameN (show ¬ kn = nType by rw [hk]; decide) rfl
                have t2 : (kn.toList == [78, 101, 120, 116, 78, 111, 110, 99, 101]) = false := nameN (show ¬ kn = nNextNonce by rw [hk]; decide) rfl
                have t3 : (kn.toList == [65, 110, 99, 104, 111, 114]) = false := nameN (show ¬ kn = nAnchor by rw [hk]; decide) rfl
                have t4 : (kn.toList == [83, 105, 122, 101]) = false := nameN (show ¬ kn = nSize by rw [hk]; decide) rfl
                have t5 : (kn.toList == [86, 101, 114, 115, 105, 111, 110]) = true := nameY (w := nVersion) hk rfl
                have t6 : (kn.toList == [77, 97, 120, 77, 115, 103, 83, 105, 122, 101]) = false := nameN (show ¬ kn = nMaxMsgSize by rw [hk]; decide) rfl
                have t7 : (kn.toList == [77, 97, 120, 79, 98, 106, 83, 105, 122, 101]) = false := nameN (show ¬ kn = nMaxObjSize by rw [hk]; decide) rfl
                have hV : takeV m kn kt kks = ({ m with ve := (cntV kt).1 }, (cntV kt).2) := by unfold takeV; rw [if_neg (show ¬ kn = nFormat by rw [hk]; decide), if_neg (show ¬ kn = nType by rw [hk]; decide), if_neg (show ¬ kn = nNextNonce by rw [hk]; decide), if_neg (show ¬ kn = nAnchor by rw [hk]; decide), if_neg (show ¬ kn = nSize by rw [hk]; decide), if_pos hk]
                clear hk
                rw [hV] at hst herr
                have hcv0 : cntV kt = ((rdS kt).1, if (rdS kt).2 = 0 ∧ (rdS kt).1 = 0 then 3 else (rdS kt).2) := rfl
                have CR := Lib.hid cR.out
                generalize cntV kt = cv at *
                generalize rdS kt = rv at *
                obtain ⟨rn, rf⟩ := rv
                simp only [] at hcv0 CR
                by_cases hf0 : rf = 0
                · have q1 : (rf == 0) = true := by rw [hf0]; rfl
                  by_cases hn0 : rn = 0
                  · have q2 : (rn == 0) = true := by rw [hn0]; rfl
                    have hcv : cv = (rn, 3) := by rw [hcv0, if_pos ⟨hf0, hn0⟩]
                    have hff : (3 : Int) ≠ 0 := by decide
                    clear hcv0 hf0 hn0
                    have herr2 := Lib.hid (herr (by rw [hcv]; exact hff))
                    have HRe : Hid (RS = (met0, 3)) := by unfold Hid; rw [HSay.out, herr2.out, hcv, if_neg hff]
                    have HRR : Hid (R = (met0, 3)) := hRS.out.trans HRe.out
                    clear hst herr hcv hff
                    go_upto_region 28 with (first | (go_at_call 104; refine (CR.out _).mono ?_; rintro r Y ⟨rfl, rfl⟩) | fail)
                    go_wp2_with (refine wpList_store_row rfl 23 (.tmp 2) (.tmp 91) rfl (w.heap.size + 1) #[.string ⟨#[]⟩, .string ⟨#[]⟩, .int .i64 0, .int .i64 0, .string ⟨#[]⟩, .string ⟨#[]⟩, .string ⟨#[]⟩, .int .i64 0, .int .i64 0] rfl rfl 23 _ HR1.out.2.1 (by kernel_rfl) rfl (by simp [Value.oneCell']) ?_)
                    exact bodyPost_ret (results_row_tmp rfl rfl rfl (run_loadVar_row _ (w.heap.size + 1) 23 23 met0.cells (0, 0) _ (setRow_heap _ _ _ _ _ _ HR1.out.2.1) Tryd.underlying23 rfl (by kernel_rfl))) rfl ⟨by rw [HRR.out]; rfl, HXk.out.trans (below_setRow _ _ (Nat.le_succ _))⟩
                  · have q2 : (rn == 0) = false := beq_eq_false_iff_ne.2 hn0
                    have hcv : cv = (rn, 0) := by rw [hcv0, if_neg (fun h => hn0 h.2), hf0]
                    rw [hcv] at hst
                    have HFo2 := Lib.hid (hst rfl)
                    have z1 := HR1.out.2.2.1.cell 3 _ rfl
                    have z2 := HR1.out.2.2.1.frozen 3
                    have HR2 : Hid (RSt w.heap.size bm CB { m with ve := rn } ((wr.alloc (.cells #[.int .i64 kp, .string kn, .string kt, .bool ko, .slice a2 kl c2] 46)).setCell ⟨bm, 3, none⟩ (.int .i64 rn))) := HR1.out.set 3 _ (by simp [MetV.cells])
                    have HXk2 : Hid (Below w.heap.size w ((wr.alloc (.cells #[.int .i64 kp, .string kn, .string kt, .bool ko, .slice a2 kl c2] 46)).setCell ⟨bm, 3, none⟩ (.int .i64 rn))) := HXk.out.setCell (p := ⟨bm, 3, none⟩) (Nat.le_trans (Nat.le_add_right _ 2) HR1.out.2.2.2) _
                    subst hf0
                    clear hst herr hcv hcv0 hn0 q1
                    go_wp2_with (first | (go_at_call 104; refine (CR.out _).mono ?_; rintro r Y ⟨rfl, rfl⟩) | fail)
                    go_roundw
                    case rel => exact ⟨i + 1, _, HI1.out, rfl, by go_num, HR2.out, HXk2.out, HFo2.out, HSm.out⟩
                    case measure => first | exact HMs.out | (rw [HW1.out]; exact HMs.out)
                · have q1 : (rf == 0) = false := beq_eq_false_iff_ne.2 hf0
                  have q3 : (rf != 0) = true := bne_iff_ne.2 hf0
                  have hcv : cv = (rn, rf) := by rw [hcv0, if_neg (fun h => hf0 h.1)]
                  have hff : rf ≠ 0 := hf0
                  clear hcv0 hf0
                  have herr2 := Lib.hid (herr (by rw [hcv]; exact hff))
                  have HRe : Hid (RS = (met0, rf)) := by unfold Hid; rw [HSay.out, herr2.out, hcv, if_neg hff]
                  have HRR : Hid (R = (met0, rf)) := hRS.out.trans HRe.out
                  clear hst herr hcv hff
                  go_upto_region 28 with (first | (go_at_call 104; refine (CR.out _).mono ?_; rintro r Y ⟨rfl, rfl⟩) | fail)
                  go_wp2_with (refine wpList_store_row rfl 23 (.tmp 2) (.tmp 91) rfl (w.heap.size + 1) #[.string ⟨#[]⟩, .string ⟨#[]⟩, .int .i64 0, .int .i64 0, .string ⟨#[]⟩, .string ⟨#[]⟩, .string ⟨#[]⟩, .int .i64 0, .int .i64 0] rfl rfl 23 _ HR1.out.2.1 (by kernel_rfl) rfl (by simp [Value.oneCell']) ?_)
                  exact bodyPost_ret (results_row_tmp rfl rfl rfl (run_loadVar_row _ (w.heap.size + 1) 23 23 met0.cells (0, 0) _ (setRow_heap _ _ _ _ _ _ HR1.out.2.1) Tryd.underlying23 rfl (by kernel_rfl))) rfl ⟨by rw [HRR.out]; rfl, HXk.out.trans (below_setRow _ _ (Nat.le_succ _))⟩
              by_cases h6 : kn = nMaxMsgSize
              · have hk := h6
                clear h0 h1 h2 h3 h4 h5 h6
                have t0 : (kn.toList == [70, 111, 114, 109, 97, 116]) = false := nameN (show ¬ kn = nFormat by rw [hk]; decide) rfl
                have t1 : (kn.toList == [84, 121, 112, 101]) = false := nameN (show ¬ kn = nType by rw [hk]; decide) rfl
                have t2 : (kn.toList == [78, 101, 120, 116, 78, 111, 110, 99, 101]) = false := nameN (show ¬ kn = nNextNonce by rw [hk]; decide) rfl
                have t3 : (kn.toList == [65, 110, 99, 104, 111, 114]) = false := nameN (show ¬ kn = nAnchor by rw [hk]; decide) rfl
                have t4 : (kn.toList == [83, 105, 122, 101]) = false := nameN (show ¬ kn = nSize by rw [hk]; decide) rfl
                have t5 : (kn.toList == [86, 101, 114, 115, 105, 111, 110]) = false := nameN (show ¬ kn = nVersion by rw [hk]; decide) rfl
                have t6 : (kn.toList == [77, 97, 120, 77, 115, 103, 83, 105, 122, 101]) = true := nameY (w := nMaxMsgSize) hk rfl
                have t7 : (kn.toList == [77, 97, 120, 79, 98, 106, 83, 105, 122, 101]) = false := nameN (show ¬ kn = nMaxObjSize by rw [hk]; decide) rfl
                have hV : takeV m kn kt kks = ({ m with mm := (cntV kt).1 }, (cntV kt).2) := by unfold takeV; rw [if_neg (show ¬ kn = nFormat by rw [hk]; decide), if_neg (show ¬ kn = nType by rw [hk]; decide), if_neg (show ¬ kn = nNextNonce by rw [hk]; decide), if_neg (show ¬ kn = nAnchor by rw [hk]; decide), if_neg (show ¬ kn = nSize by rw [hk]; decide), if_neg (show ¬ kn = nVersion by rw [hk]; decide), if_pos hk]
                clear hk
                rw [hV] at hst herr
                have hcv0 : cntV kt = ((rdS kt).1, if (rdS kt).2 = 0 ∧ (rdS kt).1 = 0 then 3 else (rdS kt).2) := rfl
                have CR := Lib.hid cR.out
                generalize cntV kt = cv at *
                generalize rdS kt = rv at *
                obtain ⟨rn, rf⟩ := rv
                simp only [] at hcv0 CR
                by_cases hf0 : rf = 0
                · have q1 : (rf == 0) = true := by rw [hf0]; rfl
                  by_cases hn0 : rn = 0
                  · have q2 : (rn == 0) = true := by rw [hn0]; rfl
                    have hcv : cv = (rn, 3) := by rw [hcv0, if_pos ⟨hf0, hn0⟩]
                    have hff : (3 : Int) ≠ 0 := by decide
                    clear hcv0 hf0 hn0
                    have herr2 := Lib.hid (herr (by rw [hcv]; exact hff))
                    have HRe : Hid (RS = (met0, 3)) := by unfold Hid; rw [HSay.out, herr2.out, hcv, if_neg hff]
                    have HRR : Hid (R = (met0, 3)) := hRS.out.trans HRe.out
                    clear hst herr hcv hff
                    go_upto_region 28 with (first | (go_at_call 104; refine (CR.out _).mono ?_; rintro r Y ⟨rfl, rfl⟩) | fail)
                    go_wp2_with (refine wpList_store_row rfl 23 (.tmp 2) (.tmp 91) rfl (w.heap.size + 1) #[.string ⟨#[]⟩, .string ⟨#[]⟩, .int .i64 0, .int .i64 0, .string ⟨#[]⟩, .string ⟨#[]⟩, .string ⟨#[]⟩, .int .i64 0, .int .i64 0] rfl rfl 23 _ HR1.out.2.1 (by kernel_rfl) rfl (by simp [Value.oneCell']) ?_)
                    exact bodyPost_ret (results_row_tmp rfl rfl rfl (run_loadVar_row _ (w.heap.size + 1) 23 23 met0.cells (0, 0) _ (setRow_heap _ _ _ _ _ _ HR1.out.2.1) Tryd.underlying23 rfl (by kernel_rfl))) rfl ⟨by rw [HRR.out]; rfl, HXk.out.trans (below_setRow _ _ (Nat.le_succ _))⟩
                  · have q2 : (rn == 0) = false := beq_eq_false_iff_ne.2 hn0
                    have hcv : cv = (rn, 0) := by rw [hcv0, if_neg (fun h => hn0 h.2), hf0]
                    rw [hcv] at hst
                    have HFo2 := Lib.hid (hst rfl)
                    have z1 := HR1.out.2.2.1.cell 7 _ rfl
                    have z2 := HR1.out.2.2.1.frozen 7
                    have HR2 : Hid (RSt w.heap.size bm CB { m with mm := rn } ((wr.alloc (.cells #[.int .i64 kp, .string kn, .string kt, .bool ko, .slice a2 kl c2] 46)).setCell ⟨bm, 7, none⟩ (.int .i64 rn))) := HR1.out.set 7 _ (by simp [MetV.cells])
                    have HXk2 : Hid (Below w.heap.size w ((wr.alloc (.cells #[.int .i64 kp, .string kn, .string kt, .bool ko, .slice a2 kl c2] 46)).setCell ⟨bm, 7, none⟩ (.int .i64 rn))) := HXk.out.setCell (p := ⟨bm, 7, none⟩) (Nat.le_trans (Nat.le_add_right _ 2) HR1.out.2.2.2) _
                    subst hf0
                    clear hst herr hcv hcv0 hn0 q1
                    go_wp2_with (first | (go_at_call 104; refine (CR.out _).mono ?_; rintro r Y ⟨rfl, rfl⟩) | fail)
                    go_roundw
                    case rel => exact ⟨i + 1, _, HI1.out, rfl, by go_num, HR2.out, HXk2.out, HFo2.out, HSm.out⟩
                    case measure => first | exact HMs.out | (rw [HW1.out]; exact HMs.out)
                · have q1 : (rf == 0) = false := beq_eq_false_iff_ne.2 hf0
                  have q3 : (rf != 0) = true := bne_iff_ne.2 hf0
                  have hcv : cv = (rn, rf) := by rw [hcv0, if_neg (fun h => hf0 h.1)]
                  have hff : rf ≠ 0 := hf0
                  clear hcv0 hf0
                  have herr2 := Lib.hid (herr (by rw [hcv]; exact hff))
                  have HRe : Hid (RS = (met0, rf)) := by unfold Hid; rw [HSay.out, herr2.out, hcv, if_neg hff]
                  have HRR : Hid (R = (met0, rf)) := hRS.out.trans HRe.out
                  clear hst herr hcv hff
                  go_upto_region 28 with (first | (go_at_call 104; refine (CR.out _).mono ?_; rintro r Y ⟨rfl, rfl⟩) | fail)
                  go_wp2_with (refine wpList_store_row rfl 23 (.tmp 2) (.tmp 91) rfl (w.heap.size + 1) #[.string ⟨#[]⟩, .string ⟨#[]⟩, .int .i64 0, .int .i64 0, .string ⟨#[]⟩, .string ⟨#[]⟩, .string ⟨#[]⟩, .int .i64 0, .int .i64 0] rfl rfl 23 _ HR1.out.2.1 (by kernel_rfl) rfl (by simp [Value.oneCell']) ?_)
                  exact bodyPost_ret (results_row_tmp rfl rfl rfl (run_loadVar_row _ (w.heap.size + 1) 23 23 met0.cells (0, 0) _ (setRow_heap _ _ _ _ _ _ HR1.out.2.1) Tryd.underlying23 rfl (by kernel_rfl))) rfl ⟨by rw [HRR.out]; rfl, HXk.out.trans (below_setRow _ _ (Nat.le_succ _))⟩
              by_cases h7 : kn = nMaxObjSize
              · have hk := h7
                clear h0 h1 h2 h3 h4 h5 h6 h7
                have t0 : (kn.toList == [70, 111, 114, 109, 97, 116]) = false := nameN (show ¬ kn = nFormat by rw [hk]; decide) rfl
                have t1 : (kn.toList == [84, 121, 112, 101]) = false := nameN (show ¬ kn = nType by rw [hk]; decide) rfl
                have t2 : (kn.toList == [78, 101, 120, 116, 78, 111, 110, 99, 101]) = false := nameN (show ¬ kn = nNextNonce by rw [hk]; decide) rfl
                have t3 : (kn.toList == [65, 110, 99, 104, 111, 114]) = false := nameN (show ¬ kn = nAnchor by rw [hk]; decide) rfl
                have t4 : (kn.toList == [83, 105, 122, 101]) = false := nameN (show ¬ kn = nSize by rw [hk]; decide) rfl
                have t5 : (kn.toList == [86, 101, 114, 115, 105, 111, 110]) = false := nameN (show ¬ kn = nVersion by rw [hk]; decide) rfl
                have t6 : (kn.toList == [77, 97, 120, 77, 115, 103, 83, 105, 122, 101]) = false := nameN (show ¬ kn = nMaxMsgSize by rw [hk]; decide) rfl
                have t7 : (kn.toList == [77, 97, 120, 79, 98, 106, 83, 105, 122, 101]) = true := nameY (w := nMaxObjSize) hk rfl
                have hV : takeV m kn kt kks = ({ m with mo := (cntV kt).1 }, (cntV kt).2) := by unfold takeV; rw [if_neg (show ¬ kn = nFormat by rw [hk]; decide), if_neg (show ¬ kn = nType by rw [hk]; decide), if_neg (show ¬ kn = nNextNonce by rw [hk]; decide), if_neg (show ¬ kn = nAnchor by rw [hk]; decide), if_neg (show ¬ kn = nSize by rw [hk]; decide), if_neg (show ¬ kn = nVersion by rw [hk]; decide), if_neg (show ¬ kn = nMaxMsgSize by rw [hk]; decide), if_pos hk]
                clear hk
                rw [hV] at hst herr
                have hcv0 : cntV kt = ((rdS kt).1, if (rdS kt).2 = 0 ∧ (rdS kt).1 = 0 then 3 else (rdS kt).2) := rfl
                have CR := Lib.hid cR.out
                generalize cntV kt = cv at *
                generalize rdS kt = rv at *
                obtain ⟨rn, rf⟩ := rv
                simp only [] at hcv0 CR
                by_cases hf0 : rf = 0
                · have q1 : (rf == 0) = true := by rw [hf0]; rfl
                  by_cases hn0 : rn = 0
                  · have q2 : (rn == 0) = true := by rw [hn0]; rfl
                    have hcv : cv = (rn, 3) := by rw [hcv0, if_pos ⟨hf0, hn0⟩]
                    have hff : (3 : Int) ≠ 0 := by decide
                    clear hcv0 hf0 hn0
                    have herr2 := Lib.hid (herr (by rw [hcv]; exact hff))
                    have HRe : Hid (RS = (met0, 3)) := by unfold Hid; rw [HSay.out, herr2.out, hcv, if_neg hff]
                    have HRR : Hid (R = (met0, 3)) := hRS.out.trans HRe.out
                    clear hst herr hcv hff
                    go_upto_region 28 with (first | (go_at_call 104; refine (CR.out _).mono ?_; rintro r Y ⟨rfl, rfl⟩) | fail)
                    go_wp2_with (refine wpList_store_row rfl 23 (.tmp 2) (.tmp 91) rfl (w.heap.size + 1) #[.string ⟨#[]⟩, .string ⟨#[]⟩, .int .i64 0, .int .i64 0, .string ⟨#[]⟩, .string ⟨#[]⟩, .string ⟨#[]⟩, .int .i64 0, .int .i64 0] rfl rfl 23 _ HR1.out.2.1 (by kernel_rfl) rfl (by simp [Value.oneCell']) ?_)
                    exact bodyPost_ret (results_row_tmp rfl rfl rfl (run_loadVar_row _ (w.heap.size + 1) 23 23 met0.cells (0, 0) _ (setRow_heap _ _ _ _ _ _ HR1.out.2.1) Tryd.underlying23 rfl (by kernel_rfl))) rfl ⟨by rw [HRR.out]; rfl, HXk.out.trans (below_setRow _ _ (Nat.le_succ _))⟩
                  · have q2 : (rn == 0) = false := beq_eq_false_iff_ne.2 hn0
                    have hcv : cv = (rn, 0) := by rw [hcv0, if_neg (fun h => hn0 h.2), hf0]
                    rw [hcv] at hst
                    have HFo2 := Lib.hid (hst rfl)
                    have z1 := HR1.out.2.2.1.cell 8 _ rfl
                    have z2 := HR1.out.2.2.1.frozen 8
                    have HR2 : Hid (RSt w.heap.size bm CB { m with mo := rn } ((wr.alloc (.cells #[.int .i64 kp, .string kn, .string kt, .bool ko, .slice a2 kl c2] 46)).setCell ⟨bm, 8, none⟩ (.int .i64 rn))) := HR1.out.set 8 _ (by simp [MetV.cells])
                    have HXk2 : Hid (Below w.heap.size w ((wr.alloc (.cells #[.int .i64 kp, .string kn, .string kt, .bool ko, .slice a2 kl c2] 46)).setCell ⟨bm, 8, none⟩ (.int .i64 rn))) := HXk.out.setCell (p := ⟨bm, 8, none⟩) (Nat.le_trans (Nat.le_add_right _ 2) HR1.out.2.2.2) _
                    subst hf0
                    clear hst herr hcv hcv0 hn0 q1
                    go_wp2_with (first | (go_at_call 104; refine (CR.out _).mono ?_; rintro r Y ⟨rfl, rfl⟩) | fail)
                    go_roundw
                    case rel => exact ⟨i + 1, _, HI1.out, rfl, by go_num, HR2.out, HXk2.out, HFo2.out, HSm.out⟩
                    case measure => first | exact HMs.out | (rw [HW1.out]; exact HMs.out)
                · have q1 : (rf == 0) = false := beq_eq_false_iff_ne.2 hf0
                  have q3 : (rf != 0) = true := bne_iff_ne.2 hf0
                  have hcv : cv = (rn, rf) := by rw [hcv0, if_neg (fun h => hf0 h.1)]
                  have hff : rf ≠ 0 := hf0
                  clear hcv0 hf0
                  have herr2 := Lib.hid (herr (by rw [hcv]; exact hff))
                  have HRe : Hid (RS = (met0, rf)) := by unfold Hid; rw [HSay.out, herr2.out, hcv, if_neg hff]
                  have HRR : Hid (R = (met0, rf)) := hRS.out.trans HRe.out
                  clear hst herr hcv hff
                  go_upto_region 28 with (first | (go_at_call 104; refine (CR.out _).mono ?_; rintro r Y ⟨rfl, rfl⟩) | fail)
                  go_wp2_with (refine wpList_store_row rfl 23 (.tmp 2) (.tmp 91) rfl (w.heap.size + 1) #[.string ⟨#[]⟩, .string ⟨#[]⟩, .int .i64 0, .int .i64 0, .string ⟨#[]⟩, .string ⟨#[]⟩, .string ⟨#[]⟩, .int .i64 0, .int .i64 0] rfl rfl 23 _ HR1.out.2.1 (by kernel_rfl) rfl (by simp [Value.oneCell']) ?_)
                  exact bodyPost_ret (results_row_tmp rfl rfl rfl (run_loadVar_row _ (w.heap.size + 1) 23 23 met0.cells (0, 0) _ (setRow_heap _ _ _ _ _ _ HR1.out.2.1) Tryd.underlying23 rfl (by kernel_rfl))) rfl ⟨by rw [HRR.out]; rfl, HXk.out.trans (below_setRow _ _ (Nat.le_succ _))⟩
              have t0 : (kn.toList == [70, 111, 114, 109, 97, 116]) = false := nameN (w := nFormat) h0 rfl
              have t1 : (kn.toList == [84, 121, 112, 101]) = false := nameN (w := nType) h1 rfl
              have t2 : (kn.toList == [78, 101, 120, 116, 78, 111, 110, 99, 101]) = false := nameN (w := nNextNonce) h2 rfl
              have t3 : (kn.toList == [65, 110, 99, 104, 111, 114]) = false := nameN (w := nAnchor) h3 rfl
              have t4 : (kn.toList == [83, 105, 122, 101]) = false := nameN (w := nSize) h4 rfl
              have t5 : (kn.toList == [86, 101, 114, 115, 105, 111, 110]) = false := nameN (w := nVersion) h5 rfl
              have t6 : (kn.toList == [77, 97, 120, 77, 115, 103, 83, 105, 122, 101]) = false := nameN (w := nMaxMsgSize) h6 rfl
              have t7 : (kn.toList == [77, 97, 120, 79, 98, 106, 83, 105, 122, 101]) = false := nameN (w := nMaxObjSize) h7 rfl
              have hV : takeV m kn kt kks = (m, 0) := by unfold takeV; rw [if_neg h0, if_neg h1, if_neg h2, if_neg h3, if_neg h4, if_neg h5, if_neg h6, if_neg h7]
              clear h0 h1 h2 h3 h4 h5 h6 h7
              rw [hV] at hst herr
              have HFo2 := Lib.hid (hst rfl)
              clear hst herr
              go_wp2_with fail
              go_roundw
              case rel => exact ⟨i + 1, m, HI1.out, rfl, by go_num, HR1.out, HXk.out, HFo2.out, HSm.out⟩
              case measure => first | exact HMs.out | (rw [HW1.out]; exact HMs.out)
            · have j3 : ¬ (i : Int) < (nk : Int) := by omega
              obtain rfl : i = nk := by omega
              have HMl := HKl.out
              have hdr : ks.drop i = [] := List.drop_of_length_le (by rw [HNK.out]; exact Nat.le_refl _)
              have hF : foldV met0 ks = (m, 0) := by rw [HFo.out, hdr]; rfl
              have hR : R = endV m := by rw [hRS.out, HSay.out, hF, if_pos rfl]
              have hE : endV m = if chkMV m = 0 then (m, 0) else (met0, chkMV m) := rfl
              rw [hE] at hR
              obtain ⟨s1, s2, s3, s4, s5⟩ := HSm.out
              have cK := Lib.hid (fun X => refMet_any m.fo m.ty m.sz m.ve m.la m.ne m.no m.mm m.mo (by omega) (by omega) (by omega) (by omega) (by omega) X)
              have HCk : Hid (chkM m.fo m.ty m.sz m.ve m.la m.ne m.no m.mm m.mo = chkMV m) := rfl
              rw [HCk.out] at cK
              have v0 := HR.out.2.2.1.cell 0 _ rfl
              have v1 := HR.out.2.2.1.cell 1 _ rfl
              have v2 := HR.out.2.2.1.cell 2 _ rfl
              have v3 := HR.out.2.2.1.cell 3 _ rfl
              have v4 := HR.out.2.2.1.cell 4 _ rfl
              have v5 := HR.out.2.2.1.cell 5 _ rfl
              have v6 := HR.out.2.2.1.cell 6 _ rfl
              have v7 := HR.out.2.2.1.cell 7 _ rfl
              have v8 := HR.out.2.2.1.cell 8 _ rfl
              clear HMl hdr hF hE s1 s2 s3 s4 s5 HSay HKf HFo hi hlt
              generalize chkMV m = f at *
              clear HCk
              by_cases hf : f = 0
              · have HRR : Hid (R = (m, 0)) := by rw [hR, if_pos hf]; rfl
                subst hf
                clear hR
                go_wp2_with fail
                have cX := cK.out wr
                refine cX.mono ?_
                clear cX cK
                rintro r Y ⟨rfl, hb1⟩
                have HRY := Lib.hid (HR.out.below hb1)
                have HXY := Lib.hid (HX.out.trans (hb1.mono HX.out.size))
                have u0 := HRY.out.2.2.1.cell 0 _ rfl
                have u1 := HRY.out.2.2.1.cell 1 _ rfl
                have u2 := HRY.out.2.2.1.cell 2 _ rfl
                have u3 := HRY.out.2.2.1.cell 3 _ rfl
                have u4 := HRY.out.2.2.1.cell 4 _ rfl
                have u5 := HRY.out.2.2.1.cell 5 _ rfl
                have u6 := HRY.out.2.2.1.cell 6 _ rfl
                have u7 := HRY.out.2.2.1.cell 7 _ rfl
                have u8 := HRY.out.2.2.1.cell 8 _ rfl
                clear hb1 v0 v1 v2 v3 v4 v5 v6 v7 v8 y4
                go_upto_region 50 with fail
                go_wp2_with (refine wpList_store_row rfl 23 (.tmp 2) (.tmp 146) rfl (w.heap.size + 1) m.cells rfl rfl 23 _ HRY.out.2.1 (by kernel_rfl) rfl (by simp [MetV.cells, Value.oneCell']) ?_)
                exact bodyPost_ret (results_row_tmp rfl rfl rfl (run_loadVar_row _ (w.heap.size + 1) 23 23 m.cells (0, 0) _ (setRow_heap _ _ _ _ _ _ HRY.out.2.1) Tryd.underlying23 rfl (by kernel_rfl))) rfl ⟨by rw [HRR.out]; rfl, HXY.out.trans (below_setRow _ _ (Nat.le_succ _))⟩
              · have HRR : Hid (R = (met0, f)) := by rw [hR, if_neg hf]; rfl
                have q1 : (f != 0) = true := bne_iff_ne.2 hf
                clear hR hf
                go_wp2_with fail
                have cX := cK.out wr
                refine cX.mono ?_
                clear cX cK
                rintro r Y ⟨rfl, hb1⟩
                have HRY := Lib.hid (HR.out.below hb1)
                have HXY := Lib.hid (HX.out.trans (hb1.mono HX.out.size))
                clear hb1 v0 v1 v2 v3 v4 v5 v6 v7 v8 y4
                go_upto_region 49 with fail
                go_wp2_with (refine wpList_store_row rfl 23 (.tmp 2) (.tmp 144) rfl (w.heap.size + 1) #[.string ⟨#[]⟩, .string ⟨#[]⟩, .int .i64 0, .int .i64 0, .string ⟨#[]⟩, .string ⟨#[]⟩, .string ⟨#[]⟩, .int .i64 0, .int .i64 0] rfl rfl 23 _ HRY.out.2.1 (by kernel_rfl) rfl (by simp [Value.oneCell']) ?_)
                exact bodyPost_ret (results_row_tmp rfl rfl rfl (run_loadVar_row _ (w.heap.size + 1) 23 23 met0.cells (0, 0) _ (setRow_heap _ _ _ _ _ _ HRY.out.2.1) Tryd.underlying23 rfl (by kernel_rfl))) rfl ⟨by rw [HRR.out]; rfl, HXY.out.trans (below_setRow _ _ (Nat.le_succ _))⟩
end Go.Proofs.YtgechifbbhipaaaDoor
