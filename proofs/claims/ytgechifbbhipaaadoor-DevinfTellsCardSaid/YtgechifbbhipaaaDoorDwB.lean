/- devinf: say, node and put of the reference. No condition but sizes. -/
import Derived.Test.YtgechifbbhipaaaDoorDvZ
set_option linter.unusedVariables false
set_option linter.unusedSimpArgs false
namespace Go.Proofs.YtgechifbbhipaaaDoor
open Go.RowKit

theorem wpList_appM {P : Program} {w : World} {ops : Array Oper} {rest : List Oper} {o : Oper} {a : Act} {Q : Exit → Act → World → Prop} (hgd : o.guard = none) (s x : Operand) (t : TypeId)
    (ho : o.op = .call { callee := .builtin .append, args := #[s, x], argTypes := #[t, t] })
    (base : Nat) (e : TypeId) (i : TypeInfo) (z : Value) (size bytes : Nat) (ht : P.underlying t = some (.slice e)) (hi : P.info? e = some i) (hz : i.zero = some z)
    (hsize : i.size = size) (hby : i.bytes = bytes) (hzs : z.cells.size = size) (hsz : 0 < size)
    (v : Value) (n : Nat) (xs : List Value) (hs : a.eval s = v) (hown : w.ownsRow base e size v n xs)
    (ad : Option Addr) (m c : Nat) (news : List Value) (hx : a.eval x = .slice ad m c) (hl : news.length = m * size) (hnone : ad = none → m = 0 ∧ c = 0) (hnews : ∀ q, ad = some q → ∀ j u, news[j]? = some u → w.cell? (q.add j) = some u) (h1 : ∀ u ∈ news, u.oneCell' = true)
    (h63 : n + m ≤ maxLen) (hbytes : (n + m) * bytes ≤ 140737488355328) (hbase : base ≤ w.heap.size)
    (h : ∀ a' c' w', w'.ownsRow base e size (.slice a' (n + m) c') (n + m) (xs ++ news) → w.grownBy w' v.ownBlock → ((.slice a' (n + m) c' : Value).ownBlock = v.ownBlock ∨ (.slice a' (n + m) c' : Value).ownBlock = some w.heap.size) → wpList P ops Q rest (a.put o.dst (.slice a' (n + m) c')) w') :
    wpList P ops Q (o :: rest) a w := by
  have form : ∀ {W : World} {v : Value} {n : Nat} {xs : List Value}, W.ownsRow base e size v n xs → ∃ a' c', v = .slice a' n c' := by
    intro W v n xs h
    rcases h.2 with ⟨rfl, rfl⟩ | ⟨g, cap, _, rfl, _⟩
    · exact ⟨none, 0, rfl⟩
    · exact ⟨_, cap, rfl⟩
  cases ad with
  | none =>
    obtain ⟨rfl, rfl⟩ := hnone rfl
    obtain rfl : news = [] := List.eq_nil_of_length_eq_zero (by omega)
    refine wpList_append_own_none hgd s x t ho base e i size ht hi v n xs hs hown hx ?_
    obtain ⟨a', c', rfl⟩ := form hown
    exact h a' c' w (by rw [List.append_nil]; exact hown) (World.grownBy.refl w _) (.inl rfl)
  | some ad =>
    refine wpList_append_own_at _ hgd s x t ho base e i z size bytes ht hi hz hsize hby hzs hsz v n xs hs hown ad m c news hx hl (hnews ad rfl) h1 h63 hbytes hbase ?_
    intro v' w' hown' hgr _ hm
    obtain ⟨a', c', rfl⟩ := form hown'
    exact h a' c' w' hown' hgr hm

theorem refSay_put (B : Nat) (nm tx : ByteArray) (h1 : nm.size ≤ reachT) (h2 : tx.size ≤ reachT) (a : Option Addr) (n c : Nat) (ks : List Tr) (hn : ks.length = n) (hn9 : n ≤ 1000) (w : World) (hB : B ≤ w.heap.size) (hr : RowQ w B (.slice a n c) ks) (ht : tx.size ≠ 0) :
    Calls Tryd.prog 66 #[.slice a n c, .string nm, .string tx] w fun r w' => (∃ a' c', r = .returned (.slice a' (n + 1) c') ∧ RowQ w' B (.slice a' (n + 1) c') (ks ++ [.mk 2 nm tx false []])) ∧ Below B w w' := by
  obtain ⟨xs, ho, hq⟩ := hr
  have i1 := not_empty tx ht
  subst hn
  have HD : Hid (Below w.heap.size w (w.alloc (.cells #[.int .i64 2, .string nm, .string tx, .bool false, .slice none 0 0] 46))) := (Below.refl _ _).alloc (Nat.le_refl _) _
  have HO := Lib.hid (ho.alloc (.cells #[.int .i64 2, .string nm, .string tx, .bool false, .slice none 0 0] 46))
  have HO0 := Lib.hid ho
  have HQ := Lib.hid hq
  have HC : Hid (∀ q : Addr, some (⟨w.heap.size, 0, none⟩ : Addr) = some q → ∀ j u, ([.int .i64 2, .string nm, .string tx, .bool false, .slice none 0 0] : List Value)[j]? = some u → (w.alloc (.cells #[.int .i64 2, .string nm, .string tx, .bool false, .slice none 0 0] 46)).cell? (q.add j) = some u) :=
    new_cells (cs := [.int .i64 2, .string nm, .string tx, .bool false, .slice none 0 0]) (Below.refl _ _)
  clear ho hq
  generalize hnn : ks.length = n at *
  have HNN := Lib.hid hnn
  clear hnn
  obtain ⟨i0, hi, hz0, hz1, hz2⟩ := info24
  have HI := Lib.hid hi
  have HZ0 := Lib.hid hz0
  have HZ1 := Lib.hid hz1
  have HZ2 := Lib.hid hz2
  clear hi hz0 hz1 hz2
  have HBY : Hid ((n + 1) * 72 ≤ 140737488355328) := by unfold Hid; omega
  have H63 : Hid (n + 1 ≤ maxLen) := by unfold Hid maxLen; omega
  have HS1 := Lib.hid h1
  have HS2 := Lib.hid h2
  clear h1 h2 ht
  go_enter Tryd.func66, Tryd.ntmps66
  go_wp2_with (at_builtin; go_must (refine wpList_appM rfl _ _ 44 rfl B 46 i0 _ 5 72 Tryd.underlying44 HI.out HZ0.out HZ1.out HZ2.out rfl (by decide) _ n xs rfl HO.out (some ⟨w.heap.size, 0, none⟩) 1 1 _ rfl rfl (fun h => by cases h) HC.out (by simp [Value.oneCell']) H63.out HBY.out (by simp; omega) ?_); intro a5 c5 w5 ho5 hg5 hm5; have HO5 := Lib.hid ho5; have HG5 := Lib.hid hg5; have HM5 := Lib.hid hm5; clear ho5 hg5 hm5)
  go_ret
  exact ⟨⟨_, _, rfl, push_end (lo := w.heap.size) (hi := w.heap.size) HNN.out HO0.out HQ.out HD.out hB (Nat.le_refl _) HD.out.size (AtQ.leaf HS1.out HS2.out) rfl HO5.out HG5.out HM5.out⟩, (HD.out.mono hB).grown HG5.out (Nat.le_trans hB HD.out.size) (fun k hk => (HO0.out.lt k hk).1)⟩
theorem refSay_no (nm tx : ByteArray) (a : Option Addr) (n c : Nat) (w : World) (ht : tx.size = 0) :
    Calls Tryd.prog 66 #[.slice a n c, .string nm, .string tx] w fun r w' => r = .returned (.slice a n c) ∧ w' = w := by
  have i1 := emptyB tx ht
  clear ht
  go_enter Tryd.func66, Tryd.ntmps66
  go_wp2_with fail
  go_ret
  exact ⟨rfl, rfl⟩
/-- in the reference's list: any text -/
theorem refSay_any (B : Nat) (nm tx : ByteArray) (h1 : nm.size ≤ reachT) (h2 : tx.size ≤ reachT) (v : Value) (ks : List Tr) (hn9 : ks.length ≤ 1000) (w : World) (hB : B ≤ w.heap.size) (hr : RowQ w B v ks) :
    Calls Tryd.prog 66 #[v, .string nm, .string tx] w fun r w' => (∃ v', r = .returned v' ∧ RowQ w' B v' (ks ++ sayF nm tx)) ∧ Below B w w' := by
  have hr2 := hr
  obtain ⟨xs, ho, _⟩ := hr2
  obtain ⟨a, c, rfl⟩ := own_form ho
  by_cases ht : tx.size = 0
  · refine (refSay_no nm tx a _ c w ht).mono ?_
    rintro r w' ⟨rfl, rfl⟩
    have e : sayF nm tx = [] := if_pos ht
    rw [e, List.append_nil]
    exact ⟨⟨_, rfl, hr⟩, Below.refl _ _⟩
  · refine (refSay_put B nm tx h1 h2 a _ c ks rfl hn9 w hB hr ht).mono ?_
    rintro r w' ⟨⟨a', c', rfl, hr'⟩, hb⟩
    have e : sayF nm tx = [.mk 2 nm tx false []] := if_neg ht
    rw [e]
    exact ⟨⟨_, rfl, hr'⟩, hb⟩
theorem refNodeD_any (nm : ByteArray) (a : Option Addr) (n c : Nat) (w : World) : Calls Tryd.prog 67 #[.string nm, .slice a n c] w fun r w' => r = .returned (.agg #[.int .i64 2, .string nm, .string ByteArray.empty, .bool false, .slice a n c]) ∧ Below w.heap.size w w' := by
  go_enter Tryd.func67, Tryd.ntmps67
  go_wp2_with fail
  refine bodyPost_ret (results_cell_row rfl _ _ w.heap.size 46 #[.int .i64 2, .string nm, .string ByteArray.empty, .bool false, .slice a n c] (0, 0) _ rfl ?_ Tryd.underlying46 rfl (by kernel_rfl)) rfl ?_
  · first | exact World.alloc_heap_new _ _ | (refine dv_set5_row ?_ ; exact World.alloc_heap_new _ _)
  · refine ⟨rfl, ?_⟩
    first | exact (Below.refl _ w).alloc (Nat.le_refl _) _ | exact ((Below.refl _ w).alloc (Nat.le_refl _) _).trans (dv_set5_below (Nat.le_refl _))
end Go.Proofs.YtgechifbbhipaaaDoor
