/- metinf: the reference's say and leaf. No condition but sizes. -/
import Derived.Test.YtdaiijkanfjklaaDoorMeE
namespace Go.Proofs.YtdaiijkanfjklaaDoor
open Go.RowKit

/-- a list handed on, grown by some -/
def GrP (B : Nat) (v : Value) (ks : List Tr) (w : World) (r : Ending) (w' : World) : Prop := ∃ v', r = .returned v' ∧ RowQ w' B v' ks ∧ w.grownBy w' v.ownBlock ∧ (v'.ownBlock = v.ownBlock ∨ ∀ b, v'.ownBlock = some b → w.heap.size ≤ b)
def leafL (nm tx : ByteArray) : List Tr := if tx.size = 0 ∨ tx = ⟨#[48]⟩ then [] else [.mk 1 nm tx false []]

theorem row_push {w w' : World} {B n : Nat} {a : Option Addr} {c a' c' : _} {xs : List Value} {ks : List Tr} {nm tx : ByteArray} (hlen : ks.length = n) (h1 : nm.size ≤ reachT) (h2 : tx.size ≤ reachT)
    (hq : KLQ w (fun b => B ≤ b ∧ b < w.heap.size ∧ (.slice a n c : Value).ownBlock ≠ some b) ks xs) (ho : w'.ownsRow B 24 5 (.slice a' (n + 1) c') (n + 1) (xs ++ [.int .i64 1, .string nm, .string tx, .bool false, .slice none 0 0]))
    (hg : w.grownBy w' (.slice a n c : Value).ownBlock) (hm : (.slice a' (n + 1) c' : Value).ownBlock = (.slice a n c : Value).ownBlock ∨ ∀ b, (.slice a' (n + 1) c' : Value).ownBlock = some b → w.heap.size ≤ b) :
    RowQ w' B (.slice a' (n + 1) c') (ks ++ [.mk 1 nm tx false []]) := by
  refine ⟨xs ++ [.int .i64 1, .string nm, .string tx, .bool false, .slice none 0 0], by rw [List.length_append, hlen]; exact ho, (hq.keep (fun b hb => ⟨⟨hb.1, Nat.lt_of_lt_of_le hb.2.1 hg.size, ?_⟩, hg.block b hb.2.1 (fun e => hb.2.2 e.symm)⟩)).append ⟨_, [], by simp, rfl, AtQ.leaf h1 h2, rfl⟩⟩
  rcases hm with hm | hm
  · rw [hm]; exact hb.2.2
  · intro e; have := hm b e; omega
theorem grown_alloc {w w' : World} {o : Obj} {row : Option Nat} (h : (w.alloc o).grownBy w' row) : w.grownBy w' row :=
  ⟨h.os, h.tape, h.output, Nat.le_trans (by simp) h.size, fun b hb hne => (h.block b (by simp; omega) hne).trans (Below.heap_alloc _ _ _ hb)⟩

theorem RowQ.form {w : World} {B : Nat} {v : Value} {ks : List Tr} (h : RowQ w B v ks) : ∃ a n c, v = .slice a n c := by
  obtain ⟨xs, h1, _⟩ := h
  obtain ⟨a, c, rfl⟩ := own_form h1
  exact ⟨a, _, c, rfl⟩
theorem wpList_appM {P : Program} {w : World} {ops : Array Oper} {rest : List Oper} {o : Oper} {a : Act} {Q : Exit → Act → World → Prop} (hgd : o.guard = none) (s x : Operand) (t : TypeId)
    (ho : o.op = .call { callee := .builtin .append, args := #[s, x], argTypes := #[t, t] })
    (base : Nat) (e : TypeId) (i : TypeInfo) (z : Value) (size bytes : Nat) (ht : P.underlying t = some (.slice e)) (hi : P.info? e = some i) (hz : i.zero = some z)
    (hsize : i.size = size) (hby : i.bytes = bytes) (hzs : z.cells.size = size) (hsz : 0 < size)
    (v : Value) (n : Nat) (xs : List Value) (hs : a.eval s = v) (hown : w.ownsRow base e size v n xs)
    (ad : Option Addr) (m c : Nat) (news : List Value) (hx : a.eval x = .slice ad m c) (hl : news.length = m * size) (hnone : ad = none → m = 0 ∧ c = 0) (hnews : ∀ q, ad = some q → ∀ j u, news[j]? = some u → w.cell? (q.add j) = some u) (h1 : ∀ u ∈ news, u.oneCell' = true)
    (h63 : n + m ≤ maxLen) (hbytes : (n + m) * bytes ≤ 140737488355328) (hbase : base ≤ w.heap.size)
    (h : ∀ a' c' w', w'.ownsRow base e size (.slice a' (n + m) c') (n + m) (xs ++ news) → w.grownBy w' v.ownBlock → ((.slice a' (n + m) c' : Value).ownBlock = v.ownBlock ∨ (.slice a' (n + m) c' : Value).ownBlock = some w.heap.size) → wpList P ops Q rest (a.put o.dst (.slice a' (n + m) c')) w') :
    wpList P ops Q (o :: rest) a w := by
  have form : ∀ {W : World} {v : Value} {n : Nat} {xs : List Value}, W.ownsRow base e size v n xs → ∃ a' c', v = .slice a' n c' := by
    intro W v n xs h
    rcases h.2 with ⟨rfl, rfl⟩ | ⟨g, cap, _, rfl, _⟩
    · exact ⟨none, 0, rfl⟩
    · exact ⟨_, cap, rfl⟩
  cases ad with
  | none =>
    obtain ⟨rfl, rfl⟩ := hnone rfl
    obtain rfl : news = [] := List.eq_nil_of_length_eq_zero (by omega)
    refine wpList_append_own_none hgd s x t ho base e i size ht hi v n xs hs hown hx ?_
    obtain ⟨a', c', rfl⟩ := form hown
    exact h a' c' w (by rw [List.append_nil]; exact hown) (World.grownBy.refl w _) (.inl rfl)
  | some ad =>
    refine wpList_append_own_at _ hgd s x t ho base e i z size bytes ht hi hz hsize hby hzs hsz v n xs hs hown ad m c news hx hl (hnews ad rfl) h1 h63 hbytes hbase ?_
    intro v' w' hown' hgr _ hm
    obtain ⟨a', c', rfl⟩ := form hown'
    exact h a' c' w' hown' hgr hm

set_option maxRecDepth 100000 in
set_option maxHeartbeats 4000000 in
theorem rsay_put (B : Nat) (nm tx : ByteArray) (h1 : nm.size ≤ reachT) (h2 : tx.size ≤ reachT) (v : Value) (ks : List Tr) (hn : ks.length ≤ 1000) (w : World) (hB : B ≤ w.heap.size) (hr : RowQ w B v ks) (ht : tx.size ≠ 0) :
    Calls Tryd.prog 40 #[v, .string nm, .string tx] w fun r w' => GrP B v (ks ++ [.mk 1 nm tx false []]) w r w' := by
  obtain ⟨xs, ho, hq⟩ := hr
  have i1 := not_empty tx ht
  obtain ⟨a, c, rfl⟩ := own_form ho
  have HO := Lib.hid (ho.alloc (.cells #[.int .i64 1, .string nm, .string tx, .bool false, .slice none 0 0] 24))
  have HQ := Lib.hid hq
  have HXL := Lib.hid ho.1
  have HC : Hid (∀ q : Addr, some (⟨w.heap.size, 0, none⟩ : Addr) = some q → ∀ j u, ([.int .i64 1, .string nm, .string tx, .bool false, .slice none 0 0] : List Value)[j]? = some u → (w.alloc (.cells #[.int .i64 1, .string nm, .string tx, .bool false, .slice none 0 0] 24)).cell? (q.add j) = some u) :=
    new_cells (cs := [.int .i64 1, .string nm, .string tx, .bool false, .slice none 0 0]) (Below.refl _ _)
  clear ho hq
  generalize hnn : ks.length = n at *
  have HNN := Lib.hid hnn
  clear hnn
  obtain ⟨i0, hi, hz0, hz1, hz2⟩ := info24
  have HI := Lib.hid hi
  have HZ0 := Lib.hid hz0
  have HZ1 := Lib.hid hz1
  have HZ2 := Lib.hid hz2
  clear hi hz0 hz1 hz2
  have HBY : Hid ((n + 1) * 72 ≤ 140737488355328) := by unfold Hid; omega
  have H63 : Hid (n + 1 ≤ maxLen) := by unfold Hid maxLen; omega
  have HS1 := Lib.hid h1
  have HS2 := Lib.hid h2
  clear h1 h2 ht
  go_enter Tryd.func40, Tryd.ntmps40
  go_wp2_with (at_builtin; go_must (refine wpList_appM rfl _ _ 22 rfl B 24 i0 _ 5 72 Tryd.underlying22 HI.out HZ0.out HZ1.out HZ2.out rfl (by decide) _ n xs rfl HO.out (some ⟨w.heap.size, 0, none⟩) 1 1 _ rfl rfl (fun h => by cases h) HC.out (by simp [Value.oneCell']) H63.out HBY.out (by simp; omega) ?_); intro a5 c5 w5 ho5 hg5 hm5; have HO5 := Lib.hid ho5; have HG5 := Lib.hid hg5; have HM5 := Lib.hid hm5; clear ho5 hg5 hm5)
  go_ret
  have hM : (.slice a5 (n + 1) c5 : Value).ownBlock = (.slice a n c : Value).ownBlock ∨ ∀ b, (.slice a5 (n + 1) c5 : Value).ownBlock = some b → w.heap.size ≤ b := HM5.out.imp id (fun e b hb => by
    rw [e] at hb
    have := Option.some.inj hb
    simp at this; omega)
  exact ⟨_, rfl, row_push HNN.out HS1.out HS2.out HQ.out HO5.out (grown_alloc HG5.out) hM, grown_alloc HG5.out, hM⟩
theorem rsay_no (B : Nat) (nm tx : ByteArray) (v : Value) (ks : List Tr) (w : World) (hr : RowQ w B v ks) (ht : tx.size = 0) :
    Calls Tryd.prog 40 #[v, .string nm, .string tx] w fun r w' => GrP B v ks w r w' := by
  have hf := hr.form
  obtain ⟨a, n, c, rfl⟩ := hf
  have HR := Lib.hid hr
  clear hr
  have i1 := emptyB tx ht
  clear ht
  go_enter Tryd.func40, Tryd.ntmps40
  go_wp2_with fail
  go_ret
  exact ⟨_, rfl, HR.out, World.grownBy.refl w _, .inl rfl⟩

theorem strE_not {x s : ByteArray} (h : x ≠ s) : (x.toList == s.toList) = false := by
  cases e : (x.toList == s.toList) with
  | false => rfl
  | true =>
    rw [ByteArray.toList_eq, ByteArray.toList_eq, beq_iff_eq] at e
    exact absurd (Go.WideShapes.bytes_inj e) h

set_option maxRecDepth 100000 in
set_option maxHeartbeats 4000000 in
theorem rleaf_put (B : Nat) (nm tx : ByteArray) (h1 : nm.size ≤ reachT) (h2 : tx.size ≤ reachT) (v : Value) (ks : List Tr) (hn : ks.length ≤ 1000) (w : World) (hB : B ≤ w.heap.size) (hr : RowQ w B v ks) (ht : tx.size ≠ 0) (ht2 : tx ≠ ⟨#[48]⟩) :
    Calls Tryd.prog 41 #[v, .string nm, .string tx] w fun r w' => GrP B v (ks ++ [.mk 1 nm tx false []]) w r w' := by
  obtain ⟨xs, ho, hq⟩ := hr
  have i1 := not_empty tx ht
  have i2 : (tx.toList == ({ data := #[48] } : ByteArray).toList) = false := strE_not ht2
  have e48 : ({ data := #[48] } : ByteArray).toList = [48] := by rw [ByteArray.toList_eq]
  have i3 : (tx.toList == [48]) = false := by rw [← e48]; exact i2
  have i4 : ¬ tx.toList = [48] := by rw [← e48]; intro h; rw [h] at i2; simp at i2
  clear e48
  obtain ⟨a, c, rfl⟩ := own_form ho
  have HO := Lib.hid (ho.alloc (.cells #[.int .i64 1, .string nm, .string tx, .bool false, .slice none 0 0] 24))
  have HQ := Lib.hid hq
  have HXL := Lib.hid ho.1
  have HC : Hid (∀ q : Addr, some (⟨w.heap.size, 0, none⟩ : Addr) = some q → ∀ j u, ([.int .i64 1, .string nm, .string tx, .bool false, .slice none 0 0] : List Value)[j]? = some u → (w.alloc (.cells #[.int .i64 1, .string nm, .string tx, .bool false, .slice none 0 0] 24)).cell? (q.add j) = some u) :=
    new_cells (cs := [.int .i64 1, .string nm, .string tx, .bool false, .slice none 0 0]) (Below.refl _ _)
  clear ho hq
  generalize hnn : ks.length = n at *
  have HNN := Lib.hid hnn
  clear hnn
  obtain ⟨i0, hi, hz0, hz1, hz2⟩ := info24
  have HI := Lib.hid hi
  have HZ0 := Lib.hid hz0
  have HZ1 := Lib.hid hz1
  have HZ2 := Lib.hid hz2
  clear hi hz0 hz1 hz2
  have HBY : Hid ((n + 1) * 72 ≤ 140737488355328) := by unfold Hid; omega
  have H63 : Hid (n + 1 ≤ maxLen) := by unfold Hid maxLen; omega
  have HS1 := Lib.hid h1
  have HS2 := Lib.hid h2
  clear h1 h2 ht
  go_enter Tryd.func41, Tryd.ntmps41
  go_wp2_with (at_builtin; go_must (refine wpList_appM rfl _ _ 22 rfl B 24 i0 _ 5 72 Tryd.underlying22 HI.out HZ0.out HZ1.out HZ2.out rfl (by decide) _ n xs rfl HO.out (some ⟨w.heap.size, 0, none⟩) 1 1 _ rfl rfl (fun h => by cases h) HC.out (by simp [Value.oneCell']) H63.out HBY.out (by simp; omega) ?_); intro a5 c5 w5 ho5 hg5 hm5; have HO5 := Lib.hid ho5; have HG5 := Lib.hid hg5; have HM5 := Lib.hid hm5; clear ho5 hg5 hm5)
  go_ret
  have hM : (.slice a5 (n + 1) c5 : Value).ownBlock = (.slice a n c : Value).ownBlock ∨ ∀ b, (.slice a5 (n + 1) c5 : Value).ownBlock = some b → w.heap.size ≤ b := HM5.out.imp id (fun e b hb => by
    rw [e] at hb
    have := Option.some.inj hb
    simp at this; omega)
  exact ⟨_, rfl, row_push HNN.out HS1.out HS2.out HQ.out HO5.out (grown_alloc HG5.out) hM, grown_alloc HG5.out, hM⟩
theorem rleaf_no (B : Nat) (nm tx : ByteArray) (v : Value) (ks : List Tr) (w : World) (hr : RowQ w B v ks) (ht : tx.size = 0 ∨ tx = ⟨#[48]⟩) :
    Calls Tryd.prog 41 #[v, .string nm, .string tx] w fun r w' => GrP B v ks w r w' := by
  have hf := hr.form
  obtain ⟨a, n, c, rfl⟩ := hf
  have HR := Lib.hid hr
  clear hr
  by_cases h0 : tx.size = 0
  · have i1 := emptyB tx h0
    clear ht h0
    go_enter Tryd.func41, Tryd.ntmps41
    go_wp2_with fail
    go_ret
    exact ⟨_, rfl, HR.out, World.grownBy.refl w _, .inl rfl⟩
  · have h2 : tx = ⟨#[48]⟩ := ht.resolve_left h0
    subst h2
    clear ht h0
    go_enter Tryd.func41, Tryd.ntmps41
    go_wp2_with fail
    go_ret
    exact ⟨_, rfl, HR.out, World.grownBy.refl w _, .inl rfl⟩

theorem rsay_any (B : Nat) (nm tx : ByteArray) (h1 : nm.size ≤ reachT) (h2 : tx.size ≤ reachT) (v : Value) (ks : List Tr) (hn : ks.length ≤ 1000) (w : World) (hB : B ≤ w.heap.size) (hr : RowQ w B v ks) :
    Calls Tryd.prog 40 #[v, .string nm, .string tx] w fun r w' => GrP B v (ks ++ sayL nm tx) w r w' := by
  unfold sayL
  by_cases ht : tx.size = 0
  · rw [if_pos ht, List.append_nil]; exact rsay_no B nm tx v ks w hr ht
  · rw [if_neg ht]; exact rsay_put B nm tx h1 h2 v ks hn w hB hr ht
theorem rleaf_any (B : Nat) (nm tx : ByteArray) (h1 : nm.size ≤ reachT) (h2 : tx.size ≤ reachT) (v : Value) (ks : List Tr) (hn : ks.length ≤ 1000) (w : World) (hB : B ≤ w.heap.size) (hr : RowQ w B v ks) :
    Calls Tryd.prog 41 #[v, .string nm, .string tx] w fun r w' => GrP B v (ks ++ leafL nm tx) w r w' := by
  unfold leafL
  by_cases ht : tx.size = 0 ∨ tx = ⟨#[48]⟩
  · rw [if_pos ht, List.append_nil]; exact rleaf_no B nm tx v ks w hr ht
  · rw [if_neg ht]; exact rleaf_put B nm tx h1 h2 v ks hn w hB hr (fun h => ht (.inl h)) (fun h => ht (.inr h))
end Go.Proofs.YtdaiijkanfjklaaDoor
