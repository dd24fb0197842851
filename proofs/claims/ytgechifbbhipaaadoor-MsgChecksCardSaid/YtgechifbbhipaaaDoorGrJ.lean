/- grammar: the first element that is not as its rule has it, the program's Check. No condition but the tables. -/
import Derived.Test.YtgechifbbhipaaaDoorGrG
import Derived.Test.YtgechifbbhipaaaDoorGrH
set_option linter.unusedVariables false
set_option linter.unusedSimpArgs false
namespace Go.Proofs.YtgechifbbhipaaaDoor
open Go.RowKit Go.Shelf

attribute [local go_sem] Oper.semAt_some

theorem walkT_any (p : Int) (nm tx : ByteArray) (o : Bool) (a : Option Addr) (nk c : Nat) (w : World) :
    Calls Tryd.prog 97 #[.agg #[.int .i64 p, .string nm, .string tx, .bool o, .slice a nk c]] w fun e w' => e = .returned (.func (.func 179) #[] #[.pointer (some ⟨w.heap.size + 1, 0, none⟩), .pointer (some ⟨w.heap.size + 1 + 1, 0, none⟩)]) ∧
      w'.rangeAt (w.heap.size + 1) 0 [.int .i64 p, .string nm, .string tx, .bool o, .slice a nk c] ∧ w'.cell? ⟨w.heap.size + 1 + 1, 0, none⟩ = some (.int .i64 20) ∧ w'.heap.size = w.heap.size + 1 + 2 ∧ Below w.heap.size w w' := by
  have cW := Lib.hid (fun w => within_any p nm tx o a nk c 20 w)
  go_enter Tryd.func97, Tryd.ntmps97
  go_wp2_with fail
  refine (cW.out _).mono ?_
  rintro e w1 ⟨rfl, h1, h2, h3, h4⟩
  simp only [World.size_alloc] at h1 h2 h3 h4
  have H1 := Lib.hid h1
  have H2 := Lib.hid h2
  have H3 := Lib.hid h3
  have H4 : Hid (Below w.heap.size w w1) := ((Below.refl _ w).alloc (Nat.le_refl _) _).trans (h4.mono (by omega))
  clear h1 h2 h3 h4
  go_wp2_with fail
  go_ret
  simp only [World.size_alloc]
  exact ⟨rfl, H1.out, H2.out, H3.out, H4.out⟩
/-- the variables of the program's Check: how many, the results -/
structure StG (z nB : Nat) (w : World) (n : Int) (v1 v2 : Value) (X : World) : Prop where
  bn : Boxed X nB 3 (.int .i64 n)
  r1 : Boxed X (z + 1) 3 v1
  r2 : Boxed X (z + 1 + 1) 35 v2
  hb : Below z w X
theorem StG.grow {z nB h : Nat} {w : World} {n : Int} {v1 v2 : Value} {X Y : World} {row : Option Nat} (k : StG z nB w n v1 v2 X) (hz : z + 3 ≤ nB) (hh : nB < h) (hg : X.grownBy Y row) (hr : ∀ r, row = some r → h ≤ r) : StG z nB w n v1 v2 Y := by
  have hzX := (Array.getElem?_eq_some_iff.1 k.bn).1
  exact ⟨k.bn.kept hg (fun e => by have := hr _ e.symm; omega), k.r1.kept hg (fun e => by have := hr _ e.symm; omega), k.r2.kept hg (fun e => by have := hr _ e.symm; omega),
    k.hb.trans ⟨hg.os, hg.tape, hg.output, hg.size, fun q hq => hg.block q (by omega) (fun e => by have := hr _ e.symm; omega)⟩⟩
theorem StG.below {z nB : Nat} {w : World} {n : Int} {v1 v2 : Value} {X Y : World} (k : StG z nB w n v1 v2 X) (hz : z + 3 ≤ nB) (hb : Below X.heap.size X Y) : StG z nB w n v1 v2 Y :=
  k.grow (h := nB + 1) (row := none) hz (by omega) ⟨hb.os, hb.tape, hb.output, hb.size, fun k hk _ => hb.block k hk⟩ (fun r e => by cases e)
theorem StG.setN {z nB : Nat} {w : World} {n : Int} {v1 v2 : Value} {X : World} (k : StG z nB w n v1 v2 X) (hz : z + 3 ≤ nB) (n' : Int) : StG z nB w n' v1 v2 (X.setCell ⟨nB, 0, none⟩ (.int .i64 n')) :=
  ⟨k.bn.set _, k.r1.other (by omega) _, k.r2.other (by omega) _, k.hb.setCell (p := ⟨nB, 0, none⟩) (by show z ≤ nB; omega) _⟩
theorem StG.set1 {z nB : Nat} {w : World} {n : Int} {v1 v2 : Value} {X : World} (k : StG z nB w n v1 v2 X) (hz : z + 3 ≤ nB) (v : Value) : StG z nB w n v v2 (X.setCell ⟨z + 1, 0, none⟩ v) :=
  ⟨k.bn.other (by omega) _, k.r1.set _, k.r2.other (by omega) _, k.hb.setCell (p := ⟨z + 1, 0, none⟩) (by show z ≤ z + 1; omega) _⟩
theorem StG.set2 {z nB : Nat} {w : World} {n : Int} {v1 v2 : Value} {X : World} (k : StG z nB w n v1 v2 X) (hz : z + 3 ≤ nB) (v : Value) : StG z nB w n v1 v (X.setCell ⟨z + 1 + 1, 0, none⟩ v) :=
  ⟨k.bn.other (by omega) _, k.r1.other (by omega) _, k.r2.set _, k.hb.setCell (p := ⟨z + 1 + 1, 0, none⟩) (by show z ≤ z + 1 + 1; omega) _⟩
theorem cell_block {X : World} {b : Nat} {cs : Array Value} {t : TypeId} (h : X.heap[b]? = some (.cells cs t)) (k : Nat) (v : Value) (hv : cs[k]? = some v) : X.cell? ⟨b, k, none⟩ = some v := by
  unfold World.cell?
  rw [h]
  simpa using hv
def okPre (pre : List Xe) : Prop := ∀ p ∈ pre, chkR1 p.1.2 = 0
def InvG (z nB h1 : Nat) (w : World) (O : List Nat) (pre : List Xe) (X : World) : Prop :=
  okPre pre ∧ (∃ v1 v2, StG z nB w (pre.length : Int) v1 v2 X) ∧ h1 ≤ X.heap.size ∧ ∀ b ∈ O, h1 ≤ b
def ExG (z nB h1 : Nat) (w : World) (cc : Code) (pre : List Xe) (X : World) : Prop :=
  cc = .ret ∧ ∃ p0 q, pre = p0 ++ [q] ∧ okPre p0 ∧ chkR1 q.1.2 ≠ 0 ∧ StG z nB w (pre.length : Int) (.int .i64 (pre.length : Int)) (.int .i64 (chkR1 q.1.2)) X ∧ h1 ≤ X.heap.size
theorem InvG.next {z nB h1 : Nat} {w : World} {O : List Nat} {pre : List Xe} {x : Xe} {v1 v2 : Value} {X : World} (hp : okPre pre) (hx : chkR1 x.1.2 = 0) (hs : StG z nB w ((pre.length : Int) + 1) v1 v2 X) (hz : h1 ≤ X.heap.size) (hO : ∀ b ∈ O, h1 ≤ b) : InvG z nB h1 w O (pre ++ [x]) X := by
  refine ⟨fun p hm => ?_, ⟨v1, v2, ?_⟩, hz, hO⟩
  · rcases List.mem_append.1 hm with h | h
    · exact hp p h
    · simp at h; subst h; exact hx
  · rw [List.length_append]; exact hs
theorem ExG.next {z nB h1 : Nat} {w : World} {pre : List Xe} {x : Xe} {X : World} {f : Int} (hp : okPre pre) (hx : chkR1 x.1.2 = f) (hf : f ≠ 0) (hs : StG z nB w ((pre.length : Int) + 1) (.int .i64 ((pre.length : Int) + 1)) (.int .i64 f) X) (hz : h1 ≤ X.heap.size) : ExG z nB h1 w .ret (pre ++ [x]) X := by
  refine ⟨rfl, pre, x, rfl, hp, by rw [hx]; exact hf, ?_, hz⟩
  rw [hx, List.length_append]; exact hs
theorem results_cell2 {fn : Func} {p q : Tmp} {ty uy : TypeId} (h : fn.results = #[.cell p ty, .cell q uy]) {tmps : Array Value} {P : Program} {w : World} {b c : Nat} {v u : Value} (hp : tmps.getD p undef = .pointer (some ⟨b, 0, none⟩)) (hq : tmps.getD q undef = .pointer (some ⟨c, 0, none⟩))
    (hl : (loadVar ty ⟨b, 0, none⟩).run P w = .ok v w) (hm : (loadVar uy ⟨c, 0, none⟩).run P w = .ok u w) : (results fn tmps).run P w = .ok (.tuple #[v, u]) w := by
  have hp' : tmps[p]?.getD undef = .pointer (some ⟨b, 0, none⟩) := by simpa using hp
  have hq' : tmps[q]?.getD undef = .pointer (some ⟨c, 0, none⟩) := by simpa using hq
  simp [results, h, hp', hq', asAddr, hl, hm]
theorem ruleB_any (pg : Int) (nm : ByteArray) (hn : nameB nm = true) (hs : nm.size ≤ 1000) (m : Int) (w : World) (hm : w.cell? ⟨0, 0, none⟩ = some (.int .i64 m)) (R : ByteArray) (b : Bool) (h : ruleVal (ruleF pg nm.data.toList) = (R, b)) :
    Calls Tryd.prog 28 #[.int .i64 pg, .string nm] w fun e w' => e = .returned (.tuple #[.string R, .bool b]) ∧ Below w.heap.size w w' := by
  have c := rule_any pg nm hn hs m w hm
  rw [h] at c
  refine c.mono ?_
  rintro e w' ⟨rfl, n, w1, hb, rfl⟩
  exact ⟨rfl, hb.os, hb.tape, hb.output, hb.size, hb.block⟩
theorem okPre_ex {pre : List Xe} {L : List (Nat × Tr)} (h : pre.map (·.1) = L) (hp : okPre pre) : ∀ x ∈ L.map (·.2), chkR1 x = 0 := by
  subst h
  intro x hx
  rw [List.map_map] at hx
  obtain ⟨p, hp2, rfl⟩ := List.mem_map.1 hx
  exact hp p hp2
theorem chkG_done {e : Tr} {ys : List Xe} (h0 : chkA e = 0) (hys : ys.map (·.1) = preT 20 1 e) (hp : okPre ys) : chkG e = (0, 0) := by
  unfold chkG
  rw [if_pos h0, chkL_ok _ (okPre_ex hys hp)]
theorem chkG_stop {e : Tr} {p0 : List Xe} {q : Xe} (h0 : chkA e = 0) (hpre : (p0 ++ [q]).map (·.1) <+: preT 20 1 e) (hp : okPre p0) (hq : chkR1 q.1.2 ≠ 0) : chkG e = ((p0 ++ [q]).length, chkR1 q.1.2) := by
  obtain ⟨r, hr⟩ := hpre
  unfold chkG
  rw [if_pos h0, ← hr]
  have e1 : ((p0 ++ [q]).map (·.1) ++ r).map (·.2) = (p0.map (·.1)).map (·.2) ++ q.1.2 :: r.map (·.2) := by simp
  rw [e1, chkL_at _ _ _ (okPre_ex rfl hp) hq]
  simp

theorem words_len (r : List UInt8) : ∀ x ∈ wordsR r, x.length ≤ r.length := by
  intro x hx
  unfold wordsR at hx
  split at hx
  · cases hx
  · exact cutB_mem_len 32 r x hx
theorem nempty_of {s : ByteArray} (h : ¬ s.size = 0) : s.toList.isEmpty = false := by
  rw [ByteArray.toList_eq, List.isEmpty_eq_false_iff]
  intro e
  exact h (by rw [← len_toList, e]; rfl)
set_option maxRecDepth 100000 in
set_option maxHeartbeats 1000000 in
theorem gCheck_any (e : Tr) (v : Value) (w : World) (m : Int) (hv : AtT w w.heap.size e v) (hT : Lib.Utf8Tabs 2 3 w) (hm : w.cell? ⟨0, 0, none⟩ = some (.int .i64 m)) (hS : SpT w) :
    Calls Tryd.prog 33 #[v] w fun r w' => r = .returned (.tuple #[.int .i64 ((chkG e).1 : Int), .int .i64 (chkG e).2]) ∧ Below w.heap.size w w' := by
  obtain ⟨s1, s2, s3, a, c, rfl, hk⟩ := hv.parts
  have hal : Below w.heap.size w (((w.alloc (.cells #[.int .i64 e.page, .string e.name, .string e.text, .bool e.opq, .slice a e.kids.length c] 46)).alloc (.cells #[.int .i64 0] 3)).alloc (.cells #[.int .i64 0] 35)) := (((Below.refl _ w).alloc (Nat.le_refl _) _).alloc (by simp) _).alloc (by simp; omega) _
  have HV := Lib.hid hv
  have HM := Lib.hid hm
  have HS := Lib.hid hS
  have HW0 : Hid (0 < w.heap.size) := World.block_lt_of_cell? _ _ hm
  have cA := Lib.hid (fun X (hX : Below w.heap.size w X) => checkA_any e _ X (AtT.mono hX.size _ _ (AtT.below hX _ _ hv)) (Utf8Tabs_below hT hX))
  have cW := Lib.hid (fun X => walkT_any e.page e.name e.text e.opq a e.kids.length c X)
  have HU : Hid (∀ Y, Below w.heap.size w Y → Lib.Utf8Tabs 2 3 Y) := fun Y hY => Utf8Tabs_below hT hY
  have HAl := Lib.hid hal
  clear hk hv hT hm hS hal
  by_cases hq : chkA e = 0
  case neg =>
    have j1 : (chkA e != 0) = true := by rw [bne_iff_ne]; exact hq
    have HR : Hid (chkG e = (0, chkA e)) := by unfold Hid chkG; rw [if_neg hq]
    refine (callsIn_wide (n := 9)).1 ?_
    refine callsIn_of_wp_marks Tryd.func33 rfl trivial ?_ rfl
    simp only [Tryd.ntmps33, List.size_toArray, List.length_cons, List.length_nil, Nat.reduceAdd, Nat.reduceSub, Array.replicate_succ, Array.replicate_zero, List.push_toArray, List.append_toArray, List.nil_append, List.cons_append]
    clear hq
    generalize chkA e = q at *
    gi_wp2_with (refine ⟨trivial, ?_⟩; gi_at_call 96; refine (callsIn_wide.2 (cA.out _ HAl.out)).mono ?_; rintro r w1 ⟨rfl, hb1⟩; have B1 : Boxed w1 (w.heap.size + 1) 3 (.int .i64 0) := (hb1.block (w.heap.size + 1) (by simp)).trans ((Below.heap_alloc _ _ _ (by simp)).trans (by have h := Boxed.new (w.alloc (.cells #[.int .i64 e.page, .string e.name, .string e.text, .bool e.opq, .slice a e.kids.length c] 46)) 3 (.int .i64 0); rwa [World.size_alloc] at h)); have B2 : Boxed w1 (w.heap.size + 1 + 1) 35 (.int .i64 0) := (hb1.block (w.heap.size + 1 + 1) (by simp)).trans (by have h := Boxed.new ((w.alloc (.cells #[.int .i64 e.page, .string e.name, .string e.text, .bool e.opq, .slice a e.kids.length c] 46)).alloc (.cells #[.int .i64 0] 3)) 35 (.int .i64 0); rwa [World.size_alloc, World.size_alloc] at h); have c1 := B1.cell; have c2 := B2.cell; have f1 := B1.frozen; have f2 := B2.frozen)
    have B3 := B1.set (.int .i64 0)
    have B4 := B3.other (B' := w.heap.size + 1 + 1) (by omega) (.int .i64 q)
    have B5 := (B2.other (B' := w.heap.size + 1) (by omega) (.int .i64 0)).set (.int .i64 q)
    refine ⟨_, results_cell2 rfl rfl rfl (run_loadVar_cell B4.cell (by kernel_rfl)) (run_loadVar_cell B5.cell (by kernel_rfl)), ?_, ?_⟩
    · rw [HR.out]; rfl
    · exact ((HAl.out.trans (hb1.mono (by simp; omega))).setCell (p := ⟨w.heap.size + 1, 0, none⟩) (by show w.heap.size ≤ w.heap.size + 1; omega) _).setCell (p := ⟨w.heap.size + 1 + 1, 0, none⟩) (by show w.heap.size ≤ w.heap.size + 1 + 1; omega) _
  have h0 := Lib.hid hq
  rw [hq] at cA
  clear hq
  refine (callsIn_wide (n := 9)).1 ?_
  refine callsIn_of_wp_marks Tryd.func33 rfl trivial ?_ rfl
  simp only [Tryd.ntmps33, List.size_toArray, List.length_cons, List.length_nil, Nat.reduceAdd, Nat.reduceSub, Array.replicate_succ, Array.replicate_zero, List.push_toArray, List.append_toArray, List.nil_append, List.cons_append]
  gi_wp2_with (first | (refine ⟨trivial, ?_⟩; gi_at_call 96; refine (callsIn_wide.2 (cA.out _ HAl.out)).mono ?_; rintro r w1 ⟨rfl, hb1⟩; have B1 : Boxed w1 (w.heap.size + 1) 3 (.int .i64 0) := (hb1.block (w.heap.size + 1) (by simp)).trans ((Below.heap_alloc _ _ _ (by simp)).trans (by have h := Boxed.new (w.alloc (.cells #[.int .i64 e.page, .string e.name, .string e.text, .bool e.opq, .slice a e.kids.length c] 46)) 3 (.int .i64 0); rwa [World.size_alloc] at h)); have B2 : Boxed w1 (w.heap.size + 1 + 1) 35 (.int .i64 0) := (hb1.block (w.heap.size + 1 + 1) (by simp)).trans (by have h := Boxed.new ((w.alloc (.cells #[.int .i64 e.page, .string e.name, .string e.text, .bool e.opq, .slice a e.kids.length c] 46)).alloc (.cells #[.int .i64 0] 3)) 35 (.int .i64 0); rwa [World.size_alloc, World.size_alloc] at h); have HB1 := Lib.hid hb1; have hx1 : (w1.alloc (.cells #[.int .i64 0] 3)).heap[w.heap.size]? = some (.cells #[.int .i64 e.page, .string e.name, .string e.text, .bool e.opq, .slice a e.kids.length c] 46) := (Below.heap_alloc _ _ _ (by have := hb1.size; simp at this; omega)).trans ((hb1.block w.heap.size (by simp; omega)).trans ((Below.heap_alloc _ _ _ (by simp; omega)).trans ((Below.heap_alloc _ _ _ (by simp)).trans (World.alloc_heap_new w _)))); have HX1 := Lib.hid hx1; have y0 := cell_block hx1 0 _ rfl; have y1 := cell_block hx1 1 _ rfl; have y2 := cell_block hx1 2 _ rfl; have y3 := cell_block hx1 3 _ rfl; have y4 := cell_block hx1 4 _ rfl; clear hx1; clear hb1) | (refine ⟨trivial, ?_⟩; gi_at_call 97; refine (callsIn_wide.2 (cW.out _)).mono ?_; rintro r w2 ⟨rfl, hrg, hc2, hz2, hb2⟩))
  simp only [World.size_alloc] at hrg hc2 hz2 hb2
  have hz1 : w.heap.size + 3 ≤ w1.heap.size := by have := HB1.out.size; simp only [World.size_alloc] at this; omega
  have hB01 : Below w.heap.size w w1 := HAl.out.trans (HB1.out.mono (by simp only [World.size_alloc]; omega))
  have hB0 : Below w.heap.size w w2 := hB01.trans (((Below.refl _ w1).alloc (by omega) _).trans (hb2.mono (by omega)))
  have bN : Boxed w2 w1.heap.size 3 (.int .i64 0) := (hb2.block w1.heap.size (by omega)).trans (Boxed.new w1 3 (.int .i64 0))
  have b1 : Boxed w2 (w.heap.size + 1) 3 (.int .i64 0) := (hb2.block (w.heap.size + 1) (by omega)).trans ((Below.heap_alloc _ _ _ (by omega)).trans B1)
  have b2 : Boxed w2 (w.heap.size + 1 + 1) 35 (.int .i64 0) := (hb2.block (w.heap.size + 1 + 1) (by omega)).trans ((Below.heap_alloc _ _ _ (by omega)).trans B2)
  have hG : ∀ n, SeqG Fence.wide n 0 Tryd.prog 179 #[.pointer (some ⟨w1.heap.size + 1 + 1, 0, none⟩), .pointer (some ⟨w1.heap.size + 1 + 1 + 1, 0, none⟩)] encX w.heap.size (fun xs => xs.map (·.1) = preT 20 1 e) (fun pre => pre.map (·.1) <+: preT 20 1 e) (NxX w2 w.heap.size (preT 20 1 e)) w2 :=
    fun n => within_seqG n w.heap.size 20 (by decide) e _ (w1.heap.size + 1 + 1) (w1.heap.size + 1 + 1 + 1) w2 (by omega) (AtT.below hB0 _ _ HV.out) ⟨a, c, rfl, hrg⟩ hc2 (by omega) (by omega)
  have HT2 : Hid (∀ Y, Below w.heap.size w2 Y → Lib.Utf8Tabs 2 3 Y) := fun Y hY => HU.out Y (hB0.trans hY)
  have HM2 : Hid (∀ Y, Below w.heap.size w2 Y → Y.cell? ⟨0, 0, none⟩ = some (.int .i64 m)) := fun Y hY => ((hB0.trans hY).cell (p := ⟨0, 0, none⟩) HW0.out).trans HM.out
  have HS2 : Hid (∀ Y, Below w.heap.size w2 Y → SpT Y) := fun Y hY => HS.out.below (hB0.trans hY) HS.out.lt
  have HBB := Lib.hid hB0
  obtain ⟨z, hz⟩ : ∃ z, w.heap.size = z := ⟨_, rfl⟩
  obtain ⟨nB, hnB⟩ : ∃ nB, w1.heap.size = nB := ⟨_, rfl⟩
  obtain ⟨cs, hcs⟩ : ∃ cs, (#[.int .i64 e.page, .string e.name, .string e.text, .bool e.opq, .slice a e.kids.length c] : Array Value) = cs := ⟨_, rfl⟩
  have HZ := Lib.hid hz
  have HNB := Lib.hid hnB
  simp only [hz, hnB] at hG b1 b2 bN HT2 HM2 HS2 hz1 hz2
  rw [hz, hnB, hcs]
  have HSz : Hid (w2.heap.size = nB + 4) := by unfold Hid; omega
  have HZN : Hid (z + 3 ≤ nB) := hz1
  clear hrg hc2 hz2 hb2 hB0 hB01 HB1 B1 B2 HX1 y0 y1 y2 y3 y4 hz hnB hcs cA cW hz1 HAl
  refine wpIn_range_cellsA rfl (by decide) (gf := 179) (lb := #[.pointer (some ⟨nB + 1 + 1, 0, none⟩), .pointer (some ⟨nB + 1 + 1 + 1, 0, none⟩)]) rfl trivial (enters_of Tryd.func179 (by kernel_rfl) rfl)
    (hG 8) (by have := HSz.out; have := HZN.out; omega) (Below.refl _ _) (fun _ => rfl)
    (fun O (pre : List Xe) X => InvG z nB (nB + 4) w2 O pre X)
    (fun cc (pre : List Xe) X => ExG z nB (nB + 4) w2 cc pre X)
    ?own1 ?own2
    ⟨(fun p hp => by cases hp), ⟨_, _, ⟨bN, b1, b2, Below.refl _ _⟩⟩, by have := HSz.out; omega, (fun b hb => by cases hb)⟩
    gX (fun x W => (Below.refl _ W).alloc (Nat.le_refl _) _)
    (fun x W => { tmps := #[.agg cs, .pointer (some ⟨z, 0, none⟩), .pointer (some ⟨z + 1, 0, none⟩), .pointer (some ⟨z + 1 + 1, 0, none⟩), .int .i64 0, .pointer (some ⟨nB, 0, none⟩), undef, .pointer (some ⟨W.heap.size, 0, none⟩), undef, undef, .agg cs, .int .i64 0, .int .i64 0, .bool false, undef, .agg cs, .func (.func 179) #[] #[.pointer (some ⟨nB + 1 + 1, 0, none⟩), .pointer (some ⟨nB + 1 + 1 + 1, 0, none⟩)], .int .i64 (x.1.1 : Int), x.2, undef, undef, undef, undef, undef, undef, undef, undef, undef, undef, undef, undef, undef, undef, undef, undef, undef, undef, undef, undef, undef, undef, undef, undef, undef, undef, undef, undef, undef, undef, undef, undef, undef], defers := [] }) ?assign ?body ?done ?stop
  case own1 =>
    rintro O O' pre X Y row ⟨h1, ⟨v1, v2, h2⟩, h3, h4⟩ hg hr hO
    have hs := HSz.out
    have hzn := HZN.out
    refine ⟨h1, ⟨v1, v2, h2.grow (h := w2.heap.size) hzn (by omega) hg (fun r e => (hr r e).1)⟩, Nat.le_trans h3 hg.size, fun b hb => ?_⟩
    rcases hO b hb with h | h
    · exact h4 b h
    · omega
  case own2 =>
    rintro cc pre X Y row ⟨h0, p0, q, h1, h2, h3, h4, h5⟩ hg hr
    have hs := HSz.out
    have hzn := HZN.out
    exact ⟨h0, p0, q, h1, h2, h3, h4.grow (h := w2.heap.size) hzn (by omega) hg (fun r e => (hr r e).1), Nat.le_trans h5 hg.size⟩
  case assign =>
    rintro l pre ⟨⟨d, x⟩, u⟩ W K hnx hK
    have hat : AtT w2 z x u := hnx.2
    obtain ⟨_, _, _, a', c', rfl, _⟩ := hat.parts
    clear hnx hat
    unfold encX
    unfold gX cellsX at hK
    simp only at hK
    gi_wp2
    exact hK
  case body =>
    rintro l' O pre ⟨⟨d, x⟩, u⟩ W X hW ⟨h1, ⟨v1, v2, h2⟩, h3, h4⟩ hnx hXs hXn
    have hat : AtT w2 z x u := hnx.2
    obtain ⟨t1, _, _, a', c', rfl, hkids⟩ := hat.parts
    have hcap := hat.cap
    have hmem : x ∈ (preT 20 1 e).map (·.2) := List.mem_map.2 ⟨(d, x), hnx.1.subset (by simp), rfl⟩
    have hpl : pre.length + 1 ≤ 2000 := by
      have := hnx.1.length_le
      have h9 := chkA_len h0.out
      simp at this; omega
    obtain ⟨g1, g2, g3, g4, g5, g6⟩ := chkA_mem h0.out hmem
    have hnew := hXn W.heap.size hW
    unfold gX cellsX at hnew hXs
    rw [World.alloc_heap_new] at hnew
    simp only [World.size_alloc] at hXs
    have hs := HSz.out
    have hzn := HZN.out
    have n1 : W.heap.size ≠ nB := by omega
    have y0 := cell_block hnew 0 _ rfl
    have y1 := cell_block hnew 1 _ rfl
    have y2 := cell_block hnew 2 _ rfl
    have y4 := cell_block hnew 4 _ rfl
    have HN1 : Hid ((X.setCell ⟨nB, 0, none⟩ (.int .i64 ((pre.length : Int) + 1))).heap[W.heap.size]? = some (.cells #[.int .i64 x.page, .string x.name, .string x.text, .bool x.opq, .slice a' x.kids.length c'] 46)) := (Below.heap_setCell _ _ _ _ (by show W.heap.size ≠ nB; omega)).trans hnew
    have HWl : Hid (W.heap.size < X.heap.size) := by unfold Hid; omega
    have st1 := Lib.hid (h2.setN hzn ((pre.length : Int) + 1))
    have HNo : Hid (nB ∉ O) := fun hb => by have := h4 _ hb; omega
    have K1 : Hid (KpG z O X (X.setCell ⟨nB, 0, none⟩ (.int .i64 ((pre.length : Int) + 1)))) := KpG.store X _ HNo.out (by omega)
    have R1 : Hid (KeepsFrom w2.heap.size X (X.setCell ⟨nB, 0, none⟩ (.int .i64 ((pre.length : Int) + 1)))) := (KeepsOthers.setCell _ _ _).from _
    have S1 : Hid (nB + 4 ≤ (X.setCell ⟨nB, 0, none⟩ (.int .i64 ((pre.length : Int) + 1))).heap.size) := by unfold Hid; rw [size_setCell]; exact h3
    have hcn := h2.bn.cell
    have hfn := h2.bn.frozen
    have hw : wrap64 ((pre.length : Int) + 1) = (pre.length : Int) + 1 := by unfold wrap64; omega
    have HPre := Lib.hid h1
    have HO := Lib.hid h4
    have HKL : Hid (∀ Y, Below z w2 Y → AtL Y z a' 0 x.kids) := fun Y hY => AtL.below hY a' x.kids 0 hkids
    have HCap := Lib.hid hcap
    have HKl : Hid (x.kids.length ≤ 3000) := by unfold Hid; omega
    have HX0 : Hid (chkR1 x = chkR1 x) := rfl
    obtain ⟨cx, hcx⟩ : ∃ cx, chkR1 x = cx := ⟨_, rfl⟩
    have HCX := Lib.hid hcx
    have hrf : ∀ r, ruleF x.page x.name.data.toList = some r → (∀ y ∈ wordsR r, okWord y = true) ∧ r.length ≤ 1000 ∧ (wordsR r).contains textW = textW.isPrefixOf r := fun r hr => rule_facts (nameB_free g3 32 (by decide)) hr
    have cR := Lib.hid (fun (R : ByteArray) (b : Bool) (h : ruleVal (ruleF x.page x.name.data.toList) = (R, b)) (Y : World) (hY : Below z w2 Y) => ruleB_any x.page x.name g3 (by omega) m Y (HM2.out Y hY) R b h)
    clear hat hnx h2 hXn hnew hkids h1 h3 h4 hpl hmem g1 g2 g3 g4 g5 g6 hcap
    rcases hro : ruleF x.page x.name.data.toList with _ | r
    · have HR : Hid (chkR1 x = 14) := by unfold Hid chkR1; rw [hro]
      have cR2 := Lib.hid (fun Y hY => cR.out ⟨#[]⟩ false (by rw [hro]; rfl) Y hY)
      clear hro hrf cR
      gi_wp2_with (refine ⟨trivial, ?_⟩; gi_at_call 28; refine (calls_round (cR2.out _ st1.out.hb)).mono ?_; rintro q X2 ⟨rfl, hb2⟩; have st2 := Lib.hid (st1.out.below HZN.out hb2); have cn2 := st2.out.bn.cell; have c12 := st2.out.r1.cell; have f12 := st2.out.r1.frozen; have c22 := st2.out.r2.cell; have f22 := st2.out.r2.frozen; have HN2 : Hid (X2.heap[W.heap.size]? = some (.cells #[.int .i64 x.page, .string x.name, .string x.text, .bool x.opq, .slice a' x.kids.length c'] 46)) := (hb2.block W.heap.size (Array.getElem?_eq_some_iff.1 HN1.out).1).trans HN1.out; have y02 := cell_block HN2.out 0 _ rfl; have y22 := cell_block HN2.out 2 _ rfl; have y42 := cell_block HN2.out 4 _ rfl; have K2 : Hid (KpG z O X X2) := K1.out.trans (KpG.of_below hb2 (by have := S1.out; omega)); have R2 : Hid (KeepsFrom w2.heap.size X X2) := R1.out.trans (keeps_below _ hb2); have S2 : Hid (nB + 4 ≤ X2.heap.size) := Nat.le_trans S1.out hb2.size; clear hb2)
      exact ⟨R2.out.trans (((KeepsOthers.setCell _ _ _).from _).trans ((KeepsOthers.setCell _ _ _).from _)), ExG.next HPre.out (HR.out) (by decide) ((st2.out.set1 HZN.out _).set2 HZN.out _) (by rw [size_setCell, size_setCell]; exact S2.out)⟩
    · obtain ⟨q1, q2, q3⟩ := hrf r hro
      have HR : Hid (chkR1 x = if x.text.size ≠ 0 ∧ (wordsR r).contains textW = false then 3 else if fitsW x.page (wordsR r) x.kids = false then 15 else 0) := by unfold Hid chkR1; rw [hro]
      have cR2 := Lib.hid (fun Y hY => cR.out (mkB r) true (by rw [hro]; rfl) Y hY)
      have hPx : ∀ Y, Calls Tryd.prog 98 #[.string (mkB r), .string { data := #[84, 69, 88, 84] }] Y fun e w' => e = .returned (.bool ((wordsR r).contains textW)) ∧ w' = Y := fun Y => by
        have h := Tryd.strings_HasPrefix (mkB r) ⟨#[84, 69, 88, 84]⟩ Y
        rw [q3]; exact h
      have cP := Lib.hid hPx
      have hFx : ∀ Y, Below z w2 Y → Calls Tryd.prog 92 #[.int .i64 x.page, .string (mkB r), .slice a' x.kids.length c'] Y fun e w' => e = .returned (.bool (fitsW x.page (wordsR r) x.kids)) ∧ Below Y.heap.size Y w' := fun Y hY => by
        have hzY : z ≤ Y.heap.size := by have h1 := hY.size; have h2 := HSz.out; have h3 := HZN.out; omega
        have h := fits_any x.page (mkB r) (by rw [mkB_size]; omega) (okT_rule q1) (fun y hy => by
          have hy2 : y.data.toList ∈ wordsR r := by rw [← wdsE_words]; exact List.mem_map.2 ⟨y, hy, rfl⟩
          have hy3 := okWord_ne (q1 _ hy2)
          have hy4 := words_len r _ hy2
          refine ⟨fun e0 => hy3 (List.eq_nil_of_length_eq_zero (by rw [len_toList]; exact e0)), ?_⟩
          rw [len_toList] at hy4; omega) x.kids a' c' z m Y hzY (HKL.out Y hY) HKl.out HCap.out (HM2.out Y hY) (HS2.out Y hY)
        rw [wdsE_words] at h
        exact h
      have cF := Lib.hid hFx
      clear hPx hFx hro hrf cR q1 q2 q3
      generalize (wordsR r).contains textW = tb at *
      generalize fitsW x.page (wordsR r) x.kids = fb at *
      generalize mkB r = RB at *
      by_cases hz0 : x.text.size = 0
      · have iT : x.text.toList.isEmpty = true := emptyB x.text hz0
        have iT2 : x.text.toList = [] := List.isEmpty_iff.1 iT
        cases fb with
        | true =>
          have HR2 : Hid (chkR1 x = 0) := by unfold Hid; rw [HR.out, if_neg (by intro h; exact h.1 hz0), if_neg (by decide)]
          clear hz0
          gi_wp2_with (refine ⟨trivial, ?_⟩; gi_at_call 28; refine (calls_round (cR2.out _ st1.out.hb)).mono ?_; rintro q X2 ⟨rfl, hb2⟩; have st2 := Lib.hid (st1.out.below HZN.out hb2); have cn2 := st2.out.bn.cell; have c12 := st2.out.r1.cell; have f12 := st2.out.r1.frozen; have c22 := st2.out.r2.cell; have f22 := st2.out.r2.frozen; have HN2 : Hid (X2.heap[W.heap.size]? = some (.cells #[.int .i64 x.page, .string x.name, .string x.text, .bool x.opq, .slice a' x.kids.length c'] 46)) := (hb2.block W.heap.size (Array.getElem?_eq_some_iff.1 HN1.out).1).trans HN1.out; have y02 := cell_block HN2.out 0 _ rfl; have y22 := cell_block HN2.out 2 _ rfl; have y42 := cell_block HN2.out 4 _ rfl; have K2 : Hid (KpG z O X X2) := K1.out.trans (KpG.of_below hb2 (by have := S1.out; omega)); have R2 : Hid (KeepsFrom w2.heap.size X X2) := R1.out.trans (keeps_below _ hb2); have S2 : Hid (nB + 4 ≤ X2.heap.size) := Nat.le_trans S1.out hb2.size; clear hb2)
          refine ⟨trivial, ?_⟩
          gi_wp2_with (refine ⟨trivial, ?_⟩; gi_at_call 92; refine (calls_round (cF.out _ st2.out.hb)).mono ?_; rintro q X3 ⟨rfl, hb3⟩; have st3 := Lib.hid (st2.out.below HZN.out hb3); have cn3 := st3.out.bn.cell; have c13 := st3.out.r1.cell; have f13 := st3.out.r1.frozen; have c23 := st3.out.r2.cell; have f23 := st3.out.r2.frozen; have HN3 : Hid (X3.heap[W.heap.size]? = some (.cells #[.int .i64 x.page, .string x.name, .string x.text, .bool x.opq, .slice a' x.kids.length c'] 46)) := (hb3.block W.heap.size (Array.getElem?_eq_some_iff.1 HN2.out).1).trans HN2.out; have y03 := cell_block HN3.out 0 _ rfl; have y23 := cell_block HN3.out 2 _ rfl; have y43 := cell_block HN3.out 4 _ rfl; have K3 : Hid (KpG z O X X3) := K2.out.trans (KpG.of_below hb3 (by have := S2.out; omega)); have R3 : Hid (KeepsFrom w2.heap.size X X3) := R2.out.trans (keeps_below _ hb3); have S3 : Hid (nB + 4 ≤ X3.heap.size) := Nat.le_trans S2.out hb3.size; clear hb3)
          exact ⟨R3.out, K3.out, InvG.next HPre.out HR2.out st3.out S3.out HO.out⟩
        | false =>
          have HR2 : Hid (chkR1 x = 15) := by unfold Hid; rw [HR.out, if_neg (by intro h; exact h.1 hz0), if_pos rfl]
          clear hz0
          gi_wp2_with (refine ⟨trivial, ?_⟩; gi_at_call 28; refine (calls_round (cR2.out _ st1.out.hb)).mono ?_; rintro q X2 ⟨rfl, hb2⟩; have st2 := Lib.hid (st1.out.below HZN.out hb2); have cn2 := st2.out.bn.cell; have c12 := st2.out.r1.cell; have f12 := st2.out.r1.frozen; have c22 := st2.out.r2.cell; have f22 := st2.out.r2.frozen; have HN2 : Hid (X2.heap[W.heap.size]? = some (.cells #[.int .i64 x.page, .string x.name, .string x.text, .bool x.opq, .slice a' x.kids.length c'] 46)) := (hb2.block W.heap.size (Array.getElem?_eq_some_iff.1 HN1.out).1).trans HN1.out; have y02 := cell_block HN2.out 0 _ rfl; have y22 := cell_block HN2.out 2 _ rfl; have y42 := cell_block HN2.out 4 _ rfl; have K2 : Hid (KpG z O X X2) := K1.out.trans (KpG.of_below hb2 (by have := S1.out; omega)); have R2 : Hid (KeepsFrom w2.heap.size X X2) := R1.out.trans (keeps_below _ hb2); have S2 : Hid (nB + 4 ≤ X2.heap.size) := Nat.le_trans S1.out hb2.size; clear hb2)
          refine ⟨trivial, ?_⟩
          gi_wp2_with (refine ⟨trivial, ?_⟩; gi_at_call 92; refine (calls_round (cF.out _ st2.out.hb)).mono ?_; rintro q X3 ⟨rfl, hb3⟩; have st3 := Lib.hid (st2.out.below HZN.out hb3); have cn3 := st3.out.bn.cell; have c13 := st3.out.r1.cell; have f13 := st3.out.r1.frozen; have c23 := st3.out.r2.cell; have f23 := st3.out.r2.frozen; have HN3 : Hid (X3.heap[W.heap.size]? = some (.cells #[.int .i64 x.page, .string x.name, .string x.text, .bool x.opq, .slice a' x.kids.length c'] 46)) := (hb3.block W.heap.size (Array.getElem?_eq_some_iff.1 HN2.out).1).trans HN2.out; have y03 := cell_block HN3.out 0 _ rfl; have y23 := cell_block HN3.out 2 _ rfl; have y43 := cell_block HN3.out 4 _ rfl; have K3 : Hid (KpG z O X X3) := K2.out.trans (KpG.of_below hb3 (by have := S2.out; omega)); have R3 : Hid (KeepsFrom w2.heap.size X X3) := R2.out.trans (keeps_below _ hb3); have S3 : Hid (nB + 4 ≤ X3.heap.size) := Nat.le_trans S2.out hb3.size; clear hb3)
          exact ⟨R3.out.trans (((KeepsOthers.setCell _ _ _).from _).trans ((KeepsOthers.setCell _ _ _).from _)), ExG.next HPre.out (HR2.out) (by decide) ((st3.out.set1 HZN.out _).set2 HZN.out _) (by rw [size_setCell, size_setCell]; exact S3.out)⟩
      · have iT : x.text.toList.isEmpty = false := nempty_of hz0
        have iT2 : x.text ≠ { data := #[] } := fun h => hz0 (by rw [h]; rfl)
        cases tb with
        | false =>
          have HR2 : Hid (chkR1 x = 3) := by unfold Hid; rw [HR.out, if_pos ⟨hz0, rfl⟩]
          clear hz0
          gi_wp2_with (first | (refine ⟨trivial, ?_⟩; gi_at_call 28; refine (calls_round (cR2.out _ st1.out.hb)).mono ?_; rintro q X2 ⟨rfl, hb2⟩; have st2 := Lib.hid (st1.out.below HZN.out hb2); have cn2 := st2.out.bn.cell; have c12 := st2.out.r1.cell; have f12 := st2.out.r1.frozen; have c22 := st2.out.r2.cell; have f22 := st2.out.r2.frozen; have HN2 : Hid (X2.heap[W.heap.size]? = some (.cells #[.int .i64 x.page, .string x.name, .string x.text, .bool x.opq, .slice a' x.kids.length c'] 46)) := (hb2.block W.heap.size (Array.getElem?_eq_some_iff.1 HN1.out).1).trans HN1.out; have y02 := cell_block HN2.out 0 _ rfl; have y22 := cell_block HN2.out 2 _ rfl; have y42 := cell_block HN2.out 4 _ rfl; have K2 : Hid (KpG z O X X2) := K1.out.trans (KpG.of_below hb2 (by have := S1.out; omega)); have R2 : Hid (KeepsFrom w2.heap.size X X2) := R1.out.trans (keeps_below _ hb2); have S2 : Hid (nB + 4 ≤ X2.heap.size) := Nat.le_trans S1.out hb2.size; clear hb2) | (refine ⟨trivial, ?_⟩; gi_at_call 98; refine (calls_round (cP.out _)).mono ?_; rintro q X2' ⟨rfl, rfl⟩))
          exact ⟨R2.out.trans (((KeepsOthers.setCell _ _ _).from _).trans ((KeepsOthers.setCell _ _ _).from _)), ExG.next HPre.out (HR2.out) (by decide) ((st2.out.set1 HZN.out _).set2 HZN.out _) (by rw [size_setCell, size_setCell]; exact S2.out)⟩
        | true =>
          cases fb with
          | true =>
            have HR2 : Hid (chkR1 x = 0) := by unfold Hid; rw [HR.out, if_neg (by intro h; cases h.2), if_neg (by decide)]
            clear hz0
            gi_wp2_with (first | (refine ⟨trivial, ?_⟩; gi_at_call 28; refine (calls_round (cR2.out _ st1.out.hb)).mono ?_; rintro q X2 ⟨rfl, hb2⟩; have st2 := Lib.hid (st1.out.below HZN.out hb2); have cn2 := st2.out.bn.cell; have c12 := st2.out.r1.cell; have f12 := st2.out.r1.frozen; have c22 := st2.out.r2.cell; have f22 := st2.out.r2.frozen; have HN2 : Hid (X2.heap[W.heap.size]? = some (.cells #[.int .i64 x.page, .string x.name, .string x.text, .bool x.opq, .slice a' x.kids.length c'] 46)) := (hb2.block W.heap.size (Array.getElem?_eq_some_iff.1 HN1.out).1).trans HN1.out; have y02 := cell_block HN2.out 0 _ rfl; have y22 := cell_block HN2.out 2 _ rfl; have y42 := cell_block HN2.out 4 _ rfl; have K2 : Hid (KpG z O X X2) := K1.out.trans (KpG.of_below hb2 (by have := S1.out; omega)); have R2 : Hid (KeepsFrom w2.heap.size X X2) := R1.out.trans (keeps_below _ hb2); have S2 : Hid (nB + 4 ≤ X2.heap.size) := Nat.le_trans S1.out hb2.size; clear hb2) | (refine ⟨trivial, ?_⟩; gi_at_call 98; refine (calls_round (cP.out _)).mono ?_; rintro q X2' ⟨rfl, rfl⟩) | (refine ⟨trivial, ?_⟩; gi_at_call 92; refine (calls_round (cF.out _ st2.out.hb)).mono ?_; rintro q X3 ⟨rfl, hb3⟩; have st3 := Lib.hid (st2.out.below HZN.out hb3); have cn3 := st3.out.bn.cell; have c13 := st3.out.r1.cell; have f13 := st3.out.r1.frozen; have c23 := st3.out.r2.cell; have f23 := st3.out.r2.frozen; have HN3 : Hid (X3.heap[W.heap.size]? = some (.cells #[.int .i64 x.page, .string x.name, .string x.text, .bool x.opq, .slice a' x.kids.length c'] 46)) := (hb3.block W.heap.size (Array.getElem?_eq_some_iff.1 HN2.out).1).trans HN2.out; have y03 := cell_block HN3.out 0 _ rfl; have y23 := cell_block HN3.out 2 _ rfl; have y43 := cell_block HN3.out 4 _ rfl; have K3 : Hid (KpG z O X X3) := K2.out.trans (KpG.of_below hb3 (by have := S2.out; omega)); have R3 : Hid (KeepsFrom w2.heap.size X X3) := R2.out.trans (keeps_below _ hb3); have S3 : Hid (nB + 4 ≤ X3.heap.size) := Nat.le_trans S2.out hb3.size; clear hb3))
            exact ⟨R3.out, K3.out, InvG.next HPre.out HR2.out st3.out S3.out HO.out⟩
          | false =>
            have HR2 : Hid (chkR1 x = 15) := by unfold Hid; rw [HR.out, if_neg (by intro h; cases h.2), if_pos rfl]
            clear hz0
            gi_wp2_with (first | (refine ⟨trivial, ?_⟩; gi_at_call 28; refine (calls_round (cR2.out _ st1.out.hb)).mono ?_; rintro q X2 ⟨rfl, hb2⟩; have st2 := Lib.hid (st1.out.below HZN.out hb2); have cn2 := st2.out.bn.cell; have c12 := st2.out.r1.cell; have f12 := st2.out.r1.frozen; have c22 := st2.out.r2.cell; have f22 := st2.out.r2.frozen; have HN2 : Hid (X2.heap[W.heap.size]? = some (.cells #[.int .i64 x.page, .string x.name, .string x.text, .bool x.opq, .slice a' x.kids.length c'] 46)) := (hb2.block W.heap.size (Array.getElem?_eq_some_iff.1 HN1.out).1).trans HN1.out; have y02 := cell_block HN2.out 0 _ rfl; have y22 := cell_block HN2.out 2 _ rfl; have y42 := cell_block HN2.out 4 _ rfl; have K2 : Hid (KpG z O X X2) := K1.out.trans (KpG.of_below hb2 (by have := S1.out; omega)); have R2 : Hid (KeepsFrom w2.heap.size X X2) := R1.out.trans (keeps_below _ hb2); have S2 : Hid (nB + 4 ≤ X2.heap.size) := Nat.le_trans S1.out hb2.size; clear hb2) | (refine ⟨trivial, ?_⟩; gi_at_call 98; refine (calls_round (cP.out _)).mono ?_; rintro q X2' ⟨rfl, rfl⟩) | (refine ⟨trivial, ?_⟩; gi_at_call 92; refine (calls_round (cF.out _ st2.out.hb)).mono ?_; rintro q X3 ⟨rfl, hb3⟩; have st3 := Lib.hid (st2.out.below HZN.out hb3); have cn3 := st3.out.bn.cell; have c13 := st3.out.r1.cell; have f13 := st3.out.r1.frozen; have c23 := st3.out.r2.cell; have f23 := st3.out.r2.frozen; have HN3 : Hid (X3.heap[W.heap.size]? = some (.cells #[.int .i64 x.page, .string x.name, .string x.text, .bool x.opq, .slice a' x.kids.length c'] 46)) := (hb3.block W.heap.size (Array.getElem?_eq_some_iff.1 HN2.out).1).trans HN2.out; have y03 := cell_block HN3.out 0 _ rfl; have y23 := cell_block HN3.out 2 _ rfl; have y43 := cell_block HN3.out 4 _ rfl; have K3 : Hid (KpG z O X X3) := K2.out.trans (KpG.of_below hb3 (by have := S2.out; omega)); have R3 : Hid (KeepsFrom w2.heap.size X X3) := R2.out.trans (keeps_below _ hb3); have S3 : Hid (nB + 4 ≤ X3.heap.size) := Nat.le_trans S2.out hb3.size; clear hb3))
            exact ⟨R3.out.trans (((KeepsOthers.setCell _ _ _).from _).trans ((KeepsOthers.setCell _ _ _).from _)), ExG.next HPre.out (HR2.out) (by decide) ((st3.out.set1 HZN.out _).set2 HZN.out _) (by rw [size_setCell, size_setCell]; exact S3.out)⟩
  case done =>
    rintro D O ys X hD hys ⟨h1, ⟨v1, v2, h2⟩, h3, h4⟩ hK
    have HE : Hid (chkG e = (0, 0)) := chkG_done h0.out hys h1
    have hs := HSz.out
    have hzn := HZN.out
    have c1 := h2.r1.cell
    have f1 := h2.r1.frozen
    have c2 := h2.r2.cell
    have f2 := h2.r2.frozen
    have st5 := Lib.hid ((h2.set1 hzn (.int .i64 0)).set2 hzn (.int .i64 0))
    have HK5 : Hid (((X.setCell ⟨z + 1, 0, none⟩ (.int .i64 0)).setCell ⟨z + 1 + 1, 0, none⟩ (.int .i64 0)).heap[D]? = some (.deferred (some []))) := (Below.heap_setCell _ _ _ _ (by show D ≠ z + 1 + 1; omega)).trans ((Below.heap_setCell _ _ _ _ (by show D ≠ z + 1; omega)).trans hK)
    have HD : Hid (nB + 4 ≤ D) := by unfold Hid; omega
    clear h1 h2 h3 h4 hys hD hs hzn hK
    gi_wp2
    refine ⟨by simp, .inl ⟨_, _, rfl, run_takeDeferred HK5.out, ?_⟩⟩
    have e1 : Boxed (((X.setCell ⟨z + 1, 0, none⟩ (.int .i64 0)).setCell ⟨z + 1 + 1, 0, none⟩ (.int .i64 0)).putObj D (.deferred none)) (z + 1) 3 (.int .i64 0) := (World.putObj_heap_other (by have := HD.out; have := HZN.out; omega)).trans st5.out.r1
    have e2 : Boxed (((X.setCell ⟨z + 1, 0, none⟩ (.int .i64 0)).setCell ⟨z + 1 + 1, 0, none⟩ (.int .i64 0)).putObj D (.deferred none)) (z + 1 + 1) 35 (.int .i64 0) := (World.putObj_heap_other (by have := HD.out; have := HZN.out; omega)).trans st5.out.r2
    refine ⟨_, results_cell2 rfl rfl rfl (run_loadVar_cell e1.cell (by kernel_rfl)) (run_loadVar_cell e2.cell (by kernel_rfl)), ?_, ?_⟩
    · rw [HE.out]; rfl
    · have b1 := HBB.out
      rw [HZ.out] at b1 ⊢
      exact (b1.trans st5.out.hb).trans (below_put _ D _ (by have := HD.out; have := HZN.out; omega))
  case stop =>
    rintro D cc pre X hD hpre ⟨rfl, p0, q, rfl, h1, h2, h3, h4⟩ hK
    have HE := Lib.hid (chkG_stop h0.out hpre h1 h2)
    have hs := HSz.out
    have hzn := HZN.out
    have HD : Hid (nB + 4 ≤ D) := by unfold Hid; omega
    have ST := Lib.hid h3
    clear h1 h2 h3 h4 hD hs hzn hpre
    gi_wp2
    refine ⟨by simp, .inl ⟨_, _, rfl, run_takeDeferred hK, ?_⟩⟩
    have e1 := (World.putObj_heap_other (w := X) (o := .deferred none) (show z + 1 ≠ D by have := HD.out; have := HZN.out; omega)).trans ST.out.r1
    have e2 := (World.putObj_heap_other (w := X) (o := .deferred none) (show z + 1 + 1 ≠ D by have := HD.out; have := HZN.out; omega)).trans ST.out.r2
    refine ⟨_, results_cell2 rfl rfl rfl (run_loadVar_cell (Boxed.cell e1) (by kernel_rfl)) (run_loadVar_cell (Boxed.cell e2) (by kernel_rfl)), ?_, ?_⟩
    · rw [HE.out]
    · have b1 := HBB.out
      rw [HZ.out] at b1 ⊢
      exact (b1.trans ST.out.hb).trans (below_put _ D _ (by have := HD.out; have := HZN.out; omega))
end Go.Proofs.YtgechifbbhipaaaDoor
