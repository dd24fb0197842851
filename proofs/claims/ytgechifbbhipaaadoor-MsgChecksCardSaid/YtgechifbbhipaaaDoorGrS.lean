/- strings.SplitSeq over a text and a newline: its iterator tells the lines. No condition but the text's size and the library's variable. -/
import Derived.Test.YtgechifbbhipaaaDoorGrH
import Derived.Test.YtgechifbbhipaaaDoorGrI
import Derived.Test.YtgechifbbhipaaaDoorShelf
import Derived.Test.YtgechifbbhipaaaDoorGrM
set_option linter.unusedVariables false
set_option linter.unusedSimpArgs false
namespace Go.Proofs.YtgechifbbhipaaaDoor
open Go.RowKit Go.Shelf

attribute [local go_sem] Oper.semAt_some

/-- blocks of a list stay -/
def KpL (L : List Nat) (W W' : World) : Prop := (∀ b ∈ L, ∀ o : Obj, W.heap[b]? = some o → o.isCells = true → W'.heap[b]? = some o) ∧ W.heap.size ≤ W'.heap.size
theorem KpL.trans {L : List Nat} {A B C : World} (h : KpL L A B) (k : KpL L B C) : KpL L A C := ⟨fun b hb o ho hc => k.1 b hb o (h.1 b hb o ho hc) hc, Nat.le_trans h.2 k.2⟩
theorem KpL.put {L : List Nat} (W : World) (l : Nat) (o o' : Obj) (hl : W.heap[l]? = some o) (ho : o.isCells = false) : KpL L W (W.putObj l o') :=
  ⟨fun b _ u hu hc => by
    have hne : b ≠ l := by rintro rfl; rw [hl] at hu; cases hu; rw [ho] at hc; cases hc
    exact (World.putObj_heap_other hne).trans hu, by simp [World.putObj]⟩
theorem KpL.box {L : List Nat} {b t : Nat} {v : Value} {W W' : World} (h : KpL L W W') (hb : b ∈ L) (hx : Boxed W b t v) : Boxed W' b t v := h.1 b hb _ hx rfl
theorem KpL.cell {L : List Nat} {b i : Nat} {v : Value} {W W' : World} (h : KpL L W W') (hb : b ∈ L) (hx : W.cell? ⟨b, i, none⟩ = some v) : W'.cell? ⟨b, i, none⟩ = some v := by
  obtain ⟨o, ho, hc⟩ := cells_of_cell hx
  exact (World.cell?_of_block (a := ⟨b, i, none⟩) ((h.1 b hb o ho hc).trans ho.symm)).trans hx
theorem KpL.below {L : List Nat} {W W' : World} (h : Below W.heap.size W W') : KpL L W W' := ⟨fun b _ o ho _ => (h.block b (Array.getElem?_eq_some_iff.1 ho).1).trans ho, h.size⟩

theorem splitSeq_any (s : ByteArray) (w : World) :
    Calls Tryd.prog 90 #[.string s, .string { data := #[10] }] w fun e w' => e = .returned (.func (.func 174) #[] #[.pointer (some ⟨w.heap.size + 1, 0, none⟩), .pointer (some ⟨w.heap.size, 0, none⟩), .pointer (some ⟨w.heap.size + 2, 0, none⟩)]) ∧
      Boxed w' w.heap.size 9 (.string s) ∧ Boxed w' (w.heap.size + 1) 9 (.string { data := #[10] }) ∧ Boxed w' (w.heap.size + 2) 3 (.int .i64 0) ∧ w'.heap.size = w.heap.size + 3 ∧ Below w.heap.size w w' := by
  have c1 : Calls Tryd.prog 140 #[.string s, .string { data := #[10] }, .int .i64 0] w fun e w' => e = .returned (.func (.func 174) #[] #[.pointer (some ⟨w.heap.size + 1, 0, none⟩), .pointer (some ⟨w.heap.size, 0, none⟩), .pointer (some ⟨w.heap.size + 2, 0, none⟩)]) ∧
      Boxed w' w.heap.size 9 (.string s) ∧ Boxed w' (w.heap.size + 1) 9 (.string { data := #[10] }) ∧ Boxed w' (w.heap.size + 2) 3 (.int .i64 0) ∧ w'.heap.size = w.heap.size + 3 ∧ Below w.heap.size w w' := by
    have hm := hmfV
    go_enter Tryd.func140, Tryd.ntmps140
    go_wp2
    go_ret
    refine ⟨rfl, ?_, ?_, ?_, by simp, (((Below.refl _ w).alloc (Nat.le_refl _) _).alloc (by simp) _).alloc (by simp; omega) _⟩
    · exact ((Boxed.new w 9 _).alloc _).alloc _
    · have h := (Boxed.new (w.alloc (.cells #[.string s] 9)) 9 (.string { data := #[10] })).alloc (.cells #[.int .i64 0] 3)
      rwa [World.size_alloc] at h
    · have h := Boxed.new ((w.alloc (.cells #[.string s] 9)).alloc (.cells #[.string { data := #[10] }] 9)) 3 (.int .i64 0)
      rwa [World.size_alloc, World.size_alloc] at h
  have C1 := Lib.hid c1
  clear c1
  go_enter Tryd.func90, Tryd.ntmps90
  go_wp2_with (go_at_call 140; refine C1.out.mono ?_; rintro e w' ⟨rfl, h1, h2, h3, h4, h5⟩)
  go_ret
  exact ⟨rfl, h1, h2, h3, h4, h5⟩

/-- what the iterator reads -/
def SpS (b1 b2 b3 : Nat) (T : ByteArray) (m : Int) (W : World) : Prop := Boxed W b1 9 (.string { data := #[10] }) ∧ Boxed W b2 9 (.string T) ∧ Boxed W b3 3 (.int .i64 0) ∧ W.cell? ⟨0, 0, none⟩ = some (.int .i64 m)
theorem SpS.keep {b1 b2 b3 : Nat} {T : ByteArray} {m : Int} {W W' : World} (h : SpS b1 b2 b3 T m W) (k : KpL [0, b1, b2, b3] W W') : SpS b1 b2 b3 T m W' :=
  ⟨k.box (by simp) h.1, k.box (by simp) h.2.1, k.box (by simp) h.2.2.1, k.cell (by simp) h.2.2.2⟩
theorem SpS.low {b1 b2 b3 : Nat} {T : ByteArray} {m : Int} {W W' : World} (h : SpS b1 b2 b3 T m W) (k : Below W.heap.size W W') : SpS b1 b2 b3 T m W' := h.keep (KpL.below k)
theorem Boxed.other {W : World} {b c t : Nat} {v : Value} (h : Boxed W b t v) (hne : b ≠ c) (v' : Value) : Boxed (W.setCell ⟨c, 0, none⟩ v') b t v := (Below.heap_setCell _ _ _ _ (by show b ≠ c; exact hne)).trans h
theorem SpS.store {b1 b2 b3 : Nat} {T : ByteArray} {m : Int} {W : World} (h : SpS b1 b2 b3 T m W) (h1 : b1 ≠ b2) (h3 : b3 ≠ b2) (h0 : b2 ≠ 0) (T' : ByteArray) : SpS b1 b2 b3 T' m (W.setCell ⟨b2, 0, none⟩ (.string T')) :=
  ⟨h.1.other h1 _, h.2.1.set _, h.2.2.1.other h3 _, (World.cell?_of_block (a := ⟨0, 0, none⟩) (Below.heap_setCell _ _ _ _ (by show (0 : Nat) ≠ b2; omega))).trans h.2.2.2⟩
def szCell (b : Nat) (W : World) : Nat := match W.cell? ⟨b, 0, none⟩ with | some (.string T) => T.size | _ => 0
theorem szCell_of {b t : Nat} {T : ByteArray} {W : World} (h : Boxed W b t (.string T)) : szCell b W = T.size := by unfold szCell; rw [h.cell]

set_option maxRecDepth 100000 in
set_option maxHeartbeats 1000000 in
theorem splt_seqE (n : Nat) (hn : 2 ≤ n) (b1 b2 b3 : Nat) (T0 : ByteArray) (hs : T0.size ≤ 10000) (m : Int) (w : World) (hd1 : b1 ≠ b2) (hd3 : b3 ≠ b2) (hd0 : b2 ≠ 0) (hc : SpS b1 b2 b3 T0 m w) :
    SeqE Fence.wide n 1 Tryd.prog 174 #[.pointer (some ⟨b1, 0, none⟩), .pointer (some ⟨b2, 0, none⟩), .pointer (some ⟨b3, 0, none⟩)] (fun x : ByteArray => #[Value.string x]) (fun _ => KpL [0, b1, b2, b3]) (fun _ b => b = b2) (fun _ => 0)
      (fun xs _ => xs = (cutB 10 T0.data.toList).map mkB) (fun pre => pre <+: (cutB 10 T0.data.toList).map mkB) (fun pre x => pre ++ [x] <+: (cutB 10 T0.data.toList).map mkB) w := by
  intro l J Jx W hW hJ hJx hL hY h0
  have hn1 : 1 ≤ n := by omega
  have HS0 := Lib.hid (SpS.keep hc (KpL.below hW))
  have HL := Lib.hid (fun pre W v (h : J pre W) => hL pre W b2 v rfl h)
  clear hc hW hL
  obtain ⟨Q, hQ⟩ : ∃ Q, (cutB 10 T0.data.toList).map mkB = Q := ⟨_, rfl⟩
  rw [hQ] at hY ⊢
  have HQ0 : Hid ([] ++ (cutB 10 T0.data.toList).map mkB = Q) := by unfold Hid; rw [List.nil_append]; exact hQ
  clear hQ
  refine callsIn_of_wp Tryd.func174 rfl trivial ?_ rfl
  simp only [Tryd.ntmps174, List.size_toArray, List.length_cons, List.length_nil, Nat.reduceAdd, Nat.reduceSub, Array.replicate_succ, Array.replicate_zero, List.push_toArray, List.append_toArray, List.nil_append, List.cons_append]
  have HJ0 := Lib.hid h0
  clear h0
  have y1 := HS0.out.1.cell
  have i1 : (((ByteArray.mk #[10]).size : Int) == 0) = false := rfl
  gi_wp2
  clear y1
  gi_loopw [7, 8] (fun _ _ wr => ∃ (T : ByteArray) (pre : List ByteArray), Hid (pre ++ (cutB 10 T.data.toList).map mkB = Q) ∧ Hid (J pre wr) ∧ Hid (SpS b1 b2 b3 T m wr) ∧ T.size ≤ 10000) (fun _ _ wr => szCell b2 wr)
  case atStart => exact ⟨T0, [], HQ0, HJ0, HS0, hs⟩
  case round =>
    obtain ⟨T, pre, HE, HJ, HS, hT⟩ := hrel
    clear HQ0 HJ0 HS0 hs
    have cI := Tryd.strings_Index T { data := #[10] } m wr (by omega) HS.out.2.2.2
    rw [show (ByteArray.mk #[10]).data.toList = [10] from rfl] at cI
    have y1 := HS.out.1.cell
    have y2 := HS.out.2.1.cell
    have y3 := HS.out.2.2.1.cell
    rcases lines_split T.data.toList with ⟨h10, hcut⟩ | ⟨t, r, h10, hTt, hcut⟩
    · rw [index10_none h10] at cI
      have hE2 : pre ++ [T] = Q := by have := HE.out; rw [hcut] at this; exact this
      have hNx : pre ++ [T] <+: Q := ⟨[], by rw [List.append_nil]; exact hE2⟩
      have HYx : Hid (YieldAt Fence.wide (n - 1) Tryd.prog l #[.string T] wr fun e W' => (e = .returned (.bool true) ∧ J (pre ++ [T]) W' ∧ KpL [0, b1, b2, b3] wr W' ∧ KeepsFrom W.heap.size wr W') ∨ (e = .returned (.bool false) ∧ Jx (pre ++ [T]) W' ∧ KeepsFrom W.heap.size wr W')) := hY pre T wr HJ.out hNx (Nat.zero_le _)
      have HNx := Lib.hid hNx
      have HE2 := Lib.hid hE2
      have CI := Lib.hid cI
      obtain ⟨fn, tmps, assign, body, hy, hRr⟩ := HYx.out
      clear HYx hNx hE2 hcut h10 cI HE
      gi_wp2_with (refine ⟨trivial, ?_⟩; gi_at_call 87; refine (callsIn_wide.2 CI.out).mono ?_; rintro e w2 ⟨rfl, rfl⟩)
      refine hRr.mono ?_
      rintro e W3 (⟨rfl, hJ3, _⟩ | ⟨rfl, hJx3, _⟩)
      · gi_wp2
        go_end0
        exact ⟨⟨_, rfl⟩, .inl ⟨_, HE2.out, hJ3⟩⟩
      · gi_wp2
        go_end0
        exact ⟨⟨_, rfl⟩, .inr ⟨_, HNx.out, hJx3⟩⟩
    · have hix := index10_at (r := r) h10
      rw [← hTt] at hix
      rw [hix] at cI
      have hts : t.length + 1 + r.length = T.size := by rw [← len_toList, hTt]; simp; omega
      have hx1 : T.extract 0 t.length = mkB t := by
        rw [← ext_mkB T 0 t.length (by omega), hTt]; simp
      have hx2 : T.extract (t.length + 1) T.size = mkB r := by
        rw [← ext_mkB T (t.length + 1) T.size (Nat.le_refl _), hTt]
        have e1 : (t ++ 10 :: r).drop (t.length + 1) = r := by rw [show t.length + 1 = (t ++ [(10 : UInt8)]).length from by simp, show t ++ 10 :: r = (t ++ [10]) ++ r from by simp, List.drop_left]
        rw [e1, List.take_of_length_le (by omega)]
      have hE2 : (pre ++ [mkB t]) ++ (cutB 10 (mkB r).data.toList).map mkB = Q := by
        have := HE.out
        rw [hcut] at this
        rw [← this]; simp [mkB_list]
      have hNx : pre ++ [mkB t] <+: Q := ⟨_, hE2⟩
      have HYx : Hid (YieldAt Fence.wide (n - 1) Tryd.prog l #[.string (mkB t)] wr fun e W' => (e = .returned (.bool true) ∧ J (pre ++ [mkB t]) W' ∧ KpL [0, b1, b2, b3] wr W' ∧ KeepsFrom W.heap.size wr W') ∨ (e = .returned (.bool false) ∧ Jx (pre ++ [mkB t]) W' ∧ KeepsFrom W.heap.size wr W')) := hY pre _ wr HJ.out hNx (Nat.zero_le _)
      have HNx := Lib.hid hNx
      have HE2 := Lib.hid hE2
      have CI := Lib.hid cI
      have HRs : Hid ((mkB r).size < T.size) := by unfold Hid; rw [mkB_size]; omega
      generalize t.length = k at *
      have k0 : (0 : Int) ≤ (k : Int) := by omega
      have k1 : ¬ (k : Int) < 0 := by omega
      have k2 : (k : Int) ≤ (T.size : Int) := by omega
      have k3 : (k : Int) + 1 ≤ (T.size : Int) := by omega
      have k4 : wrap64 ((k : Int) + 1) = (k : Int) + 1 := by unfold wrap64; omega
      have k5 : wrap64 ((k : Int) + 0) = (k : Int) := by unfold wrap64; omega
      have k6 : ((k : Int) + 1).toNat = k + 1 := by omega
      have k7 : (0 : Int) ≤ (k : Int) + 1 := by omega
      have hsl1 : ∀ w, (Instr.slice 9 (.string T) none (some (.int .i64 (k : Int))) none).run Tryd.prog w = .ok (.string (mkB t)) w := fun w => by
        rw [run_slice_string_to_if w 9 T .i64 (k : Int) Tryd.underlying9, if_pos ⟨k0, k2⟩, Int.toNat_natCast, hx1]
      have hsl2 : ∀ w, (Instr.slice 9 (.string T) (some (.int .i64 ((k : Int) + 1))) none none).run Tryd.prog w = .ok (.string (mkB r)) w := fun w => by
        rw [run_slice_string_from_if w 9 T .i64 ((k : Int) + 1) Tryd.underlying9, if_pos ⟨k7, k3⟩, k6, hx2]
      obtain ⟨fn, tmps, assign, body, hy, hRr⟩ := HYx.out
      have HK4 := Lib.hid k4
      clear HYx hNx hE2 hcut h10 cI HE hts hx1 hx2 hix hTt
      generalize mkB t = TT at *
      generalize mkB r = TR at *
      gi_wp2_with (refine ⟨trivial, ?_⟩; gi_at_call 87; refine (callsIn_wide.2 CI.out).mono ?_; rintro e w2 ⟨rfl, rfl⟩)
      refine hRr.mono ?_
      rintro e W3 (⟨rfl, hJ3, hk3, _⟩ | ⟨rfl, hJx3, _⟩)
      · have hS3 := HS.out.keep hk3
        have z1 := hS3.1.cell
        have z2 := hS3.2.1.cell
        have z4 := hS3.2.1.frozen
        have HS3 := Lib.hid hS3
        have HJ3 := Lib.hid hJ3
        clear hS3 hJ3 hk3
        gi_wp2
        go_roundw
        case rel => exact ⟨TR, _, HE2, HL.out _ _ _ HJ3.out, HS3.out.store hd1 hd3 hd0 TR, by have := HRs.out; omega⟩
        case measure => rw [szCell_of (HS3.out.store hd1 hd3 hd0 TR).2.1, szCell_of HS.out.2.1]; exact HRs.out
      · gi_wp2
        refine bodyPost_ret (results_none rfl _ _ _) rfl ?_
        exact ⟨⟨_, rfl⟩, .inr ⟨_, HNx.out, hJx3⟩⟩
end Go.Proofs.YtgechifbbhipaaaDoor

/- grammar: the program's Fits, of any rule's text: kids held against the rule, if a line of the page has it. No condition but the tables. -/
set_option linter.unusedVariables false
set_option linter.unusedSimpArgs false
namespace Go.Proofs.YtgechifbbhipaaaDoor
open Go.RowKit Go.Shelf

attribute [local go_sem] Oper.semAt_some

theorem trim_rules : Lib.trimPrefix rulesP.data.toList [10] = rulesQ.data.toList := by
  have h : (Lib.trimPrefix rulesP.data.toList [10] == rulesQ.data.toList) = true := by kernel_rfl
  exact eq_of_beq h
theorem lines_map : (cutB 10 rulesQ.data.toList).map mkB = ruleLs.map mkB := rfl
theorem hit_none {pg : Int} {r : List UInt8} {ks : List Tr} (h : ∀ x ∈ ruleLs.map mkB, hitB pg r x.data.toList = false) : fitsP pg r ks = false := by
  unfold fitsP
  have : ruleLs.any (hitB pg r) = false := by
    rw [List.any_eq_false]
    intro l hl
    have := h (mkB l) (List.mem_map.2 ⟨l, hl, rfl⟩)
    rw [mkB_list] at this
    simp [this]
  rw [this]; rfl
theorem hit_some {pg : Int} {r : List UInt8} {ks : List Tr} {x : ByteArray} (hx : x ∈ ruleLs.map mkB) (h : hitB pg r x.data.toList = true) : fitsP pg r ks = fitsW pg (wordsR r) ks := by
  unfold fitsP
  obtain ⟨l, hl, rfl⟩ := List.mem_map.1 hx
  rw [mkB_list] at h
  rw [List.any_eq_true.2 ⟨l, hl, h⟩]; rfl
theorem hit_size {x : ByteArray} (hx : x ∈ ruleLs.map mkB) : x.size ≤ 2000 := by
  obtain ⟨l, hl, rfl⟩ := List.mem_map.1 hx
  have h3 := List.all_eq_true.1 ruleLs_text l hl
  unfold textLine at h3
  simp only [Bool.and_eq_true, decide_eq_true_eq] at h3
  rw [mkB_size]; omega

theorem cut_len (l : List UInt8) : (Lib.cut l [32]).2.1.length ≤ l.length := by
  unfold Lib.cut
  split
  · rw [List.length_drop]; omega
  · simp
theorem strU_is (x s : ByteArray) : (x.toList == s.toList) = true ↔ x = s := by
  rw [ByteArray.toList_eq, ByteArray.toList_eq, beq_iff_eq]
  exact ⟨fun h => Go.WideShapes.bytes_inj h, fun h => by rw [h]⟩
theorem strU_not {x s : ByteArray} (h : x ≠ s) : (x.toList == s.toList) = false := by
  cases e : (x.toList == s.toList) with
  | false => rfl
  | true => exact absurd ((strU_is x s).1 e) h

set_option maxRecDepth 100000 in
set_option maxHeartbeats 1000000 in
theorem fitsP_any (pg : Int) (s : ByteArray) (ks : List Tr) (a : Option Addr) (c M : Nat) (m : Int) (w : World) (hM : M ≤ w.heap.size) (hk : AtL w M a 0 ks) (hkl : ks.length ≤ 3000) (hcap : ks.length ≤ c) (hT : TabG m w) :
    Calls Tryd.prog 30 #[.int .i64 pg, .string s, .slice a ks.length c] w fun e w' => e = .returned (.bool (fitsP pg s.data.toList ks)) ∧ Below w.heap.size w w' := by
  have HFit := Lib.hid (fun (X : World) (hX : Below w.heap.size w X) (h1 : ∀ x ∈ wordsR s.data.toList, okWord x = true) (h2 : s.data.toList.length ≤ 1000) =>
    fits_any pg s (by rw [← len_toList]; omega) (okT_rule h1) (fun x hx => by
      have e := wdsE_words s.data.toList
      rw [mkB_of] at e
      have h3 : x.data.toList ∈ wordsR s.data.toList := by rw [← e]; exact List.mem_map.2 ⟨x, hx, rfl⟩
      have hy3 := okWord_ne (h1 _ h3)
      have hy4 := words_len _ _ h3
      refine ⟨fun e0 => hy3 (List.eq_nil_of_length_eq_zero (by rw [len_toList]; exact e0)), ?_⟩
      rw [len_toList] at hy4; omega) ks a c M m X (Nat.le_trans hM hX.size) (AtL.below (hX.mono hM) a ks 0 hk) hkl hcap ((hT.below hX).2.1) (hT.below hX).2.2)
  have HTb := Lib.hid (fun (X : World) (hX : Below w.heap.size w X) => (hT.below hX).2.1)
  have HT0 : Hid (0 < w.heap.size) := World.block_lt_of_cell? _ _ hT.2.1
  obtain ⟨R, hR⟩ : ∃ R, fitsP pg s.data.toList ks = R := ⟨_, rfl⟩
  rw [hR]
  have HRn : Hid ((∀ x ∈ ruleLs.map mkB, hitB pg s.data.toList x.data.toList = false) → R = false) := fun h => by rw [← hR]; exact hit_none h
  have HRs : Hid (∀ x ∈ ruleLs.map mkB, hitB pg s.data.toList x.data.toList = true → fitsW pg ((wdsE s).map fun b => b.data.toList) ks = R) := fun x hx h => by
    rw [← hR, hit_some hx h, ← wdsE_words, mkB_of]
  have HRf : Hid (∀ x ∈ ruleLs.map mkB, hitB pg s.data.toList x.data.toList = true → (∀ x ∈ wordsR s.data.toList, okWord x = true) ∧ s.data.toList.length ≤ 1000) := fun x hx h => by
    obtain ⟨l, hl, rfl⟩ := List.mem_map.1 hx
    exact hit_facts hl h
  clear hR hk hM hcap hT hkl
  generalize ks.length = nk at *
  have cT := Lib.hid (fun w => Tryd.strings_TrimPrefix rulesP { data := #[10] } w)
  rw [show (ByteArray.mk #[10]).data.toList = [10] from rfl, trim_rules] at cT
  have cS := Lib.hid (fun w => splitSeq_any rulesQ w)
  rw [show (ByteArray.mk rulesQ.data.toList.toArray) = rulesQ from rfl] at cT
  refine (callsIn_wide (n := 9)).1 ?_
  refine callsIn_of_wp_marks Tryd.func30 rfl trivial ?_ rfl
  simp only [Tryd.ntmps30, List.size_toArray, List.length_cons, List.length_nil, Nat.reduceAdd, Nat.reduceSub, Array.replicate_succ, Array.replicate_zero, List.push_toArray, List.append_toArray, List.nil_append, List.cons_append]
  rw [lit_p]
  rotate_left
  · kernel_rfl
  have HSq := Lib.hid rulesQ_size
  have HLn := Lib.hid lines_map
  generalize rulesP = QP at *
  generalize rulesQ = QQ at *
  gi_wp2_with (refine ⟨trivial, ?_⟩; first | (gi_at_call 91; refine (callsIn_wide.2 (cT.out _)).mono ?_; rintro e w0 ⟨rfl, rfl⟩) | (gi_at_call 90; refine (callsIn_wide.2 (cS.out _)).mono ?_; rintro e w1 ⟨rfl, hs1, hs2, hs3, hz1, hb1⟩) | fail)
  simp only [World.size_alloc] at hs1 hs2 hs3 hz1 hb1
  have hB0 : Below w.heap.size w w1 := ((((((Below.refl _ w).alloc (Nat.le_refl _) _).alloc (by simp) _).alloc (by simp; omega) _).alloc (by simp; omega) _)).trans (hb1.mono (by omega))
  have bP : Boxed w1 w.heap.size 3 (.int .i64 pg) := (hb1.block w.heap.size (by omega)).trans ((((Boxed.new w 3 _).alloc _).alloc _).alloc _)
  have bS : Boxed w1 (w.heap.size + 1) 9 (.string s) := (hb1.block (w.heap.size + 1) (by omega)).trans (by have h := ((Boxed.new (w.alloc (.cells #[.int .i64 pg] 3)) 9 (.string s)).alloc (.cells #[.slice a nk c] 44)).alloc (.cells #[.bool false] 4); rwa [World.size_alloc] at h)
  have bK : Boxed w1 (w.heap.size + 1 + 1) 44 (.slice a nk c) := (hb1.block (w.heap.size + 1 + 1) (by omega)).trans (by have h := (Boxed.new ((w.alloc (.cells #[.int .i64 pg] 3)).alloc (.cells #[.string s] 9)) 44 (.slice a nk c)).alloc (.cells #[.bool false] 4); rwa [World.size_alloc, World.size_alloc] at h)
  have bR : ∃ v, Boxed w1 (w.heap.size + 1 + 1 + 1) 4 v := ⟨_, (hb1.block (w.heap.size + 1 + 1 + 1) (by omega)).trans (by have h := Boxed.new (((w.alloc (.cells #[.int .i64 pg] 3)).alloc (.cells #[.string s] 9)).alloc (.cells #[.slice a nk c] 44)) 4 (.bool false); rwa [World.size_alloc, World.size_alloc, World.size_alloc] at h)⟩
  refine wpIn_range_cellsE rfl (by decide) (gf := 174) (lb := #[.pointer (some ⟨w.heap.size + 1 + 1 + 1 + 1 + 1, 0, none⟩), .pointer (some ⟨w.heap.size + 1 + 1 + 1 + 1, 0, none⟩), .pointer (some ⟨w.heap.size + 1 + 1 + 1 + 1 + 2, 0, none⟩)]) rfl trivial (enters_of Tryd.func174 (by kernel_rfl) rfl)
    (splt_seqE 8 (by decide) (w.heap.size + 1 + 1 + 1 + 1 + 1) (w.heap.size + 1 + 1 + 1 + 1) (w.heap.size + 1 + 1 + 1 + 1 + 2) QQ (by rw [HSq.out]; decide) m w1 (by omega) (by omega) (by omega) ⟨hs2, hs1, hs3, HTb.out w1 hB0⟩) KpL.trans (fun X p o o' _ hl ho _ => KpL.put X p o o' hl ho) (Below.refl _ _) (fun _ => rfl)
    (fun (pre : List ByteArray) X => (∀ x ∈ pre, hitB pg s.data.toList x.data.toList = false) ∧ Boxed X w.heap.size 3 (.int .i64 pg) ∧ Boxed X (w.heap.size + 1) 9 (.string s) ∧ Boxed X (w.heap.size + 1 + 1) 44 (.slice a nk c) ∧ (∃ v, Boxed X (w.heap.size + 1 + 1 + 1) 4 v) ∧ Below w.heap.size w X)
    (fun c (_ : List ByteArray) X => c = .ret ∧ Boxed X (w.heap.size + 1 + 1 + 1) 4 (.bool R) ∧ Below w.heap.size w X)
    ?own1 ?own2 (fun b hb => by omega) ?lets (fun _ _ _ _ hs _ _ => hs)
    ⟨by simp, bP, bS, bK, bR, hB0⟩
    (fun x => { tmps := #[.int .i64 pg, .string s, .slice a nk c, .pointer (some ⟨w.heap.size, 0, none⟩), .pointer (some ⟨w.heap.size + 1, 0, none⟩), .pointer (some ⟨w.heap.size + 1 + 1, 0, none⟩), .pointer (some ⟨w.heap.size + 1 + 1 + 1, 0, none⟩), .string x, undef, undef, undef, undef, undef, undef, .string QQ, .func (.func 174) #[] #[.pointer (some ⟨w.heap.size + 1 + 1 + 1 + 1 + 1, 0, none⟩), .pointer (some ⟨w.heap.size + 1 + 1 + 1 + 1, 0, none⟩), .pointer (some ⟨w.heap.size + 1 + 1 + 1 + 1 + 2, 0, none⟩)], .string x, undef, undef, undef, undef, undef, undef, undef, undef, undef, undef, undef, undef, undef, undef, undef, undef, undef, undef, undef, undef, undef, undef, undef, undef, undef], defers := [] }) ?assign ?body ?done ?stop
  case own1 =>
    rintro pre X Y row ⟨h1, h2, h3, h4, ⟨v, h5⟩, h6⟩ hg hr
    have hb := ownFrom_below (β := Unit) (n₀ := w.heap.size) (B := w1.heap.size) (w₀ := w) (Nat.le_refl _) (by omega) () X Y row h6 hg hr
    exact ⟨h1, h2.kept hg (fun e => by have := (hr _ e.symm).1; omega), h3.kept hg (fun e => by have := (hr _ e.symm).1; omega), h4.kept hg (fun e => by have := (hr _ e.symm).1; omega), ⟨v, h5.kept hg (fun e => by have := (hr _ e.symm).1; omega)⟩, hb⟩
  case own2 =>
    rintro c pre X Y row ⟨h1, h5, h6⟩ hg hr
    have hb := ownFrom_below (β := Unit) (n₀ := w.heap.size) (B := w1.heap.size) (w₀ := w) (Nat.le_refl _) (by omega) () X Y row h6 hg hr
    exact ⟨h1, h5.kept hg (fun e => by have := (hr _ e.symm).1; omega), hb⟩
  case lets =>
    rintro pre X b v rfl ⟨h1, h2, h3, h4, ⟨u, h5⟩, h6⟩
    exact ⟨h1, h2.other (by omega) v, h3.other (by omega) v, h4.other (by omega) v, ⟨u, h5.other (by omega) v⟩, h6.setCell (p := ⟨w.heap.size + 1 + 1 + 1 + 1, 0, none⟩) (by show w.heap.size ≤ w.heap.size + 1 + 1 + 1 + 1; omega) v⟩
  case assign =>
    intro l x W K hK
    gi_wp2
    exact hK
  case body =>
    have HSz1 := Lib.hid hz1
    clear hs1 hs2 hs3 hz1 hb1 hB0 bP bS bK bR
    rintro l' pre x X ⟨h1, h2, h3, h4, ⟨v, h5⟩, h6⟩ hnx hm2
    have hxm : x ∈ ruleLs.map mkB := by rw [← HLn.out]; exact hnx.subset (by simp)
    have HXm := Lib.hid hxm
    have hxs := hit_size hxm
    have HPre := Lib.hid h1
    show Code.wpIn _ _ _ _ _ _ _
    obtain ⟨⟨ha, hrst, hbb⟩, hCT⟩ : ∃ CT, Lib.cut x.data.toList [32] = CT := ⟨_, rfl⟩
    have hrl : hrst.length ≤ 2000 := by
      have h := cut_len x.data.toList
      rw [hCT, len_toList] at h
      exact Nat.le_trans h hxs
    obtain ⟨⟨ra, rr, rb⟩, hCU⟩ : ∃ CU, Lib.cut hrst [32] = CU := ⟨_, rfl⟩
    have hhit : hitB pg s.data.toList x.data.toList = (decide (ha = digL pg) && decide (rr = s.data.toList)) := by unfold hitB hd1 rs1; rw [hCT, hCU]
    have cC1 : Hid (∀ Y, Below w.heap.size w Y → Calls Tryd.prog 88 #[.string x, .string { data := #[32] }] Y fun e w' => e = .returned (.tuple #[.string (mkB ha), .string (mkB hrst), .bool hbb]) ∧ Below Y.heap.size Y w') := fun Y hY =>
      (Tryd.strings_Cut x { data := #[32] } m Y (by omega) (HTb.out Y hY)).mono fun e w' ⟨h1, n, h2⟩ => ⟨by rw [h1, show (ByteArray.mk #[32]).data.toList = [32] from rfl, hCT]; rfl, by rw [h2]; exact ⟨rfl, rfl, rfl, Nat.le_refl _, fun _ _ => rfl⟩⟩
    have cC2 : Hid (∀ Y, Below w.heap.size w Y → Calls Tryd.prog 88 #[.string (mkB hrst), .string { data := #[32] }] Y fun e w' => e = .returned (.tuple #[.string (mkB ra), .string (mkB rr), .bool rb]) ∧ Below Y.heap.size Y w') := fun Y hY =>
      (Tryd.strings_Cut (mkB hrst) { data := #[32] } m Y (by rw [mkB_size]; omega) (HTb.out Y hY)).mono fun e w' ⟨h1, n, h2⟩ => ⟨by rw [h1, show (ByteArray.mk #[32]).data.toList = [32] from rfl, mkB_list, hCU]; rfl, by rw [h2]; exact ⟨rfl, rfl, rfl, Nat.le_refl _, fun _ _ => rfl⟩⟩
    have cD := Lib.hid (fun w => digit_any pg w)
    have HHit := Lib.hid hhit
    have H2 := Lib.hid h2
    have H3 := Lib.hid h3
    have H4 := Lib.hid h4
    have H5 := Lib.hid h5
    have H6 := Lib.hid h6
    clear hCT hCU hhit hrl hxs hxm hnx hm2 h1 h2 h3 h4 h5 h6
    gi_wp2_with fail
    refine ⟨trivial, (calls_round (cC1.out _ H6.out)).mono ?_⟩
    rintro e X2 ⟨rfl, hb2⟩
    have HX2 := Lib.hid hb2
    clear hb2
    gi_wp2_with fail
    refine ⟨trivial, (calls_round (cC2.out _ (H6.out.trans (HX2.out.mono H6.out.size)))).mono ?_⟩
    rintro e X3 ⟨rfl, hb3⟩
    have HX3 : Hid (Below X.heap.size X X3) := HX2.out.trans (hb3.mono HX2.out.size)
    have y1 := (Boxed.low H2.out HX3.out).cell
    clear hb3
    gi_wp2_with fail
    refine ⟨trivial, (calls_round (cD.out _)).mono ?_⟩
    rintro e X4 ⟨rfl, hb4⟩
    have HX4 : Hid (Below X.heap.size X X4) := HX3.out.trans (hb4.mono HX3.out.size)
    have z1 := (Boxed.low H2.out HX4.out).cell
    have z2 := (Boxed.low H3.out HX4.out).cell
    have z3 := (Boxed.low H4.out HX4.out).cell
    clear hb4 y1
    have HDg : Hid (digS pg = mkB (digL pg)) := rfl
    have step : Hid (hitB pg s.data.toList x.data.toList = false → KeepsFrom w1.heap.size X X4 ∧ KpL [0, w.heap.size + 1 + 1 + 1 + 1 + 1, w.heap.size + 1 + 1 + 1 + 1, w.heap.size + 1 + 1 + 1 + 1 + 2] X X4 ∧ (∀ y ∈ pre ++ [x], hitB pg s.data.toList y.data.toList = false) ∧ Boxed X4 w.heap.size 3 (.int .i64 pg) ∧ Boxed X4 (w.heap.size + 1) 9 (.string s) ∧ Boxed X4 (w.heap.size + 1 + 1) 44 (.slice a nk c) ∧ (∃ v, Boxed X4 (w.heap.size + 1 + 1 + 1) 4 v) ∧ Below w.heap.size w X4) := fun h => by
      refine ⟨keeps_below _ HX4.out, KpL.below HX4.out, fun y hy => ?_, Boxed.low H2.out HX4.out, Boxed.low H3.out HX4.out, Boxed.low H4.out HX4.out, ⟨v, Boxed.low H5.out HX4.out⟩, H6.out.trans (HX4.out.mono H6.out.size)⟩
      rcases List.mem_append.1 hy with h1 | h1
      · exact HPre.out y h1
      · rw [List.mem_singleton] at h1; rw [h1]; exact h
    by_cases hh : ha = digL pg
    · have hq := (strU_is (mkB ha) (digS pg)).2 (by rw [hh]; rfl)
      by_cases hr : rr = s.data.toList
      · have hq2 := (strU_is (mkB rr) s).2 (by rw [hr]; rfl)
        have hv : hitB pg s.data.toList x.data.toList = true := by rw [HHit.out, decide_eq_true hh, decide_eq_true hr]; rfl
        have hF := HFit.out X4 (H6.out.trans (HX4.out.mono H6.out.size)) (HRf.out x HXm.out hv).1 (HRf.out x HXm.out hv).2
        rw [HRs.out x HXm.out hv] at hF
        have HF := Lib.hid hF
        clear hF hv hh hr step
        generalize mkB ha = BA at *
        generalize mkB rr = BR at *
        generalize digS pg = DG at *
        gi_wp2_with fail
        refine ⟨trivial, (calls_round HF.out).mono ?_⟩
        rintro e X5 ⟨rfl, hb5⟩
        have HX5 : Hid (Below X.heap.size X X5) := HX4.out.trans (hb5.mono HX4.out.size)
        have z5 := (Boxed.low H5.out HX5.out).cell
        have z6 := (Boxed.low H5.out HX5.out).frozen
        clear hb5 z1 z2 z3
        gi_wp2
        exact ⟨(keeps_below _ HX5.out).trans ((KeepsOthers.setCell _ _ _).from _), rfl, (Boxed.low H5.out HX5.out).set _, (H6.out.trans (HX5.out.mono H6.out.size)).setCell (p := ⟨w.heap.size + 1 + 1 + 1, 0, none⟩) (by show w.heap.size ≤ w.heap.size + 1 + 1 + 1; omega) _⟩
      · have hq2 := strU_not (x := mkB rr) (s := s) (fun e => hr (by rw [← e]; rfl))
        have hst := Lib.hid (step.out (by rw [HHit.out, decide_eq_false hr, Bool.and_false]))
        clear hh hr step
        generalize mkB ha = BA at *
        generalize mkB rr = BR at *
        generalize digS pg = DG at *
        gi_wp2
        exact hst.out
    · have hq := strU_not (x := mkB ha) (s := digS pg) (fun e => hh (by have := congrArg (fun b => b.data.toList) e; exact this))
      have hst := Lib.hid (step.out (by rw [HHit.out, decide_eq_false hh, Bool.false_and]))
      clear hh step
      generalize mkB ha = BA at *
      generalize mkB rr = BR at *
      generalize digS pg = DG at *
      gi_wp2
      exact hst.out
  case done =>
    rintro D ys X hD rfl ⟨h1, h2, h3, h4, ⟨u, h5⟩, h6⟩ hK
    have hR : R = false := HRn.out (by rw [← HLn.out]; exact h1)
    clear h1 h2 h3 h4
    subst hR
    have hcr := h5.cell
    have hfr := h5.frozen
    have hK2 : (X.setCell ⟨w.heap.size + 1 + 1 + 1, 0, none⟩ (.bool false)).heap[D]? = some (.deferred (some [])) := (Below.heap_setCell _ _ _ _ (by show D ≠ w.heap.size + 1 + 1 + 1; omega)).trans hK
    have HK2 := Lib.hid hK2
    have HB2 : Hid (Below w.heap.size w (X.setCell ⟨w.heap.size + 1 + 1 + 1, 0, none⟩ (.bool false))) := h6.setCell (p := ⟨w.heap.size + 1 + 1 + 1, 0, none⟩) (by show w.heap.size ≤ w.heap.size + 1 + 1 + 1; omega) _
    have HC2 : Hid (Boxed ((X.setCell ⟨w.heap.size + 1 + 1 + 1, 0, none⟩ (.bool false)).putObj D (.deferred none)) (w.heap.size + 1 + 1 + 1) 4 (.bool false)) := (World.putObj_heap_other (by omega)).trans (h5.set _)
    clear hK2 h6 h5
    gi_wp2
    refine ⟨by simp, .inl ⟨_, _, rfl, run_takeDeferred HK2.out, ?_⟩⟩
    exact ⟨_, results_cell1 rfl rfl (run_loadVar_cell HC2.out.cell (by kernel_rfl)), rfl, HB2.out.trans (belowK_b (Nat.le_refl _) _ D _ _ (by omega) HK2.out rfl rfl)⟩
  case stop =>
    rintro D cc pre X hD hp ⟨rfl, h5, h6⟩ hK
    have HC2 : Hid (Boxed (X.putObj D (.deferred none)) (w.heap.size + 1 + 1 + 1) 4 (.bool R)) := (World.putObj_heap_other (by omega)).trans h5
    gi_wp2
    refine ⟨by simp, .inl ⟨_, _, rfl, run_takeDeferred hK, ?_⟩⟩
    exact ⟨_, results_cell1 rfl rfl (run_loadVar_cell HC2.out.cell (by kernel_rfl)), rfl, h6.trans (belowK_b (Nat.le_refl _) _ D _ _ (by omega) hK rfl rfl)⟩
end Go.Proofs.YtgechifbbhipaaaDoor
