/- strings.SplitSeq over a text and a newline: its iterator tells the lines. No condition but the text's size and the library's variable. -/
import Derived.Test.YtgechifbbhipaaaDoorGrN
import Derived.Test.YtgechifbbhipaaaDoorGrI
import Derived.Test.YtgechifbbhipaaaDoorShelfG
set_option linter.unusedVariables false
set_option linter.unusedSimpArgs false
namespace Go.Proofs.YtgechifbbhipaaaDoor
open Go.RowKit Go.Shelf

attribute [local go_sem] Oper.semAt_some

/-- blocks of a list stay -/
def KpL (L : List Nat) (W W' : World) : Prop := (∀ b ∈ L, ∀ o : Obj, W.heap[b]? = some o → o.isCells = true → W'.heap[b]? = some o) ∧ W.heap.size ≤ W'.heap.size
theorem KpL.trans {L : List Nat} {A B C : World} (h : KpL L A B) (k : KpL L B C) : KpL L A C := ⟨fun b hb o ho hc => k.1 b hb o (h.1 b hb o ho hc) hc, Nat.le_trans h.2 k.2⟩
theorem KpL.put {L : List Nat} (W : World) (l : Nat) (o o' : Obj) (hl : W.heap[l]? = some o) (ho : o.isCells = false) : KpL L W (W.putObj l o') :=
  ⟨fun b _ u hu hc => by
    have hne : b ≠ l := by rintro rfl; rw [hl] at hu; cases hu; rw [ho] at hc; cases hc
    exact (World.putObj_heap_other hne).trans hu, by simp [World.putObj]⟩
theorem KpL.box {L : List Nat} {b t : Nat} {v : Value} {W W' : World} (h : KpL L W W') (hb : b ∈ L) (hx : Boxed W b t v) : Boxed W' b t v := h.1 b hb _ hx rfl
theorem KpL.cell {L : List Nat} {b i : Nat} {v : Value} {W W' : World} (h : KpL L W W') (hb : b ∈ L) (hx : W.cell? ⟨b, i, none⟩ = some v) : W'.cell? ⟨b, i, none⟩ = some v := by
  obtain ⟨o, ho, hc⟩ := cells_of_cell hx
  exact (World.cell?_of_block (a := ⟨b, i, none⟩) ((h.1 b hb o ho hc).trans ho.symm)).trans hx
theorem KpL.below {L : List Nat} {W W' : World} (h : Below W.heap.size W W') : KpL L W W' := ⟨fun b _ o ho _ => (h.block b (Array.getElem?_eq_some_iff.1 ho).1).trans ho, h.size⟩

theorem splitSeq_any (s : ByteArray) (w : World) :
    Calls Tryd.prog 90 #[.string s, .string { data := #[10] }] w fun e w' => e = .returned (.func (.func 174) #[] #[.pointer (some ⟨w.heap.size + 1, 0, none⟩), .pointer (some ⟨w.heap.size, 0, none⟩), .pointer (some ⟨w.heap.size + 2, 0, none⟩)]) ∧
      Boxed w' w.heap.size 9 (.string s) ∧ Boxed w' (w.heap.size + 1) 9 (.string { data := #[10] }) ∧ Boxed w' (w.heap.size + 2) 3 (.int .i64 0) ∧ w'.heap.size = w.heap.size + 3 ∧ Below w.heap.size w w' := by
  have c1 : Calls Tryd.prog 140 #[.string s, .string { data := #[10] }, .int .i64 0] w fun e w' => e = .returned (.func (.func 174) #[] #[.pointer (some ⟨w.heap.size + 1, 0, none⟩), .pointer (some ⟨w.heap.size, 0, none⟩), .pointer (some ⟨w.heap.size + 2, 0, none⟩)]) ∧
      Boxed w' w.heap.size 9 (.string s) ∧ Boxed w' (w.heap.size + 1) 9 (.string { data := #[10] }) ∧ Boxed w' (w.heap.size + 2) 3 (.int .i64 0) ∧ w'.heap.size = w.heap.size + 3 ∧ Below w.heap.size w w' := by
    have hm := hmfV
    go_enter Tryd.func140, Tryd.ntmps140
    go_wp2
    go_ret
    refine ⟨rfl, ?_, ?_, ?_, by simp, (((Below.refl _ w).alloc (Nat.le_refl _) _).alloc (by simp) _).alloc (by simp; omega) _⟩
    · exact ((Boxed.new w 9 _).alloc _).alloc _
    · have h := (Boxed.new (w.alloc (.cells #[.string s] 9)) 9 (.string { data := #[10] })).alloc (.cells #[.int .i64 0] 3)
      rwa [World.size_alloc] at h
    · have h := Boxed.new ((w.alloc (.cells #[.string s] 9)).alloc (.cells #[.string { data := #[10] }] 9)) 3 (.int .i64 0)
      rwa [World.size_alloc, World.size_alloc] at h
  have C1 := Lib.hid c1
  clear c1
  go_enter Tryd.func90, Tryd.ntmps90
  go_wp2_with (go_at_call 140; refine C1.out.mono ?_; rintro e w' ⟨rfl, h1, h2, h3, h4, h5⟩)
  go_ret
  exact ⟨rfl, h1, h2, h3, h4, h5⟩

/-- what the iterator reads -/
def SpS (b1 b2 b3 : Nat) (T : ByteArray) (m : Int) (W : World) : Prop := Boxed W b1 9 (.string { data := #[10] }) ∧ Boxed W b2 9 (.string T) ∧ Boxed W b3 3 (.int .i64 0) ∧ W.cell? ⟨0, 0, none⟩ = some (.int .i64 m)
theorem SpS.keep {b1 b2 b3 : Nat} {T : ByteArray} {m : Int} {W W' : World} (h : SpS b1 b2 b3 T m W) (k : KpL [0, b1, b2, b3] W W') : SpS b1 b2 b3 T m W' :=
  ⟨k.box (by simp) h.1, k.box (by simp) h.2.1, k.box (by simp) h.2.2.1, k.cell (by simp) h.2.2.2⟩
theorem SpS.low {b1 b2 b3 : Nat} {T : ByteArray} {m : Int} {W W' : World} (h : SpS b1 b2 b3 T m W) (k : Below W.heap.size W W') : SpS b1 b2 b3 T m W' := h.keep (KpL.below k)
theorem Boxed.other {W : World} {b c t : Nat} {v : Value} (h : Boxed W b t v) (hne : b ≠ c) (v' : Value) : Boxed (W.setCell ⟨c, 0, none⟩ v') b t v := (Below.heap_setCell _ _ _ _ (by show b ≠ c; exact hne)).trans h
theorem SpS.store {b1 b2 b3 : Nat} {T : ByteArray} {m : Int} {W : World} (h : SpS b1 b2 b3 T m W) (h1 : b1 ≠ b2) (h3 : b3 ≠ b2) (h0 : b2 ≠ 0) (T' : ByteArray) : SpS b1 b2 b3 T' m (W.setCell ⟨b2, 0, none⟩ (.string T')) :=
  ⟨h.1.other h1 _, h.2.1.set _, h.2.2.1.other h3 _, (World.cell?_of_block (a := ⟨0, 0, none⟩) (Below.heap_setCell _ _ _ _ (by show (0 : Nat) ≠ b2; omega))).trans h.2.2.2⟩
def szCell (b : Nat) (W : World) : Nat := match W.cell? ⟨b, 0, none⟩ with | some (.string T) => T.size | _ => 0
theorem szCell_of {b t : Nat} {T : ByteArray} {W : World} (h : Boxed W b t (.string T)) : szCell b W = T.size := by unfold szCell; rw [h.cell]

set_option maxRecDepth 100000 in
set_option maxHeartbeats 1000000 in
theorem splt_seqE (n : Nat) (hn : 2 ≤ n) (b1 b2 b3 : Nat) (T0 : ByteArray) (hs : T0.size ≤ 10000) (m : Int) (w : World) (hd1 : b1 ≠ b2) (hd3 : b3 ≠ b2) (hd0 : b2 ≠ 0) (hc : SpS b1 b2 b3 T0 m w) :
    SeqE Fence.wide n 1 Tryd.prog 174 #[.pointer (some ⟨b1, 0, none⟩), .pointer (some ⟨b2, 0, none⟩), .pointer (some ⟨b3, 0, none⟩)] (fun x : ByteArray => #[Value.string x]) (fun _ => KpL [0, b1, b2, b3]) (fun _ b => b = b2) (fun _ => 0)
      (fun xs _ => xs = (cutB 10 T0.data.toList).map mkB) (fun pre => pre <+: (cutB 10 T0.data.toList).map mkB) (fun pre x => pre ++ [x] <+: (cutB 10 T0.data.toList).map mkB) w := by
  intro l J Jx W hW hJ hJx hL hY h0
  have hn1 : 1 ≤ n := by omega
  have HS0 := Lib.hid (SpS.keep hc (KpL.below hW))
  have HL := Lib.hid (fun pre W v (h : J pre W) => hL pre W b2 v rfl h)
  clear hc hW hL
  obtain ⟨Q, hQ⟩ : ∃ Q, (cutB 10 T0.data.toList).map mkB = Q := ⟨_, rfl⟩
  rw [hQ] at hY ⊢
  have HQ0 : Hid ([] ++ (cutB 10 T0.data.toList).map mkB = Q) := by unfold Hid; rw [List.nil_append]; exact hQ
  clear hQ
  refine callsIn_of_wp Tryd.func174 rfl trivial ?_ rfl
  simp only [Tryd.ntmps174, List.size_toArray, List.length_cons, List.length_nil, Nat.reduceAdd, Nat.reduceSub, Array.replicate_succ, Array.replicate_zero, List.push_toArray, List.append_toArray, List.nil_append, List.cons_append]
  have HJ0 := Lib.hid h0
  clear h0
  have y1 := HS0.out.1.cell
  have i1 : (((ByteArray.mk #[10]).size : Int) == 0) = false := rfl
  gi_wp2
  clear y1
  gi_loopw [7, 8] (fun _ _ wr => ∃ (T : ByteArray) (pre : List ByteArray), Hid (pre ++ (cutB 10 T.data.toList).map mkB = Q) ∧ Hid (J pre wr) ∧ Hid (SpS b1 b2 b3 T m wr) ∧ T.size ≤ 10000) (fun _ _ wr => szCell b2 wr)
  case atStart => exact ⟨T0, [], HQ0, HJ0, HS0, hs⟩
  case round =>
    obtain ⟨T, pre, HE, HJ, HS, hT⟩ := hrel
    clear HQ0 HJ0 HS0 hs
    have cI := Tryd.strings_Index T { data := #[10] } m wr (by omega) HS.out.2.2.2
    rw [show (ByteArray.mk #[10]).data.toList = [10] from rfl] at cI
    have y1 := HS.out.1.cell
    have y2 := HS.out.2.1.cell
    have y3 := HS.out.2.2.1.cell
    rcases lines_split T.data.toList with ⟨h10, hcut⟩ | ⟨t, r, h10, hTt, hcut⟩
    · rw [index10_none h10] at cI
      have hE2 : pre ++ [T] = Q := by have := HE.out; rw [hcut] at this; exact this
      have hNx : pre ++ [T] <+: Q := ⟨[], by rw [List.append_nil]; exact hE2⟩
      have HYx : Hid (YieldAt Fence.wide (n - 1) Tryd.prog l #[.string T] wr fun e W' => (e = .returned (.bool true) ∧ J (pre ++ [T]) W' ∧ KpL [0, b1, b2, b3] wr W' ∧ KeepsFrom W.heap.size wr W') ∨ (e = .returned (.bool false) ∧ Jx (pre ++ [T]) W' ∧ KeepsFrom W.heap.size wr W')) := hY pre T wr HJ.out hNx (Nat.zero_le _)
      have HNx := Lib.hid hNx
      have HE2 := Lib.hid hE2
      have CI := Lib.hid cI
      obtain ⟨fn, tmps, assign, body, hy, hRr⟩ := HYx.out
      clear HYx hNx hE2 hcut h10 cI HE
      gi_wp2_with (refine ⟨trivial, ?_⟩; gi_at_call 87; refine (callsIn_wide.2 CI.out).mono ?_; rintro e w2 ⟨rfl, rfl⟩)
      refine hRr.mono ?_
      rintro e W3 (⟨rfl, hJ3, _⟩ | ⟨rfl, hJx3, _⟩)
      · gi_wp2
        go_end0
        exact ⟨⟨_, rfl⟩, .inl ⟨_, HE2.out, hJ3⟩⟩
      · gi_wp2
        go_end0
        exact ⟨⟨_, rfl⟩, .inr ⟨_, HNx.out, hJx3⟩⟩
    · have hix := index10_at (r := r) h10
      rw [← hTt] at hix
      rw [hix] at cI
      have hts : t.length + 1 + r.length = T.size := by rw [← len_toList, hTt]; simp; omega
      have hx1 : T.extract 0 t.length = mkB t := by
        rw [← ext_mkB T 0 t.length (by omega), hTt]; simp
      have hx2 : T.extract (t.length + 1) T.size = mkB r := by
        rw [← ext_mkB T (t.length + 1) T.size (Nat.le_refl _), hTt]
        have e1 : (t ++ 10 :: r).drop (t.length + 1) = r := by rw [show t.length + 1 = (t ++ [(10 : UInt8)]).length from by simp, show t ++ 10 :: r = (t ++ [10]) ++ r from by simp, List.drop_left]
        rw [e1, List.take_of_length_le (by omega)]
      have hE2 : (pre ++ [mkB t]) ++ (cutB 10 (mkB r).data.toList).map mkB = Q := by
        have := HE.out
        rw [hcut] at this
        rw [← this]; simp [mkB_list]
      have hNx : pre ++ [mkB t] <+: Q := ⟨_, hE2⟩
      have HYx : Hid (YieldAt Fence.wide (n - 1) Tryd.prog l #[.string (mkB t)] wr fun e W' => (e = .returned (.bool true) ∧ J (pre ++ [mkB t]) W' ∧ KpL [0, b1, b2, b3] wr W' ∧ KeepsFrom W.heap.size wr W') ∨ (e = .returned (.bool false) ∧ Jx (pre ++ [mkB t]) W' ∧ KeepsFrom W.heap.size wr W')) := hY pre _ wr HJ.out hNx (Nat.zero_le _)
      have HNx := Lib.hid hNx
      have HE2 := Lib.hid hE2
      have CI := Lib.hid cI
      have HRs : Hid ((mkB r).size < T.size) := by unfold Hid; rw [mkB_size]; omega
      generalize t.length = k at *
      have k0 : (0 : Int) ≤ (k : Int) := by omega
      have k1 : ¬ (k : Int) < 0 := by omega
      have k2 : (k : Int) ≤ (T.size : Int) := by omega
      have k3 : (k : Int) + 1 ≤ (T.size : Int) := by omega
      have k4 : wrap64 ((k : Int) + 1) = (k : Int) + 1 := by unfold wrap64; omega
      have k5 : wrap64 ((k : Int) + 0) = (k : Int) := by unfold wrap64; omega
      have k6 : ((k : Int) + 1).toNat = k + 1 := by omega
      have k7 : (0 : Int) ≤ (k : Int) + 1 := by omega
      have hsl1 : ∀ w, (Instr.slice 9 (.string T) none (some (.int .i64 (k : Int))) none).run Tryd.prog w = .ok (.string (mkB t)) w := fun w => by
        rw [run_slice_string_to_if w 9 T .i64 (k : Int) Tryd.underlying9, if_pos ⟨k0, k2⟩, Int.toNat_natCast, hx1]
      have hsl2 : ∀ w, (Instr.slice 9 (.string T) (some (.int .i64 ((k : Int) + 1))) none none).run Tryd.prog w = .ok (.string (mkB r)) w := fun w => by
        rw [run_slice_string_from_if w 9 T .i64 ((k : Int) + 1) Tryd.underlying9, if_pos ⟨k7, k3⟩, k6, hx2]
      obtain ⟨fn, tmps, assign, body, hy, hRr⟩ := HYx.out
      have HK4 := Lib.hid k4
      clear HYx hNx hE2 hcut h10 cI HE hts hx1 hx2 hix hTt
      generalize mkB t = TT at *
      generalize mkB r = TR at *
      gi_wp2_with (refine ⟨trivial, ?_⟩; gi_at_call 87; refine (callsIn_wide.2 CI.out).mono ?_; rintro e w2 ⟨rfl, rfl⟩)
      refine hRr.mono ?_
      rintro e W3 (⟨rfl, hJ3, hk3, _⟩ | ⟨rfl, hJx3, _⟩)
      · have hS3 := HS.out.keep hk3
        have z1 := hS3.1.cell
        have z2 := hS3.2.1.cell
        have z4 := hS3.2.1.frozen
        have HS3 := Lib.hid hS3
        have HJ3 := Lib.hid hJ3
        clear hS3 hJ3 hk3
        gi_wp2
        go_roundw
        case rel => exact ⟨TR, _, HE2, HL.out _ _ _ HJ3.out, HS3.out.store hd1 hd3 hd0 TR, by have := HRs.out; omega⟩
        case measure => rw [szCell_of (HS3.out.store hd1 hd3 hd0 TR).2.1, szCell_of HS.out.2.1]; exact HRs.out
      · gi_wp2
        refine bodyPost_ret (results_none rfl _ _ _) rfl ?_
        exact ⟨⟨_, rfl⟩, .inr ⟨_, HNx.out, hJx3⟩⟩
end Go.Proofs.YtgechifbbhipaaaDoor
