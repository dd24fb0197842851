/- digest: the program's hash, its making and writing. -/
import Derived.Test.YteheibgdjpkeaaaRSum
namespace Go.Proofs.Yteheibgdjpkeaaa
open Go.RowKit

theorem extract_list (s : ByteArray) (i j : Nat) : (s.extract i j).data.toList = (s.data.toList.drop i).take (j - i) := by
  rw [ByteArray.data_extract, Array.toList_extract, List.extract]
theorem bytes_ext {a b : ByteArray} (h : a.data.toList = b.data.toList) : a = b := by
  apply ByteArray.ext
  exact Array.toList_inj.1 h
theorem mkS_cut (l : List UInt8) (i : Nat) : (mkS l).extract i (mkS l).size = mkS (l.drop i) := by
  apply bytes_ext
  rw [extract_list, mkS_list, mkS_list, mkS_size, List.take_of_length_le (by rw [List.length_drop]; omega)]
theorem mkS_take (l : List UInt8) (i : Nat) : (mkS l).extract 0 i = mkS (l.take i) := by
  apply bytes_ext
  rw [extract_list, mkS_list, mkS_list]; rfl
theorem mkS_self (s : ByteArray) : mkS s.data.toList = s := by
  apply bytes_ext; rw [mkS_list]

/-- a hash's six cells: words, rest, length -/
def hv (q : St) (r : ByteArray) (n : Nat) (j : Nat) : Value :=
  if j = 4 then .string r else if j = 5 then .int .i64 (n : Int) else f4 q j
/-- block b holds a hash that has taken the text t. -/
def Hs (w : World) (b : Nat) (t : List UInt8) : Prop := CellsF w b 6 (hv (fold (t.length / 64) begin0 t) (mkS (t.drop (64 * (t.length / 64)))) t.length) ∧ b < w.heap.size

set_option maxRecDepth 100000 in
theorem begin_any (w : World) : Calls Try.prog 38 #[] w fun e w' => e = .returned (.agg (vals begin0)) ∧ Below w.heap.size w w' := by
  go_enter Try.func38, Try.ntmps38
  go_wp2
  refine bodyPost_ret (v := .agg (vals begin0)) (by simp [results, Try.results38, go_sem]; rfl) rfl ⟨rfl, ?_⟩
  exact (Below.refl _ _).alloc (Nat.le_refl _) _

set_option maxRecDepth 100000 in
theorem new_any (w : World) : Calls Try.prog 13 #[] w fun e w' => ∃ g, e = .returned (.pointer (some ⟨g, 0, none⟩)) ∧ w.heap.size ≤ g ∧ Hs w' g [] ∧ Below w.heap.size w w' := by
  go_enter Try.func13, Try.ntmps13
  go_wp2_with (go_at_call 38; refine (begin_any _).mono ?_; rintro e w8 ⟨rfl, hb3⟩)
  go_ret
  refine ⟨w8.heap.size, rfl, hb3.size, ⟨?_, by simp⟩, hb3.alloc hb3.size _⟩
  refine CellsF.new w8 _ 70 6 _ _ rfl (fun j hj => ?_)
  rcases (by omega : j = 0 ∨ j = 1 ∨ j = 2 ∨ j = 3 ∨ j = 4 ∨ j = 5) with rfl | rfl | rfl | rfl | rfl | rfl <;> rfl

/-- only block b has turned, and what is new. -/
theorem CellsF.six {w : World} {b : Nat} {q : St} {r : ByteArray} {n : Nat} (h : CellsF w b 6 (hv q r n)) :
    (w.cell? ⟨b, 0, none⟩ = some (.int .u32 (q.a : Int)) ∧ w.cell? ⟨b, 1, none⟩ = some (.int .u32 (q.b : Int)) ∧ w.cell? ⟨b, 2, none⟩ = some (.int .u32 (q.c : Int)) ∧ w.cell? ⟨b, 3, none⟩ = some (.int .u32 (q.d : Int)) ∧ w.cell? ⟨b, 4, none⟩ = some (.string r) ∧ w.cell? ⟨b, 5, none⟩ = some (.int .i64 (n : Int))) ∧
    (w.frozen? ⟨b, 0, none⟩ = false ∧ w.frozen? ⟨b, 1, none⟩ = false ∧ w.frozen? ⟨b, 2, none⟩ = false ∧ w.frozen? ⟨b, 3, none⟩ = false ∧ w.frozen? ⟨b, 4, none⟩ = false ∧ w.frozen? ⟨b, 5, none⟩ = false) :=
  ⟨⟨(h 0 (by omega)).1, (h 1 (by omega)).1, (h 2 (by omega)).1, (h 3 (by omega)).1, (h 4 (by omega)).1, (h 5 (by omega)).1⟩,
    ⟨(h 0 (by omega)).2, (h 1 (by omega)).2, (h 2 (by omega)).2, (h 3 (by omega)).2, (h 4 (by omega)).2, (h 5 (by omega)).2⟩⟩
theorem six_all {p : Nat → Prop} (h0 : p 0) (h1 : p 1) (h2 : p 2) (h3 : p 3) (h4 : p 4) (h5 : p 5) : ∀ j, j < 6 → p j := by
  intro j hj
  rcases (by omega : j = 0 ∨ j = 1 ∨ j = 2 ∨ j = 3 ∨ j = 4 ∨ j = 5) with rfl | rfl | rfl | rfl | rfl | rfl <;> assumption
theorem CellsF.set4 {w : World} {b : Nat} {q : St} {r : ByteArray} {n : Nat} (h : CellsF w b 6 (hv q r n)) (r' : ByteArray) : CellsF (w.setCell ⟨b, 4, none⟩ (.string r')) b 6 (hv q r' n) :=
  (h.set 4 _ (by omega)).congr (six_all rfl rfl rfl rfl rfl rfl)
theorem CellsF.set5 {w : World} {b : Nat} {q : St} {r : ByteArray} {n : Nat} (h : CellsF w b 6 (hv q r n)) (m : Nat) : CellsF (w.setCell ⟨b, 5, none⟩ (.int .i64 (m : Int))) b 6 (hv q r m) :=
  (h.set 5 _ (by omega)).congr (six_all rfl rfl rfl rfl rfl rfl)
theorem CellsF.setq {w : World} {b : Nat} {q : St} {r : ByteArray} {n : Nat} (h : CellsF w b 6 (hv q r n)) (a1 b1 c1 d1 : Nat) : CellsF ((((w.setCell ⟨b, 0, none⟩ (.int .u32 (a1 : Int))).setCell ⟨b, 1, none⟩ (.int .u32 (b1 : Int))).setCell ⟨b, 2, none⟩ (.int .u32 (c1 : Int))).setCell ⟨b, 3, none⟩ (.int .u32 (d1 : Int))) b 6 (hv ⟨a1, b1, c1, d1⟩ r n) :=
  ((((h.set 0 _ (by omega)).set 1 _ (by omega)).set 2 _ (by omega)).set 3 _ (by omega)).congr (six_all rfl rfl rfl rfl rfl rfl)
def restOf (w : World) (b : Nat) : Nat := match w.cell? ⟨b, 4, none⟩ with
  | some (.string r) => r.size
  | _ => 0
theorem only_setCell {a w : World} {g : Nat} (h : a.grownBy w (some g)) {p : Addr} (hp : p.block = g ∨ a.heap.size ≤ p.block) (u : Value) : a.grownBy (w.setCell p u) (some g) :=
  ⟨h.os, h.tape, h.output, by simpa [World.setCell] using h.size, fun i hi hne => (Below.heap_setCell w p u i (by
    rintro rfl
    rcases hp with hp | hp
    · exact hne (by rw [hp])
    · omega)).trans (h.block i hi hne)⟩
theorem only_drew {a w : World} {row : Option Nat} (h : a.grownBy w row) : a.grownBy w.drew row := ⟨h.os, h.tape, h.output, h.size, h.block⟩
theorem only_trans_below {a w w' : World} {row : Option Nat} (h : a.grownBy w row) (hb : Below w.heap.size w w') : a.grownBy w' row :=
  ⟨hb.os.trans h.os, hb.tape.trans h.tape, hb.output.trans h.output, Nat.le_trans h.size hb.size, fun k hk hn => (hb.block k (Nat.lt_of_lt_of_le hk h.size)).trans (h.block k hk hn)⟩
theorem bcell {W w1 : World} (hb : Below W.heap.size W w1) : (∀ b o, b < W.heap.size → w1.cell? ⟨b, o, none⟩ = W.cell? ⟨b, o, none⟩) ∧ (∀ b o, b < W.heap.size → w1.frozen? ⟨b, o, none⟩ = W.frozen? ⟨b, o, none⟩) :=
  ⟨fun b o h => hb.cell (p := ⟨b, o, none⟩) h, fun b o h => hb.frozen (p := ⟨b, o, none⟩) h⟩
def Wrote (w : World) (b : Nat) (t : List UInt8) (e : Ending) (w' : World) : Prop := (∃ v, e = .returned v) ∧ Hs w' b t ∧ w.grownBy w' (some b)

set_option maxRecDepth 100000 in
set_option maxHeartbeats 8000000 in
theorem write_any (b : Nat) (t : List UInt8) (s : ByteArray) (w : World) (h : Hs w b t) (hs : t.length + s.size ≤ 1099511627776) :
    Calls Try.prog 14 #[.pointer (some ⟨b, 0, none⟩), .string s] w (Wrote w b (t ++ s.data.toList)) := by
  obtain ⟨h6, hlt⟩ := h
  obtain ⟨⟨c0, c1, c2, c3, c4, c5⟩, f0, f1, f2, f3, f4, f5⟩ := h6.six
  have h1 : (mkS (t.drop (64 * (t.length / 64)))).size ≤ t.length := by rw [mkS_size, List.length_drop]; omega
  generalize hr : mkS (t.drop (64 * (t.length / 64))) = r at *
  generalize hq : fold (t.length / 64) begin0 t = q at *
  have HR := Lib.hid hr
  have HQ := Lib.hid hq
  have H6 := Lib.hid h6
  clear hr hq h6
  go_enter Try.func14, Try.ntmps14
  go_wp2
  have hW : Hid (CellsF ((w.setCell ⟨b, 5, none⟩ (.int .i64 ((t.length : Int) + (s.size : Int)))).setCell ⟨b, 4, none⟩ (.string (r ++ s))) b 6 (hv q (r ++ s) (t.length + s.size))) := by
    have h := (H6.out.set5 (t.length + s.size)).set4 (r ++ s)
    rw [Int.natCast_add] at h
    exact h
  have hG : w.grownBy ((w.setCell ⟨b, 5, none⟩ (.int .i64 ((t.length : Int) + (s.size : Int)))).setCell ⟨b, 4, none⟩ (.string (r ++ s))) (some b) :=
    only_setCell (g := b) (p := ⟨b, 4, none⟩) (only_setCell (g := b) (p := ⟨b, 5, none⟩) (World.grownBy.refl _ _) (.inl rfl) _) (.inl rfl) _
  have hsz : b < ((w.setCell ⟨b, 5, none⟩ (.int .i64 ((t.length : Int) + (s.size : Int)))).setCell ⟨b, 4, none⟩ (.string (r ++ s))).heap.size := by simpa [World.setCell] using hlt
  generalize (w.setCell ⟨b, 5, none⟩ (.int .i64 ((t.length : Int) + (s.size : Int)))).setCell ⟨b, 4, none⟩ (.string (r ++ s)) = w1 at *
  clear c0 c1 c2 c3 c4 c5 f0 f1 f2 f3 f4 f5 H6
  obtain ⟨T, hT⟩ : ∃ T, t ++ s.data.toList = T := ⟨_, rfl⟩
  have hTl : T.length = t.length + s.size := by rw [← hT]; simp
  have hW0 : Hid (CellsF w1 b 6 (hv (fold (t.length / 64) begin0 T) (mkS (T.drop (64 * (t.length / 64)))) T.length)) := by
    have e1 : fold (t.length / 64) begin0 T = q := by rw [← hT, fold_pre _ _ _ _ (by omega)]; exact HQ.out
    have e2 : mkS (T.drop (64 * (t.length / 64))) = r ++ s := by
      rw [← hT, List.drop_append_of_le_length (by omega), ← mkS_append, HR.out]
      congr 1
    unfold Hid
    rw [e1, e2, hTl]; exact hW.out
  have HTl := Lib.hid hTl
  have HT := Lib.hid hT
  have hTb : T.length ≤ 1099511627776 := by omega
  have hk0 : Hid (64 * (t.length / 64) ≤ T.length) := by unfold Hid; omega
  clear hT hTl hW HR HQ h1
  have HG := Lib.hid hG
  clear hG
  go_loopw [23] (fun _ wr => ∃ k, Hid (64 * k ≤ T.length) ∧ Hid (CellsF wr b 6 (hv (fold k begin0 T) (mkS (T.drop (64 * k))) T.length)) ∧ b < wr.heap.size ∧ Hid (w.grownBy wr (some b))) (fun _ wr => restOf wr b)
  case atStart => exact ⟨_, hk0, hW0, hsz, HG⟩
  case round =>
    clear hW0 hk0 hsz HG
    obtain ⟨k, hk, H6, hsz, HG⟩ := hrel
    obtain ⟨⟨c0, c1, c2, c3, c4, c5⟩, f0, f1, f2, f3, f4, f5⟩ := H6.out.six
    have hR : Hid ((mkS (T.drop (64 * k))).size = T.length - 64 * k) := by unfold Hid; rw [mkS_size, List.length_drop]
    have hq := fold_ok k begin0 T begin0_ok
    generalize hq2 : fold k begin0 T = q at *
    generalize hr2 : mkS (T.drop (64 * k)) = R at *
    by_cases h64 : 64 ≤ R.size
    · have h64' : 64 ≤ (R.size : Int) := by omega
      have hTk := take_ok q (R.extract 0 64).data.toList
      have cT := Lib.hid (fun w => take_any q.a q.b q.c q.d hq (R.extract 0 64) (by simp; omega) w)
      have e0 : (⟨q.a, q.b, q.c, q.d⟩ : St) = q := rfl
      rw [e0] at cT
      have HTk : Hid (take q (R.extract 0 64).data.toList = take q (R.extract 0 64).data.toList) := rfl
      clear e0
      generalize hX : take q (R.extract 0 64).data.toList = X at *
      have HX := Lib.hid hX
      clear hX HTk
      obtain ⟨na, nb, nc, nd⟩ := X
      have cT2 : Hid (∀ w, Calls Try.prog 39 #[.agg #[.int .u32 (q.a : Int), .int .u32 (q.b : Int), .int .u32 (q.c : Int), .int .u32 (q.d : Int)], .string (R.extract 0 64)] w fun e w' => e = .returned (.agg #[.int .u32 (na : Int), .int .u32 (nb : Int), .int .u32 (nc : Int), .int .u32 (nd : Int)]) ∧ Below w.heap.size w w') := cT.out
      clear cT
      go_wp2
      go_region_law (first | (go_simp; go_at_call 39; refine (cT2.out _).mono ?_; rintro e w8 ⟨rfl, hb8⟩; obtain ⟨⟨k0, k1, k2, k3, k4, k5⟩, g0, g1, g2, g3, g4, g5⟩ := (CellsF.below (CellsF.drew H6.out) hb8 hsz).six))
      all_goals
        have H9 := Lib.hid ((CellsF.below (CellsF.drew H6.out) hb8 hsz).setq na nb nc nd)
        have HG9 := Lib.hid (only_setCell (g := b) (p := ⟨b, 3, none⟩) (only_setCell (g := b) (p := ⟨b, 2, none⟩) (only_setCell (g := b) (p := ⟨b, 1, none⟩) (only_setCell (g := b) (p := ⟨b, 0, none⟩) (only_trans_below (only_drew HG.out) hb8) (.inl rfl) (.int .u32 (na : Int))) (.inl rfl) (.int .u32 (nb : Int))) (.inl rfl) (.int .u32 (nc : Int))) (.inl rfl) (.int .u32 (nd : Int)))
        have hsz9 : b < ((((w8.setCell ⟨b, 0, none⟩ (.int .u32 (na : Int))).setCell ⟨b, 1, none⟩ (.int .u32 (nb : Int))).setCell ⟨b, 2, none⟩ (.int .u32 (nc : Int))).setCell ⟨b, 3, none⟩ (.int .u32 (nd : Int))).heap.size := by
          have := hb8.size
          simp [World.setCell] at this ⊢
          omega
        have HRs : Hid (restOf wr b = R.size) := by unfold Hid restOf; rw [c4]
        clear k0 k1 k2 k3 k4 k5 g0 g1 g2 g3 g4 g5 hb8
        generalize (((w8.setCell ⟨b, 0, none⟩ (.int .u32 (na : Int))).setCell ⟨b, 1, none⟩ (.int .u32 (nb : Int))).setCell ⟨b, 2, none⟩ (.int .u32 (nc : Int))).setCell ⟨b, 3, none⟩ (.int .u32 (nd : Int)) = w9 at *
        obtain ⟨⟨k0, k1, k2, k3, k4, k5⟩, g0, g1, g2, g3, g4, g5⟩ := H9.out.six
        have hq3 := Lib.hid hq2
        have hr3 := Lib.hid hr2
        have HN : Hid (CellsF (w9.setCell ⟨b, 4, none⟩ (.string (R.extract 64 R.size))) b 6 (hv (fold (k + 1) begin0 T) (mkS (T.drop (64 * (k + 1)))) T.length)) := by
          have h1 := H9.out.set4 (R.extract 64 R.size)
          have e1 : fold (k + 1) begin0 T = ⟨na, nb, nc, nd⟩ := by
            rw [fold_succ, hq2, ← HX.out, ← hr2]
            congr 1
            rw [mkS_take, mkS_list]
          have e2 : mkS (T.drop (64 * (k + 1))) = R.extract 64 R.size := by
            rw [← hr2, mkS_cut, List.drop_drop]
            rfl
          unfold Hid
          rw [e1, e2]; exact h1
        clear hq2 hr2
        go_wp2
        go_roundw
        case rel => exact ⟨k + 1, by unfold Hid; have := hR.out; have := hk.out; omega, HN, by simpa [World.setCell] using hsz9, only_setCell (g := b) (p := ⟨b, 4, none⟩) HG9.out (.inl rfl) _⟩
        case measure => 
          rw [HRs.out]
          unfold restOf
          rw [World.cell?_setCell_same _ _ _ k4]
          simp
          omega
    · have h64' : ¬ 64 ≤ (R.size : Int) := by omega
      have hk1 := hR.out
      have hk2 := hk.out
      have e : k = T.length / 64 := by omega
      have hfin : Hid (Hs wr b T) := by
        refine ⟨?_, hsz⟩
        have h := H6.out
        rw [← hq2, ← hr2, e] at h
        exact h
      clear hk1 hk2 e c0 c1 c2 c3 c5 f0 f1 f2 f3 f4 f5 hq2 hr2
      go_wp2
      go_end0
      exact ⟨⟨_, rfl⟩, by rw [HT.out]; exact hfin.out, HG.out⟩
end Go.Proofs.Yteheibgdjpkeaaa
