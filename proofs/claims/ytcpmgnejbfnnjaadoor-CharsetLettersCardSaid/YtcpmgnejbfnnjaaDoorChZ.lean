/- charset: CharsetLetters, the walk. No condition but sizes and the tables. -/
import Derived.Test.YtcpmgnejbfnnjaaDoorChI
import Derived.Deep.QuietTactic
namespace Go.Proofs.YtcpmgnejbfnnjaaDoor
open Go.RowKit Go.Shelf

attribute [local go_sem] Oper.semAt_some

theorem own_at {w : World} {B : Nat} {e : TypeId} {ad : Option Addr} {n c : Nat} {xs : List Value} (h : w.ownsRow B e 1 (.slice ad n c) n xs) {i : Nat} (hi : i < n) : ∃ g, ad = some ⟨g, 0, none⟩ ∧ w.cell? ⟨g, i, none⟩ = xs[i]? := by
  rcases h.2 with ⟨h1, h0⟩ | ⟨g, cap, cur, h1, _⟩
  · omega
  · simp only [Value.slice.injEq] at h1
    obtain ⟨rfl, _, rfl⟩ := h1
    exact ⟨g, rfl, h.cellAt i (by omega)⟩
theorem cell_put {W : World} {l : Nat} {o o' : Obj} {b i : Nat} {v : Value} (hl : W.heap[l]? = some o) (ho : o.isCells = false) (h : W.cell? ⟨b, i, none⟩ = some v) : (W.putObj l o').cell? ⟨b, i, none⟩ = some v := by
  have hne : b ≠ l := by
    rintro rfl
    obtain ⟨o2, ho2, hc⟩ := cells_of_cell h
    rw [hl] at ho2; cases ho2; rw [ho] at hc; cases hc
  exact (World.cell?_of_block (a := ⟨b, i, none⟩) (World.putObj_heap_other hne)).trans h
theorem KpL.trans {A B C : World} (h : KpL A B) (k : KpL B C) : KpL A C := ⟨fun e => k.1 (h.1 e), Nat.le_trans h.2 k.2⟩
theorem KpL.put (W : World) (l : Nat) (o o' : Obj) (hl : W.heap[l]? = some o) (ho : o.isCells = false) : KpL W (W.putObj l o') :=
  ⟨fun ⟨h1, h2⟩ => ⟨fun c hc => cell_put hl ho (h1 c hc), fun i hi => ⟨cell_put hl ho (h2 i hi).1, cell_put hl ho (h2 i hi).2⟩⟩, by simp [World.putObj]⟩
theorem tabs_but {n B : Nat} {X X' : World} (h : BelowBut n B X X') (hn : 2 ≤ n) (hB : 2 ≤ B) (hT : Lib.Utf8Tabs 0 1 X) : Lib.Utf8Tabs 0 1 X' :=
  ⟨fun c hc => (h.cell (by omega) (by omega)).trans (hT.1 c hc), fun i hi => ⟨(h.cell (by omega) (by omega)).trans (hT.2 i hi).1, (h.cell (by omega) (by omega)).trans (hT.2 i hi).2⟩⟩
theorem rv_at (l : List Nat) (i : Nat) (h : i < l.length) : (rv l)[i]? = some (.int .i32 (l[i] : Int)) := by simp [rv, List.getElem?_eq_getElem h]
theorem below_drewN (B : Nat) (w : World) (n : Nat) : Below B w (w.drewN n) := ⟨rfl, rfl, rfl, Nat.le_refl _, fun _ _ => rfl⟩
theorem valid_a : (ltS { data := #[97] }).2 = true := by decide +kernel
theorem valid_ff : (ltS { data := #[255] }).2 = false := by decide +kernel

set_option maxRecDepth 100000 in
set_option maxHeartbeats 8000000 in
theorem lettersL_walk (s : ByteArray) (most : Int) (_ : (Lit.int .i64 most).wf = true) (w : World) (hT : Lib.Utf8Tabs 0 1 w) :
    Calls Tryd.prog 3 #[.string s, .int .i64 most] w fun e w' => e = .returned (.bool true) ∧ Below w.heap.size w w' := by
  by_cases hbig : 3000 < s.size
  · have hbig' : (3000 : Int) < s.size := by omega
    go_enter Tryd.func3, Tryd.ntmps3
    go_wp2
    go_ret
    exact ⟨rfl, (Below.refl _ _).alloc (Nat.le_refl _) _⟩
  · have hbig' : ¬ (3000 : Int) < s.size := by omega
    obtain ⟨kk, hkk, hk⟩ : ∃ kk : Nat, wrap64 ((IntKind.u64.wrap most).tmod 3001) = (kk : Int) ∧ kk ≤ 3000 := by
      refine ⟨(most % 18446744073709551616 % 3001).toNat, ?_, by omega⟩
      have e1 : IntKind.u64.wrap most = most % 18446744073709551616 := by simp [IntKind.wrap, IntKind.signed, IntKind.bits]
      rw [e1, Int.tmod_eq_emod_of_nonneg (by omega)]
      have : 0 ≤ most % 18446744073709551616 % 3001 ∧ most % 18446744073709551616 % 3001 < 3001 := by omega
      unfold wrap64; omega
    obtain ⟨i0, hi, hz0, hz1, hz2⟩ := info_parts S22.info
    have hnf : ∀ (b : Nat) (w : World), (binOp .eql 25 (.func (.func 29) #[] #[.pointer (some ⟨b, 0, none⟩)]) .nilFunc).run Tryd.prog w = .ok (.bool false) w := fun _ _ => by kernel_rfl
    have h2w : 2 ≤ w.heap.size := by have := World.block_lt_of_cell? _ _ (hT.2 0 (by decide)).1; exact this
    have cE := Lib.hid (fun w => letters_any s w)
    have cS := Lib.hid (fun w => refLetters_any s (by omega) w)
    have hpl := ltS_len s
    refine (callsIn_wide (n := 9)).1 ?_
    refine callsIn_of_wp_marks Tryd.func3 rfl trivial ?_ rfl
    simp only [Tryd.ntmps3, List.size_toArray, List.length_cons, List.length_nil, Nat.reduceAdd, Nat.reduceSub, Array.replicate_succ, Array.replicate_zero, List.push_toArray, List.append_toArray, List.nil_append, List.cons_append]
    gi_wp2_with (first | (refine ⟨trivial, ?_⟩; gi_at_call 10; refine (callsIn_wide.2 (cE.out _)).mono ?_; rintro e w1 ⟨rfl, hcx, hz1', hb1⟩; have bM : Boxed w1 w.heap.size 3 (.int .i64 most) := (hb1.block w.heap.size (by omega)).trans ((hb2.block w.heap.size (by simp)).trans (Boxed.new w 3 _)); have hcM := bM.cell; have hfM := bM.frozen) | (refine ⟨trivial, ?_⟩; gi_at_call 9; refine (callsIn_wide.2 (cS.out _)).mono ?_; rintro e w2 ⟨a2, c2, rfl, hown2, hb2⟩; have hz2s := hb2.size; simp only [World.size_alloc] at hown2 hb2 hz2s))
    rw [hkk]
    have hs3 : ((w1.setCell ⟨w.heap.size, 0, none⟩ (.int .i64 kk)).alloc (.cells #[.slice none 0 0] 22)).heap.size = w2.heap.size + 2 := by simp [World.setCell]; omega
    have hcs3 : ((w1.setCell ⟨w.heap.size, 0, none⟩ (.int .i64 kk)).alloc (.cells #[.slice none 0 0] 22)).cell? ⟨w2.heap.size, 0, none⟩ = some (.string s) := by
      rw [World.cell?_alloc_past _ _ _ (by simp [World.setCell]; omega)]
      exact (World.cell?_of_block (a := ⟨w2.heap.size, 0, none⟩) (Below.heap_setCell _ _ _ _ (by show w2.heap.size ≠ w.heap.size; omega))).trans hcx
    have bM3 : Boxed ((w1.setCell ⟨w.heap.size, 0, none⟩ (.int .i64 kk)).alloc (.cells #[.slice none 0 0] 22)) w.heap.size 3 (.int .i64 kk) := (bM.set _).alloc _
    have bL3 : Boxed ((w1.setCell ⟨w.heap.size, 0, none⟩ (.int .i64 kk)).alloc (.cells #[.slice none 0 0] 22)) (w2.heap.size + 1) 22 (.slice none 0 0) := by
      have := Boxed.new (w1.setCell ⟨w.heap.size, 0, none⟩ (.int .i64 kk)) 22 (.slice none 0 0)
      rw [show (w1.setCell ⟨w.heap.size, 0, none⟩ (.int .i64 kk)).heap.size = w2.heap.size + 1 from by simp [World.setCell]; omega] at this
      exact this
    have hB12 : Below w.heap.size w w1 := ((Below.refl _ w).alloc (Nat.le_refl _) _).trans ((hb2.mono (by omega)).trans (hb1.mono (by omega)))
    have hBst : Below w.heap.size w1 (w1.setCell ⟨w.heap.size, 0, none⟩ (.int .i64 kk)) := ⟨rfl, rfl, rfl, by simp [World.setCell], fun k hk => Below.heap_setCell _ _ _ _ (by show k ≠ w.heap.size; omega)⟩
    have hB3 : Below w.heap.size w ((w1.setCell ⟨w.heap.size, 0, none⟩ (.int .i64 kk)).alloc (.cells #[.slice none 0 0] 22)) := (hB12.trans hBst).alloc (by simp [World.setCell]; omega) _
    have hT3 := Utf8Tabs_below hT hB3
    have hown3 := ownsRow_setCell_below (owns_after hown2 hb1) (a := ⟨w.heap.size, 0, none⟩) (by show w.heap.size < w.heap.size + 1; omega) (.int .i64 kk)
    have HW3 : Hid (∀ X, Below (w2.heap.size + 1) ((w1.setCell ⟨w.heap.size, 0, none⟩ (.int .i64 kk)).alloc (.cells #[.slice none 0 0] 22)) X → ∀ i, i < (ltS s).1.length → ∃ g, a2 = some ⟨g, 0, none⟩ ∧ X.cell? ⟨g, i, none⟩ = (rv (ltS s).1)[i]?) := fun X hX i hi => by
      obtain ⟨g, hg, hc⟩ := own_at hown3 hi
      rw [rv_at _ _ hi] at hc ⊢
      have hlt := World.block_lt_of_cell? _ _ hc
      simp only [World.setCell, Array.size_modify] at hlt
      have hlt2 : g < w2.heap.size + 1 := by
        have : g < w1.heap.size := by simpa [World.setCell] using hlt
        omega
      exact ⟨g, hg, (hX.cell (p := ⟨g, i, none⟩) hlt2).trans ((World.cell?_alloc_past _ _ _ (by simp [World.setCell]; omega)).trans hc)⟩
    have cV := Lib.hid (fun w h => valid_any s (by omega) w h)
    clear hown2 hown3 hb2 hb1 hcx bM hcM hfM cE cS hB12 hBst
    generalize ((w1.setCell ⟨w.heap.size, 0, none⟩ (.int .i64 kk)).alloc (.cells #[.slice none 0 0] 22)) = W3 at *
    have HB3 := Lib.hid hB3
    clear hB3
    refine wpIn_range_cells rfl (by decide) (gf := 29) (lb := #[.pointer (some ⟨w2.heap.size, 0, none⟩)]) rfl trivial (enters_of Tryd.func29 (by kernel_rfl) rfl)
      (let1_seqC 8 (by decide) w2.heap.size s (by omega) W3 hcs3 hT3) KpL.trans (fun W l o o' _ hl ho _ => KpL.put W l o o' hl ho) (Below.refl _ _) (fun _ => rfl)
      (fun (pre : List Nat) X => (∃ v, Boxed X (w2.heap.size + 1) 22 v ∧ X.ownsRow W3.heap.size 21 1 v pre.length (rv pre) ∧ pre.length ≤ kk) ∧ BelowBut W3.heap.size (w2.heap.size + 1) W3 X)
      (fun c (pre : List Nat) X => c = .exit 0 ∧ pre.length = kk + 1 ∧ (∃ v, Boxed X (w2.heap.size + 1) 22 v ∧ X.ownsRow W3.heap.size 21 1 v kk (rv (pre.take kk)) ∧ True) ∧ BelowBut W3.heap.size (w2.heap.size + 1) W3 X)
      (OwnFrom.and (Own.from (holdsRow_own W3.heap.size (w2.heap.size + 1) 22 21 1 (fun (pre : List Nat) => pre.length) (fun (pre : List Nat) => rv pre) (fun pre _ => pre.length ≤ kk)) _) (ownFrom_but (Nat.le_refl _) (Nat.le_refl _)))
      (fun cc => fun pre X X' row hs hg hr => ⟨hs.1, hs.2.1, (OwnFrom.and (Own.from (holdsRow_own W3.heap.size (w2.heap.size + 1) 22 21 1 (fun (_ : List Nat) => kk) (fun (pre : List Nat) => rv (pre.take kk)) (fun _ _ => True)) W3.heap.size) (ownFrom_but (n := W3.heap.size) (B := w2.heap.size + 1) (w₀ := W3) (Nat.le_refl _) (Nat.le_refl _))) pre X X' row hs.2.2 hg hr⟩)
      (fun b hb => hb.elim)
      (fun pre X b v hb hs => hb.elim)
      (fun _ _ _ _ hs _ _ => hs)
      ⟨⟨_, bL3, World.ownsRow_nil _ _ _ _, Nat.zero_le _⟩, BelowBut.refl _ _ _⟩
      (fun x => { tmps := #[.string s, .int .i64 most, undef, .pointer (some ⟨w.heap.size, 0, none⟩), .bool false, .slice a2 (ltS s).1.length c2, .bool (ltS s).2, .func (.func 29) #[] #[.pointer (some ⟨w2.heap.size, 0, none⟩)], .pointer (some ⟨w2.heap.size + 1, 0, none⟩), .int .i32 (x : Int), undef, .string s, .int .i64 s.size, .bool false, .tuple #[.slice a2 (ltS s).1.length c2, .bool (ltS s).2], .string s, .tuple #[.slice a2 (ltS s).1.length c2, .bool (ltS s).2], .slice a2 (ltS s).1.length c2, .bool (ltS s).2, .string s, .func (.func 29) #[] #[.pointer (some ⟨w2.heap.size, 0, none⟩)], .func (.func 29) #[] #[.pointer (some ⟨w2.heap.size, 0, none⟩)], .bool false, .int .i64 most, .int .u64 (IntKind.u64.wrap most), .int .u64 ((IntKind.u64.wrap most).tmod 3001), .int .i64 kk, .func (.func 29) #[] #[.pointer (some ⟨w2.heap.size, 0, none⟩)], .int .i32 (x : Int), undef, undef, undef, undef, undef, undef, undef, undef, undef, undef, undef, undef, undef, undef, undef, undef, undef, undef, undef, undef, undef, undef, undef, undef, undef, undef, undef, undef, undef, undef, undef, undef, undef, undef, undef, undef, undef, undef, undef, undef, undef, undef, undef, undef, undef, undef, undef], defers := [] }) ?assign ?body ?done ?stop
    case assign =>
      intro l x W K hK
      gi_wp2
      exact hK
    case body =>
      rintro l pre x X ⟨⟨v, hv, hrow, hle⟩, hB2⟩ hlt _
      obtain ⟨ad, cp, rfl⟩ := own_form hrow
      have hc := hv.cell
      have hcs := (hB2.boxed bM3 (by omega) (by omega)).cell
      have hlx : pre.length = kk ∨ pre.length < kk := by omega
      rcases hlx with hle' | hle'
      · have hd : ((pre.length : Int) == (kk : Int)) = true := by simp; omega
        gi_wp2
        exact ⟨KeepsFrom.refl _ _, rfl, by simp; omega, ⟨_, hv, by rw [← hle']; simpa using hrow, trivial⟩, hB2⟩
      · have hd : ((pre.length : Int) == (kk : Int)) = false := by simp; omega
        have hX1 := hB2.size
        gi_wp2_with (gi_at_builtin; refine wpListIn_append_own _ rfl _ _ 22 rfl W3.heap.size 21 i0 (.int .i32 0) 1 4 Tryd.underlying22 hi hz0 hz1 hz2 rfl (by decide) _ _ _ rfl (hrow.alloc _) ⟨X.heap.size, 0, none⟩ 1 1 [.int .i32 (x : Int)] rfl rfl (cell_one_new _ _ _) (by simp [Value.oneCell']) (by simp [maxLen]; omega) (by omega) (by simp; omega) ?_; intro v' w3 hown' hgrow _; obtain ⟨g', cap', rfl⟩ := ownsRow_succ hown'; obtain ⟨hv1, hv2, hr2, hk2, hb2⟩ := boxed_app hv (by decide) hrow (by omega) (by omega) hown' hgrow; have hc1 := hv1.cell; have hf1 := hv1.frozen)
        exact ⟨hk2.from _, ⟨tabs_but hb2 (by omega) (by omega), hb2.size⟩, ⟨⟨_, hv2, by simpa [rv] using hr2, by simp; omega⟩, hB2.trans hb2⟩⟩
    case done =>
      rintro D ys X hD rfl ⟨⟨v, hv, hrow, hle⟩, hB2⟩ hK
      have hX1 := hB2.size
      have hlo := hpl
      obtain ⟨zq, hzq⟩ : ∃ zq, zq = w2.heap.size + 1 := ⟨_, rfl⟩
      obtain ⟨L, hL⟩ : ∃ L, (ltS s).1.take kk = L := ⟨_, rfl⟩
      have HLE := Lib.hid hL
      have hLL : (ltS s).1 = L := by rw [← hL, List.take_of_length_le hle]
      have hll : (ltS s).1.length = L.length := by rw [← hLL]
      rw [show rv (ltS s).1 = rv L from by rw [← hLL], hll] at hrow
      clear hL hLL hll
      rw [← hzq] at hv hB2 HW3 bL3 ⊢
      obtain ⟨ad, cp, rfl⟩ := own_form hrow
      have hL2 : L.length = min kk (ltS s).1.length := by rw [← HLE.out, List.length_take]
      have hcb := hv.cell
      have hcm := (hB2.boxed bM3 (by omega) (by omega)).cell
      have hTX := tabs_but hB2 (by omega) (by omega) hT3
      have HBX : Hid (Below w.heap.size w X) := HB3.out.trans (hB2.below (by omega) (by omega))
      have hTX' := Lib.hid (fun W (h : Below X.heap.size X W) => Utf8Tabs_below hTX h)
      have HFc : Hid (∀ i W, i < L.length → Below X.heap.size X W → ∃ (g1 g2 x : Nat), ad = some ⟨g1, 0, none⟩ ∧ a2 = some ⟨g2, 0, none⟩ ∧ W.cell? ⟨g1, i, none⟩ = some (.int .i32 (x : Int)) ∧ W.cell? ⟨g2, i, none⟩ = some (.int .i32 (x : Int))) := fun i W hi hW => by
        obtain ⟨g1, h1, c1⟩ := own_at hrow hi
        obtain ⟨g2, h2, c2⟩ := HW3.out X (hB2.below (by omega) (by omega)) i (by omega)
        rw [rv_at _ _ hi] at c1
        rw [rv_at _ _ (by omega : i < (ltS s).1.length)] at c2
        have he : (ltS s).1[i]'(by omega) = L[i] := by
          have := HLE.out
          subst this
          rw [List.getElem_take]
        rw [he] at c2
        exact ⟨g1, g2, L[i], h1, h2, (hW.cell (p := ⟨g1, i, none⟩) (World.block_lt_of_cell? _ _ c1)).trans c1, (hW.cell (p := ⟨g2, i, none⟩) (World.block_lt_of_cell? _ _ c2)).trans c2⟩
      have HK := Lib.hid hK
      have hDX : D < X.heap.size := (Array.getElem?_eq_some_iff.1 hK).1
      have HB := Lib.hid (show zq < X.heap.size ∧ X.cell? ⟨zq, 0, none⟩ = some (.slice ad L.length cp) from ⟨by omega, hcb⟩)
      clear hrow hB2 hv hle hK bM3 bL3 HW3 hcs3 hT3 hTX hlo HB3 hzq
      generalize L.length = ll at *
      generalize (ltS s).1.length = cl at *
      generalize (ltS s).2 = okv at *
      have hI : min (kk : Int) (cl : Int) = (ll : Int) := by omega
      have hIa : (if (cl : Int) < (kk : Int) then (cl : Int) else (kk : Int)) = (ll : Int) := by split <;> omega
      have hIb : (if cl < kk then (cl : Int) else (kk : Int)) = (ll : Int) := by split <;> omega
      have hlc : ll ≤ cl := by omega
      have hlk : ll ≤ 3000 := by omega
      clear hL2
      have cA : Hid (∀ w, Lib.Utf8Tabs 0 1 w → Calls Tryd.prog 11 #[.string { data := #[97] }] w fun e w' => e = .returned (.bool true) ∧ Below w.heap.size w w') := fun w h => by
        have := valid_any { data := #[97] } (by decide) w h
        rw [valid_a] at this; exact this
      have cF : Hid (∀ w, Lib.Utf8Tabs 0 1 w → Calls Tryd.prog 11 #[.string { data := #[255] }] w fun e w' => e = .returned (.bool false) ∧ Below w.heap.size w w') := fun w h => by
        have := valid_any { data := #[255] } (by decide) w h
        rw [valid_ff] at this; exact this
      gi_wp2_with (refine ⟨trivial, ?_⟩; gi_at_call 11; refine (callsIn_wide.2 (cV.out _ (hTX'.out _ (Below.refl _ _)))).mono ?_; rintro e w5 ⟨rfl, hb5⟩; have HB5 := Lib.hid hb5; have hc5 := (hb5.cell (p := ⟨zq, 0, none⟩) HB.out.1).trans hcb)
      gi_loopw [10] (fun iv wr => ∃ i : Nat, i ≤ ll ∧ iv = .int .i64 (i : Int) ∧ Hid (Below X.heap.size X wr)) (fun iv _ => ll - (intOf iv).toNat)
      case atStart => exact ⟨0, Nat.zero_le _, rfl, HB5.out⟩
      case round =>
        obtain ⟨i, hil, rfl, HBw⟩ := hrel
        have hcw := (HBw.out.cell (p := ⟨zq, 0, none⟩) HB.out.1).trans HB.out.2
        clear hb5 hcb hcm hI hIa hIb HB5
        by_cases hlt : i < ll
        · obtain ⟨g1, g2, x, rfl, rfl, q1, q2⟩ := HFc.out i wr hlt HBw.out
          have j0 : (0 : Int) ≤ (i : Int) := by omega
          have j1 : (i : Int) < ll := by omega
          have j2 : (i : Int) < cl := by omega
          have j3 : decide (i < cl) = true := by simp; omega
          have j4 : decide (i < ll) = true := by simp; omega
          gi_wp2
          refine wpIn_wide.2 ?_
          go_quiet (fail)
          gi_wp2
          go_roundw
          case rel => exact ⟨i + 1, by omega, by go_num, HBw.out.trans (below_drewN _ _ nq)⟩
          case measure => simp [intOf]; omega
        · have j4 : decide (i < ll) = false := by simp; omega
          have hT1 := Lib.hid (hTX'.out _ HBw.out)
          gi_wp2_with (refine ⟨trivial, ?_⟩; gi_at_call 11; first | (with_reducible refine (callsIn_wide.2 (cA.out _ hT1.out)).mono ?_; rintro e w6 ⟨rfl, hb6⟩; have HB6 := Lib.hid hb6; clear hb6) | (with_reducible refine (callsIn_wide.2 (cF.out _ (Utf8Tabs_below hT1.out HB6.out))).mono ?_; rintro e w7 ⟨rfl, hb7⟩))
          have HBe := Lib.hid (HBw.out.trans ((HB6.out.trans (hb7.mono HB6.out.size)).mono HBw.out.size))
          have hKD := Lib.hid ((HBe.out.block D hDX).trans HK.out)
          refine ⟨by simp, .inl ⟨_, _, rfl, run_takeDeferred hKD.out, ?_⟩⟩
          exact ⟨_, results_tmp rfl _ _ _, rfl, (HBX.out.trans (HBe.out.mono HBX.out.size)).trans (belowK_b (w := w) (Nat.le_refl _) _ D _ _ (by omega) hKD.out rfl rfl)⟩
    case stop =>
      rintro D cc pre X hD hpre ⟨rfl, hpl2, ⟨v, hv, hrow, _⟩, hB2⟩ hK
      have hX1 := hB2.size
      have hlo := hpl
      obtain ⟨zq, hzq⟩ : ∃ zq, zq = w2.heap.size + 1 := ⟨_, rfl⟩
      have hle := hpre.length_le
      have hL : (ltS s).1.take kk = pre.take kk := by
        obtain ⟨r, hr⟩ := hpre
        rw [← hr, List.take_append_of_le_length (by omega)]
      have hk2 : kk = (pre.take kk).length := by rw [List.length_take]; omega
      obtain ⟨L, hLL⟩ : ∃ L, pre.take kk = L := ⟨_, rfl⟩
      rw [hLL] at hL hk2 hrow
      have HLE := Lib.hid hL
      rw [show X.ownsRow W3.heap.size 21 1 v kk (rv L) = X.ownsRow W3.heap.size 21 1 v L.length (rv L) from by rw [← hk2]] at hrow
      clear hL hLL hpre hk2 hpl2
      rw [← hzq] at hv hB2 HW3 bL3 ⊢
      obtain ⟨ad, cp, rfl⟩ := own_form hrow
      have hL2 : L.length = min kk (ltS s).1.length := by rw [← HLE.out, List.length_take]
      have hcb := hv.cell
      have hcm := (hB2.boxed bM3 (by omega) (by omega)).cell
      have hTX := tabs_but hB2 (by omega) (by omega) hT3
      have HBX : Hid (Below w.heap.size w X) := HB3.out.trans (hB2.below (by omega) (by omega))
      have hTX' := Lib.hid (fun W (h : Below X.heap.size X W) => Utf8Tabs_below hTX h)
      have HFc : Hid (∀ i W, i < L.length → Below X.heap.size X W → ∃ (g1 g2 x : Nat), ad = some ⟨g1, 0, none⟩ ∧ a2 = some ⟨g2, 0, none⟩ ∧ W.cell? ⟨g1, i, none⟩ = some (.int .i32 (x : Int)) ∧ W.cell? ⟨g2, i, none⟩ = some (.int .i32 (x : Int))) := fun i W hi hW => by
        obtain ⟨g1, h1, c1⟩ := own_at hrow hi
        obtain ⟨g2, h2, c2⟩ := HW3.out X (hB2.below (by omega) (by omega)) i (by omega)
        rw [rv_at _ _ hi] at c1
        rw [rv_at _ _ (by omega : i < (ltS s).1.length)] at c2
        have he : (ltS s).1[i]'(by omega) = L[i] := by
          have := HLE.out
          subst this
          rw [List.getElem_take]
        rw [he] at c2
        exact ⟨g1, g2, L[i], h1, h2, (hW.cell (p := ⟨g1, i, none⟩) (World.block_lt_of_cell? _ _ c1)).trans c1, (hW.cell (p := ⟨g2, i, none⟩) (World.block_lt_of_cell? _ _ c2)).trans c2⟩
      have HK := Lib.hid hK
      have hDX : D < X.heap.size := (Array.getElem?_eq_some_iff.1 hK).1
      have HB := Lib.hid (show zq < X.heap.size ∧ X.cell? ⟨zq, 0, none⟩ = some (.slice ad L.length cp) from ⟨by omega, hcb⟩)
      clear hrow hB2 hv hle hK bM3 bL3 HW3 hcs3 hT3 hTX hlo HB3 hzq
      generalize L.length = ll at *
      generalize (ltS s).1.length = cl at *
      generalize (ltS s).2 = okv at *
      have hI : min (kk : Int) (cl : Int) = (ll : Int) := by omega
      have hIa : (if (cl : Int) < (kk : Int) then (cl : Int) else (kk : Int)) = (ll : Int) := by split <;> omega
      have hIb : (if cl < kk then (cl : Int) else (kk : Int)) = (ll : Int) := by split <;> omega
      have hlc : ll ≤ cl := by omega
      have hlk : ll ≤ 3000 := by omega
      clear hL2
      have cA : Hid (∀ w, Lib.Utf8Tabs 0 1 w → Calls Tryd.prog 11 #[.string { data := #[97] }] w fun e w' => e = .returned (.bool true) ∧ Below w.heap.size w w') := fun w h => by
        have := valid_any { data := #[97] } (by decide) w h
        rw [valid_a] at this; exact this
      have cF : Hid (∀ w, Lib.Utf8Tabs 0 1 w → Calls Tryd.prog 11 #[.string { data := #[255] }] w fun e w' => e = .returned (.bool false) ∧ Below w.heap.size w w') := fun w h => by
        have := valid_any { data := #[255] } (by decide) w h
        rw [valid_ff] at this; exact this
      gi_wp2_with (refine ⟨trivial, ?_⟩; gi_at_call 11; refine (callsIn_wide.2 (cV.out _ (hTX'.out _ (Below.refl _ _)))).mono ?_; rintro e w5 ⟨rfl, hb5⟩; have HB5 := Lib.hid hb5; have hc5 := (hb5.cell (p := ⟨zq, 0, none⟩) HB.out.1).trans hcb)
      gi_loopw [10] (fun iv wr => ∃ i : Nat, i ≤ ll ∧ iv = .int .i64 (i : Int) ∧ Hid (Below X.heap.size X wr)) (fun iv _ => ll - (intOf iv).toNat)
      case atStart => exact ⟨0, Nat.zero_le _, rfl, HB5.out⟩
      case round =>
        obtain ⟨i, hil, rfl, HBw⟩ := hrel
        have hcw := (HBw.out.cell (p := ⟨zq, 0, none⟩) HB.out.1).trans HB.out.2
        clear hb5 hcb hcm hI hIa hIb HB5
        by_cases hlt : i < ll
        · obtain ⟨g1, g2, x, rfl, rfl, q1, q2⟩ := HFc.out i wr hlt HBw.out
          have j0 : (0 : Int) ≤ (i : Int) := by omega
          have j1 : (i : Int) < ll := by omega
          have j2 : (i : Int) < cl := by omega
          have j3 : decide (i < cl) = true := by simp; omega
          have j4 : decide (i < ll) = true := by simp; omega
          gi_wp2
          refine wpIn_wide.2 ?_
          go_quiet (fail)
          gi_wp2
          go_roundw
          case rel => exact ⟨i + 1, by omega, by go_num, HBw.out.trans (below_drewN _ _ nq)⟩
          case measure => simp [intOf]; omega
        · have j4 : decide (i < ll) = false := by simp; omega
          have hT1 := Lib.hid (hTX'.out _ HBw.out)
          gi_wp2_with (refine ⟨trivial, ?_⟩; gi_at_call 11; first | (with_reducible refine (callsIn_wide.2 (cA.out _ hT1.out)).mono ?_; rintro e w6 ⟨rfl, hb6⟩; have HB6 := Lib.hid hb6; clear hb6) | (with_reducible refine (callsIn_wide.2 (cF.out _ (Utf8Tabs_below hT1.out HB6.out))).mono ?_; rintro e w7 ⟨rfl, hb7⟩))
          have HBe := Lib.hid (HBw.out.trans ((HB6.out.trans (hb7.mono HB6.out.size)).mono HBw.out.size))
          have hKD := Lib.hid ((HBe.out.block D hDX).trans HK.out)
          refine ⟨by simp, .inl ⟨_, _, rfl, run_takeDeferred hKD.out, ?_⟩⟩
          exact ⟨_, results_tmp rfl _ _ _, rfl, (HBX.out.trans (HBe.out.mono HBX.out.size)).trans (belowK_b (w := w) (Nat.le_refl _) _ D _ _ (by omega) hKD.out rfl rfl)⟩
end Go.Proofs.YtcpmgnejbfnnjaaDoor
