/- FigureWrites: the law's walk. No condition. -/
import Derived.Test.YtiakmaleiholnaaText
import Derived.Test.YtiakmaleiholnaaRefText
import Derived.Stop.RegionWithIn
namespace Go.Proofs.Ytiakmaleiholnaa
open Go.RowKit Go.Shelf

attribute [local go_sem] Oper.semAt_some

/-- the first of them, k at the most -/
theorem take_app {l : List Int} {x : Int} {k : Nat} (h : l.length ≠ k) (hl : l.length ≤ k) : (l ++ [x]).length ≤ k := by simp; omega

theorem str_take (l : List Int) (k m : Nat) (h : min k l.length = min m l.length) : ((strOfNums (l.take k)).toList == ((strOfNums l).extract 0 m).toList) = true := by
  have e : strOfNums (l.take k) = (strOfNums l).extract 0 m := by
    apply ByteArray.ext
    rw [ByteArray.data_extract]
    apply Array.ext'
    simp only [strOfNums, Array.toList_extract, List.extract, List.drop_zero, Nat.sub_zero, ← List.map_take]
    congr 1
    rw [List.take_eq_take_iff]
    omega
  rw [e]; simp

/-- where nothing but the normal end is left: a region's panic is no way -/
theorem then_only {K : Act → World → Prop} {Q : Exit → Act → World → Prop} : ∀ e a w, Exit.then K (fun _ _ _ => False) e a w → Exit.then K Q e a w
  | .normal, _, _, h => h
  | .ret, _, _, h => h.elim
  | .panic _, _, _, h => h.elim
  | .exit _, _, _, h => h.elim
  | .goto _, _, _, h => h.elim
  | .outgrown, _, _, h => h.elim

theorem owns_but {w w' : World} {B : Nat} {e : TypeId} {sz : Nat} {v : Value} {n : Nat} {xs : List Value} (h : w.ownsRow B e sz v n xs) {C A : Nat} (hb : BelowBut C A w w') (hC : ∀ k, v.ownBlock = some k → k < C ∧ k ≠ A) : w'.ownsRow B e sz v n xs := by
  refine ⟨h.1, ?_⟩
  rcases h.2 with h2 | ⟨g, cap, cur, hv, hg, hh, r⟩
  · exact .inl h2
  · exact .inr ⟨g, cap, cur, hv, hg, by rw [hb.block g (hC g (by rw [hv]; rfl)).1 (hC g (by rw [hv]; rfl)).2]; exact hh, r⟩

set_option maxRecDepth 100000 in
set_option maxHeartbeats 4000000 in
theorem figureWrites_walk (n : Int) (hn : (Lit.int .i64 n).wf = true) (stop : Int) (_ : (Lit.int .i64 stop).wf = true) (w : World) :
    Calls Try.prog 8 #[.int .i64 n, .int .i64 stop] w fun e w' => e = .returned (.bool true) ∧ Below w.heap.size w w' := by
  obtain ⟨h0, h1⟩ := wf_i64 hn
  obtain ⟨i0, hi, hz0, hz1, hz2⟩ := info_parts S43.info
  have hl21 := textL_len n
  have cr := Lib.hid (fun w => refText_any n w h0 h1)
  have ct := Lib.hid (fun w => text_any n w h0 h1)
  obtain ⟨kk, hkk, hk7⟩ : ∃ kk : Nat, wrap64 ((IntKind.u64.wrap stop).tmod 8) = (kk : Int) ∧ kk ≤ 7 := by
    refine ⟨(stop % 18446744073709551616 % 8).toNat, ?_, by omega⟩
    have e1 : IntKind.u64.wrap stop = stop % 18446744073709551616 := by simp [IntKind.wrap, IntKind.signed, IntKind.bits]
    rw [e1, Int.tmod_eq_emod_of_nonneg (by omega)]
    have : 0 ≤ stop % 18446744073709551616 % 8 ∧ stop % 18446744073709551616 % 8 < 8 := by omega
    unfold wrap64; omega
  have hnf : ∀ (b : Nat) (w : World), (binOp .eql 44 (.func (.func 56) #[] #[.pointer (some ⟨b, 0, none⟩)]) .nilFunc).run Try.prog w = .ok (.bool false) w := fun _ _ => by kernel_rfl
  refine (callsIn_wide (n := 9)).1 ?_
  refine callsIn_of_wp_marks Try.func8 rfl trivial ?_ rfl
  simp only [Try.ntmps8, List.size_toArray, List.length_cons, List.length_nil, Nat.reduceAdd, Nat.reduceSub, Array.replicate_succ, Array.replicate_zero, List.push_toArray, List.append_toArray, List.nil_append, List.cons_append]
  gi_wp2_with (first
    | (refine ⟨trivial, ?_⟩; gi_at_call 29; refine (callsIn_wide.2 (cr.out _)).mono ?_; rintro e w1 ⟨rfl, hb1⟩)
    | (refine ⟨trivial, ?_⟩; gi_at_call 30; refine (callsIn_wide.2 (digits_any n _ h0 h1)).mono ?_; rintro e w2 ⟨bx, g, c, rfl, hbx0, hbx1, hg0, hg1, hcell, hC, hb2⟩))
  have z1 := hb1.size
  have z2 := hb2.size
  simp only [World.size_alloc] at z1 z2 hbx0 hg0
  have bB : Boxed w2 w1.heap.size 43 (.slice none 0 0) := (hb2.block w1.heap.size (by simp)).trans (Boxed.new w1 43 (.slice none 0 0))
  have hB0 : Below w.heap.size w w2 := (((Below.refl _ w).alloc (Nat.le_refl _) _).trans (hb1.mono (by simp))).trans ((((Below.refl w1.heap.size w1).alloc (Nat.le_refl _) _).trans (hb2.mono (by simp))).mono (by omega))
  have bS : Boxed w2 w.heap.size 3 (.int .i64 stop) := by
    have a1 : Boxed w1 w.heap.size 3 (.int .i64 stop) := (hb1.block w.heap.size (by simp)).trans (Boxed.new w 3 _)
    exact (hb2.block w.heap.size (by simp; omega)).trans (a1.alloc _)
  refine wpIn_rangeFunc_ownG rfl (by decide) (gf := 56) (lb := #[.pointer (some ⟨bx, 0, none⟩)]) rfl trivial (enters_of Try.func56 (by kernel_rfl) rfl)
    (digits1_stops 8 (by decide) bx g c (textL n) (by omega) (BelowBut w2.heap.size w1.heap.size) (fun _ _ h j => h.cell hg1 (by omega)) w2 hcell hbx1 hg1 hC) BelowBut.trans (BelowBut.put (Nat.le_refl _)) (Below.refl _ _) (fun _ => rfl)
    (fun (pre : List Int) W => (∃ v, Boxed W w1.heap.size 43 v ∧ W.ownsRow w2.heap.size 5 1 v pre.length (pre.map (Value.int .u8)) ∧ True) ∧ BelowBut w2.heap.size w1.heap.size w2 W)
    (fun _ _ _ => False)
    (OwnFrom.and (Own.from (holdsRow_own w2.heap.size w1.heap.size 43 5 1 (fun (pre : List Int) => pre.length) (fun (pre : List Int) => pre.map (Value.int .u8)) (fun _ _ => True)) _) (ownFrom_but (Nat.le_refl _) (Nat.le_refl _)))
    (fun _ _ _ _ _ hs _ _ => hs)
    ⟨⟨_, bB, World.ownsRow_nil _ _ _ _, trivial⟩, BelowBut.refl _ _ _⟩
    (fun x => { tmps := #[.int .i64 n, .int .i64 stop, undef, .pointer (some ⟨w.heap.size, 0, none⟩), .bool false, .string (strOfNums (textL n)), .pointer (some ⟨w1.heap.size, 0, none⟩), .func (.func 56) #[] #[.pointer (some ⟨bx, 0, none⟩)],
      .int .u8 x, undef, undef, undef, .int .i64 n, .string (strOfNums (textL n)), .int .i64 n, .func (.func 56) #[] #[.pointer (some ⟨bx, 0, none⟩)], .func (.func 56) #[] #[.pointer (some ⟨bx, 0, none⟩)], .bool false, .func (.func 56) #[] #[.pointer (some ⟨bx, 0, none⟩)], .int .u8 x,
      undef, undef, undef, undef, undef, undef, undef, undef, undef, undef, undef, undef, undef, undef, undef, undef, undef, undef, undef, undef, undef, undef, undef, undef, undef, undef, undef, undef, undef, undef, undef, undef, undef, undef, undef, undef, undef, undef, undef, undef, undef, undef], defers := [] }) ?assign ?body ?done ?stop
  case assign =>
    intro l x W K hK
    gi_wp2
    exact hK
  case body =>
    rintro l pre x W ⟨⟨v, hv, hrow, _⟩, hB⟩ hlt
    have hc := hv.cell
    have hW1 := hB.size
    gi_wp2_with (gi_at_builtin; refine wpListIn_append_own _ rfl _ _ 43 rfl w2.heap.size 5 i0 (.int .u8 0) 1 1 Try.underlying43 hi hz0 hz1 hz2 rfl (by decide) _ _ _ rfl (hrow.alloc _) ⟨W.heap.size, 0, none⟩ 1 1 [.int .u8 x] rfl rfl (cell_one_new _ _ _) (by simp [Value.oneCell']) (by simp [maxLen]; omega) (by omega) (by simp; omega) ?_; intro v' w3 hown' hgrow _; obtain ⟨g', cap', rfl⟩ := ownsRow_succ hown'; obtain ⟨hv1, hv2, hr2, hk2, hb2⟩ := boxed_app hv (by decide) hrow hW1 (by omega) hown' hgrow; have hc1 := hv1.cell; have hf1 := hv1.frozen)
    exact ⟨hk2.from _, hb2, ⟨⟨_, hv2, by simpa using hr2, trivial⟩, hB.trans hb2⟩⟩
  case done =>
    rintro D ys W hD rfl ⟨⟨v, hv, hrow, _⟩, hB⟩ hK
    have hc := hv.cell
    gi_wp2
    have hWW : W.heap.size < (W.alloc (.cells #[.slice none 0 0] 43)).heap.size := by simp
    have hw2W : w2.heap.size ≤ W.heap.size := hB.size
    have hDW : D < W.heap.size := (Array.getElem?_eq_some_iff.1 hK).1
    have bx2 : Boxed W w.heap.size 3 (.int .i64 stop) := hB.boxed bS (by omega) (by omega)
    refine wpIn_rangeFunc_ownG rfl (by decide) (gf := 56) (lb := #[.pointer (some ⟨bx, 0, none⟩)]) rfl trivial (enters_of Try.func56 (by kernel_rfl) rfl)
      (digits1_stops 8 (by decide) bx g c (textL n) (by omega) (BelowBut (W.heap.size + 1) W.heap.size) (fun _ _ h j => h.cell (by omega) (by omega)) (W.alloc (.cells #[.slice none 0 0] 43))
        (((hB.cell (by omega) (by omega)).trans hcell |> fun h => (Below.cell (p := ⟨bx, 0, none⟩) ((Below.refl _ W).alloc (Nat.le_refl _) _) (by show bx < _; omega)).trans h)) (by simp; omega) (by simp; omega)
        (fun j hj => (Below.cell (p := ⟨g, j, none⟩) ((Below.refl _ W).alloc (Nat.le_refl _) _) (by show g < _; omega)).trans ((hB.cell (by omega) (by omega)).trans (hC j hj)))) BelowBut.trans (BelowBut.put (by simp)) (Below.refl _ _) (fun _ => rfl)
      (fun (pre : List Int) X => (∃ v, Boxed X W.heap.size 43 v ∧ X.ownsRow (W.heap.size + 1) 5 1 v pre.length (pre.map (Value.int .u8)) ∧ pre.length ≤ kk) ∧ BelowBut (W.heap.size + 1) W.heap.size (W.alloc (.cells #[.slice none 0 0] 43)) X)
      (fun c (pre : List Int) X => c = .exit 2 ∧ pre.length = kk + 1 ∧ (∃ v, Boxed X W.heap.size 43 v ∧ X.ownsRow (W.heap.size + 1) 5 1 v kk ((pre.take kk).map (Value.int .u8)) ∧ True) ∧ BelowBut (W.heap.size + 1) W.heap.size (W.alloc (.cells #[.slice none 0 0] 43)) X)
      (OwnFrom.and (Own.from (holdsRow_own (W.heap.size + 1) W.heap.size 43 5 1 (fun (pre : List Int) => pre.length) (fun (pre : List Int) => pre.map (Value.int .u8)) (fun pre _ => pre.length ≤ kk)) _) (ownFrom_but (by simp) (by simp)))
      (fun cc => fun pre X X' row hs hg hr => ⟨hs.1, hs.2.1, (OwnFrom.and (Own.from (holdsRow_own (W.heap.size + 1) W.heap.size 43 5 1 (fun (_ : List Int) => kk) (fun (pre : List Int) => (pre.take kk).map (Value.int .u8)) (fun _ _ => True)) (W.alloc (.cells #[.slice none 0 0] 43)).heap.size) (ownFrom_but (n := W.heap.size + 1) (B := W.heap.size) (w₀ := W.alloc (.cells #[.slice none 0 0] 43)) (by simp) (by simp))) pre X X' row hs.2.2 hg hr⟩)
      ⟨⟨_, Boxed.new W 43 _, World.ownsRow_nil _ _ _ _, Nat.zero_le _⟩, BelowBut.refl _ _ _⟩
      (fun x => { tmps := #[.int .i64 n, .int .i64 stop, undef, .pointer (some ⟨w.heap.size, 0, none⟩), .bool false, .string (strOfNums (textL n)), .pointer (some ⟨w1.heap.size, 0, none⟩), .func (.func 56) #[] #[.pointer (some ⟨bx, 0, none⟩)],
      undef, .pointer (some ⟨W.heap.size, 0, none⟩), .int .u8 x, undef, .int .i64 n, .string (strOfNums (textL n)), .int .i64 n, .func (.func 56) #[] #[.pointer (some ⟨bx, 0, none⟩)], .func (.func 56) #[] #[.pointer (some ⟨bx, 0, none⟩)], .bool false, .func (.func 56) #[] #[.pointer (some ⟨bx, 0, none⟩)], undef,
      undef, undef, undef, undef, .func (.func 56) #[] #[.pointer (some ⟨bx, 0, none⟩)], .int .u8 x, undef, undef, undef, undef, undef, undef, undef, undef, undef, undef, undef, undef, undef, undef, undef, undef, undef, undef, undef, undef, undef, undef, undef, undef, undef, undef, undef, undef, undef, undef, undef, undef, undef, undef, undef, undef], defers := [] }) ?assign2 ?body2 ?done2 ?stop2
    case assign2 =>
      intro l x W K hK
      gi_wp2
      exact hK
    case body2 =>
      rintro l pre x X ⟨⟨v, hv, hrow, hle⟩, hB2⟩ hlt
      obtain ⟨ad, cp, rfl⟩ := own_form hrow
      have hc := hv.cell
      have hcs := (hB2.boxed (bx2.alloc _) (by omega) (by omega)).cell
      have hlx : pre.length = kk ∨ pre.length < kk := by omega
      rcases hlx with hle' | hle'
      · have hd : ((pre.length : Int) == wrap64 ((IntKind.u64.wrap stop).tmod 8)) = true := by rw [hkk]; simp; omega
        gi_wp2
        exact ⟨KeepsFrom.refl _ _, rfl, by simp; omega, ⟨_, hv, by rw [← hle']; simpa using hrow, trivial⟩, hB2⟩
      · have hd : ((pre.length : Int) == wrap64 ((IntKind.u64.wrap stop).tmod 8)) = false := by rw [hkk]; simp; omega
        have hX1 := hB2.size
        gi_wp2_with (gi_at_builtin; refine wpListIn_append_own _ rfl _ _ 43 rfl (W.heap.size + 1) 5 i0 (.int .u8 0) 1 1 Try.underlying43 hi hz0 hz1 hz2 rfl (by decide) _ _ _ rfl (hrow.alloc _) ⟨X.heap.size, 0, none⟩ 1 1 [.int .u8 x] rfl rfl (cell_one_new _ _ _) (by simp [Value.oneCell']) (by simp [maxLen]; omega) (by simp at hX1; omega) (by simp; omega) ?_; intro v' w3 hown' hgrow _; obtain ⟨g', cap', rfl⟩ := ownsRow_succ hown'; obtain ⟨hv1, hv2, hr2, hk2, hb2⟩ := boxed_app hv (by decide) hrow (by simpa using hX1) (by omega) hown' hgrow; have hc1 := hv1.cell; have hf1 := hv1.frozen)
        exact ⟨hk2.from _, hb2, ⟨⟨_, hv2, by simpa using hr2, by simp; omega⟩, hB2.trans hb2⟩⟩
    case done2 =>
      rintro D2 ys X hD2 rfl ⟨⟨v2, hv2, hrow2, hle⟩, hB2⟩ hK2
      simp only [World.size_alloc] at hD2
      have hX1 := hB2.size
      simp only [World.size_alloc] at hX1
      have hc2 := hv2.cell
      have hcs := (hB2.boxed (bx2.alloc _) (by omega) (by omega)).cell
      have hvX := hB2.boxed (hv.alloc _) (by omega) (by omega)
      have hcX := hvX.cell
      have hrX : X.ownsRow w2.heap.size 5 1 v (textL n).length ((textL n).map (Value.int .u8)) := owns_but (hrow.alloc _) hB2 (fun k hk => by have := hrow.lt k hk; omega)
      have hKX : X.heap[D]? = some (.deferred (some [])) := (hB2.block D (by omega) (by omega)).trans ((Below.heap_alloc _ _ _ (by omega)).trans hK)
      have hx2 : textL n = (textL n).take kk := (List.take_of_length_le hle).symm
      have hrow3 : X.ownsRow (W.heap.size + 1) 5 1 v2 (textL n).length (((textL n).take kk).map (Value.int .u8)) := by rw [← hx2]; exact hrow2
      clear hx2 hrow2
      have hSz : (strOfNums (textL n)).size = (textL n).length := strOfNums_size _
      have hm : (strOfNums (textL n)).size ≤ kk := by omega
      · have heq := str_take (textL n) kk (textL n).length (by omega)
        gi_wp2
        refine Code.wpIn_mono then_only ?_
        gi_region_with (refine ⟨trivial, ?_⟩; gi_at_call 31; refine (callsIn_wide.2 (ct.out _)).mono ?_; rintro e X2 ⟨rfl, hb3⟩; have q1 : X2.cell? ⟨w1.heap.size, 0, none⟩ = some v := Boxed.cell ((hb3.block w1.heap.size (by show _ < X.heap.size; omega)).trans hvX); have q2 := run_str (P := Try.prog) X2 43 9 5 Try.underlying43 Try.underlying9 Try.underlying5 _ _ _ _ (owns_after (w := X.drew) hrX hb3); have q3 : X2.cell? ⟨W.heap.size, 0, none⟩ = some v2 := Boxed.cell ((hb3.block W.heap.size (by show _ < X.heap.size; omega)).trans hv2); have q4 := run_str (P := Try.prog) X2 43 9 5 Try.underlying43 Try.underlying9 Try.underlying5 _ _ _ _ (owns_after (w := X.drew) hrow3 hb3))
        gi_wp2
        have hb4 : Below X.heap.size X X2 := ⟨hb3.os, hb3.tape, hb3.output, hb3.size, hb3.block⟩
        have hD2X : D2 < X.heap.size := (Array.getElem?_eq_some_iff.1 hK2).1
        have k2 : X2.heap[D2]? = some (.deferred (some [])) := (hb4.block D2 hD2X).trans hK2
        have k1 : (X2.putObj D2 (.deferred none)).heap[D]? = some (.deferred (some [])) := (World.putObj_heap_other (by omega)).trans ((hb4.block D (by omega)).trans hKX)
        have hBX : Below w.heap.size w X2 := hB0.trans ((hB.below (by omega) (by omega)).trans (((Below.refl w.heap.size W).alloc (by omega) _).trans ((hB2.below (by omega) (by omega)).trans (hb4.mono (by omega)))))
        refine ⟨by simp, .inl ⟨_, _, rfl, run_takeDeferred k2, ?_⟩⟩
        refine ⟨by simp, .inl ⟨_, _, rfl, run_takeDeferred k1, ?_⟩⟩
        exact ⟨_, results_tmp rfl _ _ _, rfl, (hBX.trans (belowK_b (w := w) (Nat.le_refl _) X2 D2 _ _ (by omega) k2 rfl rfl)).trans (belowK_b (w := w) (Nat.le_refl _) _ D _ _ (by omega) k1 rfl rfl)⟩
    case stop2 =>
      rintro D2 cc pre X hD2 hpre ⟨rfl, hpl, ⟨v2, hv2, hrow2, _⟩, hB2⟩ hK2
      simp only [World.size_alloc] at hD2
      have hX1 := hB2.size
      simp only [World.size_alloc] at hX1
      have hc2 := hv2.cell
      have hcs := (hB2.boxed (bx2.alloc _) (by omega) (by omega)).cell
      have hvX := hB2.boxed (hv.alloc _) (by omega) (by omega)
      have hcX := hvX.cell
      have hrX : X.ownsRow w2.heap.size 5 1 v (textL n).length ((textL n).map (Value.int .u8)) := owns_but (hrow.alloc _) hB2 (fun k hk => by have := hrow.lt k hk; omega)
      have hKX : X.heap[D]? = some (.deferred (some [])) := (hB2.block D (by omega) (by omega)).trans ((Below.heap_alloc _ _ _ (by omega)).trans hK)
      have hle : kk + 1 ≤ (textL n).length := by have := hpre.length_le; omega
      have hrow3 : X.ownsRow (W.heap.size + 1) 5 1 v2 kk (((textL n).take kk).map (Value.int .u8)) := by
        obtain ⟨r, hr⟩ := hpre
        have : (textL n).take kk = pre.take kk := by rw [← hr, List.take_append_of_le_length (by omega)]
        rw [this]; exact hrow2
      clear hrow2 hpre
      have hSz : (strOfNums (textL n)).size = (textL n).length := strOfNums_size _
      have hm : kk < (strOfNums (textL n)).size := by omega
      have hm2 : kk < (textL n).length := by omega
      have hm3 : kk ≤ (textL n).length := by omega
      have hm4 : kk ≤ (strOfNums (textL n)).size := by omega
      have hm5 : ¬ (textL n).length < kk := by omega
      · have heq := str_take (textL n) kk kk (by omega)
        gi_wp2
        refine Code.wpIn_mono then_only ?_
        gi_region_with (refine ⟨trivial, ?_⟩; gi_at_call 31; refine (callsIn_wide.2 (ct.out _)).mono ?_; rintro e X2 ⟨rfl, hb3⟩; have q1 : X2.cell? ⟨w1.heap.size, 0, none⟩ = some v := Boxed.cell ((hb3.block w1.heap.size (by show _ < X.heap.size; omega)).trans hvX); have q2 := run_str (P := Try.prog) X2 43 9 5 Try.underlying43 Try.underlying9 Try.underlying5 _ _ _ _ (owns_after (w := X.drew) hrX hb3); have q3 : X2.cell? ⟨W.heap.size, 0, none⟩ = some v2 := Boxed.cell ((hb3.block W.heap.size (by show _ < X.heap.size; omega)).trans hv2); have q4 := run_str (P := Try.prog) X2 43 9 5 Try.underlying43 Try.underlying9 Try.underlying5 _ _ _ _ (owns_after (w := X.drew) hrow3 hb3))
        gi_wp2
        have hb4 : Below X.heap.size X X2 := ⟨hb3.os, hb3.tape, hb3.output, hb3.size, hb3.block⟩
        have hD2X : D2 < X.heap.size := (Array.getElem?_eq_some_iff.1 hK2).1
        have k2 : X2.heap[D2]? = some (.deferred (some [])) := (hb4.block D2 hD2X).trans hK2
        have k1 : (X2.putObj D2 (.deferred none)).heap[D]? = some (.deferred (some [])) := (World.putObj_heap_other (by omega)).trans ((hb4.block D (by omega)).trans hKX)
        have hBX : Below w.heap.size w X2 := hB0.trans ((hB.below (by omega) (by omega)).trans (((Below.refl w.heap.size W).alloc (by omega) _).trans ((hB2.below (by omega) (by omega)).trans (hb4.mono (by omega)))))
        refine ⟨by simp, .inl ⟨_, _, rfl, run_takeDeferred k2, ?_⟩⟩
        refine ⟨by simp, .inl ⟨_, _, rfl, run_takeDeferred k1, ?_⟩⟩
        exact ⟨_, results_tmp rfl _ _ _, rfl, (hBX.trans (belowK_b (w := w) (Nat.le_refl _) X2 D2 _ _ (by omega) k2 rfl rfl)).trans (belowK_b (w := w) (Nat.le_refl _) _ D _ _ (by omega) k1 rfl rfl)⟩
  case stop =>
    rintro D c pre W _ _ h _
    exact h.elim
end Go.Proofs.Ytiakmaleiholnaa
