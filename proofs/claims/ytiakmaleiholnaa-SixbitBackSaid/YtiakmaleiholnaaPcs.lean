/- pieces: the walk. No condition but the text's size. -/
import Derived.Test.YtiakmaleiholnaaLn
import Derived.RangeFuncNested
import Derived.RangeFuncBound
import Derived.RangeFuncCalls
namespace Go.Proofs.Ytiakmaleiholnaa
open Go.RowKit Go.Shelf

attribute [local go_sem] Oper.semAt_some

theorem own_base {w : World} {B C : Nat} {e : TypeId} {sz : Nat} {v : Value} {n : Nat} {xs : List Value} (h : w.ownsRow B e sz v n xs) (hC : C ≤ B) : w.ownsRow C e sz v n xs := by
  refine ⟨h.1, ?_⟩
  rcases h.2 with h2 | ⟨g, cap, cur, hv, hg, r⟩
  · exact .inl h2
  · exact .inr ⟨g, cap, cur, hv, by omega, r⟩

set_option maxRecDepth 100000 in
set_option maxHeartbeats 2000000 in
theorem pieces_any (s : ByteArray) (width : Int) (kk : Nat) (w : World) (hkk : kk ≤ 1000000) :
    Calls Try.prog 20 #[.string s, .int .i64 width, .int .i64 kk] w fun e w' => ∃ a c, e = .returned (.tuple #[.slice a ((chk (wd width) s).take kk).length c, .bool true]) ∧
      w'.ownsRow w.heap.size 9 1 (.slice a ((chk (wd width) s).take kk).length c) ((chk (wd width) s).take kk).length (((chk (wd width) s).take kk).map Value.string) ∧ Below w.heap.size w w' := by
  obtain ⟨i0, hi, hz0, hz1, hz2⟩ := info_parts S27.info
  have hnf : ∀ (b c : Nat) (w : World), (binOp .eql 67 (.func (.func 69) #[] #[.pointer (some ⟨b, 0, none⟩), .pointer (some ⟨c, 0, none⟩)]) .nilFunc).run Try.prog w = .ok (.bool false) w := fun _ _ _ => by kernel_rfl
  have hl := chk_len (wd width) s
  have hw1 := wd_pos width
  have HL := Lib.hid (fun w => lines_any s width w)
  generalize wd width = wk at *
  generalize hLe : (chk wk s).take kk = L
  have HLE := Lib.hid hLe
  clear hLe
  refine (callsIn_wide (n := 9)).1 ?_
  refine callsIn_of_wp_marks Try.func20 rfl trivial ?_ rfl
  simp only [Try.ntmps20, List.size_toArray, List.length_cons, List.length_nil, Nat.reduceAdd, Nat.reduceSub, Array.replicate_succ, Array.replicate_zero, List.push_toArray, List.append_toArray, List.nil_append, List.cons_append]
  gi_wp2_with (refine ⟨trivial, ?_⟩; gi_at_call 51; refine (callsIn_wide.2 (HL.out _)).mono ?_; rintro e w1 ⟨rfl, hcx, hcy, hz1', hb1⟩)
  simp only [World.size_alloc] at hcx hcy hz1' hb1
  have bM : Boxed w1 w.heap.size 3 (.int .i64 kk) := (hb1.block w.heap.size (by omega)).trans (Boxed.new w 3 _)
  have hB0 : Below w.heap.size w w1 := ((Below.refl _ w).alloc (Nat.le_refl _) _).trans (hb1.mono (by omega))
  refine wpIn_rangeFunc_ownG rfl (by decide) (gf := 69) (lb := #[.pointer (some ⟨w.heap.size + 1, 0, none⟩), .pointer (some ⟨w.heap.size + 1 + 1, 0, none⟩)]) rfl trivial (enters_of Try.func69 (by kernel_rfl) rfl)
    (lines1_stops 8 (by decide) (w.heap.size + 1) (w.heap.size + 1 + 1) s wk hw1 (BelowBut (w1.heap.size + 1) w1.heap.size) (fun _ _ h => h.cell (by omega) (by omega)) (w1.alloc (.cells #[.slice none 0 0] 27))
      ((World.cell?_alloc_past _ _ _ (by show w.heap.size + 1 < _; omega)).trans hcx) ((World.cell?_alloc_past _ _ _ (by show w.heap.size + 1 + 1 < _; omega)).trans hcy) (by simp; omega) (by simp; omega)) BelowBut.trans (BelowBut.put (by simp)) (Below.refl _ _) (fun _ => rfl)
    (fun (pre : List ByteArray) X => (∃ v, Boxed X w1.heap.size 27 v ∧ X.ownsRow (w1.heap.size + 1) 9 1 v pre.length (pre.map Value.string) ∧ pre.length ≤ kk) ∧ BelowBut (w1.heap.size + 1) w1.heap.size (w1.alloc (.cells #[.slice none 0 0] 27)) X)
    (fun c (pre : List ByteArray) X => c = .exit 0 ∧ pre.length = kk + 1 ∧ (∃ v, Boxed X w1.heap.size 27 v ∧ X.ownsRow (w1.heap.size + 1) 9 1 v kk ((pre.take kk).map Value.string) ∧ True) ∧ BelowBut (w1.heap.size + 1) w1.heap.size (w1.alloc (.cells #[.slice none 0 0] 27)) X)
    (OwnFrom.and (Own.from (holdsRow_own (w1.heap.size + 1) w1.heap.size 27 9 1 (fun (pre : List ByteArray) => pre.length) (fun (pre : List ByteArray) => pre.map Value.string) (fun pre _ => pre.length ≤ kk)) _) (ownFrom_but (by simp) (by simp)))
    (fun cc => fun pre X X' row hs hg hr => ⟨hs.1, hs.2.1, (OwnFrom.and (Own.from (holdsRow_own (w1.heap.size + 1) w1.heap.size 27 9 1 (fun (_ : List ByteArray) => kk) (fun (pre : List ByteArray) => (pre.take kk).map Value.string) (fun _ _ => True)) (w1.alloc (.cells #[.slice none 0 0] 27)).heap.size) (ownFrom_but (n := w1.heap.size + 1) (B := w1.heap.size) (w₀ := w1.alloc (.cells #[.slice none 0 0] 27)) (by simp) (by simp))) pre X X' row hs.2.2 hg hr⟩)
    ⟨⟨_, Boxed.new w1 27 _, World.ownsRow_nil _ _ _ _, Nat.zero_le _⟩, BelowBut.refl _ _ _⟩
    (fun x => { tmps := #[.string s, .int .i64 width, .int .i64 kk, undef, undef, .pointer (some ⟨w.heap.size, 0, none⟩), .slice none 0 0, .bool false, .func (.func 69) #[] #[.pointer (some ⟨w.heap.size + 1, 0, none⟩), .pointer (some ⟨w.heap.size + 1 + 1, 0, none⟩)], .pointer (some ⟨w1.heap.size, 0, none⟩), .string x, .string s, .int .i64 width, .func (.func 69) #[] #[.pointer (some ⟨w.heap.size + 1, 0, none⟩), .pointer (some ⟨w.heap.size + 1 + 1, 0, none⟩)], .func (.func 69) #[] #[.pointer (some ⟨w.heap.size + 1, 0, none⟩), .pointer (some ⟨w.heap.size + 1 + 1, 0, none⟩)], .bool false, .func (.func 69) #[] #[.pointer (some ⟨w.heap.size + 1, 0, none⟩), .pointer (some ⟨w.heap.size + 1 + 1, 0, none⟩)], .string x, undef, undef, undef, undef, undef, undef, undef, undef, undef], defers := [] }) ?assign ?body ?done ?stop
  case assign =>
    intro l x W K hK
    gi_wp2
    exact hK
  case body =>
    rintro l pre x X ⟨⟨v, hv, hrow, hle⟩, hB2⟩ hlt
    obtain ⟨ad, cp, rfl⟩ := own_form hrow
    have hc := hv.cell
    have hcs := (hB2.boxed (bM.alloc _) (by omega) (by omega)).cell
    have hlx : pre.length = kk ∨ pre.length < kk := by omega
    rcases hlx with hle' | hle'
    · have hd : ((pre.length : Int) == (kk : Int)) = true := by simp; omega
      gi_wp2
      exact ⟨KeepsFrom.refl _ _, rfl, by simp; omega, ⟨_, hv, by rw [← hle']; simpa using hrow, trivial⟩, hB2⟩
    · have hd : ((pre.length : Int) == (kk : Int)) = false := by simp; omega
      have hX1 := hB2.size
      simp only [World.size_alloc] at hX1
      gi_wp2_with (gi_at_builtin; refine wpListIn_append_own _ rfl _ _ 27 rfl (w1.heap.size + 1) 9 i0 (.string ByteArray.empty) 1 16 Try.underlying27 hi hz0 hz1 hz2 rfl (by decide) _ _ _ rfl (hrow.alloc _) ⟨X.heap.size, 0, none⟩ 1 1 [.string x] rfl rfl (cell_one_new _ _ _) (by simp [Value.oneCell']) (by simp [maxLen]; omega) (by omega) (by simp; omega) ?_; intro v' w3 hown' hgrow _; obtain ⟨g', cap', rfl⟩ := ownsRow_succ hown'; obtain ⟨hv1, hv2, hr2, hk2, hb2⟩ := boxed_app hv (by decide) hrow (by omega) (by omega) hown' hgrow; have hc1 := hv1.cell; have hf1 := hv1.frozen)
      exact ⟨hk2.from _, hb2, ⟨⟨_, hv2, by simpa using hr2, by simp; omega⟩, hB2.trans hb2⟩⟩
  case done =>
    rintro D ys X hD rfl ⟨⟨v, hv, hrow, hle⟩, hB2⟩ hK
    have hX1 := hB2.size
    simp only [World.size_alloc] at hX1
    obtain ⟨ad, cp, rfl⟩ := own_form hrow
    have hc := hv.cell
    obtain rfl : L = chk wk s := HLE.out.symm.trans (List.take_of_length_le hle)
    have HO := Lib.hid hrow
    clear hrow
    gi_wp2
    refine ⟨by simp, .inl ⟨_, _, rfl, run_takeDeferred hK, ?_⟩⟩
    exact ⟨_, results_tmp2 rfl _ _ _, ad, cp, rfl, ownsRow_putObj (by simpa using own_base HO.out (by omega)) _ hK rfl, (hB0.trans ((((Below.refl _ w1).alloc (Nat.le_refl _) _).mono (by have := hB0.size; omega)).trans (hB2.below (by omega) (by omega)))).trans (belowK_b (w := w) (Nat.le_refl _) X D _ _ (by simp at hD; omega) hK rfl rfl)⟩
  case stop =>
    rintro D cc pre X hD hpre ⟨rfl, hpl, ⟨v, hv, hrow, _⟩, hB2⟩ hK
    have hX1 := hB2.size
    simp only [World.size_alloc] at hX1
    obtain ⟨ad, cp, rfl⟩ := own_form hrow
    have hc := hv.cell
    have hle := hpre.length_le
    have ht : (chk wk s).take kk = pre.take kk := by
      obtain ⟨r, hr⟩ := hpre
      rw [← hr, List.take_append_of_le_length (by omega)]
    obtain rfl : L = pre.take kk := HLE.out.symm.trans ht
    have hk2 : (pre.take kk).length = kk := by rw [List.length_take]; omega
    have HO := Lib.hid hrow
    have HK := Lib.hid hk2
    clear hrow ht hk2 hpre
    gi_wp2
    refine ⟨by simp, .inl ⟨_, _, rfl, run_takeDeferred hK, ?_⟩⟩
    exact ⟨_, results_tmp2 rfl _ _ _, ad, cp, by rw [HK.out]; rfl, ownsRow_putObj (by rw [HK.out]; exact own_base HO.out (by omega)) _ hK rfl, (hB0.trans ((((Below.refl _ w1).alloc (Nat.le_refl _) _).mono (by have := hB0.size; omega)).trans (hB2.below (by omega) (by omega)))).trans (belowK_b (w := w) (Nat.le_refl _) X D _ _ (by simp at hD; omega) hK rfl rfl)⟩
end Go.Proofs.Ytiakmaleiholnaa
