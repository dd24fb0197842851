/- tree: how many elements there are, both. No condition. -/
import Derived.Test.YtgechifbbhipaaaDoorTrW
set_option linter.unusedVariables false
set_option linter.unusedSimpArgs false
namespace Go.Proofs.YtgechifbbhipaaaDoor
open Go.RowKit

attribute [local go_sem] Oper.semAt_some

/-- how many elements, 5000 at most -/
def wgt (e : Tr) : Nat := min 5000 (preT 5000 1 e).length

theorem grow_of {M h : Nat} {w X Y : World} {row : Option Nat} (hb : Below M w X) (hM : M ≤ h) (hs : h ≤ X.heap.size) (hg : X.grownBy Y row) (hr : ∀ r, row = some r → h ≤ r ∧ ∃ o : Obj, X.heap[r]? = some o ∧ o.isCells = false) : Below M w Y :=
  hb.trans ⟨hg.os, hg.tape, hg.output, hg.size, fun k hk => hg.block k (by omega) (fun e => by have := (hr k e.symm).1; omega)⟩

set_option maxRecDepth 100000 in
set_option maxHeartbeats 4000000 in
theorem weight_any (e : Tr) (v : Value) (w : World) (hv : AtT w w.heap.size e v) : Calls Tryd.prog 147 #[v] w fun r w' => r = .returned (.int .i64 (wgt e : Int)) ∧ Below w.heap.size w w' := by
  obtain ⟨s1, s2, s3, a, c, rfl, hk⟩ := hv.parts
  have HV := Lib.hid hv
  clear hk hv
  refine (callsIn_wide (n := 9)).1 ?_
  refine callsIn_of_wp_marks Tryd.func147 rfl trivial ?_ rfl
  simp only [Tryd.ntmps147, List.size_toArray, List.length_cons, List.length_nil, Nat.reduceAdd, Nat.reduceSub, Array.replicate_succ, Array.replicate_zero, List.push_toArray, List.append_toArray, List.nil_append, List.cons_append]
  have cW := Lib.hid (fun w => within_any e.page e.name e.text e.opq a e.kids.length c 5000 w)
  gi_wp2_with (refine ⟨trivial, ?_⟩; gi_at_call 145; refine (callsIn_wide.2 (cW.out _)).mono ?_; rintro r w1 ⟨rfl, hrg, hc2, hz1, hb1⟩)
  simp only [World.size_alloc] at hrg hc2 hz1 hb1
  have hB0 : Below w.heap.size w w1 := (((Below.refl _ w).alloc (Nat.le_refl _) _).alloc (by simp) _).trans (hb1.mono (by omega))
  have bN : Boxed w1 (w.heap.size + 1) 3 (.int .i64 0) := (hb1.block (w.heap.size + 1) (by omega)).trans (by have h := Boxed.new (w.alloc (.cells #[.int .i64 e.page, .string e.name, .string e.text, .bool e.opq, .slice a e.kids.length c] 46)) 3 (.int .i64 0); rwa [World.size_alloc] at h)
  have hG : ∀ n, SeqG Fence.wide n 0 Tryd.prog 179 #[.pointer (some ⟨w.heap.size + 1 + 1, 0, none⟩), .pointer (some ⟨w.heap.size + 1 + 1 + 1, 0, none⟩)] encX w.heap.size (fun xs => xs.map (·.1) = preT 5000 1 e) (fun pre => pre.map (·.1) <+: preT 5000 1 e) (NxX w1 w.heap.size (preT 5000 1 e)) w1 :=
    fun n => within_seqG n w.heap.size 5000 (Nat.le_refl _) e _ (w.heap.size + 1 + 1) (w.heap.size + 1 + 1 + 1) w1 (by omega) (AtT.below hB0 _ _ HV.out) ⟨a, c, rfl, hrg⟩ hc2 (by omega) (by omega)
  refine wpIn_range_cellsG rfl (by decide) (gf := 179) (lb := #[.pointer (some ⟨w.heap.size + 1 + 1, 0, none⟩), .pointer (some ⟨w.heap.size + 1 + 1 + 1, 0, none⟩)]) rfl trivial (enters_of Tryd.func179 (by kernel_rfl) rfl)
    (hG 8) (by omega) (Below.refl _ _) (fun _ => rfl)
    (fun O (pre : List Xe) X => pre.length < 5000 ∧ Boxed X (w.heap.size + 1) 3 (.int .i64 (pre.length : Int)) ∧ Below w.heap.size w X ∧ w1.heap.size ≤ X.heap.size ∧ ∀ b ∈ O, w1.heap.size ≤ b)
    (fun cc (pre : List Xe) X => cc = .exit 0 ∧ pre.length = 5000 ∧ Boxed X (w.heap.size + 1) 3 (.int .i64 5000) ∧ Below w.heap.size w X)
    ?own1 ?own2
    ⟨by simp, bN, hB0, Nat.le_refl _, fun b hb => by cases hb⟩
    (fun x => { tmps := #[.agg #[.int .i64 e.page, .string e.name, .string e.text, .bool e.opq, .slice a e.kids.length c], .pointer (some ⟨w.heap.size, 0, none⟩), .int .i64 0, .pointer (some ⟨w.heap.size + 1, 0, none⟩), .agg #[.int .i64 e.page, .string e.name, .string e.text, .bool e.opq, .slice a e.kids.length c], .func (.func 179) #[] #[.pointer (some ⟨w.heap.size + 1 + 1, 0, none⟩), .pointer (some ⟨w.heap.size + 1 + 1 + 1, 0, none⟩)], .int .i64 (x.1.1 : Int), x.2, undef, undef, undef, undef, undef], defers := [] }) ?assign ?body ?done ?stop
  case own1 =>
    rintro O O' pre X Y row ⟨h1, h2, h3, h4, h5⟩ hg hr hO
    refine ⟨h1, h2.kept hg (fun e => by have := (hr _ e.symm).1; omega), grow_of h3 (by omega) h4 hg hr, Nat.le_trans h4 hg.size, fun b hb => ?_⟩
    rcases hO b hb with h | h
    · exact h5 b h
    · omega
  case own2 =>
    rintro cc pre X Y row ⟨h0, h1, h2, h3⟩ hg hr
    have hs : w.heap.size ≤ X.heap.size := h3.size
    exact ⟨h0, h1, h2.kept hg (fun e => by have := (hr _ e.symm).1; omega), h3.trans ⟨hg.os, hg.tape, hg.output, hg.size, fun k hk => hg.block k (by omega) (fun e => by have := (hr k e.symm).1; omega)⟩⟩
  case assign =>
    intro l x W K hK
    unfold encX
    gi_wp2
    exact hK
  case body =>
    rintro l' O pre x X ⟨h1, h2, h3, h4, h5⟩ hnx hm
    have hc := h2.cell
    have hf := h2.frozen
    have hw : wrap64 ((pre.length : Int) + 1) = ((pre.length + 1 : Nat) : Int) := by unfold wrap64; omega
    have HK : Hid (KpG w.heap.size O X (X.setCell ⟨w.heap.size + 1, 0, none⟩ (.int .i64 ((pre.length : Int) + 1)))) := KpG.store X _ (fun hb => by have := h5 _ hb; omega) (by omega)
    have HB := Lib.hid (h2.set (.int .i64 ((pre.length : Int) + 1)))
    have HL : Hid ((pre ++ [x]).length = pre.length + 1) := by unfold Hid; simp
    have H3 : Hid (Below w.heap.size w (X.setCell ⟨w.heap.size + 1, 0, none⟩ (.int .i64 ((pre.length : Int) + 1)))) := h3.setCell (p := ⟨w.heap.size + 1, 0, none⟩) (by show w.heap.size ≤ w.heap.size + 1; omega) _
    have H4 : Hid (w1.heap.size ≤ (X.setCell ⟨w.heap.size + 1, 0, none⟩ (.int .i64 ((pre.length : Int) + 1))).heap.size) := by unfold Hid; simpa [World.setCell] using h4
    have H5 := Lib.hid h5
    by_cases hlt : pre.length + 1 < 5000
    · have hq : (((pre.length + 1 : Nat) : Int) == 5000) = false := by rw [beq_eq_false_iff_ne]; omega
      clear h3 h4 h5
      gi_wp2
      refine ⟨(KeepsOthers.setCell _ _ _).from _, HK.out, ?_, ?_, H3.out, ?_, ?_⟩
      · rw [HL.out]; exact hlt
      · rw [HL.out]; exact HB.out
      · rw [← hz1]; exact H4.out
      · rw [← hz1]; exact H5.out
    · have hq : (((pre.length + 1 : Nat) : Int) == 5000) = true := by rw [beq_iff_eq]; omega
      have HB5 : Hid (Boxed (X.setCell ⟨w.heap.size + 1, 0, none⟩ (.int .i64 ((pre.length : Int) + 1))) (w.heap.size + 1) 3 (.int .i64 5000)) := by
        have h := HB.out
        have e5 : (pre.length : Int) + 1 = 5000 := by omega
        unfold Hid
        rw [e5] at h ⊢
        exact h
      clear h3 h4 h5
      gi_wp2
      exact ⟨(KeepsOthers.setCell _ _ _).from _, rfl, by rw [HL.out]; omega, HB5.out, H3.out⟩
  case done =>
    rintro D O ys X hD hys ⟨h1, h2, h3, h4, h5⟩ hK
    have hc := h2.cell
    have HW : Hid (wgt e = ys.length) := by unfold Hid wgt; rw [← hys, List.length_map]; omega
    have H3 := Lib.hid h3
    gi_wp2
    refine ⟨by simp, .inl ⟨_, _, rfl, run_takeDeferred hK, ?_⟩⟩
    exact ⟨_, results_tmp rfl _ _ _, by rw [HW.out]; rfl, H3.out.trans (belowK_b (Nat.le_refl _) _ D _ _ (by omega) hK rfl rfl)⟩
  case stop =>
    rintro D cc pre X hD hpre ⟨rfl, h1, h2, h3⟩ hK
    have hc := h2.cell
    have HW : Hid (wgt e = 5000) := by
      have := hpre.length_le
      rw [List.length_map] at this
      unfold Hid wgt; omega
    have H3 := Lib.hid h3
    gi_wp2
    refine ⟨by simp, .inl ⟨_, _, rfl, run_takeDeferred hK, ?_⟩⟩
    exact ⟨_, results_tmp rfl _ _ _, by rw [HW.out]; rfl, H3.out.trans (belowK_b (Nat.le_refl _) _ D _ _ (by omega) hK rfl rfl)⟩
end Go.Proofs.YtgechifbbhipaaaDoor
