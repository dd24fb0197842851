/- tree: how many elements there are, both. No condition. -/
import Derived.Test.YtgechifbbhipaaaDoorTrW
set_option linter.unusedVariables false
set_option linter.unusedSimpArgs false
namespace Go.Proofs.YtgechifbbhipaaaDoor
open Go.RowKit

attribute [local go_sem] Oper.semAt_some

/-- how many elements, 5000 at most -/
def wgt (e : Tr) : Nat := min 5000 (preT 5000 1 e).length

theorem grow_of {M h : Nat} {w X Y : World} {row : Option Nat} (hb : Below M w X) (hM : M ≤ h) (hs : h ≤ X.heap.size) (hg : X.grownBy Y row) (hr : ∀ r, row = some r → h ≤ r ∧ ∃ o : Obj, X.heap[r]? = some o ∧ o.isCells = false) : Below M w Y :=
  hb.trans ⟨hg.os, hg.tape, hg.output, hg.size, fun k hk => hg.block k (by omega) (fun e => by have := (hr k e.symm).1; omega)⟩

set_option maxRecDepth 100000 in
set_option maxHeartbeats 4000000 in
theorem weight_any (e : Tr) (v : Value) (w : World) (hv : AtT w w.heap.size e v) : Calls Tryd.prog 147 #[v] w fun r w' => r = .returned (.int .i64 (wgt e : Int)) ∧ Below w.heap.size w w' := by
  obtain ⟨s1, s2, s3, a, c, rfl, hk⟩ := hv.parts
  have HV := Lib.hid hv
  clear hk hv
  refine (callsIn_wide (n := 9)).1 ?_
  refine callsIn_of_wp_marks Tryd.func147 rfl trivial ?_ rfl
  simp only [Tryd.ntmps147, List.size_toArray, List.length_cons, List.length_nil, Nat.reduceAdd, Nat.reduceSub, Array.replicate_succ, Array.replicate_zero, List.push_toArray, List.append_toArray, List.nil_append, List.cons_append]
  have cW := Lib.hid (fun w => within_any e.page e.name e.text e.opq a e.kids.length c 5000 w)
  gi_wp2_with (refine ⟨trivial, ?_⟩; gi_at_call 145; refine (callsIn_wide.2 (cW.out _)).mono ?_; rintro r w1 ⟨rfl, hrg, hc2, hz1, hb1⟩)
  simp only [World.size_alloc] at hrg hc2 hz1 hb1
  have hB0 : Below w.heap.size w w1 := (((Below.refl _ w).alloc (Nat.le_refl _) _).alloc (by simp) _).trans (hb1.mono (by omega))
  have bN : Boxed w1 (w.heap.size + 1) 3 (.int .i64 0) := (hb1.block (w.heap.size + 1) (by omega)).trans (by have h := Boxed.new (w.alloc (.cells #[.int .i64 e.page, .string e.name, .string e.text, .bool e.opq, .slice a e.kids.length c] 46)) 3 (.int .i64 0); rwa [World.size_alloc] at h)
  have hG : ∀ n, SeqG Fence.wide n 0 Tryd.prog 179 #[.pointer (some ⟨w.heap.size + 1 + 1, 0, none⟩), .pointer (some ⟨w.heap.size + 1 + 1 + 1, 0, none⟩)] encX w.heap.size (fun xs => xs.map (·.1) = preT 5000 1 e) (fun pre => pre.map (·.1) <+: preT 5000 1 e) (NxX w1 w.heap.size (preT 5000 1 e)) w1 :=
    fun n => within_seqG n w.heap.size 5000 (Nat.le_refl _) e _ (w.heap.size + 1 + 1) (w.heap.size + 1 + 1 + 1) w1 (by omega) (AtT.below hB0 _ _ HV.out) ⟨a, c, rfl, hrg⟩ hc2 (by omega) (by omega)
  refine wpIn_range_cellsG rfl (by decide) (gf := 179) (lb := #[.pointer (some ⟨w.heap.size + 1 + 1, 0, none⟩), .pointer (some ⟨w.heap.size + 1 + 1 + 1, 0, none⟩)]) rfl trivial (enters_of Tryd.func179 (by kernel_rfl) rfl)
    (hG 8) (by omega) (Below.refl _ _) (fun _ => rfl)
    (fun O (pre : List Xe) X => pre.length < 5000 ∧ Boxed X (w.heap.size + 1) 3 (.int .i64 (pre.length : Int)) ∧ Below w.heap.size w X ∧ w1.heap.size ≤ X.heap.size ∧ ∀ b ∈ O, w1.heap.size ≤ b)
    (fun cc (pre : List Xe) X => cc = .exit 0 ∧ pre.length = 5000 ∧ Boxed X (w.heap.size + 1) 3 (.int .i64 5000) ∧ Below w.heap.size w X)
    ?own1 ?own2
    ⟨by simp, bN, hB0, Nat.le_refl _, fun b hb => by cases hb⟩
    (fun x => { tmps := #[.agg #[.int .i64 e.page, .string e.name, .string e.text, .bool e.opq, .slice a e.kids.length c], .pointer (some ⟨w.heap.size, 0, none⟩), .int .i64 0, .pointer (some ⟨w.heap.size + 1, 0, none⟩), .agg #[.int .i64 e.page, .string e.name, .string e.text, .bool e.opq, .slice a e.kids.length c], .func (.func 179) #[] #[.pointer (some ⟨w.heap.size + 1 + 1, 0, none⟩), .pointer (some ⟨w.heap.size + 1 + 1 + 1, 0, none⟩)], .int .i64 (x.1.1 : Int), x.2, undef, undef, undef, undef, undef], defers := [] }) ?assign ?body ?done ?stop
  case own1 =>
    rintro O O' pre X Y row ⟨h1, h2, h3, h4, h5⟩ hg hr hO
    refine ⟨h1, h2.kept hg (fun e => by have := (hr _ e.symm).1; omega), grow_of h3 (by omega) h4 hg hr, Nat.le_trans h4 hg.size, fun b hb => ?_⟩
    rcases hO b hb with h | h
    · exact h5 b h
    · omega
  case own2 =>
    rintro cc pre X Y row ⟨h0, h1, h2, h3⟩ hg hr
    have hs : w.heap.size ≤ X.heap.size := h3.size
    exact ⟨h0, h1, h2.kept hg (fun e => by have := (hr _ e.symm).1; omega), h3.trans ⟨hg.os, hg.tape, hg.output, hg.size, fun k hk => hg.block k (by omega) (fun e => by have := (hr k e.symm).1; omega)⟩⟩
  case assign =>
    intro l x W K hK
    unfold encX
    gi_wp2
    exact hK
  case body =>
    rintro l' O pre x X ⟨h1, h2, h3, h4, h5⟩ hnx hm
    have hc := h2.cell
    have hf := h2.frozen
    have hw : wrap64 ((pre.length : Int) + 1) = ((pre.length + 1 : Nat) : Int) := by unfold wrap64; omega
    have HK : Hid (KpG w.heap.size O X (X.setCell ⟨w.heap.size + 1, 0, none⟩ (.int .i64 ((pre.length : Int) + 1)))) := KpG.store X _ (fun hb => by have := h5 _ hb; omega) (by omega)
    have HB := Lib.hid (h2.set (.int .i64 ((pre.length : Int) + 1)))
    have HL : Hid ((pre ++ [x]).length = pre.length + 1) := by unfold Hid; simp
    have H3 : Hid (Below w.heap.size w (X.setCell ⟨w.heap.size + 1, 0, none⟩ (.int .i64 ((pre.length : Int) + 1)))) := h3.setCell (p := ⟨w.heap.size + 1, 0, none⟩) (by show w.heap.size ≤ w.heap.size + 1; omega) _
    have H4 : Hid (w1.heap.size ≤ (X.setCell ⟨w.heap.size + 1, 0, none⟩ (.int .i64 ((pre.length : Int) + 1))).heap.size) := by unfold Hid; simpa [World.setCell] using h4
    have H5 := Lib.hid h5
    by_cases hlt : pre.length + 1 < 5000
    · have hq : (((pre.length + 1 : Nat) : Int) == 5000) = false := by rw [beq_eq_false_iff_ne]; omega
      clear h3 h4 h5
      gi_wp2
      refine ⟨(KeepsOthers.setCell _ _ _).from _, HK.out, ?_, ?_, H3.out, ?_, ?_⟩
      · rw [HL.out]; exact hlt
      · rw [HL.out]; exact HB.out
      · rw [← hz1]; exact H4.out
      · rw [← hz1]; exact H5.out
    · have hq : (((pre.length + 1 : Nat) : Int) == 5000) = true := by rw [beq_iff_eq]; omega
      have HB5 : Hid (Boxed (X.setCell ⟨w.heap.size + 1, 0, none⟩ (.int .i64 ((pre.length : Int) + 1))) (w.heap.size + 1) 3 (.int .i64 5000)) := by
        have h := HB.out
        have e5 : (pre.length : Int) + 1 = 5000 := by omega
        unfold Hid
        rw [e5] at h ⊢
        exact h
      clear h3 h4 h5
      gi_wp2
      exact ⟨(KeepsOthers.setCell _ _ _).from _, rfl, by rw [HL.out]; omega, HB5.out, H3.out⟩
  case done =>
    rintro D O ys X hD hys ⟨h1, h2, h3, h4, h5⟩ hK
    have hc := h2.cell
    have HW : Hid (wgt e = ys.length) := by unfold Hid wgt; rw [← hys, List.length_map]; omega
    have H3 := Lib.hid h3
    gi_wp2
    refine ⟨by simp, .inl ⟨_, _, rfl, run_takeDeferred hK, ?_⟩⟩
    exact ⟨_, results_tmp rfl _ _ _, by rw [HW.out]; rfl, H3.out.trans (belowK_b (Nat.le_refl _) _ D _ _ (by omega) hK rfl rfl)⟩
  case stop =>
    rintro D cc pre X hD hpre ⟨rfl, h1, h2, h3⟩ hK
    have hc := h2.cell
    have HW : Hid (wgt e = 5000) := by
      have := hpre.length_le
      rw [List.length_map] at this
      unfold Hid wgt; omega
    have H3 := Lib.hid h3
    gi_wp2
    refine ⟨by simp, .inl ⟨_, _, rfl, run_takeDeferred hK, ?_⟩⟩
    exact ⟨_, results_tmp rfl _ _ _, by rw [HW.out]; rfl, H3.out.trans (belowK_b (Nat.le_refl _) _ D _ _ (by omega) hK rfl rfl)⟩
end Go.Proofs.YtgechifbbhipaaaDoor

/- tree: what is wrong with an element, the program's Check. No condition but the tables. -/
set_option linter.unusedVariables false
set_option linter.unusedSimpArgs false
namespace Go.Proofs.YtgechifbbhipaaaDoor
open Go.RowKit

attribute [local go_sem] Oper.semAt_some

mutual
theorem AtT.mono {w : World} {M N : Nat} (hb : M ≤ N) : ∀ (e : Tr) (v : Value), AtT w M e v → AtT w N e v
  | .mk p nm tx o ks, v, h => by
    unfold AtT at h ⊢
    obtain ⟨h1, h2, h3, a, c, h4, h5, h6⟩ := h
    exact ⟨h1, h2, h3, a, c, h4, AtL.mono hb a ks 0 h5, h6⟩
theorem AtL.mono {w : World} {M N : Nat} (hb : M ≤ N) (a : Option Addr) : ∀ (ks : List Tr) (i : Nat), AtL w M a i ks → AtL w N a i ks
  | [], _, _ => by unfold AtL; trivial
  | k :: ks, i, h => by
    unfold AtL at h ⊢
    obtain ⟨⟨b, o, v, h1, h2, h3, h4⟩, h5⟩ := h
    exact ⟨⟨b, o, v, h1, Nat.lt_of_lt_of_le h2 hb, h3, AtT.mono hb k v h4⟩, AtL.mono hb a ks (i + 1) h5⟩
end
def chkT (e : Tr) : Int := chkV e.page e.name e.text e.opq e.kids.length
/-- the first that is wrong -/
def firstC : List (Nat × Tr) → Int
  | [] => 0
  | p :: l => if chkT p.2 = 0 then firstC l else chkT p.2
def deepC (L : List (Nat × Tr)) : Nat := L.foldl (fun m p => max m p.1) 0
theorem firstC_snoc (L : List (Nat × Tr)) (p : Nat × Tr) : firstC (L ++ [p]) = if firstC L = 0 then chkT p.2 else firstC L := by
  induction L with
  | nil =>
    show (if chkT p.2 = 0 then (0 : Int) else chkT p.2) = if (0 : Int) = 0 then chkT p.2 else 0
    by_cases h : chkT p.2 = 0
    · rw [if_pos h, if_pos rfl, h]
    · rw [if_neg h, if_pos rfl]
  | cons x l ih =>
    rw [List.cons_append, firstC, firstC, ih]
    by_cases h : chkT x.2 = 0
    · rw [if_pos h, if_pos h]
    · rw [if_neg h, if_neg h, if_neg h]
theorem deepC_snoc (L : List (Nat × Tr)) (p : Nat × Tr) : deepC (L ++ [p]) = max (deepC L) p.1 := by
  unfold deepC; rw [List.foldl_append]; rfl
/-- what is wrong with an element, and all within it -/
def chkA (e : Tr) : Int := if 12 < deepC ((preT 13 1 e).take 5000) then 9 else if 2000 < wgt e then 4 else firstC ((preT 13 1 e).take 5000)

theorem calls_round {P : Program} {l n f : Nat} {args : Array Value} {w : World} {R : Ending → World → Prop} (h : Calls P f args w R) : CallsIn (Fence.wide.inRound l) n P f args w R := callsIn_wide.2 h
theorem below_put {B : Nat} (W : World) (D : Nat) (o : Obj) (h : B ≤ D) : Below B W (W.putObj D o) := ⟨rfl, rfl, rfl, by simp [World.putObj], fun k hk => World.putObj_heap_other (by omega)⟩
theorem keeps_below (B : Nat) {W W' : World} (h : Below W.heap.size W W') : KeepsFrom B W W' := ⟨h.size, fun k _ _ hk _ => (h.block k (Array.getElem?_eq_some_iff.1 hk).1).trans hk⟩
theorem size_setCell (W : World) (a : Addr) (v : Value) : (W.setCell a v).heap.size = W.heap.size := by simp [World.setCell]
theorem q5_no {n : Nat} (h : n + 1 < 5000) : ((n : Int) + 1 == 5000) = false := by rw [beq_eq_false_iff_ne]; omega
theorem q5_yes {n : Nat} (h1 : n < 5000) (h : ¬ n + 1 < 5000) : ((n : Int) + 1 == 5000) = true := by rw [beq_iff_eq]; omega
def cellsX (x : Xe) : Array Value := match x.2 with | .agg cs => cs | _ => #[]
def gX (x : Xe) (W : World) : World := W.alloc (.cells (cellsX x) 46)

/-- the variables of Check: how many, how deep, the first fault; the element -/
structure StC (z : Nat) (w : World) (cs : Array Value) (n d f : Int) (X : World) : Prop where
  bn : Boxed X (z + 1) 3 (.int .i64 n)
  bd : Boxed X (z + 1 + 1) 3 (.int .i64 d)
  bf : Boxed X (z + 1 + 1 + 1) 35 (.int .i64 f)
  bx : X.heap[z]? = some (.cells cs 46)
  hb : Below z w X
theorem StC.grow {z : Nat} {w : World} {cs : Array Value} {n d f : Int} {X Y : World} {row : Option Nat} (h : StC z w cs n d f X) (hg : X.grownBy Y row) (hr : ∀ r, row = some r → z + 6 ≤ r) : StC z w cs n d f Y := by
  have hz := (Array.getElem?_eq_some_iff.1 h.bx).1
  exact ⟨h.bn.kept hg (fun e => by have := hr _ e.symm; omega), h.bd.kept hg (fun e => by have := hr _ e.symm; omega), h.bf.kept hg (fun e => by have := hr _ e.symm; omega),
    (hg.block z hz (fun e => by have := hr _ e.symm; omega)).trans h.bx, h.hb.trans ⟨hg.os, hg.tape, hg.output, hg.size, fun k hk => hg.block k (by omega) (fun e => by have := hr _ e.symm; omega)⟩⟩
theorem StC.below {z : Nat} {w : World} {cs : Array Value} {n d f : Int} {X Y : World} (h : StC z w cs n d f X) (hb : Below X.heap.size X Y) : StC z w cs n d f Y :=
  h.grow (row := none) ⟨hb.os, hb.tape, hb.output, hb.size, fun k hk _ => hb.block k hk⟩ (fun r e => by cases e)
theorem StC.setN {z : Nat} {w : World} {cs : Array Value} {n d f : Int} {X : World} (h : StC z w cs n d f X) (n' : Int) : StC z w cs n' d f (X.setCell ⟨z + 1, 0, none⟩ (.int .i64 n')) :=
  ⟨h.bn.set _, h.bd.other (by omega) _, h.bf.other (by omega) _, (Below.heap_setCell _ _ _ _ (by show z ≠ z + 1; omega)).trans h.bx, h.hb.setCell (p := ⟨z + 1, 0, none⟩) (by show z ≤ z + 1; omega) _⟩
theorem StC.setD {z : Nat} {w : World} {cs : Array Value} {n d f : Int} {X : World} (h : StC z w cs n d f X) (d' : Int) : StC z w cs n d' f (X.setCell ⟨z + 1 + 1, 0, none⟩ (.int .i64 d')) :=
  ⟨h.bn.other (by omega) _, h.bd.set _, h.bf.other (by omega) _, (Below.heap_setCell _ _ _ _ (by show z ≠ z + 1 + 1; omega)).trans h.bx, h.hb.setCell (p := ⟨z + 1 + 1, 0, none⟩) (by show z ≤ z + 1 + 1; omega) _⟩
theorem StC.setF {z : Nat} {w : World} {cs : Array Value} {n d f : Int} {X : World} (h : StC z w cs n d f X) (f' : Int) : StC z w cs n d f' (X.setCell ⟨z + 1 + 1 + 1, 0, none⟩ (.int .i64 f')) :=
  ⟨h.bn.other (by omega) _, h.bd.other (by omega) _, h.bf.set _, (Below.heap_setCell _ _ _ _ (by show z ≠ z + 1 + 1 + 1; omega)).trans h.bx, h.hb.setCell (p := ⟨z + 1 + 1 + 1, 0, none⟩) (by show z ≤ z + 1 + 1 + 1; omega) _⟩

def InvC (z : Nat) (w : World) (cs : Array Value) (O : List Nat) (pre : List Xe) (X : World) : Prop :=
  pre.length < 5000 ∧ StC z w cs (pre.length : Int) (deepC (pre.map (·.1)) : Int) (firstC (pre.map (·.1))) X ∧ z + 6 ≤ X.heap.size ∧ ∀ b ∈ O, z + 6 ≤ b
def ExC (z : Nat) (w : World) (cs : Array Value) (cc : Code) (pre : List Xe) (X : World) : Prop :=
  cc = .exit 0 ∧ pre.length = 5000 ∧ StC z w cs 5000 (deepC (pre.map (·.1)) : Int) (firstC (pre.map (·.1))) X ∧ z + 6 ≤ X.heap.size
theorem stC_next {z : Nat} {w : World} {cs : Array Value} {pre : List Xe} {X4 : World} {D : Nat} {Fi f4 n : Int} {p : Nat × Tr} {u : Value} (hs : StC z w cs n (max (D : Int) (p.1 : Int)) f4 X4) (hf : f4 = if Fi = 0 then chkT p.2 else Fi) (hD : deepC (pre.map (·.1)) = D) (hF : firstC (pre.map (·.1)) = Fi) :
    StC z w cs n (deepC ((pre ++ [(p, u)]).map (·.1)) : Int) (firstC ((pre ++ [(p, u)]).map (·.1))) X4 := by
  have e1 : (pre ++ [(p, u)]).map (·.1) = pre.map (·.1) ++ [p] := by simp
  rw [e1, deepC_snoc, firstC_snoc, hF, hD, ← hf]
  have e2 : ((max D p.1 : Nat) : Int) = max (D : Int) (p.1 : Int) := by omega
  rw [e2]; exact hs
theorem InvC.next {z : Nat} {w : World} {cs : Array Value} {O : List Nat} {pre : List Xe} {X4 : World} {D : Nat} {Fi f4 : Int} {p : Nat × Tr} {u : Value} (hlt : pre.length + 1 < 5000) (hs : StC z w cs ((pre.length : Int) + 1) (max (D : Int) (p.1 : Int)) f4 X4) (hf : f4 = if Fi = 0 then chkT p.2 else Fi) (hD : deepC (pre.map (·.1)) = D) (hF : firstC (pre.map (·.1)) = Fi) (hz : z + 6 ≤ X4.heap.size) (hO : ∀ b ∈ O, z + 6 ≤ b) :
    InvC z w cs O (pre ++ [(p, u)]) X4 := by
  have e0 : (pre ++ [(p, u)]).length = pre.length + 1 := by simp
  refine ⟨by rw [e0]; exact hlt, ?_, hz, hO⟩
  rw [e0]
  exact stC_next hs hf hD hF
theorem ExC.next {z : Nat} {w : World} {cs : Array Value} {pre : List Xe} {X4 : World} {D : Nat} {Fi f4 : Int} {p : Nat × Tr} {u : Value} (h1 : pre.length < 5000) (hlt : ¬ pre.length + 1 < 5000) (hs : StC z w cs ((pre.length : Int) + 1) (max (D : Int) (p.1 : Int)) f4 X4) (hf : f4 = if Fi = 0 then chkT p.2 else Fi) (hD : deepC (pre.map (·.1)) = D) (hF : firstC (pre.map (·.1)) = Fi) (hz : z + 6 ≤ X4.heap.size) :
    ExC z w cs (.exit 0) (pre ++ [(p, u)]) X4 := by
  have e0 : (pre ++ [(p, u)]).length = pre.length + 1 := by simp
  have e5 : (pre.length : Int) + 1 = 5000 := by omega
  rw [e5] at hs
  refine ⟨rfl, by rw [e0]; omega, stC_next hs hf hD hF, hz⟩

set_option maxRecDepth 100000 in
set_option maxHeartbeats 4000000 in
theorem checkA_any (e : Tr) (v : Value) (w : World) (hv : AtT w w.heap.size e v) (hT : Lib.Utf8Tabs 2 3 w) : Calls Tryd.prog 96 #[v] w fun r w' => r = .returned (.int .i64 (chkA e)) ∧ Below w.heap.size w w' := by
  obtain ⟨s1, s2, s3, a, c, rfl, hk⟩ := hv.parts
  have HV := Lib.hid hv
  have HTW : Hid (∀ w1, Below w.heap.size w w1 → Lib.Utf8Tabs 2 3 w1) := fun w1 h => Utf8Tabs_below hT h
  clear hk hv hT
  refine (callsIn_wide (n := 9)).1 ?_
  refine callsIn_of_wp_marks Tryd.func96 rfl trivial ?_ rfl
  simp only [Tryd.ntmps96, List.size_toArray, List.length_cons, List.length_nil, Nat.reduceAdd, Nat.reduceSub, Array.replicate_succ, Array.replicate_zero, List.push_toArray, List.append_toArray, List.nil_append, List.cons_append]
  have cW := Lib.hid (fun w => within_any e.page e.name e.text e.opq a e.kids.length c 13 w)
  gi_wp2_with (refine ⟨trivial, ?_⟩; gi_at_call 145; refine (callsIn_wide.2 (cW.out _)).mono ?_; rintro r w1 ⟨rfl, hrg, hc2, hz1, hb1⟩)
  simp only [World.size_alloc] at hrg hc2 hz1 hb1
  have hB0 : Below w.heap.size w w1 := (((((Below.refl _ w).alloc (Nat.le_refl _) _).alloc (by simp) _).alloc (by simp; omega) _).alloc (by simp; omega) _).trans (hb1.mono (by omega))
  obtain ⟨z, hz⟩ : ∃ z, w.heap.size = z := ⟨_, rfl⟩
  obtain ⟨cs, hcs⟩ : ∃ cs, (#[.int .i64 e.page, .string e.name, .string e.text, .bool e.opq, .slice a e.kids.length c] : Array Value) = cs := ⟨_, rfl⟩
  have st0 : StC z w cs 0 0 0 w1 := by
    rw [← hz, ← hcs]
    refine ⟨?_, ?_, ?_, ?_, hB0⟩
    · refine (hb1.block (w.heap.size + 1) (by omega)).trans ((Below.heap_alloc _ _ _ (by simp)).trans ((Below.heap_alloc _ _ _ (by simp)).trans ?_))
      have h := Boxed.new (w.alloc (.cells #[.int .i64 e.page, .string e.name, .string e.text, .bool e.opq, .slice a e.kids.length c] 46)) 3 (.int .i64 0)
      rwa [World.size_alloc] at h
    · refine (hb1.block (w.heap.size + 2) (by omega)).trans ((Below.heap_alloc _ _ _ (by simp)).trans ?_)
      have h := Boxed.new ((w.alloc (.cells #[.int .i64 e.page, .string e.name, .string e.text, .bool e.opq, .slice a e.kids.length c] 46)).alloc (.cells #[.int .i64 0] 3)) 3 (.int .i64 0)
      rwa [World.size_alloc, World.size_alloc] at h
    · refine (hb1.block (w.heap.size + 3) (by omega)).trans ?_
      have h := Boxed.new (((w.alloc (.cells #[.int .i64 e.page, .string e.name, .string e.text, .bool e.opq, .slice a e.kids.length c] 46)).alloc (.cells #[.int .i64 0] 3)).alloc (.cells #[.int .i64 0] 3)) 35 (.int .i64 0)
      rwa [World.size_alloc, World.size_alloc, World.size_alloc] at h
    · exact (hb1.block w.heap.size (by omega)).trans ((Below.heap_alloc _ _ _ (by simp; omega)).trans ((Below.heap_alloc _ _ _ (by simp; omega)).trans ((Below.heap_alloc _ _ _ (by simp)).trans (World.alloc_heap_new w _))))
  have hG : ∀ n, SeqG Fence.wide n 0 Tryd.prog 179 #[.pointer (some ⟨w.heap.size + 1 + 1 + 1 + 1, 0, none⟩), .pointer (some ⟨w.heap.size + 1 + 1 + 1 + 1 + 1, 0, none⟩)] encX w.heap.size (fun xs => xs.map (·.1) = preT 13 1 e) (fun pre => pre.map (·.1) <+: preT 13 1 e) (NxX w1 w.heap.size (preT 13 1 e)) w1 :=
    fun n => within_seqG n w.heap.size 13 (by decide) e _ (w.heap.size + 1 + 1 + 1 + 1) (w.heap.size + 1 + 1 + 1 + 1 + 1) w1 (by omega) (AtT.below hB0 _ _ HV.out) ⟨a, c, rfl, hrg⟩ hc2 (by omega) (by omega)
  have HV1 : Hid (AtT w1 w.heap.size e (.agg cs)) := by rw [← hcs]; exact AtT.below hB0 _ _ HV.out
  have HSz : Hid (w1.heap.size = z + 6) := by unfold Hid; omega
  have HZ := Lib.hid hz
  have HCS := Lib.hid hcs
  clear hrg hc2 hz1 hb1 hB0
  rw [hz] at hG ⊢
  rw [hcs]
  have hst0 := st0
  refine wpIn_range_cellsA rfl (by decide) (gf := 179) (lb := #[.pointer (some ⟨z + 1 + 1 + 1 + 1, 0, none⟩), .pointer (some ⟨z + 1 + 1 + 1 + 1 + 1, 0, none⟩)]) rfl trivial (enters_of Tryd.func179 (by kernel_rfl) rfl)
    (hG 8) (by have := HSz.out; omega) (Below.refl _ _) (fun _ => rfl)
    (fun O (pre : List Xe) X => InvC z w cs O pre X)
    (fun cc (pre : List Xe) X => ExC z w cs cc pre X)
    ?own1 ?own2
    ⟨by simp, hst0, by have := HSz.out; omega, fun b hb => by cases hb⟩
    gX (fun x W => (Below.refl _ W).alloc (Nat.le_refl _) _)
    (fun x W => { tmps := #[.agg cs, .pointer (some ⟨z, 0, none⟩), .int .i64 0, .pointer (some ⟨z + 1, 0, none⟩), .pointer (some ⟨z + 1 + 1, 0, none⟩), .pointer (some ⟨z + 1 + 1 + 1, 0, none⟩), .int .i64 (x.1.1 : Int), .pointer (some ⟨W.heap.size, 0, none⟩), .agg cs, .func (.func 179) #[] #[.pointer (some ⟨z + 1 + 1 + 1 + 1, 0, none⟩), .pointer (some ⟨z + 1 + 1 + 1 + 1 + 1, 0, none⟩)], .int .i64 (x.1.1 : Int), x.2, undef, undef, undef, undef, undef, undef, undef, undef, undef, undef, undef, undef, undef, undef, undef, undef, undef, undef, undef], defers := [] }) ?assign ?body ?done ?stop
  case own1 =>
    rintro O O' pre X Y row ⟨h1, h2, h3, h4⟩ hg hr hO
    have hs := HSz.out
    refine ⟨h1, h2.grow hg (fun r e => by have := (hr r e).1; omega), Nat.le_trans h3 hg.size, fun b hb => ?_⟩
    rcases hO b hb with h | h
    · exact h4 b h
    · omega
  case own2 =>
    rintro cc pre X Y row ⟨h0, h1, h2, h3⟩ hg hr
    have hs := HSz.out
    exact ⟨h0, h1, h2.grow hg (fun r e => by have := (hr r e).1; omega), Nat.le_trans h3 hg.size⟩
  case assign =>
    rintro l pre ⟨⟨d, x⟩, u⟩ W K hnx hK
    have hat : AtT w1 z x u := hnx.2
    obtain ⟨_, _, _, a', c', rfl, _⟩ := hat.parts
    clear hnx hat
    unfold encX
    unfold gX cellsX at hK
    simp only at hK
    gi_wp2
    exact hK
  case body =>
    rintro l' O pre ⟨⟨d, x⟩, u⟩ W X hW ⟨h1, h2, h3, h4⟩ hnx hXs hXn
    have hat : AtT w1 z x u := hnx.2
    obtain ⟨t1, _, _, a', c', rfl, _⟩ := hat.parts
    have hnew := hXn W.heap.size hW
    unfold gX cellsX at hnew hXs
    rw [World.alloc_heap_new] at hnew
    simp only [World.size_alloc] at hXs
    have hblk : ∀ (Y : World), Below X.heap.size X Y → Y.heap[W.heap.size]? = some (.cells #[.int .i64 x.page, .string x.name, .string x.text, .bool x.opq, .slice a' x.kids.length c'] 46) := fun Y hY => (hY.block W.heap.size (by omega)).trans hnew
    have cC := Lib.hid (fun Y hY => check_any x.page x.name x.text x.opq a' x.kids.length c' t1 Y hY)
    have HTX : Hid (∀ Y, Below z w Y → Lib.Utf8Tabs 2 3 Y) := fun Y hY => HTW.out Y (by rw [HZ.out]; exact hY)
    have hcx : chkT x = chkV x.page x.name x.text x.opq x.kids.length := rfl
    rw [← hcx] at cC
    generalize hDe : deepC (pre.map (·.1)) = D at h2
    generalize hFi : firstC (pre.map (·.1)) = Fi at h2
    have HDe := Lib.hid hDe
    have HFi := Lib.hid hFi
    generalize hcxe : chkT x = cx at cC
    have HCX := Lib.hid hcxe
    clear hDe hFi hcxe
    have H2 := Lib.hid h2
    have H4 := Lib.hid h4
    have hcn := h2.bn.cell
    have hcd := h2.bd.cell
    have hcf := h2.bf.cell
    have hfn := h2.bn.frozen
    have hfd := h2.bd.frozen
    have hff := h2.bf.frozen
    have hw : wrap64 ((pre.length : Int) + 1) = (pre.length : Int) + 1 := by unfold wrap64; omega
    clear hat hnx h2 hXn hcx
    have hcell : ∀ k v, (#[.int .i64 x.page, .string x.name, .string x.text, .bool x.opq, .slice a' x.kids.length c'] : Array Value)[k]? = some v → X.cell? ⟨W.heap.size, k, none⟩ = some v := fun k v hv => by
      unfold World.cell?
      rw [hnew]
      simpa using hv
    have y0 := hcell 0 _ rfl
    have y1 := hcell 1 _ rfl
    have y2 := hcell 2 _ rfl
    have y3 := hcell 3 _ rfl
    have y4 := hcell 4 _ rfl
    have n1 : W.heap.size ≠ z + 1 := by have := HSz.out; omega
    have n2 : W.heap.size ≠ z + 1 + 1 := by have := HSz.out; omega
    have n3 : W.heap.size ≠ z + 1 + 1 + 1 := by have := HSz.out; omega
    clear hcell hnew
    have st1 := Lib.hid (H2.out.setD (max (D : Int) (d : Int)))
    have HNo : Hid (∀ k, k < 6 → z + k ∉ O) := fun k hk hb => by have := H4.out _ hb; omega
    have K1 : Hid (KpG z O X (X.setCell ⟨z + 1 + 1, 0, none⟩ (.int .i64 (max (D : Int) (d : Int))))) := KpG.store X _ (HNo.out 2 (by decide)) (by omega)
    have R1 : Hid (KeepsFrom w1.heap.size X (X.setCell ⟨z + 1 + 1, 0, none⟩ (.int .i64 (max (D : Int) (d : Int))))) := (KeepsOthers.setCell _ _ _).from _
    have S1 : Hid (z + 6 ≤ (X.setCell ⟨z + 1 + 1, 0, none⟩ (.int .i64 (max (D : Int) (d : Int)))).heap.size) := by unfold Hid; rw [size_setCell]; exact h3
    have HL1 := Lib.hid h1
    clear h3
    by_cases hf0 : Fi = 0
    · have hq : (Fi == 0) = true := by rw [beq_iff_eq]; exact hf0
      have HFx : Hid (cx = if Fi = 0 then chkT x else Fi) := by unfold Hid; rw [if_pos hf0, HCX.out]
      clear hf0
      by_cases hlt : pre.length + 1 < 5000
      · have hq5 : ((pre.length : Int) + 1 == 5000) = false := q5_no hlt
        have HLt := Lib.hid hlt
        clear hlt h1
        gi_wp2_with (refine ⟨trivial, ?_⟩; gi_at_call 146; refine (calls_round (cC.out _ (HTX.out _ st1.out.hb))).mono ?_; rintro r X2 ⟨rfl, hb2⟩; have st2 := Lib.hid (st1.out.below hb2); have hcn2 := st2.out.bn.cell; have hcf2 := st2.out.bf.cell; have hfn2 := st2.out.bn.frozen; have hff2 := st2.out.bf.frozen)
        have K2 := K1.out.trans (KpG.of_below (O := O) hb2 (Nat.le_trans (Nat.le_add_right z 6) S1.out))
        have R2 := R1.out.trans (keeps_below w1.heap.size hb2)
        exact ⟨R2.trans (((KeepsOthers.setCell _ _ _).from _).trans ((KeepsOthers.setCell _ _ _).from _)), K2.trans ((KpG.store X2 (.int .i64 cx) (HNo.out 3 (by decide)) (Nat.le_add_right z 3)).trans (KpG.store _ (.int .i64 ((pre.length : Int) + 1)) (HNo.out 1 (by decide)) (Nat.le_add_right z 1))),
          InvC.next HLt.out ((st2.out.setF cx).setN _) HFx.out HDe.out HFi.out (by rw [size_setCell, size_setCell]; exact Nat.le_trans S1.out hb2.size) H4.out⟩
      · have hq5 : ((pre.length : Int) + 1 == 5000) = true := q5_yes h1 hlt
        have HLt := Lib.hid hlt
        clear hlt h1
        gi_wp2_with (refine ⟨trivial, ?_⟩; gi_at_call 146; refine (calls_round (cC.out _ (HTX.out _ st1.out.hb))).mono ?_; rintro r X2 ⟨rfl, hb2⟩; have st2 := Lib.hid (st1.out.below hb2); have hcn2 := st2.out.bn.cell; have hcf2 := st2.out.bf.cell; have hfn2 := st2.out.bn.frozen; have hff2 := st2.out.bf.frozen)
        have R2 := R1.out.trans (keeps_below w1.heap.size hb2)
        exact ⟨R2.trans (((KeepsOthers.setCell _ _ _).from _).trans ((KeepsOthers.setCell _ _ _).from _)),
          ExC.next HL1.out HLt.out ((st2.out.setF cx).setN _) HFx.out HDe.out HFi.out (by rw [size_setCell, size_setCell]; exact Nat.le_trans S1.out hb2.size)⟩
    · have hq : (Fi == 0) = false := by rw [beq_eq_false_iff_ne]; exact hf0
      have HFx : Hid (Fi = if Fi = 0 then chkT x else Fi) := by unfold Hid; rw [if_neg hf0]
      clear hf0
      by_cases hlt : pre.length + 1 < 5000
      · have hq5 : ((pre.length : Int) + 1 == 5000) = false := q5_no hlt
        have HLt := Lib.hid hlt
        clear hlt h1
        gi_wp2
        exact ⟨R1.out.trans ((KeepsOthers.setCell _ _ _).from _), K1.out.trans (KpG.store _ (.int .i64 ((pre.length : Int) + 1)) (HNo.out 1 (by decide)) (Nat.le_add_right z 1)),
          InvC.next HLt.out (st1.out.setN _) HFx.out HDe.out HFi.out (by have := S1.out; rw [size_setCell]; exact this) H4.out⟩
      · have hq5 : ((pre.length : Int) + 1 == 5000) = true := q5_yes h1 hlt
        have HLt := Lib.hid hlt
        clear hlt h1
        gi_wp2
        exact ⟨R1.out.trans ((KeepsOthers.setCell _ _ _).from _), ExC.next HL1.out HLt.out (st1.out.setN _) HFx.out HDe.out HFi.out (by have := S1.out; rw [size_setCell]; exact this)⟩
  case done =>
    rintro D O ys X hD hys ⟨h1, h2, h3, h4⟩ hK
    have HE : Hid (chkA e = if 12 < deepC (ys.map (·.1)) then 9 else if 2000 < wgt e then 4 else firstC (ys.map (·.1))) := by
      have : (preT 13 1 e).take 5000 = ys.map (·.1) := by rw [← hys, List.take_of_length_le (by rw [List.length_map]; omega)]
      unfold Hid chkA; rw [this]
    have hD6 : z + 6 ≤ D := by have := HSz.out; omega
    have HD6 := Lib.hid hD6
    clear hys h1 h3 h4 hD hD6
    generalize deepC (ys.map (·.1)) = Dp at *
    generalize firstC (ys.map (·.1)) = Fi at *
    have HB := Lib.hid h2.hb
    have hcd := h2.bd.cell
    have hcf := h2.bf.cell
    have hav : AtT X X.heap.size e (.agg cs) := by
      have h5 := AtT.below h2.hb _ _ (show AtT w z e (.agg cs) by rw [← HZ.out, ← HCS.out]; exact HV.out)
      exact AtT.mono (by have h9 := h2.hb.size; have h8 := HZ.out; omega) _ _ h5
    obtain ⟨_, _, _, a2, c2, hcs2, _⟩ := hav.parts
    have cWt := Lib.hid (weight_any e _ X hav)
    have hcell : ∀ k v, cs[k]? = some v → X.cell? ⟨z, k, none⟩ = some v := fun k v hv => by
      unfold World.cell?
      rw [h2.bx]
      simpa using hv
    have HDl : Hid (D < X.heap.size) := (Array.getElem?_eq_some_iff.1 hK).1
    have HX2 := Lib.hid h2
    simp only [Value.agg.injEq] at hcs2
    subst hcs2
    have y0 := hcell 0 _ rfl
    have y1 := hcell 1 _ rfl
    have y2 := hcell 2 _ rfl
    have y3 := hcell 3 _ rfl
    have y4 := hcell 4 _ rfl
    clear hcell h2 hav
    by_cases h12 : 12 < Dp
    · have i12 : (12 : Int) < (Dp : Int) := Int.ofNat_lt.2 h12
      have HR : Hid (chkA e = 9) := by unfold Hid; rw [HE.out, if_pos h12]
      clear h12
      gi_wp2
      refine ⟨by simp, .inl ⟨_, _, rfl, run_takeDeferred hK, ?_⟩⟩
      exact ⟨_, results_tmp rfl _ _ _, by rw [HR.out]; rfl, HB.out.trans (below_put _ D _ (Nat.le_trans (Nat.le_add_right z 6) HD6.out))⟩
    · have i12 : ¬ (12 : Int) < (Dp : Int) := fun h => h12 (Int.ofNat_lt.1 h)
      have HE2 : Hid (chkA e = if 2000 < wgt e then 4 else Fi) := by unfold Hid; rw [HE.out, if_neg h12]
      clear h12
      generalize hwg : wgt e = wg at cWt
      by_cases hw2 : 2000 < wg
      · have iw2 : (2000 : Int) < (wg : Int) := Int.ofNat_lt.2 hw2
        have HR : Hid (chkA e = 4) := by unfold Hid; rw [HE2.out, hwg, if_pos hw2]
        clear hw2 hwg
        gi_wp2_with (refine ⟨trivial, ?_⟩; gi_at_call 147; refine (callsIn_wide.2 cWt.out).mono ?_; rintro r w5 ⟨rfl, hb5⟩)
        have hK5 := (hb5.block D HDl.out).trans hK
        refine ⟨by simp, .inl ⟨_, _, rfl, run_takeDeferred hK5, ?_⟩⟩
        exact ⟨_, results_tmp rfl _ _ _, by rw [HR.out]; rfl, by rw [HZ.out]; exact (HB.out.trans (hb5.mono (by have h9 := HB.out.size; have h8 := HZ.out; omega))).trans (below_put _ D _ (Nat.le_trans (Nat.le_add_right z 6) HD6.out))⟩
      · have iw2 : ¬ (2000 : Int) < (wg : Int) := fun h => hw2 (Int.ofNat_lt.1 h)
        have HR : Hid (chkA e = Fi) := by unfold Hid; rw [HE2.out, hwg, if_neg hw2]
        clear hw2 hwg
        gi_wp2_with (refine ⟨trivial, ?_⟩; gi_at_call 147; refine (callsIn_wide.2 cWt.out).mono ?_; rintro r w5 ⟨rfl, hb5⟩; have hcf5 := (HX2.out.below hb5).bf.cell)
        have hK5 := (hb5.block D HDl.out).trans hK
        refine ⟨by simp, .inl ⟨_, _, rfl, run_takeDeferred hK5, ?_⟩⟩
        exact ⟨_, results_tmp rfl _ _ _, by rw [HR.out]; rfl, by rw [HZ.out]; exact (HB.out.trans (hb5.mono (by have h9 := HB.out.size; have h8 := HZ.out; omega))).trans (below_put _ D _ (Nat.le_trans (Nat.le_add_right z 6) HD6.out))⟩
  case stop =>
    rintro D cc pre X hD hpre ⟨rfl, h1, h2, h3⟩ hK
    have HE : Hid (chkA e = if 12 < deepC (pre.map (·.1)) then 9 else if 2000 < wgt e then 4 else firstC (pre.map (·.1))) := by
      have : (preT 13 1 e).take 5000 = pre.map (·.1) := by
        obtain ⟨r, hr⟩ := hpre
        rw [← hr, List.take_append_of_le_length (by rw [List.length_map]; omega), List.take_of_length_le (by rw [List.length_map]; omega)]
      unfold Hid chkA; rw [this]
    have hD6 : z + 6 ≤ D := by have := HSz.out; omega
    have HD6 := Lib.hid hD6
    clear hpre h1 h3 hD hD6
    generalize deepC (pre.map (·.1)) = Dp at *
    generalize firstC (pre.map (·.1)) = Fi at *
    have HB := Lib.hid h2.hb
    have hcd := h2.bd.cell
    have hcf := h2.bf.cell
    have hav : AtT X X.heap.size e (.agg cs) := by
      have h5 := AtT.below h2.hb _ _ (show AtT w z e (.agg cs) by rw [← HZ.out, ← HCS.out]; exact HV.out)
      exact AtT.mono (by have h9 := h2.hb.size; have h8 := HZ.out; omega) _ _ h5
    obtain ⟨_, _, _, a2, c2, hcs2, _⟩ := hav.parts
    have cWt := Lib.hid (weight_any e _ X hav)
    have hcell : ∀ k v, cs[k]? = some v → X.cell? ⟨z, k, none⟩ = some v := fun k v hv => by
      unfold World.cell?
      rw [h2.bx]
      simpa using hv
    have HDl : Hid (D < X.heap.size) := (Array.getElem?_eq_some_iff.1 hK).1
    have HX2 := Lib.hid h2
    simp only [Value.agg.injEq] at hcs2
    subst hcs2
    have y0 := hcell 0 _ rfl
    have y1 := hcell 1 _ rfl
    have y2 := hcell 2 _ rfl
    have y3 := hcell 3 _ rfl
    have y4 := hcell 4 _ rfl
    clear hcell h2 hav
    by_cases h12 : 12 < Dp
    · have i12 : (12 : Int) < (Dp : Int) := Int.ofNat_lt.2 h12
      have HR : Hid (chkA e = 9) := by unfold Hid; rw [HE.out, if_pos h12]
      clear h12
      gi_wp2
      refine ⟨by simp, .inl ⟨_, _, rfl, run_takeDeferred hK, ?_⟩⟩
      exact ⟨_, results_tmp rfl _ _ _, by rw [HR.out]; rfl, HB.out.trans (below_put _ D _ (Nat.le_trans (Nat.le_add_right z 6) HD6.out))⟩
    · have i12 : ¬ (12 : Int) < (Dp : Int) := fun h => h12 (Int.ofNat_lt.1 h)
      have HE2 : Hid (chkA e = if 2000 < wgt e then 4 else Fi) := by unfold Hid; rw [HE.out, if_neg h12]
      clear h12
      generalize hwg : wgt e = wg at cWt
      by_cases hw2 : 2000 < wg
      · have iw2 : (2000 : Int) < (wg : Int) := Int.ofNat_lt.2 hw2
        have HR : Hid (chkA e = 4) := by unfold Hid; rw [HE2.out, hwg, if_pos hw2]
        clear hw2 hwg
        gi_wp2_with (refine ⟨trivial, ?_⟩; gi_at_call 147; refine (callsIn_wide.2 cWt.out).mono ?_; rintro r w5 ⟨rfl, hb5⟩)
        have hK5 := (hb5.block D HDl.out).trans hK
        refine ⟨by simp, .inl ⟨_, _, rfl, run_takeDeferred hK5, ?_⟩⟩
        exact ⟨_, results_tmp rfl _ _ _, by rw [HR.out]; rfl, by rw [HZ.out]; exact (HB.out.trans (hb5.mono (by have h9 := HB.out.size; have h8 := HZ.out; omega))).trans (below_put _ D _ (Nat.le_trans (Nat.le_add_right z 6) HD6.out))⟩
      · have iw2 : ¬ (2000 : Int) < (wg : Int) := fun h => hw2 (Int.ofNat_lt.1 h)
        have HR : Hid (chkA e = Fi) := by unfold Hid; rw [HE2.out, hwg, if_neg hw2]
        clear hw2 hwg
        gi_wp2_with (refine ⟨trivial, ?_⟩; gi_at_call 147; refine (callsIn_wide.2 cWt.out).mono ?_; rintro r w5 ⟨rfl, hb5⟩; have hcf5 := (HX2.out.below hb5).bf.cell)
        have hK5 := (hb5.block D HDl.out).trans hK
        refine ⟨by simp, .inl ⟨_, _, rfl, run_takeDeferred hK5, ?_⟩⟩
        exact ⟨_, results_tmp rfl _ _ _, by rw [HR.out]; rfl, by rw [HZ.out]; exact (HB.out.trans (hb5.mono (by have h9 := HB.out.size; have h8 := HZ.out; omega))).trans (below_put _ D _ (Nat.le_trans (Nat.le_add_right z 6) HD6.out))⟩
end Go.Proofs.YtgechifbbhipaaaDoor
