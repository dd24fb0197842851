/- vocab: Each, its iterator. No condition but the library's table. -/
import Derived.Test.YtcpmgnejbfnnjaaDoorVcF
import Derived.Test.YtcpmgnejbfnnjaaDoorVcN
import Derived.Test.YtcpmgnejbfnnjaaDoorRng3
namespace Go.Proofs.YtcpmgnejbfnnjaaDoor
open Go.RowKit Go.Shelf

attribute [local go_sem] Oper.semAt_some

theorem Each_any (k : Int) (w : World) :
    Calls Tryd.prog 12 #[.int .i64 k] w fun e w' => e = .returned (.func (.func 32) #[] #[.pointer (some ⟨w.heap.size, 0, none⟩)]) ∧
      w'.cell? ⟨w.heap.size, 0, none⟩ = some (.int .i64 k) ∧ w'.heap.size = w.heap.size + 1 ∧ Below w.heap.size w w' := by
  have hm := hmfV
  go_enter Tryd.func12, Tryd.ntmps12
  go_wp2
  go_ret
  refine ⟨rfl, ?_, by simp, (Below.refl _ _).alloc (Nat.le_refl _) _⟩
  rw [World.cell?_alloc_at _ _ _ _ rfl]; rfl

def gapB : ByteArray := ⟨#[45]⟩
theorem gap_is (x : ByteArray) : (x.toList == [45]) = true ↔ x = gapB := by
  rw [ByteArray.toList_eq, beq_iff_eq]
  exact ⟨fun h => Go.WideShapes.bytes_inj h, fun h => by rw [h]; rfl⟩
/-- the tokens of words, from 5 on; a gap has none -/
noncomputable def tkL (l : List ByteArray) : List (Nat × ByteArray) :=
  open Classical in ((l.zipIdx 5).filter fun p => p.1 ≠ gapB).map fun p => (p.2, p.1)
theorem tkL_gap (l : List ByteArray) : tkL (l ++ [gapB]) = tkL l := by
  unfold tkL; rw [List.zipIdx_append, List.filter_append]; simp
theorem tkL_word (l : List ByteArray) (x : ByteArray) (h : x ≠ gapB) : tkL (l ++ [x]) = tkL l ++ [(5 + l.length, x)] := by
  unfold tkL; rw [List.zipIdx_append, List.filter_append]; simp [h]
theorem tkL_pre {l m : List ByteArray} (h : l <+: m) : tkL l <+: tkL m := by
  obtain ⟨r, rfl⟩ := h
  unfold tkL
  rw [List.zipIdx_append, List.filter_append, List.map_append]
  exact List.prefix_append _ _
theorem tkL_len (l : List ByteArray) : (tkL l).length ≤ l.length := by
  unfold tkL; rw [List.length_map]; exact Nat.le_trans (List.length_filter_le _ _) (by simp)

theorem wdsE_len (k : Int) : (wdsE (txt k)).length ≤ 60 := by
  by_cases h0 : k = 0
  · subst h0; exact of_decide_eq_true (by kernel_rfl)
  · by_cases h1 : k = 1
    · subst h1; exact of_decide_eq_true (by kernel_rfl)
    · by_cases h2 : k = 2
      · subst h2; exact of_decide_eq_true (by kernel_rfl)
      · rw [txt_else h0 h1 h2]; exact of_decide_eq_true (by kernel_rfl)

/-- what a round keeps of the iterator's own -/
def KpV (z : Nat) (W W' : World) : Prop := (∀ (b : Nat) (o : Obj), (b = 2 ∨ b = z ∨ b = z + 1 ∨ b = z + 2) → W.heap[b]? = some o → o.isCells = true → W'.heap[b]? = some o) ∧ W.heap.size ≤ W'.heap.size
theorem KpV.trans {z : Nat} {A B C : World} (h : KpV z A B) (k : KpV z B C) : KpV z A C := ⟨fun b o hb ho hc => k.1 b o hb (h.1 b o hb ho hc) hc, Nat.le_trans h.2 k.2⟩
theorem KpV.put {z : Nat} (W : World) (l : Nat) (o o' : Obj) (hl : W.heap[l]? = some o) (ho : o.isCells = false) : KpV z W (W.putObj l o') :=
  ⟨fun b u _ hu hc => by
    have hne : b ≠ l := by rintro rfl; rw [hl] at hu; cases hu; rw [ho] at hc; cases hc
    exact (World.putObj_heap_other hne).trans hu, by simp [World.putObj]⟩
theorem KpV.refl (z : Nat) (W : World) : KpV z W W := ⟨fun _ _ _ h _ => h, Nat.le_refl _⟩
theorem KpV.box {z b t : Nat} {v : Value} {W W' : World} (h : KpV z W W') (hb : b = 2 ∨ b = z ∨ b = z + 1 ∨ b = z + 2) (hx : Boxed W b t v) : Boxed W' b t v := h.1 b _ hb hx rfl
theorem cell_obj {W : World} {b i : Nat} {v : Value} (h : W.cell? ⟨b, i, none⟩ = some v) : ∃ o, W.heap[b]? = some o ∧ o.isCells = true := cells_of_cell h
theorem KpV.cell {z b i : Nat} {v : Value} {W W' : World} (h : KpV z W W') (hb : b = 2 ∨ b = z ∨ b = z + 1 ∨ b = z + 2) (hx : W.cell? ⟨b, i, none⟩ = some v) : W'.cell? ⟨b, i, none⟩ = some v := by
  obtain ⟨o, ho, hc⟩ := cells_of_cell hx
  exact (World.cell?_of_block (a := ⟨b, i, none⟩) ((h.1 b o hb ho hc).trans ho.symm)).trans hx
theorem FcS.blocks {bs : Nat} {s : ByteArray} {W W' : World} (h : FcS bs s W) (h1 : W'.heap[bs]? = W.heap[bs]?) (h2 : W'.heap[2]? = W.heap[2]?) : FcS bs s W' :=
  ⟨(World.cell?_of_block (a := ⟨bs, 0, none⟩) h1).trans h.1, (World.cell?_of_block (a := ⟨2, 32, none⟩) h2).trans h.2.1, fun c e1 e2 e3 => (World.cell?_of_block (a := ⟨2, c, none⟩) h2).trans (h.2.2 c e1 e2 e3)⟩
theorem KpF.store {bs b : Nat} {s : ByteArray} (W : World) (v : Value) (h1 : bs ≠ b) (h2 : 2 ≠ b) : KpF bs s W (W.setCell ⟨b, 0, none⟩ v) :=
  ⟨fun h => h.blocks (Below.heap_setCell _ _ _ _ h1) (Below.heap_setCell _ _ _ _ h2), by simp [World.setCell]⟩
theorem KpF.trans {bs : Nat} {s : ByteArray} {A B C : World} (h : KpF bs s A B) (k : KpF bs s B C) : KpF bs s A C := ⟨fun a => k.1 (h.1 a), Nat.le_trans h.2 k.2⟩
theorem KpF.put {bs : Nat} {s : ByteArray} (W : World) (l : Nat) (o o' : Obj) (hl : W.heap[l]? = some o) (ho : o.isCells = false) : KpF bs s W (W.putObj l o') :=
  ⟨fun h => by
    have hne : ∀ b i v, W.cell? ⟨b, i, none⟩ = some v → b ≠ l := by
      rintro b i v hv rfl
      obtain ⟨o2, ho2, hc⟩ := cells_of_cell hv
      rw [hl] at ho2; cases ho2; rw [ho] at hc; cases hc
    exact h.blocks (World.putObj_heap_other (hne _ _ _ h.1)) (World.putObj_heap_other (hne _ _ _ h.2.1)), by simp [World.putObj]⟩
theorem KpV.kpf {z : Nat} {s : ByteArray} {W W' : World} (h : KpV z W W') : KpF (z + 1 + 1) s W W' :=
  ⟨fun k => ⟨h.cell (.inr (.inr (.inr rfl))) k.1, h.cell (.inl rfl) k.2.1, fun c h1 h2 h3 => h.cell (.inl rfl) (k.2.2 c h1 h2 h3)⟩, h.2⟩
theorem KpV.spt {z : Nat} {W W' : World} (h : KpV z W W') (hx : SpT W) : SpT W' := ⟨h.cell (.inl rfl) hx.1, fun c h1 h2 h3 => h.cell (.inl rfl) (hx.2 c h1 h2 h3)⟩

set_option maxRecDepth 100000 in
set_option maxHeartbeats 4000000 in
theorem each32_seqE (n : Nat) (hn : 4 ≤ n) (bs : Nat) (k : Int) (w : World) (hc : w.cell? ⟨bs, 0, none⟩ = some (.int .i64 k)) (hT : SpT w) :
    SeqE Fence.wide n 3 Tryd.prog 32 #[.pointer (some ⟨bs, 0, none⟩)] (fun x : Nat × ByteArray => #[Value.int .u8 (x.1 : Int), Value.string x.2]) KpV (fun z b => b = z + 1) (fun z => z + 3) (fun xs _ => xs = tkL (wdsE (txt k))) (fun pre => pre <+: tkL (wdsE (txt k))) (fun pre x => pre ++ [x] <+: tkL (wdsE (txt k))) w := by
  intro l J Jx W hW hJ hJx hL hY h0
  have hn1 : 1 ≤ n := by omega
  have hcw : W.cell? ⟨bs, 0, none⟩ = some (.int .i64 k) := (hW.cell (p := ⟨bs, 0, none⟩) (World.block_lt_of_cell? _ _ hc)).trans hc
  have hlt : bs < W.heap.size := World.block_lt_of_cell? _ _ hcw
  have HTW := Lib.hid (hT.below hW hT.lt)
  clear hT hc hW
  have HN := Lib.hid (fun w => names_any k w)
  have HFd := Lib.hid (fun w => fields_any (txt k) w)
  have HOk := Lib.hid (txt_ok k)
  have HSz := Lib.hid (txt_size k)
  have HLn := Lib.hid (wdsE_len k)
  generalize txt k = s at *
  refine callsIn_of_wp_marks Tryd.func32 rfl trivial ?_ rfl
  simp only [Tryd.ntmps32, List.size_toArray, List.length_cons, List.length_nil, Nat.reduceAdd, Nat.reduceSub, Array.replicate_succ, Array.replicate_zero, List.push_toArray, List.append_toArray, List.nil_append, List.cons_append]
  have HJ0 := Lib.hid h0
  clear h0
  gi_wp2_with (first | (refine ⟨trivial, ?_⟩; gi_at_call 34; refine (callsIn_wide.2 (HN.out _)).mono ?_; rintro e w1 ⟨rfl, rfl⟩) | (refine ⟨trivial, ?_⟩; gi_at_call 33; refine (callsIn_wide.2 (HFd.out _)).mono ?_; rintro e w2 ⟨rfl, hcx, hz1, hb1⟩))
  simp only [World.size_alloc] at hcx hz1 hb1
  have hT2 : SpT w2 := HTW.out.below (((Below.refl _ W).alloc (Nat.le_refl _) _ |>.alloc (by simp) _).trans (hb1.mono (by omega))) HTW.out.lt
  have bY : Boxed w2 W.heap.size 48 (.func (.yield l) #[] #[]) := (hb1.block W.heap.size (by omega)).trans ((Boxed.new W 48 _).alloc _)
  have bT : Boxed w2 (W.heap.size + 1) 5 (.int .u8 5) := (hb1.block (W.heap.size + 1) (by omega)).trans (by have h := Boxed.new (W.alloc (.cells #[.func (.yield l) #[] #[]] 48)) 5 (.int .u8 5); rwa [World.size_alloc] at h)
  have hJ2 : J [] w2 := by
    refine hJ [] W w2 none HJ0.out ⟨?_, ?_, ?_, ?_, ?_⟩ (fun r e => by cases e)
    · exact hb1.os
    · exact hb1.tape
    · exact hb1.output
    · omega
    · intro q hq _
      exact (hb1.block q (by omega)).trans ((Below.heap_alloc _ _ _ (by simp; omega)).trans (Below.heap_alloc _ _ _ hq))
  refine wpIn_range_cellsE rfl (by omega) (gf := 44) (lb := #[.pointer (some ⟨W.heap.size + 1 + 1, 0, none⟩)]) rfl trivial (enters_of Tryd.func44 (by kernel_rfl) rfl)
    (fld_seqE (n - 1) (by omega) (W.heap.size + 1 + 1) s (by have := HSz.out; omega) HOk.out w2 ⟨hcx, hT2⟩) KpF.trans (fun X p o o' _ hl ho _ => KpF.put X p o o' hl ho) (Below.refl _ _) (fun _ => rfl)
    (fun (pre : List ByteArray) X => J (tkL pre) X ∧ Boxed X (W.heap.size + 1) 5 (.int .u8 ((5 + pre.length : Nat) : Int)) ∧ Boxed X W.heap.size 48 (.func (.yield l) #[] #[]) ∧ W.heap.size + 3 ≤ X.heap.size)
    (fun c (pre : List ByteArray) X => c = .ret ∧ Jx (tkL pre) X)
    ?own1 ?own2 (fun b hb => hb.elim) (fun _ _ _ _ hb _ => hb.elim) (fun _ _ _ _ hs _ _ => hs)
    ⟨hJ2, bT, bY, by omega⟩
    (fun x => { tmps := #[.func (.yield l) #[] #[], .pointer (some ⟨bs, 0, none⟩), .pointer (some ⟨W.heap.size, 0, none⟩), .pointer (some ⟨W.heap.size + 1, 0, none⟩), .string x, .int .i64 k, .string s, .func (.func 44) #[] #[.pointer (some ⟨W.heap.size + 1 + 1, 0, none⟩)], .string x, undef, undef, undef, undef, undef, undef, undef, undef, undef, undef, undef], defers := [] }) ?assign ?body ?done ?stop
  case own1 =>
    rintro pre X Y row ⟨h1, h2, h3, h4⟩ hg hr
    refine ⟨hJ _ X Y row h1 hg (fun r e => ⟨by have := (hr r e).1; omega, (hr r e).2⟩), h2.kept hg (fun e => ?_), h3.kept hg (fun e => ?_), Nat.le_trans h4 hg.size⟩
    · have := (hr _ e.symm).1; omega
    · have := (hr _ e.symm).1; omega
  case own2 =>
    rintro c pre X Y row ⟨h1, h2⟩ hg hr
    exact ⟨h1, hJx _ X Y row h2 hg (fun r e => ⟨by have := (hr r e).1; omega, (hr r e).2⟩)⟩
  case assign =>
    intro l x W K hK
    gi_wp2
    exact hK
  case body =>
    rintro l' pre x X ⟨hj, ht, hy, hz⟩ hlt _
    by_cases hg : x = gapB
    · have hq : (x.toList == [45]) = true := (gap_is x).2 hg
      have hc := ht.cell
      have hf := ht.frozen
      have hcy := hy.cell
      have hw : IntKind.u8.wrap (((5 + pre.length : Nat) : Int) + 1) = ((5 + (pre ++ [x]).length : Nat) : Int) := by
        have := HLn.out
        have := hlt.length_le
        simp only [List.length_append, List.length_singleton] at this
        simp [IntKind.wrap, IntKind.signed, IntKind.bits]; omega
      have hT' : Hid (tkL (pre ++ [x]) = tkL pre) := by rw [hg]; exact tkL_gap pre
      have hlen : 5 + (pre ++ [x]).length = 5 + (pre ++ [x]).length := rfl
      generalize 5 + pre.length = q at *
      generalize hq2 : 5 + (pre ++ [x]).length = q2 at *
      have HQ2 := Lib.hid hq2
      clear hlt hg hq2 hlen
      gi_wp2
      refine ⟨(fun f h => by cases h), ?_⟩
      gi_wp2
      refine ⟨(KeepsOthers.setCell _ _ _).from _, KpF.store _ _ (by omega) (by have := HTW.out.lt; omega), ?_, ?_, ?_, ?_⟩
      · rw [hT'.out]; exact hL _ _ _ _ rfl hj
      · rw [HQ2.out]; exact ht.set _
      · exact hy.other (by omega) _
      · simpa [World.setCell] using hz
    · have hq : (x.toList == [45]) = false := by
        cases h : (x.toList == [45]) with
        | false => rfl
        | true => exact absurd ((gap_is x).1 h) hg
      have hc := ht.cell
      have hf := ht.frozen
      have hcy := hy.cell
      have hw : IntKind.u8.wrap (((5 + pre.length : Nat) : Int) + 1) = ((5 + (pre ++ [x]).length : Nat) : Int) := by
        have := HLn.out
        have := hlt.length_le
        simp only [List.length_append, List.length_singleton] at this
        simp [IntKind.wrap, IntKind.signed, IntKind.bits]; omega
      have hT' : Hid (tkL (pre ++ [x]) = tkL pre ++ [(5 + pre.length, x)]) := tkL_word pre x hg
      have hn3 : 1 ≤ n - 1 - 1 := by omega
      have hpl : tkL pre ++ [(5 + pre.length, x)] <+: tkL (wdsE s) := by rw [← hT'.out]; exact tkL_pre hlt
      have HYx : Hid (YieldAt Fence.wide (n - 1 - 1 - 1) Tryd.prog l #[.int .u8 ((5 + pre.length : Nat) : Int), .string x] X fun e W' => (e = .returned (.bool true) ∧ J (tkL pre ++ [(5 + pre.length, x)]) W' ∧ KpV W.heap.size X W' ∧ KeepsFrom W.heap.size X W') ∨ (e = .returned (.bool false) ∧ Jx (tkL pre ++ [(5 + pre.length, x)]) W' ∧ KeepsFrom W.heap.size X W')) := hY (tkL pre) (5 + pre.length, x) X hj hpl hz
      generalize 5 + pre.length = q at *
      generalize hq2 : 5 + (pre ++ [x]).length = q2 at *
      have HQ2 := Lib.hid hq2
      clear hlt hg hq2 hpl
      obtain ⟨fn, tmps, assign, body, hyy, hRr⟩ := HYx.out
      clear HYx
      gi_wp2
      refine hRr.mono ?_
      rintro e W3 (⟨rfl, hJ3, hk3, hkf⟩ | ⟨rfl, hJx3, hkf⟩)
      · have ht3 := hk3.box (.inr (.inr (.inl rfl))) ht
        have hy3 := hk3.box (.inr (.inl rfl)) hy
        have hc3 := ht3.cell
        have hf3 := ht3.frozen
        have hsz3 := hk3.2
        have HP : Hid (KpF (W.heap.size + 1 + 1) s X (W3.setCell ⟨W.heap.size + 1, 0, none⟩ (.int .u8 (q2 : Int)))) := KpF.trans hk3.kpf (KpF.store _ _ (by omega) (by have := HTW.out.lt; omega))
        have HKf : Hid (KeepsFrom w2.heap.size X (W3.setCell ⟨W.heap.size + 1, 0, none⟩ (.int .u8 (q2 : Int)))) := (KeepsFrom.trans ⟨hkf.size, fun i o h1 => hkf.same i o (by omega)⟩ ((KeepsOthers.setCell _ _ _).from _))
        clear hk3 hkf
        gi_wp2
        refine ⟨HKf.out, HP.out, ?_, ?_, ?_, ?_⟩
        · rw [hT'.out]; exact hL _ _ _ _ rfl hJ3
        · rw [HQ2.out]; exact ht3.set _
        · exact hy3.other (by omega) _
        · have : W3.heap.size = (W3.setCell ⟨W.heap.size + 1, 0, none⟩ (.int .u8 (q2 : Int))).heap.size := by simp [World.setCell]
          omega
      · have HKf : Hid (KeepsFrom w2.heap.size X W3) := ⟨hkf.size, fun i o h1 => hkf.same i o (by omega)⟩
        clear hkf
        gi_wp2
        exact ⟨HKf.out, rfl, by rw [hT'.out]; exact hJx3⟩
  case done =>
    rintro D ys X hD rfl ⟨hj, ht, hy, hz⟩ hK
    have HJ := Lib.hid (hJ _ X (X.putObj D (.deferred none)) (some D) hj (grownBy_putObj' X D _) (fun r e => by cases e; exact ⟨by omega, _, hK, rfl⟩))
    gi_wp2
    refine ⟨by simp, .inl ⟨_, _, rfl, run_takeDeferred hK, ?_⟩⟩
    refine ⟨_, results_none rfl _ _ _, ⟨_, rfl⟩, .inl ⟨_, rfl, HJ.out⟩⟩
  case stop =>
    rintro D cc pre X hD hp ⟨rfl, hx⟩ hK
    have HJ := Lib.hid (hJx _ X (X.putObj D (.deferred none)) (some D) hx (grownBy_putObj' X D _) (fun r e => by cases e; exact ⟨by omega, _, hK, rfl⟩))
    gi_wp2
    refine ⟨by simp, .inl ⟨_, _, rfl, run_takeDeferred hK, ?_⟩⟩
    refine ⟨_, results_none rfl _ _ _, ⟨_, rfl⟩, .inr ⟨_, tkL_pre hp, HJ.out⟩⟩
end Go.Proofs.YtcpmgnejbfnnjaaDoor
