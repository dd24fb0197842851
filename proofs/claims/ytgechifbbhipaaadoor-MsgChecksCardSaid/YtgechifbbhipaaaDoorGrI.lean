/- grammar: a rule's words, one by one: the program's iterator. No condition but the rule's form and the library's table. -/
import Derived.Test.YtgechifbbhipaaaDoorVcP
import Derived.OwnWalkIn
import Derived.TacticsInMore
set_option linter.unusedVariables false
set_option linter.unusedSimpArgs false
namespace Go.Proofs.YtgechifbbhipaaaDoor
open Go.RowKit Go.Shelf

attribute [local go_sem] Oper.semAt_some

theorem wordsIt_any (s : ByteArray) (w : World) :
    Calls Tryd.prog 142 #[.string s] w fun e w' => e = .returned (.func (.func 176) #[] #[.pointer (some ⟨w.heap.size, 0, none⟩)]) ∧
      w'.cell? ⟨w.heap.size, 0, none⟩ = some (.string s) ∧ w'.heap.size = w.heap.size + 1 ∧ Below w.heap.size w w' := by
  have hm := hmfV
  go_enter Tryd.func142, Tryd.ntmps142
  go_wp2
  go_ret
  refine ⟨rfl, ?_, by simp, (Below.refl _ _).alloc (Nat.le_refl _) _⟩
  rw [World.cell?_alloc_at _ _ _ _ rfl]; rfl

/-- what a round keeps of the iterator's own -/
def KpW (z : Nat) (W W' : World) : Prop := (∀ (b : Nat) (o : Obj), (b = 1 ∨ b = z ∨ b = z + 1) → W.heap[b]? = some o → o.isCells = true → W'.heap[b]? = some o) ∧ W.heap.size ≤ W'.heap.size
theorem KpW.trans {z : Nat} {A B C : World} (h : KpW z A B) (k : KpW z B C) : KpW z A C := ⟨fun b o hb ho hc => k.1 b o hb (h.1 b o hb ho hc) hc, Nat.le_trans h.2 k.2⟩
theorem KpW.put {z : Nat} (W : World) (l : Nat) (o o' : Obj) (hl : W.heap[l]? = some o) (ho : o.isCells = false) : KpW z W (W.putObj l o') :=
  ⟨fun b u _ hu hc => by
    have hne : b ≠ l := by rintro rfl; rw [hl] at hu; cases hu; rw [ho] at hc; cases hc
    exact (World.putObj_heap_other hne).trans hu, by simp [World.putObj]⟩
theorem KpW.box {z b t : Nat} {v : Value} {W W' : World} (h : KpW z W W') (hb : b = 1 ∨ b = z ∨ b = z + 1) (hx : Boxed W b t v) : Boxed W' b t v := h.1 b _ hb hx rfl
theorem KpW.cell {z b i : Nat} {v : Value} {W W' : World} (h : KpW z W W') (hb : b = 1 ∨ b = z ∨ b = z + 1) (hx : W.cell? ⟨b, i, none⟩ = some v) : W'.cell? ⟨b, i, none⟩ = some v := by
  obtain ⟨o, ho, hc⟩ := cells_of_cell hx
  exact (World.cell?_of_block (a := ⟨b, i, none⟩) ((h.1 b o hb ho hc).trans ho.symm)).trans hx
theorem FcS.blocks {bs : Nat} {s : ByteArray} {W W' : World} (h : FcS bs s W) (h1 : W'.heap[bs]? = W.heap[bs]?) (h2 : W'.heap[1]? = W.heap[1]?) : FcS bs s W' :=
  ⟨(World.cell?_of_block (a := ⟨bs, 0, none⟩) h1).trans h.1, (World.cell?_of_block (a := ⟨1, 32, none⟩) h2).trans h.2.1, fun c e1 e2 e3 => (World.cell?_of_block (a := ⟨1, c, none⟩) h2).trans (h.2.2 c e1 e2 e3)⟩
theorem KpF.trans {bs : Nat} {s : ByteArray} {A B C : World} (h : KpF bs s A B) (k : KpF bs s B C) : KpF bs s A C := ⟨fun a => k.1 (h.1 a), Nat.le_trans h.2 k.2⟩
theorem KpF.put {bs : Nat} {s : ByteArray} (W : World) (l : Nat) (o o' : Obj) (hl : W.heap[l]? = some o) (ho : o.isCells = false) : KpF bs s W (W.putObj l o') :=
  ⟨fun h => by
    have hne : ∀ b i v, W.cell? ⟨b, i, none⟩ = some v → b ≠ l := by
      rintro b i v hv rfl
      obtain ⟨o2, ho2, hc⟩ := cells_of_cell hv
      rw [hl] at ho2; cases ho2; rw [ho] at hc; cases hc
    exact h.blocks (World.putObj_heap_other (hne _ _ _ h.1)) (World.putObj_heap_other (hne _ _ _ h.2.1)), by simp [World.putObj]⟩
theorem KpW.kpf {z : Nat} {s : ByteArray} {W W' : World} (h : KpW z W W') : KpF (z + 1) s W W' :=
  ⟨fun k => ⟨h.cell (.inr (.inr rfl)) k.1, h.cell (.inl rfl) k.2.1, fun c h1 h2 h3 => h.cell (.inl rfl) (k.2.2 c h1 h2 h3)⟩, h.2⟩

set_option maxRecDepth 100000 in
set_option maxHeartbeats 4000000 in
theorem words1_seqE (n : Nat) (hn : 4 ≤ n) (bs : Nat) (s : ByteArray) (hs : s.size ≤ 10000) (hok : s.size ≠ 0 → okT s) (w : World) (hc : w.cell? ⟨bs, 0, none⟩ = some (.string s)) (hT : SpT w) :
    SeqE Fence.wide n 3 Tryd.prog 176 #[.pointer (some ⟨bs, 0, none⟩)] (fun x : ByteArray => #[Value.string x]) KpW (fun _ _ => False) (fun z => z + 2) (fun xs _ => xs = wdsE s) (fun pre => pre <+: wdsE s) (fun pre x => pre ++ [x] <+: wdsE s) w := by
  intro l J Jx W hW hJ hJx hL hY h0
  have hn1 : 1 ≤ n := by omega
  have hcw : W.cell? ⟨bs, 0, none⟩ = some (.string s) := (hW.cell (p := ⟨bs, 0, none⟩) (World.block_lt_of_cell? _ _ hc)).trans hc
  have hlt : bs < W.heap.size := World.block_lt_of_cell? _ _ hcw
  have HTW := Lib.hid (hT.below hW hT.lt)
  clear hT hc hW
  have HFd := Lib.hid (fun w => fields_any s w)
  have HOk := Lib.hid hok
  have HSz := Lib.hid hs
  clear hok hs
  refine callsIn_of_wp_marks Tryd.func176 rfl trivial ?_ rfl
  simp only [Tryd.ntmps176, List.size_toArray, List.length_cons, List.length_nil, Nat.reduceAdd, Nat.reduceSub, Array.replicate_succ, Array.replicate_zero, List.push_toArray, List.append_toArray, List.nil_append, List.cons_append]
  have HJ0 := Lib.hid h0
  clear h0
  gi_wp2_with (refine ⟨trivial, ?_⟩; gi_at_call 177; refine (callsIn_wide.2 (HFd.out _)).mono ?_; rintro e w2 ⟨rfl, hcx, hz1, hb1⟩)
  simp only [World.size_alloc] at hcx hz1 hb1
  have hT2 : SpT w2 := HTW.out.below (((Below.refl _ W).alloc (Nat.le_refl _) _).trans (hb1.mono (by omega))) HTW.out.lt
  have bY : Boxed w2 W.heap.size 74 (.func (.yield l) #[] #[]) := (hb1.block W.heap.size (by omega)).trans (Boxed.new W 74 _)
  have hJ2 : J [] w2 := by
    refine hJ [] W w2 none HJ0.out ⟨?_, ?_, ?_, ?_, ?_⟩ (fun r e => by cases e)
    · exact hb1.os
    · exact hb1.tape
    · exact hb1.output
    · omega
    · intro q hq _
      exact (hb1.block q (by omega)).trans (Below.heap_alloc _ _ _ hq)
  refine wpIn_range_cellsE rfl (by omega) (gf := 198) (lb := #[.pointer (some ⟨W.heap.size + 1, 0, none⟩)]) rfl trivial (enters_of Tryd.func198 (by kernel_rfl) rfl)
    (fld_seqE (n - 1) (by omega) (W.heap.size + 1) s (by have := HSz.out; omega) HOk.out w2 ⟨hcx, hT2⟩) KpF.trans (fun X p o o' _ hl ho _ => KpF.put X p o o' hl ho) (Below.refl _ _) (fun _ => rfl)
    (fun (pre : List ByteArray) X => J pre X ∧ Boxed X W.heap.size 74 (.func (.yield l) #[] #[]) ∧ W.heap.size + 2 ≤ X.heap.size)
    (fun c (pre : List ByteArray) X => c = .ret ∧ Jx pre X)
    ?own1 ?own2 (fun b hb => hb.elim) (fun _ _ _ _ hb _ => hb.elim) (fun _ _ _ _ hs _ _ => hs)
    ⟨hJ2, bY, by omega⟩
    (fun x => { tmps := #[.func (.yield l) #[] #[], .pointer (some ⟨bs, 0, none⟩), .pointer (some ⟨W.heap.size, 0, none⟩), .string x, .string s, .func (.func 198) #[] #[.pointer (some ⟨W.heap.size + 1, 0, none⟩)], .string x, undef, undef, undef, undef], defers := [] }) ?assign ?body ?done ?stop
  case own1 =>
    rintro pre X Y row ⟨h1, h3, h4⟩ hg hr
    refine ⟨hJ _ X Y row h1 hg (fun r e => ⟨by have := (hr r e).1; omega, (hr r e).2⟩), h3.kept hg (fun e => ?_), Nat.le_trans h4 hg.size⟩
    have := (hr _ e.symm).1; omega
  case own2 =>
    rintro c pre X Y row ⟨h1, h2⟩ hg hr
    exact ⟨h1, hJx _ X Y row h2 hg (fun r e => ⟨by have := (hr r e).1; omega, (hr r e).2⟩)⟩
  case assign =>
    intro l x W K hK
    gi_wp2
    exact hK
  case body =>
    rintro l' pre x X ⟨hj, hy, hz⟩ hlt2 hm2
    have hcy := hy.cell
    have HYx : Hid (YieldAt Fence.wide (n - 1 - 1 - 1) Tryd.prog l #[.string x] X fun e W' => (e = .returned (.bool true) ∧ J (pre ++ [x]) W' ∧ KpW W.heap.size X W' ∧ KeepsFrom W.heap.size X W') ∨ (e = .returned (.bool false) ∧ Jx (pre ++ [x]) W' ∧ KeepsFrom W.heap.size X W')) := hY pre x X hj hlt2 hz
    clear hlt2
    obtain ⟨fn, tmps, assign, body, hyy, hRr⟩ := HYx.out
    clear HYx
    have hn3 : 1 ≤ n - 1 - 1 := by omega
    gi_wp2
    refine hRr.mono ?_
    rintro e W3 (⟨rfl, hJ3, hk3, hkf⟩ | ⟨rfl, hJx3, hkf⟩)
    · have hy3 := hk3.box (.inr (.inl rfl)) hy
      have HP : Hid (KpF (W.heap.size + 1) s X W3) := hk3.kpf
      have HKf : Hid (KeepsFrom w2.heap.size X W3) := ⟨hkf.size, fun i o h1 => hkf.same i o (by omega)⟩
      have HSz3 : Hid (W.heap.size + 2 ≤ W3.heap.size) := Nat.le_trans hz hk3.2
      clear hk3 hkf
      gi_wp2
      exact ⟨HKf.out, HP.out, hJ3, hy3, HSz3.out⟩
    · have HKf : Hid (KeepsFrom w2.heap.size X W3) := ⟨hkf.size, fun i o h1 => hkf.same i o (by omega)⟩
      clear hkf
      gi_wp2
      exact ⟨HKf.out, rfl, hJx3⟩
  case done =>
    rintro D ys X hD rfl ⟨hj, hy, hz⟩ hK
    have HJ := Lib.hid (hJ _ X (X.putObj D (.deferred none)) (some D) hj (grownBy_putObj' X D _) (fun r e => by cases e; exact ⟨by omega, _, hK, rfl⟩))
    gi_wp2
    refine ⟨by simp, .inl ⟨_, _, rfl, run_takeDeferred hK, ?_⟩⟩
    refine ⟨_, results_none rfl _ _ _, ⟨_, rfl⟩, .inl ⟨_, rfl, HJ.out⟩⟩
  case stop =>
    rintro D cc pre X hD hp ⟨rfl, hx⟩ hK
    have HJ := Lib.hid (hJx _ X (X.putObj D (.deferred none)) (some D) hx (grownBy_putObj' X D _) (fun r e => by cases e; exact ⟨by omega, _, hK, rfl⟩))
    gi_wp2
    refine ⟨by simp, .inl ⟨_, _, rfl, run_takeDeferred hK, ?_⟩⟩
    refine ⟨_, results_none rfl _ _ _, ⟨_, rfl⟩, .inr ⟨_, hp, HJ.out⟩⟩
end Go.Proofs.YtgechifbbhipaaaDoor
