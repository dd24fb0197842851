/- parts: Split. No condition but the text's size. -/
import Derived.Test.YtcpmgnejbfnnjaaPtE
import Derived.RangeFuncCalls
import Derived.RegionTactic
import Derived.Stop.RegionWithIn
namespace Go.Proofs.Ytcpmgnejbfnnjaa
open Go.RowKit Go.Shelf

attribute [local go_sem] Oper.semAt_some

theorem hmfP : ∀ (fn : Fn) (first cap : Array Value) (w : World), (Instr.makeFunc fn first cap).run Try.prog w = .ok (.func fn first cap) w := fun _ _ _ _ => rfl

theorem each_any (s : ByteArray) (wb : Nat) (w : World) :
    Calls Try.prog 39 #[.string s, .pointer (some ⟨wb, 0, none⟩)] w fun e w' => e = .returned (.func (.func 45) #[] #[.pointer (some ⟨w.heap.size, 0, none⟩), .pointer (some ⟨w.heap.size + 1, 0, none⟩)]) ∧
      w'.cell? ⟨w.heap.size, 0, none⟩ = some (.string s) ∧ w'.cell? ⟨w.heap.size + 1, 0, none⟩ = some (.pointer (some ⟨wb, 0, none⟩)) ∧ w'.heap.size = w.heap.size + 2 ∧ Below w.heap.size w w' := by
  have hm := hmfP
  go_enter Try.func39, Try.ntmps39
  go_wp2
  go_ret
  refine ⟨rfl, ?_, ?_, by simp, ((Below.refl _ _).alloc (Nat.le_refl _) _).alloc (by simp) _⟩
  · rw [World.cell?_alloc_past _ _ _ (by simp), World.cell?_alloc_at _ _ _ _ rfl]; rfl
  · rw [World.cell?_alloc_at _ _ _ _ (by simp)]; rfl

/-- what a round keeps -/
def KpE (bx bw wb : Nat) (s : ByteArray) (v0 : Value) (W W' : World) : Prop := (Env bx bw wb s v0 W → Env bx bw wb s v0 W') ∧ W.heap.size ≤ W'.heap.size
theorem KpE.trans {bx bw wb : Nat} {s : ByteArray} {v0 : Value} {A B C : World} (h : KpE bx bw wb s v0 A B) (k : KpE bx bw wb s v0 B C) : KpE bx bw wb s v0 A C := ⟨fun e => k.1 (h.1 e), Nat.le_trans h.2 k.2⟩
theorem cell_put {W : World} {l : Nat} {o o' : Obj} {b i : Nat} {v : Value} (hl : W.heap[l]? = some o) (ho : o.isCells = false) (h : W.cell? ⟨b, i, none⟩ = some v) : (W.putObj l o').cell? ⟨b, i, none⟩ = some v ∧ (W.putObj l o').frozen? ⟨b, i, none⟩ = W.frozen? ⟨b, i, none⟩ := by
  have hne : b ≠ l := by
    rintro rfl
    obtain ⟨o2, ho2, hc⟩ := cells_of_cell h
    rw [hl] at ho2; cases ho2; rw [ho] at hc; cases hc
  have hb : (W.putObj l o').heap[b]? = W.heap[b]? := World.putObj_heap_other hne
  exact ⟨(World.cell?_of_block (a := ⟨b, i, none⟩) hb).trans h, World.frozen?_of_block (a := ⟨b, i, none⟩) hb⟩
theorem KpE.put {bx bw wb : Nat} {s : ByteArray} {v0 : Value} (W : World) (l : Nat) (o o' : Obj) (hl : W.heap[l]? = some o) (ho : o.isCells = false) : KpE bx bw wb s v0 W (W.putObj l o') :=
  ⟨fun ⟨h1, h2, h3, h4⟩ => ⟨(cell_put hl ho h1).1, (cell_put hl ho h2).1, (cell_put hl ho h3).1, (cell_put hl ho h3).2.trans h4⟩, by simp [World.putObj]⟩

def EachEnd (wb : Nat) (s : ByteArray) (v0 : Value) (xs : List ByteArray) (W : World) : Prop := xs = PartsOf s ∧ W.cell? ⟨wb, 0, none⟩ = some (wrongV s v0) ∧ W.frozen? ⟨wb, 0, none⟩ = false

theorem each_seqC (n : Nat) (hn : 1 ≤ n) (bx bw wb : Nat) (s : ByteArray) (hs : s.size ≤ 1000000) (v0 : Value) (w : World) (hE : Env bx bw wb s v0 w) :
    SeqC Fence.wide n Try.prog 45 #[.pointer (some ⟨bx, 0, none⟩), .pointer (some ⟨bw, 0, none⟩)] (fun x : ByteArray => #[Value.string x]) (KpE bx bw wb s v0) (fun _ b => b = wb) (fun _ => 0) (EachEnd wb s v0) (fun pre => pre <+: PartsOf s) (PartsOf s).length w := fun l J Jx W hW hJ _ hL hY h0 =>
  each1_in n hn l bx bw wb s hs v0 (KpE bx bw wb s v0) (fun _ _ h => h.1) J Jx W.heap.size hJ (fun pre W v h => hL pre W wb v rfl h)
    (fun pre x W1 hj hp => hY pre x W1 hj (by have := hp.length_le; simp at this; omega) (Nat.zero_le _)) W (hE.below hW) h0

/-- all below n stays but the blocks B and C -/
structure BelowB2 (n B C : Nat) (w w' : World) : Prop where
  os : w'.os = w.os
  tape : w'.tape = w.tape
  output : w'.output = w.output
  size : w.heap.size ≤ w'.heap.size
  block : ∀ k, k < n → k ≠ B → k ≠ C → w'.heap[k]? = w.heap[k]?
theorem BelowB2.refl (n B C : Nat) (w : World) : BelowB2 n B C w w := ⟨rfl, rfl, rfl, Nat.le_refl _, fun _ _ _ _ => rfl⟩
theorem BelowB2.but {n B C : Nat} {a b c : World} (h : BelowB2 n B C a b) (k : BelowBut n B b c) : BelowB2 n B C a c :=
  ⟨k.os.trans h.os, k.tape.trans h.tape, k.output.trans h.output, Nat.le_trans h.size k.size, fun i hi hB hC => (k.block i hi hB).trans (h.block i hi hB hC)⟩
theorem BelowB2.store {n B C : Nat} {a b : World} (h : BelowB2 n B C a b) (v : Value) : BelowB2 n B C a (b.setCell ⟨C, 0, none⟩ v) :=
  ⟨h.os, h.tape, h.output, by simpa [World.setCell] using h.size, fun i hi hB hC => (Below.heap_setCell _ _ _ _ hC).trans (h.block i hi hB hC)⟩
theorem BelowB2.below {n B C m : Nat} {w w' : World} (h : BelowB2 n B C w w') (h1 : m ≤ n) (h2 : m ≤ B) (h3 : m ≤ C) : Below m w w' :=
  ⟨h.os, h.tape, h.output, h.size, fun k hk => h.block k (by omega) (by omega) (by omega)⟩
theorem ownFrom_b2 {β : Type} {n B C D : Nat} {w₀ : World} (hn : n ≤ w₀.heap.size) (hC : n ≤ D) : OwnFrom D (fun (_ : β) (W : World) => BelowB2 n B C w₀ W) :=
  fun _ W W' row hs hg hr => ⟨hg.os.trans hs.os, hg.tape.trans hs.tape, hg.output.trans hs.output, Nat.le_trans hs.size hg.size, fun k hk h1 h2 => (hg.block k (by have := hs.size; omega) (fun e => by have := (hr k e.symm).1; omega)).trans (hs.block k hk h1 h2)⟩

theorem KpE.of_but {bx bw wb n B : Nat} {s : ByteArray} {v0 : Value} {X X' : World} (h : BelowBut n B X X') (h1 : bx < n ∧ bx ≠ B) (h2 : bw < n ∧ bw ≠ B) (h3 : wb < n ∧ wb ≠ B) : KpE bx bw wb s v0 X X' :=
  ⟨fun ⟨a, b, c, d⟩ => ⟨(h.cell h1.1 h1.2).trans a, (h.cell h2.1 h2.2).trans b, (h.cell h3.1 h3.2).trans c, (World.frozen?_of_block (a := ⟨wb, 0, none⟩) (h.block wb h3.1 h3.2)).trans d⟩, h.size⟩
theorem endOwn (wb B : Nat) (s : ByteArray) (v0 : Value) : OwnFrom B (EachEnd wb s v0) := fun _ _ _ _ hs hg hr =>
  ⟨hs.1, cell_kept hs.2.1 hg (fun r e => (hr r e).2), (frozen_kept hs.2.1 hg (fun r e => (hr r e).2)).trans hs.2.2⟩

theorem S52 : Sl1 Try.prog 52 9 (.string ByteArray.empty) 16 := ⟨Try.underlying52, by kernel_rfl, rfl⟩

/-- Split's answer -/
def SplitP (s : ByteArray) (w : World) (e : Ending) (w' : World) : Prop :=
  (0 ≤ WrongAt s ∧ e = .returned (.tuple #[.slice none 0 0, .int .i64 (WrongAt s), .int .i64 3]) ∧ Below w.heap.size w w') ∨
  (WrongAt s = -1 ∧ ∃ a c, e = .returned (.tuple #[.slice a (PartsOf s).length c, .int .i64 0, .int .i64 0]) ∧ w'.ownsRow w.heap.size 9 1 (.slice a (PartsOf s).length c) (PartsOf s).length ((PartsOf s).map Value.string) ∧ Below w.heap.size w w')

set_option maxRecDepth 100000 in
set_option maxHeartbeats 4000000 in
theorem split_any (s : ByteArray) (hs : s.size ≤ 1000000) (w : World) : Calls Try.prog 26 #[.string s] w (SplitP s w) := by
  obtain ⟨i0, hi, hz0, hz1, hz2⟩ := info_parts S52.info
  have hl := parts_len s
  have HL := Lib.hid (fun wb w => each_any s wb w)
  refine (callsIn_wide (n := 9)).1 ?_
  refine callsIn_of_wp_marks Try.func26 rfl trivial ?_ rfl
  simp only [Try.ntmps26, List.size_toArray, List.length_cons, List.length_nil, Nat.reduceAdd, Nat.reduceSub, Array.replicate_succ, Array.replicate_zero, List.push_toArray, List.append_toArray, List.nil_append, List.cons_append]
  gi_wp2_with (refine ⟨trivial, ?_⟩; gi_at_call 39; refine (callsIn_wide.2 (HL.out _ _)).mono ?_; rintro e w1 ⟨rfl, hcx, hcy, hz1', hb1⟩)
  simp only [World.size_alloc] at hcx hcy hz1' hb1
  have hE : Env (w.heap.size + 1 + 1) (w.heap.size + 1 + 1 + 1) (w.heap.size + 1) s (.int .i64 (-1)) w1 := by
    refine ⟨hcx, hcy, (hb1.cell (p := ⟨w.heap.size + 1, 0, none⟩) (by show w.heap.size + 1 < _; omega)).trans ?_, (hb1.frozen (p := ⟨w.heap.size + 1, 0, none⟩) (by show w.heap.size + 1 < _; omega)).trans ?_⟩
    · rw [World.cell?_alloc_at _ _ _ _ (by simp)]; rfl
    · simp
  have bL : Boxed w1 w.heap.size 52 (.slice none 0 0) := (hb1.block w.heap.size (by omega)).trans ((Boxed.new w 52 _).alloc _)
  have hB0 : Below w.heap.size w w1 := (((Below.refl _ w).alloc (Nat.le_refl _) _).alloc (by simp) _).trans (hb1.mono (by omega))
  refine wpIn_range_cells rfl (by decide) (gf := 45) (lb := #[.pointer (some ⟨w.heap.size + 1 + 1, 0, none⟩), .pointer (some ⟨w.heap.size + 1 + 1 + 1, 0, none⟩)]) rfl trivial (enters_of Try.func45 (by kernel_rfl) rfl)
    (each_seqC 8 (by decide) (w.heap.size + 1 + 1) (w.heap.size + 1 + 1 + 1) (w.heap.size + 1) s hs (.int .i64 (-1)) w1 hE) KpE.trans (fun W l o o' _ hl ho _ => KpE.put W l o o' hl ho) (Below.refl _ _) (fun _ => rfl)
    (fun (pre : List ByteArray) X => (∃ v, Boxed X w.heap.size 52 v ∧ X.ownsRow w1.heap.size 9 1 v pre.length (pre.map Value.string) ∧ True) ∧ BelowB2 w1.heap.size w.heap.size (w.heap.size + 1) w1 X)
    (fun _ _ _ => False)
    (OwnFrom.and (Own.from (holdsRow_own w1.heap.size w.heap.size 52 9 1 (fun (pre : List ByteArray) => pre.length) (fun (pre : List ByteArray) => pre.map Value.string) (fun _ _ => True)) _) (ownFrom_b2 (Nat.le_refl _) (Nat.le_refl _)))
    (fun _ _ _ _ _ hs _ _ => hs)
    (fun b hb => by subst hb; omega)
    (fun pre X b v hb hs => by
      subst hb
      obtain ⟨⟨u, hu, hrow, _⟩, hB2⟩ := hs
      exact ⟨⟨u, hu.other (by omega) v, ownsRow_setCell_below hrow (by show w.heap.size + 1 < w1.heap.size; omega) v, trivial⟩, hB2.store v⟩)
    (endOwn _ _ _ _)
    ⟨⟨_, bL, World.ownsRow_nil _ _ _ _, trivial⟩, BelowB2.refl _ _ _ _⟩
    (fun x => { tmps := #[.string s, undef, .slice none 0 0, .int .i64 0, .int .i64 0, .pointer (some ⟨w.heap.size, 0, none⟩), .pointer (some ⟨w.heap.size + 1, 0, none⟩), .string x, .string s, .func (.func 45) #[] #[.pointer (some ⟨w.heap.size + 1 + 1, 0, none⟩), .pointer (some ⟨w.heap.size + 1 + 1 + 1, 0, none⟩)], .string x, undef, undef, undef, undef, undef, undef, undef, undef], defers := [] }) ?assign ?body ?done ?stop
  case assign =>
    intro l x W K hK
    gi_wp2
    exact hK
  case body =>
    rintro l pre x X ⟨⟨v, hv, hrow, _⟩, hB2⟩ hlt _
    obtain ⟨ad, cp, rfl⟩ := own_form hrow
    have hc := hv.cell
    have hX1 := hB2.size
    show Code.wpIn _ _ _ _ _ _ _
    gi_wp2_with (gi_at_builtin; refine wpListIn_append_own _ rfl _ _ 52 rfl w1.heap.size 9 i0 (.string ByteArray.empty) 1 16 Try.underlying52 hi hz0 hz1 hz2 rfl (by decide) _ _ _ rfl (hrow.alloc _) ⟨X.heap.size, 0, none⟩ 1 1 [.string x] rfl rfl (cell_one_new _ _ _) (by simp [Value.oneCell']) (by simp [maxLen]; omega) (by omega) (by simp; omega) ?_; intro v' w3 hown' hgrow _; obtain ⟨g', cap', rfl⟩ := ownsRow_succ hown'; obtain ⟨hv1, hv2, hr2, hk2, hb2⟩ := boxed_app hv (by decide) hrow (by omega) (by omega) hown' hgrow; have hc1 := hv1.cell; have hf1 := hv1.frozen)
    exact ⟨hk2.from _, KpE.of_but hb2 ⟨by omega, by omega⟩ ⟨by omega, by omega⟩ ⟨by omega, by omega⟩, ⟨⟨_, hv2, by simpa using hr2, trivial⟩, hB2.but hb2⟩⟩
  case done =>
    rintro D ys X hD ⟨rfl, hwc, hwf⟩ ⟨⟨v, hv, hrow, _⟩, hB2⟩ hK
    obtain ⟨ad, cp, rfl⟩ := own_form hrow
    have hc := hv.cell
    have hX1 := hB2.size
    have HO := Lib.hid hrow
    clear hrow
    have HBB : Hid (Below w.heap.size w (X.putObj D (.deferred none))) := (hB0.trans (hB2.below (by omega) (Nat.le_refl _) (by omega))).trans (belowK_b (w := w) (Nat.le_refl _) X D _ _ (by omega) hK rfl rfl)
    have HBD : Hid (Below w.heap.size w (X.drew.putObj D (.deferred none))) := (hB0.trans ((hB2.below (by omega) (Nat.le_refl _) (by omega)).drew)).trans (belowK_b (w := w) (Nat.le_refl _) X.drew D _ _ (by omega) hK rfl rfl)
    rcases wrong_lt s with hw | ⟨hw0, hw1⟩
    · have hwv : wrongV s (.int .i64 (-1)) = .int .i64 (-1) := by unfold wrongV; rw [if_neg (by omega)]
      rw [hwv] at hwc
      have HW := Lib.hid hw
      clear hw hwv
      gi_wp2
      refine ⟨by simp, .inl ⟨_, _, rfl, run_takeDeferred hK, ?_⟩⟩
      refine ⟨_, results_tmp3 rfl _ _ _, .inr ⟨HW.out, ad, cp, rfl, ownsRow_putObj (own_base' HO.out (by omega)) _ hK rfl, HBB.out⟩⟩
    · have hwv : wrongV s (.int .i64 (-1)) = .int .i64 (WrongAt s) := by unfold wrongV; rw [if_pos hw0]
      rw [hwv] at hwc
      have HW := Lib.hid hw0
      generalize hq : WrongAt s = q at *
      have HQ := Lib.hid hq
      clear hwv hq
      gi_wp2
      gi_region
      all_goals
        gi_wp2
        refine ⟨by simp, .inl ⟨_, _, rfl, run_takeDeferred hK, ?_⟩⟩
        refine ⟨_, results_tmp3 rfl _ _ _, .inl ⟨by rw [HQ.out]; exact HW.out, by rw [HQ.out]; rfl, HBD.out⟩⟩
  case stop =>
    rintro D cc pre X hD _ h _
    exact h.elim
end Go.Proofs.Ytcpmgnejbfnnjaa
