/- charset: Encode, letter by letter. No condition but the text's size and the tables. -/
import Derived.Test.YtcpmgnejbfnnjaaDoorChN
namespace Go.Proofs.YtcpmgnejbfnnjaaDoor
open Go.RowKit Go.Shelf

attribute [local go_sem] Oper.semAt_some

theorem S56 : Sl1 Tryd.prog 56 5 (.int .u8 0) 1 := ⟨Tryd.underlying56, by kernel_rfl, rfl⟩
theorem cell_putE {W : World} {l : Nat} {o o' : Obj} {b i : Nat} {v : Value} (hl : W.heap[l]? = some o) (ho : o.isCells = false) (h : W.cell? ⟨b, i, none⟩ = some v) : (W.putObj l o').cell? ⟨b, i, none⟩ = some v := by
  have hne : b ≠ l := by
    rintro rfl
    obtain ⟨o2, ho2, hc⟩ := cells_of_cell h
    rw [hl] at ho2; cases ho2; rw [ho] at hc; cases hc
  exact (World.cell?_of_block (a := ⟨b, i, none⟩) (World.putObj_heap_other hne)).trans h
theorem KpL.put' (W : World) (l : Nat) (o o' : Obj) (hl : W.heap[l]? = some o) (ho : o.isCells = false) : KpL W (W.putObj l o') :=
  ⟨fun ⟨h1, h2⟩ => ⟨fun c hc => cell_putE hl ho (h1 c hc), fun i hi => ⟨cell_putE hl ho (h2 i hi).1, cell_putE hl ho (h2 i hi).2⟩⟩, by simp [World.putObj]⟩
theorem tabs_butE {n B : Nat} {X X' : World} (h : BelowBut n B X X') (hn : 2 ≤ n) (hB : 2 ≤ B) (hT : Lib.Utf8Tabs 0 1 X) : Lib.Utf8Tabs 0 1 X' :=
  ⟨fun c hc => (h.cell (by omega) (by omega)).trans (hT.1 c hc), fun i hi => ⟨(h.cell (by omega) (by omega)).trans (hT.2 i hi).1, (h.cell (by omega) (by omega)).trans (hT.2 i hi).2⟩⟩
def bv (l : List Nat) : List Value := l.map fun x : Nat => .int .u8 (x : Int)
theorem bv_snoc (l : List Nat) (x : Nat) : bv (l ++ [x]) = bv l ++ [.int .u8 (x : Int)] := by simp [bv]
theorem bv_str (l : List Nat) : strOfNums (l.map fun x : Nat => (x : Int)) = mkT (l.map UInt8.ofNat) := by
  rw [strOfNums_mk, List.map_map]; rfl
theorem KpL.trans' {A B C : World} (h : KpL A B) (k : KpL B C) : KpL A C := ⟨fun a => k.1 (h.1 a), Nat.le_trans h.2 k.2⟩

set_option maxRecDepth 100000 in
set_option maxHeartbeats 8000000 in
theorem enc_few (k : Int) (s : ByteArray) (hs : s.size ≤ 100000) (w : World) (hT : Lib.Utf8Tabs 0 1 w) (hk : k = 1 ∨ k = 2) (hv : (ltS s).2 = true) : Calls Tryd.prog 17 #[.int .i64 k, .string s] w (EncP k s w) := by
  have HY : Hid ((∀ x ∈ (ltS s).1, (x : Int) ≤ mostN k) → encV k s = (mkT ((ltS s).1.map UInt8.ofNat), 0)) := fun h => by unfold encV; rw [if_neg (by omega), if_neg (by rw [hv]; simp), if_neg (by omega), if_pos h]
  have HN : Hid (¬ (∀ x ∈ (ltS s).1, (x : Int) ≤ mostN k) → encV k s = (mkT [], 16)) := fun h => by unfold encV; rw [if_neg (by omega), if_neg (by rw [hv]; simp), if_neg (by omega), if_neg h]
  have hm : mostN k ≤ 255 ∧ 0 ≤ mostN k := by rcases hk with rfl | rfl <;> exact ⟨by decide, by decide⟩
  have e3 : (k == 3) = false := by rw [beq_eq_false_iff_ne]; omega
  have cM := Lib.hid (fun w => most_any k w)
  have cV := Lib.hid (fun w h => valid_any s (by omega) w h)
  have cL := Lib.hid (fun w => letters_any s w)
  have hln := ltS_len s
  rw [hv] at cV
  unfold EncP
  generalize encV k s = R at *
  generalize mostN k = m at *
  obtain ⟨hm1, hm0⟩ := hm
  have hm2 : ¬ m < 0 := by omega
  have HTW := enc_ht m hT
  have HT0 := Lib.hid hT
  clear hk hv hT
  obtain ⟨i0, hi, hz0, hz1, hz2⟩ := info_parts S56.info
  refine (callsIn_wide (n := 9)).1 ?_
  refine callsIn_of_wp_marks Tryd.func17 rfl trivial ?_ rfl
  simp only [Tryd.ntmps17, List.size_toArray, List.length_cons, List.length_nil, Nat.reduceAdd, Nat.reduceSub, Array.replicate_succ, Array.replicate_zero, List.push_toArray, List.append_toArray, List.nil_append, List.cons_append]
  gi_wp2_with (first | (refine ⟨trivial, ?_⟩; gi_at_call 36; refine (callsIn_wide.2 (cM.out _)).mono ?_; rintro e w4 ⟨rfl, rfl⟩) | (refine ⟨trivial, ?_⟩; gi_at_call 11; refine (callsIn_wide.2 (cV.out _ HTW)).mono ?_; rintro e w5 ⟨rfl, hb5⟩; simp only [World.size_alloc] at hb5) | (refine ⟨trivial, ?_⟩; gi_at_call 10; refine (callsIn_wide.2 (cL.out _)).mono ?_; rintro e w6 ⟨rfl, hcx, hz6, hb6⟩))
  have h2w : 2 ≤ w.heap.size := by have := World.block_lt_of_cell? _ _ (HT0.out.2 0 (by decide)).1; exact this
  have h5z := hb5.size
  simp only [World.size_alloc] at h5z hcx hz6 hb6
  have hB5 := enc_bw m hb5
  have b0 : Boxed w6 w.heap.size 9 (.string { data := #[] }) := (hb6.block _ (by omega)).trans ((enc_b0 m hb5).alloc _)
  have b1 : Boxed w6 (w.heap.size + 1) 34 (.int .i64 0) := (hb6.block _ (by omega)).trans ((enc_b1 m hb5).alloc _)
  have b2 : Boxed w6 (w.heap.size + 1 + 1) 21 (.int .i32 m) := (hb6.block _ (by omega)).trans ((enc_b2 m hb5).alloc _)
  have b7 : Boxed w6 w5.heap.size 56 (.slice none 0 0) := (hb6.block _ (by omega)).trans (Boxed.new w5 56 _)
  have hB6 : Below w.heap.size w w6 := (hB5.alloc hB5.size _).trans (hb6.mono (by omega))
  have hT6 : Lib.Utf8Tabs 0 1 w6 := Utf8Tabs_below HT0.out hB6
  clear hb5 hb6 cM cV cL HTW hB5
  generalize w5.heap.size = zB at *
  have hz6a : zB + 2 ≤ w6.heap.size := by omega
  clear hz6
  refine wpIn_range_cells rfl (by decide) (gf := 29) (lb := #[.pointer (some ⟨zB + 1, 0, none⟩)]) rfl trivial (enters_of Tryd.func29 (by kernel_rfl) rfl)
    (let1_seqC 8 (by decide) (zB + 1) s (by omega) w6 hcx hT6) KpL.trans' (fun W l o o' _ hl ho _ => KpL.put' W l o o' hl ho) (Below.refl _ _) (fun _ => rfl)
    (fun (pre : List Nat) X => (∀ x ∈ pre, (x : Int) ≤ m) ∧ (∃ v, Boxed X zB 56 v ∧ X.ownsRow w6.heap.size 5 1 v pre.length (bv pre)) ∧ Boxed X w.heap.size 9 (.string { data := #[] }) ∧ Boxed X (w.heap.size + 1) 34 (.int .i64 0) ∧ Boxed X (w.heap.size + 1 + 1) 21 (.int .i32 m) ∧ Below w.heap.size w X ∧ w6.heap.size ≤ X.heap.size)
    (fun c (pre : List Nat) X => c = .ret ∧ (∃ x ∈ pre, ¬ (x : Int) ≤ m) ∧ Boxed X w.heap.size 9 (.string { data := #[] }) ∧ Boxed X (w.heap.size + 1) 34 (.int .i64 16) ∧ Below w.heap.size w X)
    ?own1 ?own2 (fun b hb => hb.elim) (fun _ _ _ _ hb _ => hb.elim) (fun _ _ _ _ hs _ _ => hs)
    ⟨by simp, ⟨_, b7, World.ownsRow_nil _ _ _ _⟩, b0, b1, b2, hB6, Nat.le_refl _⟩
    (fun x => { tmps := #[.int .i64 k, .string s, undef, undef, .pointer (some ⟨w.heap.size, 0, none⟩), .pointer (some ⟨w.heap.size + 1, 0, none⟩), .pointer (some ⟨w.heap.size + 1 + 1, 0, none⟩), .pointer (some ⟨zB, 0, none⟩), .int .i32 (x : Int), .int .i64 k, .int .i32 m, .bool (decide (m < 0)), .int .i32 m, .bool (decide (m < 0)), .bool false, .string s, .bool true, .bool false, .bool false, .int .i64 k, .bool false, undef, .string s, .func (.func 29) #[] #[.pointer (some ⟨zB + 1, 0, none⟩)], .int .i32 (x : Int), undef, undef, undef, undef, undef, undef, undef, undef, undef, undef], defers := [] }) ?assign ?body ?done ?stop
  case own1 =>
    rintro pre X Y row ⟨h1, ⟨v, h2, h3⟩, h4, h5, h6, h7, h8⟩ hg hr
    have hb := ownFrom_below (β := Unit) (n₀ := w.heap.size) (B := w6.heap.size) (w₀ := w) (Nat.le_refl _) (by omega) () X Y row h7 hg hr
    have hh := (Own.from (holdsRow_own w6.heap.size zB 56 5 1 (fun (pre : List Nat) => pre.length) bv (fun _ _ => True)) w6.heap.size) pre X Y row ⟨v, h2, h3, trivial⟩ hg hr
    obtain ⟨v', h2', h3', _⟩ := hh
    exact ⟨h1, ⟨v', h2', h3'⟩, h4.kept hg (fun e => by have := (hr _ e.symm).1; omega), h5.kept hg (fun e => by have := (hr _ e.symm).1; omega), h6.kept hg (fun e => by have := (hr _ e.symm).1; omega), hb, Nat.le_trans h8 hg.size⟩
  case own2 =>
    rintro c pre X Y row ⟨h1, h2, h4, h5, h7⟩ hg hr
    have hb := ownFrom_below (β := Unit) (n₀ := w.heap.size) (B := w6.heap.size) (w₀ := w) (Nat.le_refl _) (by omega) () X Y row h7 hg hr
    exact ⟨h1, h2, h4.kept hg (fun e => by have := (hr _ e.symm).1; omega), h5.kept hg (fun e => by have := (hr _ e.symm).1; omega), hb⟩
  case assign =>
    intro l x W K hK
    gi_wp2
    exact hK
  case body =>
    rintro l pre x X ⟨h1, ⟨v, hv, hrow⟩, h4, h5, h6, h7, hXb⟩ hlt _
    obtain ⟨ad, cp, rfl⟩ := own_form hrow
    have hc := hv.cell
    have hc4 := h4.cell
    have hc5 := h5.cell
    have hc6 := h6.cell
    have hf4 := h4.frozen
    have hf5 := h5.frozen
    have hX1 := h7.size
    show Code.wpIn _ _ _ _ _ _ _
    by_cases hx : (x : Int) ≤ m
    · have hx2 : ¬ m < (x : Int) := by omega
      have hw : IntKind.u8.wrap (x : Int) = (x : Int) := by simp [IntKind.wrap, IntKind.signed, IntKind.bits]; omega
      gi_wp2_with (gi_at_builtin; refine wpListIn_append_own _ rfl _ _ 56 rfl w6.heap.size 5 i0 (.int .u8 0) 1 1 Tryd.underlying56 hi hz0 hz1 hz2 rfl (by decide) _ _ _ rfl (hrow.alloc _) ⟨X.heap.size, 0, none⟩ 1 1 [.int .u8 (x : Int)] rfl rfl (cell_one_new _ _ _) (by simp [Value.oneCell']) (by simp [maxLen]; omega) (by omega) (by simp; omega) ?_; intro v' w3 hown' hgrow _; obtain ⟨g', cap', rfl⟩ := ownsRow_succ hown'; obtain ⟨hv1, hv2, hr2, hk2, hb2⟩ := boxed_app hv (by decide) hrow (by omega) (by omega) hown' hgrow; have hc1 := hv1.cell; have hf1 := hv1.frozen)
      refine ⟨hk2.from _, ⟨tabs_butE hb2 (by omega) (by omega), hb2.size⟩, ?_, ⟨_, hv2, by rw [bv_snoc]; simpa using hr2⟩, (hb2.block _ (by omega) (by omega)).trans h4, (hb2.block _ (by omega) (by omega)).trans h5, (hb2.block _ (by omega) (by omega)).trans h6, h7.trans (hb2.below (by omega) (by omega)), Nat.le_trans hXb hb2.size⟩
      intro y hy
      rcases List.mem_append.1 hy with h | h
      · exact h1 y h
      · rw [List.mem_singleton] at h; subst h; exact hx
    · have hx2 : m < (x : Int) := by omega
      gi_wp2
      exact ⟨((KeepsOthers.setCell _ _ _).from _).trans ((KeepsOthers.setCell _ _ _).from _), rfl, ⟨x, by simp, hx⟩, (h4.set _).other (by omega) _, (h5.other (by omega) _).set _, (h7.setCell (p := ⟨w.heap.size, 0, none⟩) (Nat.le_refl _) _).setCell (p := ⟨w.heap.size + 1, 0, none⟩) (by show w.heap.size ≤ w.heap.size + 1; omega) _⟩
  case done =>
    rintro D ys X hD rfl ⟨h1, ⟨v, hv, hrow⟩, h4, h5, h6, h7, h8⟩ hK
    obtain ⟨ad, cp, rfl⟩ := own_form hrow
    have hR := HY.out h1
    have hc := hv.cell
    have hc4 := h4.cell
    have hc5 := h5.cell
    have hf4 := h4.frozen
    have hf5 := h5.frozen
    have hcv : (convert 56 9 (.slice ad (ltS s).1.length cp)).run Tryd.prog X = .ok (.string (strOfNums ((ltS s).1.map fun x : Nat => (x : Int)))) X :=
      run_str (P := Tryd.prog) X 56 9 5 Tryd.underlying56 Tryd.underlying9 Tryd.underlying5 w6.heap.size _ _ _ (by have h := hrow; unfold bv at h; rwa [List.map_map])
    rw [bv_str] at hcv
    clear hrow HY HN h1
    generalize mkT ((ltS s).1.map UInt8.ofNat) = tb at *
    generalize (ltS s).1.length = n at *
    subst hR
    have HK2 : Hid (((X.setCell ⟨w.heap.size, 0, none⟩ (.string tb)).setCell ⟨w.heap.size + 1, 0, none⟩ (.int .i64 0)).heap[D]? = some (.deferred (some []))) := (Below.heap_setCell _ _ _ _ (by show D ≠ w.heap.size + 1; omega)).trans ((Below.heap_setCell _ _ _ _ (by show D ≠ w.heap.size; omega)).trans hK)
    have HC4 : Hid (Boxed (((X.setCell ⟨w.heap.size, 0, none⟩ (.string tb)).setCell ⟨w.heap.size + 1, 0, none⟩ (.int .i64 0)).putObj D (.deferred none)) w.heap.size 9 (.string tb)) := (World.putObj_heap_other (by omega)).trans ((h4.set _).other (by omega) _)
    have HC5 : Hid (Boxed (((X.setCell ⟨w.heap.size, 0, none⟩ (.string tb)).setCell ⟨w.heap.size + 1, 0, none⟩ (.int .i64 0)).putObj D (.deferred none)) (w.heap.size + 1) 34 (.int .i64 0)) := (World.putObj_heap_other (by omega)).trans ((h5.other (by omega) _).set _)
    have HB2 : Hid (Below w.heap.size w ((X.setCell ⟨w.heap.size, 0, none⟩ (.string tb)).setCell ⟨w.heap.size + 1, 0, none⟩ (.int .i64 0))) := (h7.setCell (p := ⟨w.heap.size, 0, none⟩) (Nat.le_refl _) _).setCell (p := ⟨w.heap.size + 1, 0, none⟩) (by show w.heap.size ≤ w.heap.size + 1; omega) _
    gi_wp2
    refine ⟨by simp, .inl ⟨_, _, rfl, run_takeDeferred HK2.out, ?_⟩⟩
    exact ⟨_, results_cell2 rfl rfl rfl (run_loadCell HC4.out.cell (by kernel_rfl)) (run_loadCell HC5.out.cell (by kernel_rfl)), rfl, HB2.out.trans (belowK_b (Nat.le_refl _) _ D _ _ (by omega) HK2.out rfl rfl)⟩
  case stop =>
    rintro D cc pre X hD ⟨post, hp⟩ ⟨rfl, ⟨x, hx, hxm⟩, h4, h5, h7⟩ hK
    have hR := HN.out (fun h => hxm (h x (by rw [← hp]; simp [hx])))
    clear HY HN
    subst hR
    have HC4 : Hid (Boxed (X.putObj D (.deferred none)) w.heap.size 9 (.string { data := #[] })) := (World.putObj_heap_other (by omega)).trans h4
    have HC5 : Hid (Boxed (X.putObj D (.deferred none)) (w.heap.size + 1) 34 (.int .i64 16)) := (World.putObj_heap_other (by omega)).trans h5
    gi_wp2
    refine ⟨by simp, .inl ⟨_, _, rfl, run_takeDeferred hK, ?_⟩⟩
    exact ⟨_, results_cell2 rfl rfl rfl (run_loadCell HC4.out.cell (by kernel_rfl)) (run_loadCell HC5.out.cell (by kernel_rfl)), rfl, h7.trans (belowK_b (Nat.le_refl _) _ D _ _ (by omega) hK rfl rfl)⟩

theorem enc_any (k : Int) (s : ByteArray) (hs : s.size ≤ 100000) (w : World) (hT : Lib.Utf8Tabs 0 1 w) : Calls Tryd.prog 17 #[.int .i64 k, .string s] w (EncP k s w) := by
  by_cases hk : k < 1 ∨ 3 < k
  · exact enc_off k s w hk
  · cases hv : (ltS s).2 with
    | false => exact enc_no k s hs w hT (by omega) hv
    | true =>
      by_cases h3 : k = 3
      · subst h3; exact enc_three s hs w hT hv
      · exact enc_few k s hs w hT (by omega) hv
end Go.Proofs.YtcpmgnejbfnnjaaDoor
