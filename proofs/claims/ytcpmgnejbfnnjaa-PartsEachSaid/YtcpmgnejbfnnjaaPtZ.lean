/- parts: PartsEach, the walk and the law. No condition but sizes. -/
import Derived.Test.YtcpmgnejbfnnjaaPtY
import Derived.Test.YtcpmgnejbfnnjaaPtV
import Derived.Test.YtcpmgnejbfnnjaaKit4
namespace Go.Proofs.Ytcpmgnejbfnnjaa
open Go.RowKit Go.Shelf

attribute [local go_sem] Oper.semAt_some

theorem Txts.take {w : World} {a : Option Addr} {l : List ByteArray} (h : Txts w a l) (k : Nat) : Txts w a (l.take k) := fun i hi => by
  have hi2 : i < l.length := by rw [List.length_take] at hi; omega
  obtain ⟨b, o, h1, h2, h3⟩ := h i hi2
  exact ⟨b, o, h1, h2, by rw [h3, List.getElem_take]⟩
theorem own_cap {w : World} {B : Nat} {e : TypeId} {ad : Option Addr} {n c : Nat} {xs : List Value} (h : w.ownsRow B e 1 (.slice ad n c) n xs) : n ≤ c := by
  rcases h.2 with ⟨h1, h0⟩ | ⟨g, cap, cur, h1, _, _, h2, _⟩
  · omega
  · simp only [Value.slice.injEq] at h1; omega
theorem own_sliced {w : World} {B : Nat} {a : Option Addr} {n c : Nat} {xs : List Value} (h : w.ownsRow B 9 1 (.slice a n c) n xs) (k : Nat) (hk : k ≤ c) (w' : World) :
    (Instr.slice 52 (.slice a n c) none (some (.int .i64 k)) none).run Try.prog w' = .ok (.slice a k c) w' := by
  have hu : Try.prog.underlying 52 = some (.slice (Try.prog.elem 52)) := by kernel_rfl
  have hs : (sizeOf (Try.prog.elem 52)).run Try.prog w' = .ok 1 w' := by kernel_rfl
  rw [run_slice_h w' 52 a n c hu .i64 k (by omega) (by omega), hs]
  simp only [Result.andThen, sliced]
  rcases h.2 with ⟨h1, _⟩ | ⟨g, cap, cur, h1, _⟩
  · simp only [Value.slice.injEq] at h1
    obtain ⟨rfl, rfl, rfl⟩ := h1
    simp
  · simp only [Value.slice.injEq] at h1
    obtain ⟨rfl, _, rfl⟩ := h1
    simp [addr_add_none]
theorem BelowBut.store {n B b : Nat} {w w' : World} (h : BelowBut n B w w') (hb : n ≤ b) (v : Value) : BelowBut n B w (w'.setCell ⟨b, 0, none⟩ v) :=
  ⟨h.os, h.tape, h.output, by simpa [World.setCell] using h.size, fun k hk hB => (Below.heap_setCell _ _ _ _ (by show k ≠ b; omega)).trans (h.block k hk hB)⟩
theorem BelowBut.less {n m B : Nat} {w w' : World} (h : BelowBut n B w w') (hm : m ≤ n) : BelowBut m B w w' := ⟨h.os, h.tape, h.output, h.size, fun k hk hB => h.block k (by omega) hB⟩

set_option maxRecDepth 100000 in
set_option maxHeartbeats 8000000 in
theorem eachP_walk (s : ByteArray) (_ : s.size ≤ 140737488351232) (most : Int) (_ : (Lit.int .i64 most).wf = true) (w : World) :
    Calls Try.prog 9 #[.string s, .int .i64 most] w fun e w' => e = .returned (.bool true) ∧ Below w.heap.size w w' := by
  by_cases hbig : 3000 < s.size
  · have hbig' : (3000 : Int) < s.size := by omega
    go_enter Try.func9, Try.ntmps9
    go_wp2
    go_ret
    exact ⟨rfl, (Below.refl _ _).alloc (Nat.le_refl _) _⟩
  · have hbig' : ¬ (3000 : Int) < s.size := by omega
    obtain ⟨kk, hkk, hk⟩ : ∃ kk : Nat, wrap64 ((IntKind.u64.wrap most).tmod 3002) = (kk : Int) ∧ kk ≤ 3001 := by
      refine ⟨(most % 18446744073709551616 % 3002).toNat, ?_, by omega⟩
      have e1 : IntKind.u64.wrap most = most % 18446744073709551616 := by simp [IntKind.wrap, IntKind.signed, IntKind.bits]
      rw [e1, Int.tmod_eq_emod_of_nonneg (by omega)]
      have : 0 ≤ most % 18446744073709551616 % 3002 ∧ most % 18446744073709551616 % 3002 < 3002 := by omega
      unfold wrap64; omega
    obtain ⟨i0, hi, hz0, hz1, hz2⟩ := info_parts S52.info
    have hnf : ∀ (b : Nat) (w : World), (binOp .eql 60 (.func (.func 43) #[] #[.pointer (some ⟨b, 0, none⟩)]) .nilFunc).run Try.prog w = .ok (.bool false) w := fun _ _ => by kernel_rfl
    have cE := Lib.hid (fun w => Each_any s w)
    have cS := Lib.hid (fun w => some_any s (by omega) w)
    have hpl := parts_len s
    refine (callsIn_wide (n := 9)).1 ?_
    refine callsIn_of_wp_marks Try.func9 rfl trivial ?_ rfl
    simp only [Try.ntmps9, List.size_toArray, List.length_cons, List.length_nil, Nat.reduceAdd, Nat.reduceSub, Array.replicate_succ, Array.replicate_zero, List.push_toArray, List.append_toArray, List.nil_append, List.cons_append]
    gi_wp2_with (first | (refine ⟨trivial, ?_⟩; gi_at_call 32; refine (callsIn_wide.2 (cE.out _)).mono ?_; rintro e w1 ⟨rfl, hcx, hz1', hb1⟩; simp only [World.size_alloc] at hcx hz1' hb1) | (refine ⟨trivial, ?_⟩; gi_at_call 33; refine (callsIn_wide.2 (cS.out _)).mono ?_; rintro e w2 ⟨a2, c2, rfl, hown2, hb2⟩; have bM : Boxed w2 w.heap.size 3 (.int .i64 most) := (hb2.block w.heap.size (by omega)).trans ((hb1.block w.heap.size (by omega)).trans (Boxed.new w 3 _)); have hcM := bM.cell; have hfM := bM.frozen))
    rw [hkk]
    have hz2s := hb2.size
    have hcs3 : (((w2.setCell ⟨w.heap.size, 0, none⟩ (.int .i64 kk)).alloc (.cells #[.slice none 0 0] 52))).cell? ⟨w.heap.size + 1, 0, none⟩ = some (.string s) := by
      rw [World.cell?_alloc_past _ _ _ (by simp [World.setCell]; omega)]
      refine (World.cell?_of_block (a := ⟨w.heap.size + 1, 0, none⟩) ((Below.heap_setCell _ _ _ _ (by show w.heap.size + 1 ≠ w.heap.size; omega)).trans (hb2.block _ (by show w.heap.size + 1 < _; omega)))).trans hcx
    have hs3 : (((w2.setCell ⟨w.heap.size, 0, none⟩ (.int .i64 kk)).alloc (.cells #[.slice none 0 0] 52))).heap.size = w2.heap.size + 1 := by simp [World.setCell]
    have bM3 : Boxed (((w2.setCell ⟨w.heap.size, 0, none⟩ (.int .i64 kk)).alloc (.cells #[.slice none 0 0] 52))) w.heap.size 3 (.int .i64 kk) := (bM.set _).alloc _
    have bL3 : Boxed (((w2.setCell ⟨w.heap.size, 0, none⟩ (.int .i64 kk)).alloc (.cells #[.slice none 0 0] 52))) w2.heap.size 52 (.slice none 0 0) := by
      have := Boxed.new (w2.setCell ⟨w.heap.size, 0, none⟩ (.int .i64 kk)) 52 (.slice none 0 0)
      simpa [World.setCell] using this
    have hown3 := ownsRow_setCell_below hown2 (a := ⟨w.heap.size, 0, none⟩) (by show w.heap.size < w1.heap.size; omega) (.int .i64 kk)
    have HT3 : Hid (∀ X, Below w2.heap.size (((w2.setCell ⟨w.heap.size, 0, none⟩ (.int .i64 kk)).alloc (.cells #[.slice none 0 0] 52))) X → Txts X a2 (PartsOf s)) := fun X hX =>
      (Txts.own (c := c2) hown3).below (((Below.refl _ _).alloc (Nat.le_refl _) _).trans (hX.mono (by simp [World.setCell]))) (by simp [World.setCell])
    have hcap := own_cap hown2
    have hSl := Lib.hid (fun k (hk : k ≤ c2) w => own_sliced hown2 k hk w)
    have hB3 : Below w.heap.size w (((w2.setCell ⟨w.heap.size, 0, none⟩ (.int .i64 kk)).alloc (.cells #[.slice none 0 0] 52))) := by
      have h1 : Below w.heap.size w w2 := ((Below.refl _ w).alloc (Nat.le_refl _) _).trans ((hb1.mono (by omega)).trans (hb2.mono (by omega)))
      have h2 : Below w.heap.size w2 (w2.setCell ⟨w.heap.size, 0, none⟩ (.int .i64 kk)) := ⟨rfl, rfl, rfl, by simp [World.setCell], fun k hk => Below.heap_setCell _ _ _ _ (by show k ≠ w.heap.size; omega)⟩
      exact (h1.trans h2).alloc (by simp [World.setCell]; omega) _
    have hwz : w.heap.size + 1 < w2.heap.size := by omega
    clear hown2 hown3 hb2 hb1 hcx bM hcM hfM cE cS
    generalize ((w2.setCell ⟨w.heap.size, 0, none⟩ (.int .i64 kk)).alloc (.cells #[.slice none 0 0] 52)) = W3 at *
    have HB3 := Lib.hid hB3
    clear hB3
    generalize hzB : w2.heap.size = zB at *
    refine wpIn_range_cellsD rfl (by decide) (gf := 43) (lb := #[.pointer (some ⟨w.heap.size + 1, 0, none⟩)]) rfl trivial (enters_of Try.func43 (by kernel_rfl) rfl)
      (each43_seqD 8 (by decide) (w.heap.size + 1) s (by omega) W3 hcs3) KpE.trans (fun W l o o' _ hl ho _ => KpE.put W l o o' hl ho) (Below.refl _ _) (fun _ => rfl)
      (fun (pre : List ByteArray) X => (∃ v, Boxed X zB 52 v ∧ X.ownsRow (W3.heap.size + 2 + 3) 9 1 v pre.length (pre.map Value.string) ∧ pre.length ≤ kk) ∧ BelowBut W3.heap.size zB W3 X)
      (fun c (pre : List ByteArray) X => c = .exit 0 ∧ pre.length = kk + 1 ∧ (∃ v, Boxed X zB 52 v ∧ X.ownsRow (W3.heap.size + 2 + 3) 9 1 v kk ((pre.take kk).map Value.string) ∧ True) ∧ BelowBut W3.heap.size zB W3 X)
      (OwnFrom.and (Own.from (holdsRow_own (W3.heap.size + 2 + 3) zB 52 9 1 (fun (pre : List ByteArray) => pre.length) (fun (pre : List ByteArray) => pre.map Value.string) (fun pre _ => pre.length ≤ kk)) _) (ownFrom_but (Nat.le_refl _) (Nat.le_refl _)))
      (fun cc => fun pre X X' row hs hg hr => ⟨hs.1, hs.2.1, (OwnFrom.and (Own.from (holdsRow_own (W3.heap.size + 2 + 3) zB 52 9 1 (fun (_ : List ByteArray) => kk) (fun (pre : List ByteArray) => (pre.take kk).map Value.string) (fun _ _ => True)) W3.heap.size) (ownFrom_but (n := W3.heap.size) (B := zB) (w₀ := W3) (Nat.le_refl _) (Nat.le_refl _))) pre X X' row hs.2.2 hg hr⟩)
      (fun b hb => by subst hb; omega)
      (fun pre X b v hb hs => by
        subst hb
        obtain ⟨⟨u, hu, hrow, hl⟩, hB2⟩ := hs
        exact ⟨⟨u, hu.other (by omega) v, ownsRow_setCell_below hrow (by show W3.heap.size + 2 < _; omega) v, hl⟩, hB2.store (by omega) v⟩)
      (fun _ _ _ _ hs _ _ => hs)
      ⟨⟨_, bL3, World.ownsRow_nil _ _ _ _, Nat.zero_le _⟩, BelowBut.refl _ _ _⟩
      (fun x => { tmps := #[.string s, .int .i64 most, undef, .pointer (some ⟨w.heap.size, 0, none⟩), .bool false, .func (.func 43) #[] #[.pointer (some ⟨w.heap.size + 1, 0, none⟩)], .slice a2 (PartsOf s).length c2, .int .i64 (WrongAt s), .pointer (some ⟨zB, 0, none⟩), .string x, .string s, .int .i64 s.size, .bool false, .string s, .func (.func 43) #[] #[.pointer (some ⟨w.heap.size + 1, 0, none⟩)], .func (.func 43) #[] #[.pointer (some ⟨w.heap.size + 1, 0, none⟩)], .bool false, .tuple #[.slice a2 (PartsOf s).length c2, .int .i64 (WrongAt s)], .string s, .tuple #[.slice a2 (PartsOf s).length c2, .int .i64 (WrongAt s)], .slice a2 (PartsOf s).length c2, .int .i64 (WrongAt s), .int .i64 most, .int .u64 (IntKind.u64.wrap most), .int .u64 ((IntKind.u64.wrap most).tmod 3002), .int .i64 kk, .func (.func 43) #[] #[.pointer (some ⟨w.heap.size + 1, 0, none⟩)], .string x, undef, undef, undef, undef, undef, undef, undef, undef, undef, undef, undef, undef, undef, undef, undef, undef, undef, undef, undef], defers := [] }) ?assign ?body ?done ?stop
    case assign =>
      intro l x W K hK
      gi_wp2
      exact hK
    case body =>
      rintro l pre x X ⟨⟨v, hv, hrow, hle⟩, hB2⟩ hlt hm
      obtain ⟨ad, cp, rfl⟩ := own_form hrow
      have hc := hv.cell
      have hcs := (hB2.boxed bM3 (by omega) (by omega)).cell
      have hlx : pre.length = kk ∨ pre.length < kk := by omega
      rcases hlx with hle' | hle'
      · have hd : ((pre.length : Int) == (kk : Int)) = true := by simp; omega
        gi_wp2
        exact ⟨KeepsFrom.refl _ _, rfl, by simp; omega, ⟨_, hv, by rw [← hle']; simpa using hrow, trivial⟩, hB2⟩
      · have hd : ((pre.length : Int) == (kk : Int)) = false := by simp; omega
        have hX1 := hB2.size
        gi_wp2_with (gi_at_builtin; refine wpListIn_append_own _ rfl _ _ 52 rfl (W3.heap.size + 2 + 3) 9 i0 (.string ByteArray.empty) 1 16 Try.underlying52 hi hz0 hz1 hz2 rfl (by decide) _ _ _ rfl (hrow.alloc _) ⟨X.heap.size, 0, none⟩ 1 1 [.string x] rfl rfl (cell_one_new _ _ _) (by simp [Value.oneCell']) (by simp [maxLen]; omega) (by omega) (by simp; omega) ?_; intro v' w3 hown' hgrow _; obtain ⟨g', cap', rfl⟩ := ownsRow_succ hown'; obtain ⟨hv1, hv2, hr2, hk2, hb2⟩ := boxed_app hv (by decide) hrow (by omega) (by omega) hown' hgrow; have hc1 := hv1.cell; have hf1 := hv1.frozen)
        exact ⟨hk2.from _, KpE.of_but hb2 ⟨by omega, by omega⟩ ⟨by omega, by omega⟩ ⟨by omega, by omega⟩, ⟨⟨_, hv2, by simpa using hr2, by simp; omega⟩, hB2.trans (hb2.less (by omega))⟩⟩
    case done =>
      rintro D ys X hD rfl ⟨⟨v, hv, hrow, hle⟩, hB2⟩ hK
      have hX1 := hB2.size
      obtain ⟨L, hL⟩ : ∃ L, (PartsOf s).take kk = L := ⟨_, rfl⟩
      have HLE := Lib.hid hL
      have hLL : PartsOf s = L := by rw [← hL, List.take_of_length_le hle]
      have hll : (PartsOf s).length = L.length := by rw [← hLL]
      rw [hll, show (PartsOf s).map Value.string = L.map Value.string from by rw [← hLL]] at hrow
      clear hL hLL hll
      obtain ⟨ad, cp, rfl⟩ := own_form hrow
      have hL2 : L.length = min kk (PartsOf s).length := by rw [← HLE.out, List.length_take]
      have HTL := Lib.hid (Txts.own hrow)
      have hcb := hv.cell
      have hcm := (hB2.boxed bM3 (by omega) (by omega)).cell
      have HBX : Hid (Below w.heap.size w X) := HB3.out.trans (hB2.below (by omega) (by omega))
      have cSm : Hid (∀ X', Below X.heap.size X X' → Calls Try.prog 28 #[.slice ad L.length cp, .slice a2 L.length c2] X' fun e w' => e = .returned (.bool true) ∧ Below X'.heap.size X' w') := fun X' hX' =>
        same_any ad a2 cp c2 L X' (HTL.out.below hX' (Nat.le_refl _)) (by rw [← HLE.out]; exact (HT3.out X' ((hB2.below (by omega) (by omega)).trans (hX'.mono (by omega)))).take kk) (by omega)
      have HK := Lib.hid hK
      clear hrow hB2 hv hle hK bM3 bL3 HT3 HTL
      generalize L.length = ll at *
      generalize (PartsOf s).length = cl at *
      have hI : min (kk : Int) (cl : Int) = (ll : Int) := by omega
      have hsl := hSl.out ll (by omega)
      clear hSl hL2
      gi_wp2
      have HL : Hid (LtA [(zB, 0, .slice ad ll cp), (w.heap.size, 0, .int .i64 kk)] X.heap.size) := ⟨by omega, by omega, trivial⟩
      have HF : Hid (KC X X.heap.size [(zB, 0, .slice ad ll cp), (w.heap.size, 0, .int .i64 kk)] X) := ⟨hcb, hcm, Nat.le_refl _, Below.refl _ _⟩
      have c4 := Lib.hid (fun w => worksP_any w)
      refine wpIn_wide.2 ?_
      go_region_held3 (fun w' => w'.cell? ⟨zB, 0, none⟩ = some (.slice ad ll cp) ∧ w'.cell? ⟨w.heap.size, 0, none⟩ = some (.int .i64 kk) ∧ (X.heap.size ≤ w'.heap.size ∧ Below X.heap.size X w')) (first | assumption | exact KC.drew HL.out HF.out | exact KC.call HL.out (by assumption) hb9 | exact KC.call HL.out (KC.drew HL.out HF.out) hb9) (first | (go_at_call 28; (with_reducible refine (cSm.out _ (KC.below (w0 := X) (m := X.heap.size) (l := [(zB, 0, .slice ad ll cp), (w.heap.size, 0, .int .i64 kk)]) (by first | assumption | exact KC.drew HL.out HF.out))).mono ?_); rintro e w9 ⟨rfl, hb9⟩) | (go_at_call 31; (with_reducible refine (c4.out _).mono ?_); rintro e w9 ⟨rfl, hb9⟩))
      all_goals
        have hq := Lib.hid (KC.below (w0 := X) (m := X.heap.size) (l := [(zB, 0, .slice ad ll cp), (w.heap.size, 0, .int .i64 kk)]) (by assumption))
        have hDX : D < X.heap.size := (Array.getElem?_eq_some_iff.1 HK.out).1
        have hKD := Lib.hid ((hq.out.block D hDX).trans HK.out)
        gi_wp2
        refine ⟨by simp, .inl ⟨_, _, rfl, run_takeDeferred hKD.out, ?_⟩⟩
        exact ⟨_, results_tmp rfl _ _ _, rfl, (HBX.out.trans (hq.out.mono HBX.out.size)).trans (belowK_b (w := w) (Nat.le_refl _) _ D _ _ (by omega) hKD.out rfl rfl)⟩
    case stop =>
      rintro D cc pre X hD hpre ⟨rfl, hpl, ⟨v, hv, hrow, _⟩, hB2⟩ hK
      have hX1 := hB2.size
      have hle := hpre.length_le
      have hL : (PartsOf s).take kk = pre.take kk := by
        obtain ⟨r, hr⟩ := hpre
        rw [← hr, List.take_append_of_le_length (by omega)]
      have hk2 : kk = (pre.take kk).length := by rw [List.length_take]; omega
      obtain ⟨L, hLL⟩ : ∃ L, pre.take kk = L := ⟨_, rfl⟩
      rw [hLL] at hL hk2 hrow
      have HLE := Lib.hid hL
      rw [show X.ownsRow (W3.heap.size + 2 + 3) 9 1 v kk (L.map Value.string) = X.ownsRow (W3.heap.size + 2 + 3) 9 1 v L.length (L.map Value.string) from by rw [← hk2]] at hrow
      clear hL hLL hpre hk2 hpl
      obtain ⟨ad, cp, rfl⟩ := own_form hrow
      have hL2 : L.length = min kk (PartsOf s).length := by rw [← HLE.out, List.length_take]
      have HTL := Lib.hid (Txts.own hrow)
      have hcb := hv.cell
      have hcm := (hB2.boxed bM3 (by omega) (by omega)).cell
      have HBX : Hid (Below w.heap.size w X) := HB3.out.trans (hB2.below (by omega) (by omega))
      have cSm : Hid (∀ X', Below X.heap.size X X' → Calls Try.prog 28 #[.slice ad L.length cp, .slice a2 L.length c2] X' fun e w' => e = .returned (.bool true) ∧ Below X'.heap.size X' w') := fun X' hX' =>
        same_any ad a2 cp c2 L X' (HTL.out.below hX' (Nat.le_refl _)) (by rw [← HLE.out]; exact (HT3.out X' ((hB2.below (by omega) (by omega)).trans (hX'.mono (by omega)))).take kk) (by omega)
      have HK := Lib.hid hK
      clear hrow hB2 hv hle hK bM3 bL3 HT3 HTL
      generalize L.length = ll at *
      generalize (PartsOf s).length = cl at *
      have hI : min (kk : Int) (cl : Int) = (ll : Int) := by omega
      have hsl := hSl.out ll (by omega)
      clear hSl hL2
      gi_wp2
      have HL : Hid (LtA [(zB, 0, .slice ad ll cp), (w.heap.size, 0, .int .i64 kk)] X.heap.size) := ⟨by omega, by omega, trivial⟩
      have HF : Hid (KC X X.heap.size [(zB, 0, .slice ad ll cp), (w.heap.size, 0, .int .i64 kk)] X) := ⟨hcb, hcm, Nat.le_refl _, Below.refl _ _⟩
      have c4 := Lib.hid (fun w => worksP_any w)
      refine wpIn_wide.2 ?_
      go_region_held3 (fun w' => w'.cell? ⟨zB, 0, none⟩ = some (.slice ad ll cp) ∧ w'.cell? ⟨w.heap.size, 0, none⟩ = some (.int .i64 kk) ∧ (X.heap.size ≤ w'.heap.size ∧ Below X.heap.size X w')) (first | assumption | exact KC.drew HL.out HF.out | exact KC.call HL.out (by assumption) hb9 | exact KC.call HL.out (KC.drew HL.out HF.out) hb9) (first | (go_at_call 28; (with_reducible refine (cSm.out _ (KC.below (w0 := X) (m := X.heap.size) (l := [(zB, 0, .slice ad ll cp), (w.heap.size, 0, .int .i64 kk)]) (by first | assumption | exact KC.drew HL.out HF.out))).mono ?_); rintro e w9 ⟨rfl, hb9⟩) | (go_at_call 31; (with_reducible refine (c4.out _).mono ?_); rintro e w9 ⟨rfl, hb9⟩))
      all_goals
        have hq := Lib.hid (KC.below (w0 := X) (m := X.heap.size) (l := [(zB, 0, .slice ad ll cp), (w.heap.size, 0, .int .i64 kk)]) (by assumption))
        have hDX : D < X.heap.size := (Array.getElem?_eq_some_iff.1 HK.out).1
        have hKD := Lib.hid ((hq.out.block D hDX).trans HK.out)
        gi_wp2
        refine ⟨by simp, .inl ⟨_, _, rfl, run_takeDeferred hKD.out, ?_⟩⟩
        exact ⟨_, results_tmp rfl _ _ _, rfl, (HBX.out.trans (hq.out.mono HBX.out.size)).trans (belowK_b (w := w) (Nat.le_refl _) _ D _ _ (by omega) hKD.out rfl rfl)⟩

theorem eachP_law {W : World} (s : ByteArray) (hz : s.size ≤ 140737488351232) (most : Int) (hm : (Lit.int .i64 most).wf = true) (_ : World) :
    Calls Try.prog 9 #[.string s, .int .i64 most] W fun e w' => e = .returned (.bool true) ∧ Below W.heap.size W w' := eachP_walk s hz most hm W
end Go.Proofs.Ytcpmgnejbfnnjaa
