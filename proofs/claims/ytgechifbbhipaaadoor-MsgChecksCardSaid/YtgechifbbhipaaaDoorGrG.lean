/- grammar: the program's fits: a range over a rule's words, the kids taken one by one. -/
import Derived.Test.YtgechifbbhipaaaDoorGrI
import Derived.Test.YtgechifbbhipaaaDoorGrF
import Derived.WalkMore
import Derived.Stop.RegionWithIn
import Derived.Sort.QuietIn
import Derived.Sort.CutIn
set_option linter.unusedVariables false
set_option linter.unusedSimpArgs false
namespace Go.Proofs.YtgechifbbhipaaaDoor
open Go.RowKit Go.Shelf

attribute [local go_sem] Oper.semAt_some

theorem run_loadVar_cell {P : Program} {ty : TypeId} {w : World} {b : Nat} {v : Value} (hc : w.cell? ⟨b, 0, none⟩ = some v) (ha : (isAgg ty).run P w = .ok false w) : (loadVar ty ⟨b, 0, none⟩).run P w = .ok v w := by
  unfold loadVar
  simp only [Sem.run_bind, ha, Result.andThen]
  simp [hc]
theorem results_cell1 {fn : Func} {p : Tmp} {ty : TypeId} (h : fn.results = #[.cell p ty]) {tmps : Array Value} {P : Program} {w : World} {b : Nat} {v : Value} (hp : tmps.getD p undef = .pointer (some ⟨b, 0, none⟩))
    (hl : (loadVar ty ⟨b, 0, none⟩).run P w = .ok v w) : (results fn tmps).run P w = .ok v w := by
  have hp' : tmps[p]?.getD undef = .pointer (some ⟨b, 0, none⟩) := by simpa using hp
  simp [results, h, hp', asAddr, hl]
theorem wds_at {W pre : List ByteArray} {x : ByteArray} (h : pre ++ [x] <+: W) : (W.map fun b => b.data.toList)[pre.length]? = some x.data.toList := by
  obtain ⟨t, rfl⟩ := h
  simp

/-- a piece of code that ends in one kind of state -/
theorem wpIn_once {F : Fence} {n : Nat} {P : Program} {c : Code} {Q : Exit → Act → World → Prop} {a : Act} {w : World} (R : Act → World → Prop)
    (h : ∀ J : Act → World → Prop, (∀ a' w', R a' w' → J a' w') → c.wpIn F n P (fun e a' w' => e = .normal ∧ J a' w') a w) (k : ∀ a' w', R a' w' → Q .normal a' w') : c.wpIn F n P Q a w :=
  wpIn_mono (h R (fun _ _ q => q)) (fun e a' w' ⟨he, hr⟩ => by subst he; exact k a' w' hr)
theorem KpW.below {z : Nat} {W W' : World} (h : Below W.heap.size W W') : KpW z W W' := ⟨fun b o _ ho _ => (h.block b (Array.getElem?_eq_some_iff.1 ho).1).trans ho, h.size⟩
theorem KpW.drew' {z : Nat} {W W' : World} (h : KpW z W W') : KpW z W W'.drew := ⟨fun b o hb ho hc => h.1 b o hb ho hc, h.2⟩
theorem KpW.store {z b : Nat} {W W' : World} (h : KpW z W W') (v : Value) (h1 : b ≠ 1) (h2 : b ≠ z) (h3 : b ≠ z + 1) : KpW z W (W'.setCell ⟨b, 0, none⟩ v) :=
  ⟨fun c o hc ho hk => (Below.heap_setCell _ _ _ _ (by show c ≠ b; omega)).trans (h.1 c o hc ho hk), by have := h.2; simpa [World.setCell] using this⟩
theorem Boxed.low {W W' : World} {b t : Nat} {v : Value} (h : Boxed W b t v) (hb : Below W.heap.size W W') : Boxed W' b t v := (hb.block b (Array.getElem?_eq_some_iff.1 h).1).trans h
/-- a word parted into names and a mark -/
def CutF (x NB : ByteArray) (mk : Int) : Prop := NB.data.toList = namesW x.data.toList ∧ NB.size ≤ 2000 ∧
  ((mk = 63 ∧ x.data.toList.getLast? = some 63 ∧ manyB x.data.toList = false) ∨ (mk = 42 ∧ x.data.toList.getLast? = some 42 ∧ manyB x.data.toList = true) ∨
   (mk = 43 ∧ x.data.toList.getLast? = some 43 ∧ manyB x.data.toList = true) ∨ (mk = 0 ∧ (x.data.toList.getLast? ≠ some 63 ∧ x.data.toList.getLast? ≠ some 42) ∧ manyB x.data.toList = false))
theorem addr_addG (b o k : Nat) : (⟨b, o, none⟩ : Addr).add k = ⟨b, o + k, none⟩ := by unfold Addr.add; split <;> simp_all
theorem decide_pos {j : Nat} (h : j ≠ 0) : decide (0 < j) = true := decide_eq_true (by omega)
theorem slice_one (a : Option Addr) (n c : Nat) (h : 1 ≤ n) : ∃ a', (∀ w, (Instr.slice 44 (.slice a n c) (some (.int .i64 1)) none none).run Tryd.prog w = .ok (.slice a' (n - 1) (c - 1)) w) ∧ (1 < c → a' = a.map (·.add (1 * 5))) :=
  run_from (P := Tryd.prog) 44 5 (by kernel_rfl) (fun _ => by kernel_rfl) a n c 1 h

set_option maxRecDepth 100000 in
set_option maxHeartbeats 4000000 in
theorem fits_any (pg : Int) (s : ByteArray) (hs : s.size ≤ 10000) (hok : s.size ≠ 0 → okT s) (hxl : ∀ x ∈ wdsE s, x.size ≠ 0 ∧ x.size ≤ 2000) (ks : List Tr) (a : Option Addr) (c M : Nat) (m : Int) (w : World) (hM : M ≤ w.heap.size) (hk : AtL w M a 0 ks) (hkl : ks.length ≤ 3000) (hcap : ks.length ≤ c) (hm : w.cell? ⟨0, 0, none⟩ = some (.int .i64 m)) (hT : SpT w) :
    Calls Tryd.prog 92 #[.int .i64 pg, .string s, .slice a ks.length c] w fun e w' => e = .returned (.bool (fitsW pg ((wdsE s).map fun b => b.data.toList) ks)) ∧ Below w.heap.size w w' := by
  have HTW := Lib.hid hT
  have HKs := Lib.hid hk
  have HM := Lib.hid hM
  have HMl := Lib.hid hm
  have HOk := Lib.hid hok
  have HSz := Lib.hid hs
  obtain ⟨R, hR⟩ : ∃ R, fitsW pg ((wdsE s).map fun b => b.data.toList) ks = R := ⟨_, rfl⟩
  rw [hR]
  have HR0 : Hid (fitsW pg (((wdsE s).map fun b => b.data.toList).drop 0) (ks.drop 0) = R) := by unfold Hid; rw [List.drop_zero, List.drop_zero]; exact hR
  have HWd : Hid (∀ (pre : List ByteArray) (x : ByteArray), pre ++ [x] <+: wdsE s → ((wdsE s).map fun b => b.data.toList)[pre.length]? = some x.data.toList ∧ x.size ≠ 0 ∧ x.size ≤ 2000) := fun pre x h => ⟨wds_at h, hxl x (h.subset (by simp))⟩
  have HTx : Hid (∀ (i k : Nat) (x : List UInt8), ((wdsE s).map fun b => b.data.toList)[i]? = some x → x = textW → fitsW pg (((wdsE s).map fun b => b.data.toList).drop i) (ks.drop k) = R → fitsW pg (((wdsE s).map fun b => b.data.toList).drop (i + 1)) (ks.drop k) = R) := fun i k x hx h e => by
    obtain ⟨hi, h2⟩ := List.getElem?_eq_some_iff.1 hx
    rw [← e, fitsW_text hi (h2.trans h)]
  have HNo : Hid (∀ (i k : Nat) (x : List UInt8), ((wdsE s).map fun b => b.data.toList)[i]? = some x → x ≠ textW → takeW pg x (ks.drop k) = 0 → x.getLast? ≠ some 63 → x.getLast? ≠ some 42 → fitsW pg (((wdsE s).map fun b => b.data.toList).drop i) (ks.drop k) = R → R = false) := fun i k x hx h h0 h1 h2 e => by
    obtain ⟨hi, rfl⟩ := List.getElem?_eq_some_iff.1 hx
    rw [← e, fitsW_no hi h h0 h1 h2]
  have HOn : Hid (∀ (i k j : Nat) (x : List UInt8), ((wdsE s).map fun b => b.data.toList)[i]? = some x → x ≠ textW → takeW pg x (ks.drop k) = j → (j ≠ 0 ∨ x.getLast? = some 63 ∨ x.getLast? = some 42) → fitsW pg (((wdsE s).map fun b => b.data.toList).drop i) (ks.drop k) = R → fitsW pg (((wdsE s).map fun b => b.data.toList).drop (i + 1)) (ks.drop (k + j)) = R) := fun i k j x hx h h0 h1 e => by
    obtain ⟨hi, rfl⟩ := List.getElem?_eq_some_iff.1 hx
    rw [← e, fitsW_on hi h h0 h1]
  have HCap := Lib.hid hcap
  clear hT hk hM hm hok hs hR hxl hcap
  generalize hnk : ks.length = nk at *
  have HNK := Lib.hid hnk
  clear hnk
  have cW := Lib.hid (fun w => wordsIt_any s w)
  refine (callsIn_wide (n := 9)).1 ?_
  refine callsIn_of_wp_marks Tryd.func92 rfl trivial ?_ rfl
  simp only [Tryd.ntmps92, List.size_toArray, List.length_cons, List.length_nil, Nat.reduceAdd, Nat.reduceSub, Array.replicate_succ, Array.replicate_zero, List.push_toArray, List.append_toArray, List.nil_append, List.cons_append]
  gi_wp2
  refine wpIn_wide.2 ?_
  go_step3
  go_wp2
  go_step3
  simp only [Exit.then]
  rename_i hKs
  refine hKs _ _ ?_
  clear hKs
  refine (wpIn_wide (n := 9)).1 ?_
  gi_wp2_with (refine ⟨trivial, ?_⟩; gi_at_call 142; refine (callsIn_wide.2 (cW.out _)).mono ?_; rintro e w1 ⟨rfl, hcx, hz1, hb1⟩)
  simp only [World.size_alloc] at hcx hz1 hb1
  rename_i Kc hKc
  have HKc := Lib.hid hKc
  clear hKc
  have hB0 : Below w.heap.size w w1 := (((((Below.refl _ w).alloc (Nat.le_refl _) _).alloc (by simp) _).alloc (by simp; omega) _)).trans (hb1.mono (by omega))
  have hT1 : SpT w1 := HTW.out.below hB0 HTW.out.lt
  have bP : Boxed w1 w.heap.size 3 (.int .i64 pg) := (hb1.block w.heap.size (by omega)).trans (((Boxed.new w 3 _).alloc _).alloc _)
  have bK : Boxed w1 (w.heap.size + 1) 44 (.slice a nk c) := (hb1.block (w.heap.size + 1) (by omega)).trans (by have h := (Boxed.new (w.alloc (.cells #[.int .i64 pg] 3)) 44 (.slice a nk c)).alloc (.cells #[.bool false] 4); rwa [World.size_alloc] at h)
  have bR : ∃ v, Boxed w1 (w.heap.size + 1 + 1) 4 v := ⟨_, (hb1.block (w.heap.size + 1 + 1) (by omega)).trans (by have h := Boxed.new ((w.alloc (.cells #[.int .i64 pg] 3)).alloc (.cells #[.slice a nk c] 44)) 4 (.bool false); rwa [World.size_alloc, World.size_alloc] at h)⟩
  refine wpIn_range_cellsE rfl (by decide) (gf := 176) (lb := #[.pointer (some ⟨w.heap.size + 1 + 1 + 1, 0, none⟩)]) rfl trivial (enters_of Tryd.func176 (by kernel_rfl) rfl)
    (words1_seqE 8 (by decide) (w.heap.size + 1 + 1 + 1) s HSz.out HOk.out w1 hcx hT1) KpW.trans (fun X p o o' _ hl ho _ => KpW.put X p o o' hl ho) (Below.refl _ _) (fun _ => rfl)
    (fun (pre : List ByteArray) X => ∃ k, k ≤ nk ∧ fitsW pg (((wdsE s).map fun b => b.data.toList).drop pre.length) (ks.drop k) = R ∧ Boxed X w.heap.size 3 (.int .i64 pg) ∧ (∃ a' c', Boxed X (w.heap.size + 1) 44 (.slice a' (nk - k) c') ∧ (k < nk → a' = a.map (·.add (k * 5))) ∧ nk ≤ c' + k) ∧ (∃ v, Boxed X (w.heap.size + 1 + 1) 4 v) ∧ Below w.heap.size w X)
    (fun c (_ : List ByteArray) X => c = .ret ∧ R = false ∧ Boxed X (w.heap.size + 1 + 1) 4 (.bool false) ∧ Below w.heap.size w X)
    ?own1 ?own2 (fun b hb => hb.elim) (fun _ _ _ _ hb _ => hb.elim) (fun _ _ _ _ hs _ _ => hs)
    ⟨0, Nat.zero_le _, HR0.out, bP, ⟨a, c, bK, fun _ => by cases a <;> simp [Addr.add], by have := HCap.out; omega⟩, bR, hB0⟩
    (fun x => { tmps := #[.int .i64 pg, .string s, .slice a nk c, .pointer (some ⟨w.heap.size, 0, none⟩), undef, .pointer (some ⟨w.heap.size + 1, 0, none⟩), .pointer (some ⟨w.heap.size + 1 + 1, 0, none⟩), .string x, undef, undef, undef, undef, .string s, .func (.func 176) #[] #[.pointer (some ⟨w.heap.size + 1 + 1 + 1, 0, none⟩)], .string x, undef, undef, undef, undef, undef, undef, undef, undef, undef, undef, undef, undef, undef, undef, undef, undef, undef, undef, undef, undef, undef, undef, undef, undef, undef, undef, undef, undef, undef, undef, undef, undef, undef, undef, undef, undef, undef, undef, undef, undef, undef, undef, undef, undef, undef, undef, undef, undef, undef, undef, undef, undef, undef, undef, undef, undef], defers := [] }) ?assign ?body ?done ?stop
  case own1 =>
    rintro pre X Y row ⟨k, h1, h2, h3, ⟨a', c', h4, h5⟩, ⟨v, h6⟩, h7⟩ hg hr
    have hb := ownFrom_below (β := Unit) (n₀ := w.heap.size) (B := w1.heap.size) (w₀ := w) (Nat.le_refl _) (by omega) () X Y row h7 hg hr
    exact ⟨k, h1, h2, h3.kept hg (fun e => by have := (hr _ e.symm).1; omega), ⟨a', c', h4.kept hg (fun e => by have := (hr _ e.symm).1; omega), h5⟩, ⟨v, h6.kept hg (fun e => by have := (hr _ e.symm).1; omega)⟩, hb⟩
  case own2 =>
    rintro c pre X Y row ⟨h1, h2, h6, h7⟩ hg hr
    have hb := ownFrom_below (β := Unit) (n₀ := w.heap.size) (B := w1.heap.size) (w₀ := w) (Nat.le_refl _) (by omega) () X Y row h7 hg hr
    exact ⟨h1, h2, h6.kept hg (fun e => by have := (hr _ e.symm).1; omega), hb⟩
  case assign =>
    intro l x W K hK
    gi_wp2
    exact hK
  case body =>
    have HSz1 : Hid (w1.heap.size = w.heap.size + 1 + 1 + 1 + 1) := hz1
    have HZ2 : Hid (1 < w.heap.size) := HTW.out.lt
    clear hz1
    rintro l' pre x X ⟨k, h1, h2, h3, ⟨a', c', h4, h5⟩, ⟨v, h6⟩, h7⟩ hnx hm2
    obtain ⟨hx, hxz, hxl⟩ := HWd.out pre x hnx
    have HTx2 := Lib.hid (HTx.out pre.length k _ hx)
    have HNo2 := Lib.hid (HNo.out pre.length k _ hx)
    have HOn2 := Lib.hid (fun j => HOn.out pre.length k j _ hx)
    have hlen : (pre ++ [x]).length = pre.length + 1 := by simp
    show Code.wpIn _ _ _ _ _ _ _
    by_cases htx : x.data.toList = textW
    · have t0 : (x.toList == [84, 69, 88, 84]) = true := by rw [ByteArray.toList_eq, htx]; rfl
      have t0' : x.toList = [84, 69, 88, 84] := by rw [ByteArray.toList_eq, htx]; rfl
      have hq : x = { data := #[84, 69, 88, 84] } := Go.WideShapes.bytes_inj htx
      have HF2 := Lib.hid (HTx2.out htx h2)
      have HK5 := Lib.hid h5
      have H3 := Lib.hid h3
      have H4 := Lib.hid h4
      have H6 := Lib.hid h6
      have H7 := Lib.hid h7
      have HH1 := Lib.hid h1
      have HLen := Lib.hid hlen
      clear HTx2 HNo2 HOn2 HTx HNo HOn htx hx hxz hxl h2 h5 h3 h4 h6 h7 h1 hlen hq hnx hm2
      gi_wp2
      exact ⟨KeepsFrom.refl _ _, ⟨fun b o _ hb _ => hb, Nat.le_refl _⟩, k, HH1.out, by rw [HLen.out]; exact HF2.out, H3.out, ⟨a', c', H4.out, HK5.out⟩, ⟨v, H6.out⟩, H7.out⟩
    · have t0 : (x.toList == [84, 69, 88, 84]) = false := by rw [ByteArray.toList_eq, beq_eq_false_iff_ne]; exact fun e => htx e
      have t0' : ¬ x.toList = [84, 69, 88, 84] := by rw [ByteArray.toList_eq]; exact fun e => htx e
      have hne : x ≠ { data := #[84, 69, 88, 84] } := fun e => htx (by rw [e]; rfl)
      obtain ⟨ch, hlast, hat⟩ := last_at x hxz
      have HTw : Hid (∀ j, (∀ i (h : k + i < ks.length), i < j → takesB pg (namesW x.data.toList) ks[k + i] = true) → k + j ≤ ks.length → (k + j = ks.length ∨ (∃ h : k + j < ks.length, takesB pg (namesW x.data.toList) ks[k + j] = false) ∨ (manyB x.data.toList = false ∧ j = 1)) → (manyB x.data.toList = false → j ≤ 1) → takeW pg x.data.toList (ks.drop k) = j) := fun j h1 h2 h3 h4 => takeW_of h1 h2 h3 h4
      have k9 : (1 : Int) ≤ (x.size : Int) := by omega
      have k8 : wrap64 ((x.size : Int) - 1) = (x.size : Int) - 1 := by unfold wrap64; omega
      have k7 : (0 : Int) ≤ (x.size : Int) - 1 := by omega
      have k6 : (x.size : Int) - 1 ≤ (x.size : Int) := by omega
      have k5 : ((x.size : Int) - 1).toNat = x.size - 1 := by omega
      have HNm : Hid (markB ch = true → (x.extract 0 (x.size - 1)).data.toList = namesW x.data.toList) := fun h => namesW_mark hlast h hxz
      have HNn : Hid (markB ch = false → x.data.toList = namesW x.data.toList) := fun h => namesW_none hlast h
      have HNl : Hid ((x.extract 0 (x.size - 1)).size ≤ 2000) := by unfold Hid; rw [ByteArray.size_extract]; omega
      have HMl2 : Hid (x.size ≤ 2000) := hxl
      have HMany : Hid (manyB x.data.toList = (ch == 42 || ch == 43)) := by unfold Hid manyB; rw [hlast]; simp
      have HLast := Lib.hid hlast
      have HNe := Lib.hid htx
      have HF := Lib.hid h2
      have HK5 := Lib.hid h5
      have H3 := Lib.hid h3
      have H4 := Lib.hid h4
      have H6 := Lib.hid h6
      have H7 := Lib.hid h7
      have HH1 := Lib.hid h1
      have HLen := Lib.hid hlen
      have HM2 := Lib.hid hm2
      clear HTx2 HTx HNo HOn htx hx hxz hxl h2 h5 h3 h4 h6 h7 h1 hlen hnx hm2 hlast
      gi_upto_region 4 with fail
      iterate 14 gi_step
      gi_cut [8, 9] from 15 (fun s8 s9 wc => ∃ (NB : ByteArray) (mk : Int), s8 = .string NB ∧ s9 = .int .u8 mk ∧ Hid (CutF x NB mk) ∧ Hid (wc = X))
      case first =>
        by_cases h63 : ch = 63
        · have t63 : ((ch.toNat : Int) == 63) = true := by rw [h63]; rfl
          have t42 : ((ch.toNat : Int) == 42) = false := by rw [h63]; rfl
          have t43 : ((ch.toNat : Int) == 43) = false := by rw [h63]; rfl
          have HN1 := Lib.hid (HNm.out (by rw [h63]; decide))
          have HMy : Hid (manyB x.data.toList = false) := by unfold Hid; rw [HMany.out, h63]; decide
          have HLs : Hid (x.data.toList.getLast? = some 63) := by unfold Hid; rw [HLast.out, h63]
          clear HNm HNn HMany HLast h63
          generalize (ch.toNat : Int) = chn at *
          gi_wp2
          gi_meet
          case rel => exact ⟨x.extract 0 (x.size - 1), 63, rfl, by rw [eq_of_beq t63], ⟨HN1.out, HNl.out, (.inl ⟨rfl, HLs.out, HMy.out⟩)⟩, rfl⟩
        by_cases h42 : ch = 42
        · have t63 : ((ch.toNat : Int) == 63) = false := by rw [h42]; rfl
          have t42 : ((ch.toNat : Int) == 42) = true := by rw [h42]; rfl
          have t43 : ((ch.toNat : Int) == 43) = false := by rw [h42]; rfl
          have HN1 := Lib.hid (HNm.out (by rw [h42]; decide))
          have HMy : Hid (manyB x.data.toList = true) := by unfold Hid; rw [HMany.out, h42]; decide
          have HLs : Hid (x.data.toList.getLast? = some 42) := by unfold Hid; rw [HLast.out, h42]
          clear HNm HNn HMany HLast h63 h42
          generalize (ch.toNat : Int) = chn at *
          gi_wp2
          gi_meet
          case rel => exact ⟨x.extract 0 (x.size - 1), 42, rfl, by rw [eq_of_beq t42], ⟨HN1.out, HNl.out, (.inr (.inl ⟨rfl, HLs.out, HMy.out⟩))⟩, rfl⟩
        by_cases h43 : ch = 43
        · have t63 : ((ch.toNat : Int) == 63) = false := by rw [h43]; rfl
          have t42 : ((ch.toNat : Int) == 42) = false := by rw [h43]; rfl
          have t43 : ((ch.toNat : Int) == 43) = true := by rw [h43]; rfl
          have HN1 := Lib.hid (HNm.out (by rw [h43]; decide))
          have HMy : Hid (manyB x.data.toList = true) := by unfold Hid; rw [HMany.out, h43]; decide
          have HLs : Hid (x.data.toList.getLast? = some 43) := by unfold Hid; rw [HLast.out, h43]
          clear HNm HNn HMany HLast h63 h42 h43
          generalize (ch.toNat : Int) = chn at *
          gi_wp2
          gi_meet
          case rel => exact ⟨x.extract 0 (x.size - 1), 43, rfl, by rw [eq_of_beq t43], ⟨HN1.out, HNl.out, (.inr (.inr (.inl ⟨rfl, HLs.out, HMy.out⟩)))⟩, rfl⟩
        have HN1 := Lib.hid (HNn.out (by unfold markB; simp [h63, h42, h43]))
        have HMy : Hid (manyB x.data.toList = false) := by unfold Hid; rw [HMany.out]; simp [h42, h43]
        have HL1 : Hid (x.data.toList.getLast? ≠ some 63) := by unfold Hid; rw [HLast.out]; simpa using h63
        have HL2 : Hid (x.data.toList.getLast? ≠ some 42) := by unfold Hid; rw [HLast.out]; simpa using h42
        have t63 : ((ch.toNat : Int) == 63) = false := by rw [beq_eq_false_iff_ne]; exact fun e => h63 (byte_eq 63 rfl e)
        have t42 : ((ch.toNat : Int) == 42) = false := by rw [beq_eq_false_iff_ne]; exact fun e => h42 (byte_eq 42 rfl e)
        have t43 : ((ch.toNat : Int) == 43) = false := by rw [beq_eq_false_iff_ne]; exact fun e => h43 (byte_eq 43 rfl e)
        clear HNm HNn HMany HLast h63 h42 h43
        generalize (ch.toNat : Int) = chn at *
        gi_wp2
        gi_meet
        case rel => exact ⟨x, 0, rfl, rfl, ⟨HN1.out, HMl2.out, .inr (.inr (.inr ⟨rfl, ⟨HL1.out, HL2.out⟩, HMy.out⟩))⟩, rfl⟩
      case rest =>
        obtain ⟨NB, mk, rfl, rfl, hcf, hwx⟩ := hcut
        obtain rfl : wc = X := hwx.out
        obtain ⟨hNB, hNs, hc⟩ := hcf.out
        have HNB := Lib.hid hNB
        have HNs := Lib.hid hNs
        have HMk := Lib.hid hc
        clear hcf hwx hNB hNs hc HNm HNn HMany HLast HNl HMl2 k5 k6 k7 k8 k9 hat hne t0 t0'
        gi_wp2
        gi_loopw [11] (fun tv wr => ∃ j : Nat, tv = .bool (decide (0 < j)) ∧ Hid (k + j ≤ nk) ∧ Hid (∀ i (h : k + i < ks.length), i < j → takesB pg (namesW x.data.toList) ks[k + i] = true) ∧ Hid (manyB x.data.toList = false → j = 0) ∧ Hid (Boxed wr w.heap.size 3 (.int .i64 pg)) ∧ (∃ a2 c2, Hid (Boxed wr (w.heap.size + 1) 44 (.slice a2 (nk - (k + j)) c2)) ∧ Hid ((k + j < nk → a2 = a.map (·.add ((k + j) * 5))) ∧ nk ≤ c2 + (k + j))) ∧ (∃ v, Hid (Boxed wr (w.heap.size + 1 + 1) 4 v)) ∧ Hid (Below w.heap.size w wr) ∧ Hid (KeepsFrom w1.heap.size wc wr) ∧ Hid (KpW (w1.heap.size + 2) wc wr)) (fun _ wr => match wr.cell? ⟨w.heap.size + 1, 0, none⟩ with | some (.slice _ n _) => n | _ => 0)
        case atStart => exact ⟨0, rfl, HH1.out, fun _ _ h => absurd h (Nat.not_lt_zero _), fun _ => rfl, H3.out, ⟨a', c', H4.out, HK5.out⟩, ⟨v, H6.out⟩, H7.out, KeepsFrom.refl _ _, ⟨fun b o _ hb _ => hb, Nat.le_refl _⟩⟩
        case round =>
          obtain ⟨j, rfl, HJ1, HJ2, HJ3, B3, ⟨a2, c2, B4, HA2⟩, ⟨v2, B6⟩, HB7, HKp, HKw⟩ := hrel
          have b3 := B3.out.cell
          have b4 := B4.out.cell
          by_cases hkn : k + j < nk
          case neg =>
            have hn0 : nk - (k + j) = 0 := by omega
            have HTk := Lib.hid (HTw.out j HJ2.out (by have := HJ1.out; have := HNK.out; omega) (.inl (by have := HJ1.out; have := HNK.out; omega)) (fun h => by have := HJ3.out h; omega))
            rw [hn0] at b4
            clear hkn hn0
            gi_upto_region 9 with fail
            refine wpIn_once (fun a' w' => ∃ q39 q40 q41 q42 q43 q44 q45 q46 q47 q48 : Value, a' = { tmps := #[.int .i64 pg, .string s, .slice a nk c, .pointer (some ⟨w.heap.size, 0, none⟩), undef, .pointer (some ⟨w.heap.size + 1, 0, none⟩), .pointer (some ⟨w.heap.size + 1 + 1, 0, none⟩), .string x, .string NB, .int .u8 mk, u10, .bool (decide (0 < j)), .string s, .func (.func 176) #[] #[.pointer (some ⟨w.heap.size + 1 + 1 + 1, 0, none⟩)], .string x, u15, u16, u17, u18, u19, u20, u21, u22, u23, u24, u25, u26, u27, u28, u29, u30, u31, u32, u33, u34, u35, u36, u37, u38, q39, q40, q41, q42, q43, q44, q45, q46, q47, q48, .bool false, u50, u51, u52, u53, u54, u55, u56, u57, u58, u59, u60, u61, u62, u63, u64, u65, u66, u67, u68, u69, u70], defers := [] } ∧ w' = wr.drew) ?reg ?go
            case reg =>
              intro J hJ
              gi_region_with (refine ⟨trivial, ?_⟩)
              all_goals (first | exact ⟨rfl, hJ _ _ ⟨_, _, _, _, _, _, _, _, _, _, rfl, rfl⟩⟩ | exact hJ _ _ ⟨_, _, _, _, _, _, _, _, _, _, rfl, rfl⟩)
            case go =>
              rintro a' w' ⟨q39, q40, q41, q42, q43, q44, q45, q46, q47, q48, rfl, rfl⟩
              clear b3 b4
              rcases HMk.out with ⟨rfl, hl, hm⟩ | ⟨rfl, hl, hm⟩ | ⟨rfl, hl, hm⟩ | ⟨rfl, hl, hm⟩
              · have HLs := Lib.hid hl
                have HMy := Lib.hid hm
                clear hl hm
                have hj : j = 0 := HJ3.out HMy.out
                have d0 : decide (0 < j) = false := by rw [hj]; rfl
                rw [d0]
                clear d0 hj
                have HF2 := Lib.hid (HOn2.out j HNe.out HTk.out (.inr (.inl HLs.out)) HF.out)
                gi_wp2
                exact ⟨⟨HKp.out.size, fun i o h1 => HKp.out.same i o h1⟩, HKw.out.drew', k + j, by have := HJ1.out; omega, by rw [HLen.out]; exact HF2.out, B3.out, ⟨_, c2, B4.out, HA2.out⟩, ⟨v2, B6.out⟩, HB7.out.drew⟩
              · have HLs := Lib.hid hl
                have HMy := Lib.hid hm
                clear hl hm
                have HF2 := Lib.hid (HOn2.out j HNe.out HTk.out (.inr (.inr HLs.out)) HF.out)
                gi_wp2
                all_goals exact ⟨⟨HKp.out.size, fun i o h1 => HKp.out.same i o h1⟩, HKw.out.drew', k + j, by have := HJ1.out; omega, by rw [HLen.out]; exact HF2.out, B3.out, ⟨_, c2, B4.out, HA2.out⟩, ⟨v2, B6.out⟩, HB7.out.drew⟩
              · have HLs := Lib.hid hl
                have HMy := Lib.hid hm
                have HL63 : Hid (x.data.toList.getLast? ≠ some 63) := by unfold Hid; rw [hl]; decide
                have HL42 : Hid (x.data.toList.getLast? ≠ some 42) := by unfold Hid; rw [hl]; decide
                clear hl hm
                by_cases hj0 : j = 0
                · have d0 : decide (0 < j) = false := by rw [hj0]; rfl
                  have HRf : Hid (R = false) := HNo2.out HNe.out (by rw [HTk.out]; exact hj0) HL63.out HL42.out HF.out
                  have f6 := (B6.out).frozen
                  have c6 := (B6.out).cell
                  have HQ : Hid (KeepsFrom w1.heap.size wc (wr.setCell ⟨w.heap.size + 1 + 1, 0, none⟩ (.bool false)).drew) := (fun (h : KeepsFrom w1.heap.size wc (wr.setCell ⟨w.heap.size + 1 + 1, 0, none⟩ (.bool false))) => ⟨h.size, fun i o h1 => h.same i o h1⟩ : _ → KeepsFrom w1.heap.size wc (wr.setCell ⟨w.heap.size + 1 + 1, 0, none⟩ (.bool false)).drew) (HKp.out.trans ((KeepsOthers.setCell _ _ _).from _))
                  have HQ2 : Hid (Boxed (wr.setCell ⟨w.heap.size + 1 + 1, 0, none⟩ (.bool false)) (w.heap.size + 1 + 1) 4 (.bool false)) := (B6.out).set _
                  have HQ3 : Hid (Below w.heap.size w (wr.setCell ⟨w.heap.size + 1 + 1, 0, none⟩ (.bool false))) := (HB7.out).setCell (p := ⟨w.heap.size + 1 + 1, 0, none⟩) (by show w.heap.size ≤ w.heap.size + 1 + 1; omega) _
                  rw [d0]
                  clear hj0 d0
                  gi_wp2
                  exact ⟨HQ.out, rfl, HRf.out, HQ2.out, HQ3.out.drew⟩
                · have d0 : decide (0 < j) = true := decide_pos hj0
                  have HF2 := Lib.hid (HOn2.out j HNe.out HTk.out (.inl hj0) HF.out)
                  rw [d0]
                  clear hj0 d0
                  gi_wp2
                  exact ⟨⟨HKp.out.size, fun i o h1 => HKp.out.same i o h1⟩, HKw.out.drew', k + j, by have := HJ1.out; omega, by rw [HLen.out]; exact HF2.out, B3.out, ⟨_, c2, B4.out, HA2.out⟩, ⟨v2, B6.out⟩, HB7.out.drew⟩
              · have HLs := Lib.hid hl
                have HMy := Lib.hid hm
                have HL63 := Lib.hid hl.1
                have HL42 := Lib.hid hl.2
                clear hl hm
                have hj : j = 0 := HJ3.out HMy.out
                have d0 : decide (0 < j) = false := by rw [hj]; rfl
                rw [d0]
                clear d0 hj
                have hj0 : j = 0 := HJ3.out HMy.out
                have HRf : Hid (R = false) := HNo2.out HNe.out (by rw [HTk.out]; exact hj0) HL63.out HL42.out HF.out
                have f6 := (B6.out).frozen
                have c6 := (B6.out).cell
                have HQ : Hid (KeepsFrom w1.heap.size wc (wr.setCell ⟨w.heap.size + 1 + 1, 0, none⟩ (.bool false)).drew) := (fun (h : KeepsFrom w1.heap.size wc (wr.setCell ⟨w.heap.size + 1 + 1, 0, none⟩ (.bool false))) => ⟨h.size, fun i o h1 => h.same i o h1⟩ : _ → KeepsFrom w1.heap.size wc (wr.setCell ⟨w.heap.size + 1 + 1, 0, none⟩ (.bool false)).drew) (HKp.out.trans ((KeepsOthers.setCell _ _ _).from _))
                have HQ2 : Hid (Boxed (wr.setCell ⟨w.heap.size + 1 + 1, 0, none⟩ (.bool false)) (w.heap.size + 1 + 1) 4 (.bool false)) := (B6.out).set _
                have HQ3 : Hid (Below w.heap.size w (wr.setCell ⟨w.heap.size + 1 + 1, 0, none⟩ (.bool false))) := (HB7.out).setCell (p := ⟨w.heap.size + 1 + 1, 0, none⟩) (by show w.heap.size ≤ w.heap.size + 1 + 1; omega) _
                gi_wp2
                exact ⟨HQ.out, rfl, HRf.out, HQ2.out, HQ3.out.drew⟩
          case pos =>
            have hln : k + j < ks.length := by have := HNK.out; omega
            obtain ⟨bb, o5, ak, ck, ha, hrg, hkt⟩ := kid_at2 HKs.out (HB7.out.mono HM.out) (k + j) hln
            have ha2 : a2 = some ⟨bb, o5 + (k + j) * 5, none⟩ := by rw [HA2.out.1 hkn, ha]; simp [addr_addG]
            subst ha2
            obtain ⟨y0, y1, y2, y3, y4⟩ := elem_cells hrg
            obtain ⟨a3, hsl, ha3⟩ := slice_one (some ⟨bb, o5 + (k + j) * 5, none⟩) (nk - (k + j)) c2 (by omega)
            have HA3 : Hid ((k + (j + 1) < nk → a3 = a.map (·.add ((k + (j + 1)) * 5))) ∧ nk ≤ c2 - 1 + (k + (j + 1))) := by
              have h9 := HA2.out.2
              refine ⟨fun h => ?_, by omega⟩
              rw [ha3 (by omega), ha]
              simp only [Option.map_some, addr_addG, Option.some.injEq, Addr.mk.injEq, true_and, and_true]
              omega
            have hn1 : nk - (k + j) - 1 = nk - (k + (j + 1)) := by omega
            rw [hn1] at hsl
            have hTT : takesB pg (namesW x.data.toList) (ks[k + j]'hln) = takesV pg NB.data.toList (ks[k + j]'hln).page (ks[k + j]'hln).name.data.toList := by
              unfold takesB; rw [HNB.out]
            have CT := Lib.hid (fun W (hW : W.cell? ⟨0, 0, none⟩ = some (.int .i64 m)) => gOne_any pg NB (ks[k + j]'hln).page (ks[k + j]'hln).name (ks[k + j]'hln).text (ks[k + j]'hln).opq ak (ks[k + j]'hln).kids.length ck W m hW (by have := HNs.out; omega))
            rw [← hTT] at CT
            have HM0 : Hid (wr.cell? ⟨0, 0, none⟩ = some (.int .i64 m)) := (HB7.out.cell (p := ⟨0, 0, none⟩) (World.block_lt_of_cell? _ _ HMl.out)).trans HMl.out
            obtain ⟨T, hT⟩ : ∃ T, takesB pg (namesW x.data.toList) (ks[k + j]'hln) = T := ⟨_, rfl⟩
            rw [hT] at CT
            have HT : Hid (∀ h : k + j < ks.length, takesB pg (namesW x.data.toList) (ks[k + j]'h) = T) := fun _ => hT
            clear hT hTT ha3 hkt ha
            generalize (ks[k + j]'hln).page = p1 at *
            generalize (ks[k + j]'hln).name = n1 at *
            generalize (ks[k + j]'hln).text = t1 at *
            generalize (ks[k + j]'hln).opq = q1 at *
            generalize (ks[k + j]'hln).kids.length = l1 at *
            generalize o5 + (k + j) * 5 = oo at *
            have HLn := Lib.hid hln
            have HKN := Lib.hid hkn
            have hn2 : (0 : Int) < ((nk - (k + j) : Nat) : Int) := by omega
            have HN12 : Hid (nk - (k + (j + 1)) < nk - (k + j)) := by unfold Hid; omega
            clear hkn hn1 hln hrg
            generalize hn5 : nk - (k + j) = n5 at *
            have HN5 := Lib.hid hn5
            clear hn5
            gi_upto_region 9 with fail
            refine wpIn_once (fun a' w' => ∃ (w9 : World) (q39 q40 q41 q42 q43 q44 q45 q46 q47 q48 : Value), Below wr.heap.size wr.drew w9 ∧ a' = { tmps := #[.int .i64 pg, .string s, .slice a nk c, .pointer (some ⟨w.heap.size, 0, none⟩), undef, .pointer (some ⟨w.heap.size + 1, 0, none⟩), .pointer (some ⟨w.heap.size + 1 + 1, 0, none⟩), .string x, .string NB, .int .u8 mk, u10, .bool (decide (0 < j)), .string s, .func (.func 176) #[] #[.pointer (some ⟨w.heap.size + 1 + 1 + 1, 0, none⟩)], .string x, u15, u16, u17, u18, u19, u20, u21, u22, u23, u24, u25, u26, u27, u28, u29, u30, u31, u32, u33, u34, u35, u36, u37, u38, q39, q40, q41, q42, q43, q44, q45, q46, q47, q48, .bool T, u50, u51, u52, u53, u54, u55, u56, u57, u58, u59, u60, u61, u62, u63, u64, u65, u66, u67, u68, u69, u70], defers := [] } ∧ w' = w9) ?reg ?go
            case reg =>
              intro J hJ
              gi_region_with (refine ⟨trivial, ?_⟩; gi_at_call 143; refine (calls_round (CT.out wr.drew HM0.out)).mono ?_; rintro e w9 ⟨rfl, hb9⟩)
              all_goals (first | exact ⟨rfl, hJ _ _ ⟨w9, _, _, _, _, _, _, _, _, _, _, hb9, rfl, rfl⟩⟩ | exact hJ _ _ ⟨w9, _, _, _, _, _, _, _, _, _, _, hb9, rfl, rfl⟩)
            case go =>
              rintro a' w9 ⟨w8, q39, q40, q41, q42, q43, q44, q45, q46, q47, q48, hb9, rfl, rfl⟩
              have hb9' : Below wr.heap.size wr w9 := ⟨hb9.os, hb9.tape, hb9.output, hb9.size, fun k hk => hb9.block k hk⟩
              have D3 := Lib.hid (Boxed.low B3.out hb9')
              have D4 := Lib.hid (Boxed.low B4.out hb9')
              have D6 := Lib.hid (Boxed.low B6.out hb9')
              have D7 : Hid (Below w.heap.size w w9) := HB7.out.trans (hb9'.mono HB7.out.size)
              have DK : Hid (KeepsFrom w1.heap.size wc w9) := HKp.out.trans (keeps_below _ hb9')
              have DW : Hid (KpW (w1.heap.size + 2) wc w9) := HKw.out.trans (KpW.below hb9')
              clear hb9 hb9' b3 b4 y0 y1 y2 y3 y4
              cases T with
              | false =>
                have HTk := Lib.hid (HTw.out j HJ2.out (by have := HLn.out; omega) (.inr (.inl ⟨HLn.out, HT.out HLn.out⟩)) (fun h => by have := HJ3.out h; omega))
                clear hsl hn2
                rcases HMk.out with ⟨rfl, hl, hm⟩ | ⟨rfl, hl, hm⟩ | ⟨rfl, hl, hm⟩ | ⟨rfl, hl, hm⟩
                · have HLs := Lib.hid hl
                  have HMy := Lib.hid hm
                  clear hl hm
                  have hj : j = 0 := HJ3.out HMy.out
                  have d0 : decide (0 < j) = false := by rw [hj]; rfl
                  rw [d0]
                  clear d0 hj
                  have HF2 := Lib.hid (HOn2.out j HNe.out HTk.out (.inr (.inl HLs.out)) HF.out)
                  gi_wp2
                  exact ⟨DK.out, DW.out, k + j, by have := HJ1.out; omega, by rw [HLen.out]; exact HF2.out, D3.out, ⟨_, c2, (by rw [HN5.out]; exact D4.out), HA2.out⟩, ⟨v2, D6.out⟩, D7.out⟩
                · have HLs := Lib.hid hl
                  have HMy := Lib.hid hm
                  clear hl hm
                  have HF2 := Lib.hid (HOn2.out j HNe.out HTk.out (.inr (.inr HLs.out)) HF.out)
                  gi_wp2
                  all_goals exact ⟨DK.out, DW.out, k + j, by have := HJ1.out; omega, by rw [HLen.out]; exact HF2.out, D3.out, ⟨_, c2, (by rw [HN5.out]; exact D4.out), HA2.out⟩, ⟨v2, D6.out⟩, D7.out⟩
                · have HLs := Lib.hid hl
                  have HMy := Lib.hid hm
                  have HL63 : Hid (x.data.toList.getLast? ≠ some 63) := by unfold Hid; rw [hl]; decide
                  have HL42 : Hid (x.data.toList.getLast? ≠ some 42) := by unfold Hid; rw [hl]; decide
                  clear hl hm
                  by_cases hj0 : j = 0
                  · have d0 : decide (0 < j) = false := by rw [hj0]; rfl
                    have HRf : Hid (R = false) := HNo2.out HNe.out (by rw [HTk.out]; exact hj0) HL63.out HL42.out HF.out
                    have f6 := (D6.out).frozen
                    have c6 := (D6.out).cell
                    have HQ : Hid (KeepsFrom w1.heap.size wc (w9.setCell ⟨w.heap.size + 1 + 1, 0, none⟩ (.bool false))) := (DK.out).trans ((KeepsOthers.setCell _ _ _).from _)
                    have HQ2 : Hid (Boxed (w9.setCell ⟨w.heap.size + 1 + 1, 0, none⟩ (.bool false)) (w.heap.size + 1 + 1) 4 (.bool false)) := (D6.out).set _
                    have HQ3 : Hid (Below w.heap.size w (w9.setCell ⟨w.heap.size + 1 + 1, 0, none⟩ (.bool false))) := (D7.out).setCell (p := ⟨w.heap.size + 1 + 1, 0, none⟩) (by show w.heap.size ≤ w.heap.size + 1 + 1; omega) _
                    rw [d0]
                    clear hj0 d0
                    gi_wp2
                    exact ⟨HQ.out, rfl, HRf.out, HQ2.out, HQ3.out⟩
                  · have d0 : decide (0 < j) = true := decide_pos hj0
                    have HF2 := Lib.hid (HOn2.out j HNe.out HTk.out (.inl hj0) HF.out)
                    rw [d0]
                    clear hj0 d0
                    gi_wp2
                    exact ⟨DK.out, DW.out, k + j, by have := HJ1.out; omega, by rw [HLen.out]; exact HF2.out, D3.out, ⟨_, c2, (by rw [HN5.out]; exact D4.out), HA2.out⟩, ⟨v2, D6.out⟩, D7.out⟩
                · have HLs := Lib.hid hl
                  have HMy := Lib.hid hm
                  have HL63 := Lib.hid hl.1
                  have HL42 := Lib.hid hl.2
                  clear hl hm
                  have hj : j = 0 := HJ3.out HMy.out
                  have d0 : decide (0 < j) = false := by rw [hj]; rfl
                  rw [d0]
                  clear d0 hj
                  have hj0 : j = 0 := HJ3.out HMy.out
                  have HRf : Hid (R = false) := HNo2.out HNe.out (by rw [HTk.out]; exact hj0) HL63.out HL42.out HF.out
                  have f6 := (D6.out).frozen
                  have c6 := (D6.out).cell
                  have HQ : Hid (KeepsFrom w1.heap.size wc (w9.setCell ⟨w.heap.size + 1 + 1, 0, none⟩ (.bool false))) := (DK.out).trans ((KeepsOthers.setCell _ _ _).from _)
                  have HQ2 : Hid (Boxed (w9.setCell ⟨w.heap.size + 1 + 1, 0, none⟩ (.bool false)) (w.heap.size + 1 + 1) 4 (.bool false)) := (D6.out).set _
                  have HQ3 : Hid (Below w.heap.size w (w9.setCell ⟨w.heap.size + 1 + 1, 0, none⟩ (.bool false))) := (D7.out).setCell (p := ⟨w.heap.size + 1 + 1, 0, none⟩) (by show w.heap.size ≤ w.heap.size + 1 + 1; omega) _
                  gi_wp2
                  exact ⟨HQ.out, rfl, HRf.out, HQ2.out, HQ3.out⟩
              | true =>
                have d4 := D4.out.cell
                have e4 := D4.out.frozen
                have E3 : Hid (Boxed (w9.setCell ⟨w.heap.size + 1, 0, none⟩ (.slice a3 (nk - (k + (j + 1))) (c2 - 1))) w.heap.size 3 (.int .i64 pg)) := D3.out.other (by omega) _
                have E4 : Hid (Boxed (w9.setCell ⟨w.heap.size + 1, 0, none⟩ (.slice a3 (nk - (k + (j + 1))) (c2 - 1))) (w.heap.size + 1) 44 (.slice a3 (nk - (k + (j + 1))) (c2 - 1))) := D4.out.set _
                have E6 : Hid (Boxed (w9.setCell ⟨w.heap.size + 1, 0, none⟩ (.slice a3 (nk - (k + (j + 1))) (c2 - 1))) (w.heap.size + 1 + 1) 4 v2) := D6.out.other (by omega) _
                have E7 : Hid (Below w.heap.size w (w9.setCell ⟨w.heap.size + 1, 0, none⟩ (.slice a3 (nk - (k + (j + 1))) (c2 - 1)))) := D7.out.setCell (p := ⟨w.heap.size + 1, 0, none⟩) (by show w.heap.size ≤ w.heap.size + 1; omega) _
                have EK : Hid (KeepsFrom w1.heap.size wc (w9.setCell ⟨w.heap.size + 1, 0, none⟩ (.slice a3 (nk - (k + (j + 1))) (c2 - 1)))) := DK.out.trans ((KeepsOthers.setCell _ _ _).from _)
                have EW : Hid (KpW (w1.heap.size + 2) wc (w9.setCell ⟨w.heap.size + 1, 0, none⟩ (.slice a3 (nk - (k + (j + 1))) (c2 - 1)))) := DW.out.store _ (by have := HZ2.out; omega) (by have := HSz1.out; omega) (by have := HSz1.out; omega)
                have ET : Hid (∀ i (h : k + i < ks.length), i < j + 1 → takesB pg (namesW x.data.toList) ks[k + i] = true) := fun i h hi => by
                  by_cases e : i = j
                  · subst e; exact HT.out h
                  · exact HJ2.out i h (by omega)
                have EJ : Hid (k + (j + 1) ≤ nk) := by have := HKN.out; unfold Hid; omega
                rcases HMk.out with ⟨rfl, hl, hm⟩ | ⟨rfl, hl, hm⟩ | ⟨rfl, hl, hm⟩ | ⟨rfl, hl, hm⟩
                · have HMy := Lib.hid hm
                  clear hl hm
                  have hj : j = 0 := HJ3.out HMy.out
                  have HTk := Lib.hid (HTw.out (j + 1) ET.out (by have := HLn.out; omega) (.inr (.inr ⟨HMy.out, by omega⟩)) (fun _ => by omega))
                  have HF2 := Lib.hid (HOn2.out (j + 1) HNe.out HTk.out (.inl (by omega)) HF.out)
                  clear hj
                  gi_wp2
                  exact ⟨EK.out, EW.out, k + (j + 1), EJ.out, by rw [HLen.out]; exact HF2.out, E3.out, ⟨a3, c2 - 1, E4.out, HA3.out⟩, ⟨v2, E6.out⟩, E7.out⟩
                · have HMy := Lib.hid hm
                  clear hl hm
                  gi_wp2
                  go_roundw
                  case rel => exact ⟨j + 1, by rw [decide_pos (Nat.succ_ne_zero j)], EJ.out, ET.out, fun h => (by rw [HMy.out] at h; cases h), E3.out, ⟨a3, c2 - 1, E4.out, HA3.out⟩, ⟨v2, E6.out⟩, E7.out, EK.out, EW.out⟩
                  case measure =>
                    have m1 := B4.out.cell
                    have m2 := E4.out.cell
                    simp only [m1, m2]
                    exact HN12.out
                · have HMy := Lib.hid hm
                  clear hl hm
                  gi_wp2
                  go_roundw
                  case rel => exact ⟨j + 1, by rw [decide_pos (Nat.succ_ne_zero j)], EJ.out, ET.out, fun h => (by rw [HMy.out] at h; cases h), E3.out, ⟨a3, c2 - 1, E4.out, HA3.out⟩, ⟨v2, E6.out⟩, E7.out, EK.out, EW.out⟩
                  case measure =>
                    have m1 := B4.out.cell
                    have m2 := E4.out.cell
                    simp only [m1, m2]
                    exact HN12.out
                · have HMy := Lib.hid hm
                  clear hl hm
                  have hj : j = 0 := HJ3.out HMy.out
                  have HTk := Lib.hid (HTw.out (j + 1) ET.out (by have := HLn.out; omega) (.inr (.inr ⟨HMy.out, by omega⟩)) (fun _ => by omega))
                  have HF2 := Lib.hid (HOn2.out (j + 1) HNe.out HTk.out (.inl (by omega)) HF.out)
                  clear hj
                  gi_wp2
                  exact ⟨EK.out, EW.out, k + (j + 1), EJ.out, by rw [HLen.out]; exact HF2.out, E3.out, ⟨a3, c2 - 1, E4.out, HA3.out⟩, ⟨v2, E6.out⟩, E7.out⟩
  case done =>
    rintro D ys X hD rfl ⟨k, h1, h2, h3, ⟨a', c', h4, h5⟩, ⟨v, h6⟩, h7⟩ hK
    have HRr : Hid (R = decide (nk ≤ k)) := by unfold Hid; rw [← h2, fitsW_end (by simp), HNK.out]
    clear h2 h5 h3
    have hc := h4.cell
    have hcr := h6.cell
    have hfr := h6.frozen
    have HK2 : ∀ b : Bool, Hid ((X.setCell ⟨w.heap.size + 1 + 1, 0, none⟩ (.bool b)).heap[D]? = some (.deferred (some []))) := fun b => (Below.heap_setCell _ _ _ _ (by show D ≠ w.heap.size + 1 + 1; omega)).trans hK
    have HB2 : ∀ b : Bool, Hid (Below w.heap.size w (X.setCell ⟨w.heap.size + 1 + 1, 0, none⟩ (.bool b))) := fun b => h7.setCell (p := ⟨w.heap.size + 1 + 1, 0, none⟩) (by show w.heap.size ≤ w.heap.size + 1 + 1; omega) _
    have HC2 : ∀ b : Bool, Hid (Boxed ((X.setCell ⟨w.heap.size + 1 + 1, 0, none⟩ (.bool b)).putObj D (.deferred none)) (w.heap.size + 1 + 1) 4 (.bool b)) := fun b => (World.putObj_heap_other (by omega)).trans (h6.set _)
    clear h4 h6 h7
    simp only [Exit.inBlock, Exit.then]
    refine HKc.out _ _ ?_
    have HDn : Hid (w1.heap.size ≤ D) := hD
    have HSz1 : Hid (w1.heap.size = w.heap.size + 1 + 1 + 1 + 1) := hz1
    clear hD hz1
    by_cases hq : nk - k = 0
    · have HRt : Hid (R = true) := by rw [HRr.out]; unfold Hid; simp; omega
      rw [hq] at hc
      clear hq h1
      gi_wp2
      refine ⟨by simp, .inl ⟨_, _, rfl, run_takeDeferred (HK2 true).out, ?_⟩⟩
      refine ⟨_, results_cell1 rfl rfl (run_loadVar_cell (HC2 true).out.cell (by kernel_rfl)), ?_, (HB2 true).out.trans (belowK_b (Nat.le_refl _) _ D _ _ (by have := HDn.out; have := HSz1.out; omega) (HK2 true).out rfl rfl)⟩
      rw [HRt.out]
    · have HRt : Hid (R = false) := by rw [HRr.out]; unfold Hid; simp; omega
      have hq0 : (((nk - k : Nat) : Int) == 0) = false := by rw [beq_eq_false_iff_ne]; omega
      generalize nk - k = q at *
      clear hq h1
      gi_wp2
      refine ⟨by simp, .inl ⟨_, _, rfl, run_takeDeferred (HK2 false).out, ?_⟩⟩
      refine ⟨_, results_cell1 rfl rfl (run_loadVar_cell (HC2 false).out.cell (by kernel_rfl)), ?_, (HB2 false).out.trans (belowK_b (Nat.le_refl _) _ D _ _ (by have := HDn.out; have := HSz1.out; omega) (HK2 false).out rfl rfl)⟩
      rw [HRt.out]
  case stop =>
    rintro D cc pre X hD hp ⟨rfl, hR, h6, h7⟩ hK
    have HC2 : Hid (Boxed (X.putObj D (.deferred none)) (w.heap.size + 1 + 1) 4 (.bool false)) := (World.putObj_heap_other (by omega)).trans h6
    subst hR
    gi_wp2
    refine ⟨by simp, .inl ⟨_, _, rfl, run_takeDeferred hK, ?_⟩⟩
    refine ⟨_, results_cell1 rfl rfl (run_loadVar_cell HC2.out.cell (by kernel_rfl)), ?_, h7.trans (belowK_b (Nat.le_refl _) _ D _ _ (by omega) hK rfl rfl)⟩
    rfl
end Go.Proofs.YtgechifbbhipaaaDoor
