/- vocab: VocabEach, the walk. No condition but the library's table. -/
import Derived.Test.YtcpmgnejbfnnjaaDoorVcO
namespace Go.Proofs.YtcpmgnejbfnnjaaDoor
open Go.RowKit Go.Shelf

attribute [local go_sem] Oper.semAt_some

theorem word_full (k : Int) (i : Nat) (hi : i < (wdsE (txt k)).length) : (wdsE (txt k))[i] ≠ ⟨#[]⟩ := by
  have hz : (txt k).size ≠ 0 := fun h => by
    have e : wdsE (txt k) = [] := by unfold wdsE; rw [if_pos h]
    rw [e] at hi; simp at hi
  have hok := txt_ok k hz
  have hw : wdsE (txt k) = wds (txt k) := by unfold wdsE; rw [if_neg hz]
  intro e
  have := hok.1 (wdsE (txt k))[i] (by rw [← hw]; exact List.getElem_mem hi)
  rw [e] at this
  exact this rfl

/-- how many of the first t tokens have a name -/
noncomputable def cntV (k : Int) (t : Nat) : Nat := (tkL ((wdsE (txt k)).take (t - 5))).length
theorem cnt_step (k : Int) (t : Nat) : (nameV k t = ⟨#[]⟩ → cntV k (t + 1) = cntV k t) ∧ (nameV k t ≠ ⟨#[]⟩ → cntV k (t + 1) = cntV k t + 1) := by
  by_cases h5 : t < 5
  · have hn : nameV k t = ⟨#[]⟩ := nameV_no (fun j _ => .inl (by omega))
    have e : cntV k (t + 1) = cntV k t := by unfold cntV; rw [show t + 1 - 5 = 0 from by omega, show t - 5 = 0 from by omega]
    exact ⟨fun _ => e, fun h => absurd hn h⟩
  · obtain ⟨i, rfl⟩ : ∃ i, t = 5 + i := ⟨t - 5, by omega⟩
    by_cases hi : i < (wdsE (txt k)).length
    · have h1 : (wdsE (txt k)).take (i + 1) = (wdsE (txt k)).take i ++ [(wdsE (txt k))[i]] := by rw [List.take_succ_eq_append_getElem hi]
      have e1 : cntV k (5 + i + 1) = (tkL ((wdsE (txt k)).take i ++ [(wdsE (txt k))[i]])).length := by unfold cntV; rw [show 5 + i + 1 - 5 = i + 1 from by omega, h1]
      have e0 : cntV k (5 + i) = (tkL ((wdsE (txt k)).take i)).length := by unfold cntV; rw [show 5 + i - 5 = i from by omega]
      by_cases hg : (wdsE (txt k))[i] = gapB
      · have hn : nameV k (5 + i) = ⟨#[]⟩ := nameV_no (fun j _ => by
          by_cases e : j = i
          · subst e; exact .inr hg
          · exact .inl (by omega))
        refine ⟨fun _ => ?_, fun h => absurd hn h⟩
        rw [e1, e0, hg, tkL_gap]
      · have hn : nameV k (5 + i) ≠ ⟨#[]⟩ := by rw [nameV_at hi hg]; exact word_full k i hi
        refine ⟨fun h => absurd h hn, fun _ => ?_⟩
        rw [e1, e0, tkL_word _ _ hg]; simp
    · have hn : nameV k (5 + i) = ⟨#[]⟩ := nameV_no (fun j _ => .inl (by omega))
      refine ⟨fun _ => ?_, fun h => absurd hn h⟩
      unfold cntV
      rw [List.take_of_length_le (by omega), List.take_of_length_le (by omega)]
theorem cnt_all (k : Int) : cntV k 256 = (tks k).length := by
  have := wdsE_len k
  unfold cntV tks
  rw [List.take_of_length_le (by omega)]
theorem cnt_le (k : Int) (t : Nat) : cntV k t ≤ 60 := by
  have := wdsE_len k
  have h1 := tkL_len ((wdsE (txt k)).take (t - 5))
  unfold cntV
  rw [List.length_take] at h1
  omega
theorem tks_len (k : Int) : (tks k).length ≤ 60 := by
  have := wdsE_len k
  have h1 := tkL_len (wdsE (txt k))
  unfold tks; omega

theorem tkL_sorted (l : List ByteArray) : List.Pairwise (fun p q : Nat × ByteArray => p.1 < q.1) (tkL l) := by
  have h : ∀ i, i ≤ l.length → List.Pairwise (fun p q : Nat × ByteArray => p.1 < q.1) (tkL (l.take i)) := by
    intro i
    induction i with
    | zero => intro _; simp [tkL]
    | succ i ih =>
      intro hi
      rw [List.take_succ_eq_append_getElem (show i < l.length by omega)]
      by_cases hg : l[i] = gapB
      · rw [hg, tkL_gap]; exact ih (by omega)
      · rw [tkL_word _ _ hg, List.pairwise_append]
        refine ⟨ih (by omega), by simp, fun p hp q hq => ?_⟩
        rw [List.mem_singleton] at hq; subst hq
        obtain ⟨j, hj, rfl, _⟩ := mem_tkL hp
        rw [List.length_take] at hj
        show 5 + j < 5 + _
        rw [List.length_take]; omega
  have := h l.length (Nat.le_refl _)
  rwa [List.take_of_length_le (Nat.le_refl _)] at this

/-- the last token told, or -1 -/
def lastV (pre : List (Nat × ByteArray)) : Int := match pre.getLast? with
  | none => -1
  | some p => (p.1 : Int)
theorem lastV_snoc (pre : List (Nat × ByteArray)) (x : Nat × ByteArray) : lastV (pre ++ [x]) = (x.1 : Int) := by simp [lastV]
/-- what the next token is like -/
theorem next_is (k : Int) (pre : List (Nat × ByteArray)) (x : Nat × ByteArray) (h : pre ++ [x] <+: tkL (wdsE (txt k))) : lastV pre < (x.1 : Int) ∧ x.1 < 256 ∧ x.2 ≠ ⟨#[]⟩ ∧ nameV k x.1 = x.2 := by
  have hs := tkL_sorted (wdsE (txt k))
  have hw := wdsE_len k
  obtain ⟨post, hp⟩ := h
  have hm : x ∈ tkL (wdsE (txt k)) := by rw [← hp]; simp
  obtain ⟨i, hi, rfl, hg⟩ := mem_tkL hm
  refine ⟨?_, by show 5 + i < 256; omega, word_full k i hi, nameV_at hi hg⟩
  rw [← hp, List.append_assoc, List.pairwise_append] at hs
  unfold lastV
  cases hl : pre.getLast? with
  | none => show (-1 : Int) < _; omega
  | some p =>
    have hpm : p ∈ pre := List.mem_of_getLast? hl
    have := hs.2.2 p hpm (5 + i, (wdsE (txt k))[i]) (by simp)
    show (p.1 : Int) < ((5 + i : Nat) : Int)
    have h3 : p.1 < 5 + i := this
    omega
theorem lastV_ge (pre : List (Nat × ByteArray)) : -1 ≤ lastV pre := by
  unfold lastV
  cases pre.getLast? with
  | none => exact Int.le_refl _
  | some p => show (-1 : Int) ≤ (p.1 : Int); omega

theorem box_below {W W' : World} {b t : Nat} {v : Value} (h : Boxed W b t v) (hb : Below W.heap.size W W') : Boxed W' b t v := (hb.block b (Array.getElem?_eq_some_iff.1 h).1).trans h
theorem KpV.below {z : Nat} {W W' : World} (h : Below W.heap.size W W') : KpV z W W' := ⟨fun b _ _ ho _ => (h.block b (Array.getElem?_eq_some_iff.1 ho).1).trans ho, h.size⟩
theorem KpV.store {z b : Nat} (W : World) (v : Value) (h1 : b ≠ 2) (h2 : b < z) : KpV z W (W.setCell ⟨b, 0, none⟩ v) :=
  ⟨fun c _ hc ho _ => (Below.heap_setCell _ _ _ _ (by show c ≠ b; omega)).trans ho, by simp [World.setCell]⟩
theorem keeps_below {B : Nat} {W W' : World} (h : Below W.heap.size W W') : KeepsFrom B W W' := ⟨h.size, fun i _ _ hi _ => (h.block i (Array.getElem?_eq_some_iff.1 hi).1).trans hi⟩

set_option maxRecDepth 100000 in
set_option maxHeartbeats 8000000 in
theorem eachV_walk (k most : Int) (_ : (Lit.int .i64 most).wf = true) (w : World) (hT : SpT w) :
    Calls Tryd.prog 4 #[.int .i64 k, .int .i64 most] w fun e w' => e = .returned (.bool true) ∧ Below w.heap.size w w' := by
  obtain ⟨kk, hkk, hk⟩ : ∃ kk : Nat, wrap64 ((IntKind.u64.wrap most).tmod 300) = (kk : Int) ∧ kk ≤ 299 := by
    refine ⟨(most % 18446744073709551616 % 300).toNat, ?_, by omega⟩
    have e1 : IntKind.u64.wrap most = most % 18446744073709551616 := by simp [IntKind.wrap, IntKind.signed, IntKind.bits]
    rw [e1, Int.tmod_eq_emod_of_nonneg (by omega)]
    have : 0 ≤ most % 18446744073709551616 % 300 ∧ most % 18446744073709551616 % 300 < 300 := by omega
    unfold wrap64; omega
  have HTW := Lib.hid hT
  clear hT
  have hnf : ∀ (b : Nat) (w : World), (binOp .eql 30 (.func (.func 32) #[] #[.pointer (some ⟨b, 0, none⟩)]) .nilFunc).run Tryd.prog w = .ok (.bool false) w := fun _ _ => by kernel_rfl
  have cE := Lib.hid (fun w => Each_any k w)
  refine (callsIn_wide (n := 9)).1 ?_
  refine callsIn_of_wp_marks Tryd.func4 rfl trivial ?_ rfl
  simp only [Tryd.ntmps4, List.size_toArray, List.length_cons, List.length_nil, Nat.reduceAdd, Nat.reduceSub, Array.replicate_succ, Array.replicate_zero, List.push_toArray, List.append_toArray, List.nil_append, List.cons_append]
  gi_wp2_with (refine ⟨trivial, ?_⟩; gi_at_call 12; refine (callsIn_wide.2 (cE.out _)).mono ?_; rintro e w1 ⟨rfl, hcx, hz1, hb1⟩; simp only [World.size_alloc] at hcx hz1 hb1; have bM : Boxed w1 (w.heap.size + 1) 3 (.int .i64 most) := (hb1.block (w.heap.size + 1) (by omega)).trans ((Below.heap_alloc _ _ _ (by simp)).trans (by have h := Boxed.new (w.alloc (.cells #[.int .i64 k] 3)) 3 (.int .i64 most); rwa [World.size_alloc] at h)); have hcM := bM.cell; have hfM := bM.frozen)
  rw [hkk]
  have hz3 : ((((w1.setCell ⟨w.heap.size + 1, 0, none⟩ (.int .i64 kk)).alloc (.cells #[.int .i64 0] 3)).alloc (.cells #[.int .i64 (-1)] 3))).heap.size = w.heap.size + 6 := by simp [World.setCell]; omega
  have hs1 : (w1.setCell ⟨w.heap.size + 1, 0, none⟩ (.int .i64 kk)).heap.size = w.heap.size + 4 := by simp [World.setCell]; omega
  have bP3 : Boxed ((((w1.setCell ⟨w.heap.size + 1, 0, none⟩ (.int .i64 kk)).alloc (.cells #[.int .i64 0] 3)).alloc (.cells #[.int .i64 (-1)] 3))) w.heap.size 3 (.int .i64 k) := by
    refine Boxed.alloc (Boxed.alloc (Boxed.other ?_ (by omega) _) _) _
    exact (hb1.block w.heap.size (by omega)).trans (((Boxed.new w 3 _).alloc _).alloc _)
  have bM3 : Boxed ((((w1.setCell ⟨w.heap.size + 1, 0, none⟩ (.int .i64 kk)).alloc (.cells #[.int .i64 0] 3)).alloc (.cells #[.int .i64 (-1)] 3))) (w.heap.size + 1) 3 (.int .i64 kk) := ((bM.set _).alloc _).alloc _
  have bR3 : ∃ v, Boxed ((((w1.setCell ⟨w.heap.size + 1, 0, none⟩ (.int .i64 kk)).alloc (.cells #[.int .i64 0] 3)).alloc (.cells #[.int .i64 (-1)] 3))) (w.heap.size + 1 + 1) 4 v := by
    refine ⟨.bool false, Boxed.alloc (Boxed.alloc (Boxed.other ?_ (by omega) _) _) _⟩
    refine (hb1.block (w.heap.size + 1 + 1) (by omega)).trans ?_
    have h := Boxed.new ((w.alloc (.cells #[.int .i64 k] 3)).alloc (.cells #[.int .i64 most] 3)) 4 (.bool false)
    rwa [World.size_alloc, World.size_alloc] at h
  have hE3 : ((((w1.setCell ⟨w.heap.size + 1, 0, none⟩ (.int .i64 kk)).alloc (.cells #[.int .i64 0] 3)).alloc (.cells #[.int .i64 (-1)] 3))).cell? ⟨w.heap.size + 1 + 1 + 1, 0, none⟩ = some (.int .i64 k) := by
    rw [World.cell?_alloc_past _ _ _ (by simp; omega), World.cell?_alloc_past _ _ _ (by show w.heap.size + 1 + 1 + 1 < _; omega)]
    exact (World.cell?_of_block (a := ⟨w.heap.size + 1 + 1 + 1, 0, none⟩) (Below.heap_setCell _ _ _ _ (by show w.heap.size + 1 + 1 + 1 ≠ w.heap.size + 1; omega))).trans hcx
  have bK3 : Boxed ((((w1.setCell ⟨w.heap.size + 1, 0, none⟩ (.int .i64 kk)).alloc (.cells #[.int .i64 0] 3)).alloc (.cells #[.int .i64 (-1)] 3))) (w.heap.size + 1 + 1 + 1 + 1) 3 (.int .i64 0) := by
    refine Boxed.alloc ?_ _
    have h := Boxed.new (w1.setCell ⟨w.heap.size + 1, 0, none⟩ (.int .i64 kk)) 3 (.int .i64 0)
    rwa [hs1] at h
  have bL3 : Boxed ((((w1.setCell ⟨w.heap.size + 1, 0, none⟩ (.int .i64 kk)).alloc (.cells #[.int .i64 0] 3)).alloc (.cells #[.int .i64 (-1)] 3))) (w.heap.size + 1 + 1 + 1 + 1 + 1) 3 (.int .i64 (-1)) := by
    have h := Boxed.new ((w1.setCell ⟨w.heap.size + 1, 0, none⟩ (.int .i64 kk)).alloc (.cells #[.int .i64 0] 3)) 3 (.int .i64 (-1))
    rwa [World.size_alloc, hs1] at h
  have hB3 : Below w.heap.size w ((((w1.setCell ⟨w.heap.size + 1, 0, none⟩ (.int .i64 kk)).alloc (.cells #[.int .i64 0] 3)).alloc (.cells #[.int .i64 (-1)] 3))) := by
    have h1 : Below w.heap.size w w1 := ((((Below.refl _ w).alloc (Nat.le_refl _) _).alloc (by simp) _).alloc (by simp; omega) _).trans (hb1.mono (by omega))
    have h2 := h1.setCell (p := ⟨w.heap.size + 1, 0, none⟩) (by show w.heap.size ≤ w.heap.size + 1; omega) (.int .i64 kk)
    exact (h2.alloc (by rw [hs1]; omega) _).alloc (by rw [World.size_alloc, hs1]; omega) _
  clear bM hcM hfM hcx hb1 hz1 hs1 cE
  generalize ((((w1.setCell ⟨w.heap.size + 1, 0, none⟩ (.int .i64 kk)).alloc (.cells #[.int .i64 0] 3)).alloc (.cells #[.int .i64 (-1)] 3))) = W3 at *
  have HB3 := Lib.hid hB3
  have HT3 := Lib.hid (HTW.out.below hB3 HTW.out.lt)
  clear hB3
  gi_loopw [8, 9] (fun av iv wr => ∃ t : Nat, t ≤ 256 ∧ iv = .int .i64 (t : Int) ∧ av = .int .i64 (cntV k t : Int) ∧ Hid (Below (w.heap.size + 6) W3 wr)) (fun _ iv _ => 256 - (intOf iv).toNat)
  case atStart => exact ⟨0, Nat.zero_le _, rfl, by simp [cntV, tkL], Below.refl _ _⟩
  case round =>
    obtain ⟨t, ht, rfl, rfl, HW⟩ := hrel
    have bP := (HW.out.block w.heap.size (by omega)).trans bP3
    have hcP : wr.cell? ⟨w.heap.size, 0, none⟩ = some (.int .i64 k) := Boxed.cell bP
    by_cases hlt : t < 256
    · have j1 : (t : Int) < 256 := by omega
      have hw : IntKind.u8.wrap (t : Int) = (t : Int) := by simp [IntKind.wrap, IntKind.signed, IntKind.bits]; omega
      have c13 := Lib.hid (fun w => refName_any k t hlt w)
      have hle := cnt_le k t
      have hst := cnt_step k t
      by_cases hn : nameV k t = ⟨#[]⟩
      · have HS := Lib.hid (hst.1 hn)
        rw [hn] at c13
        clear hn hst
        gi_wp2_with (refine ⟨trivial, ?_⟩; gi_at_call 13; refine (callsIn_wide.2 (c13.out _)).mono ?_; rintro e w5 ⟨rfl, hb5⟩)
        have hz5 := HW.out.size
        have HW5 : Hid (Below (w.heap.size + 6) W3 w5) := HW.out.trans (hb5.mono (by omega))
        go_roundw
        case rel => exact ⟨t + 1, by omega, by go_num, by rw [HS.out], HW5⟩
        case measure => simp [intOf]; omega
      · have HS := Lib.hid (hst.2 hn)
        have he : (nameV k t).toList.isEmpty = false := isEmpty_no _ (fun h => hn (by
          have := List.eq_nil_of_length_eq_zero (l := (nameV k t).data.toList) (by rw [len_toList]; exact h)
          exact Go.WideShapes.bytes_inj (by rw [this])))
        clear hn hst
        generalize nameV k t = x at *
        have hw2 : wrap64 ((cntV k t : Int) + 1) = ((cntV k t + 1 : Nat) : Int) := by unfold wrap64; omega
        gi_wp2_with (refine ⟨trivial, ?_⟩; gi_at_call 13; refine (callsIn_wide.2 (c13.out _)).mono ?_; rintro e w5 ⟨rfl, hb5⟩)
        have hz5 := HW.out.size
        have HW5 : Hid (Below (w.heap.size + 6) W3 w5) := HW.out.trans (hb5.mono (by omega))
        go_roundw
        case rel => exact ⟨t + 1, by omega, by go_num, by rw [HS.out]; go_num, HW5⟩
        case measure => simp [intOf]; omega
    · obtain rfl : t = 256 := by omega
      rw [cnt_all]
      obtain ⟨n, hn⟩ : ∃ n, (tks k).length = n := ⟨_, rfl⟩
      have HN := Lib.hid hn
      have hn60 : n ≤ 60 := by rw [← hn]; exact tks_len k
      rw [hn]
      clear hn
      have hzr := HW.out.size
      have hBw : Below w.heap.size w wr := HB3.out.trans (HW.out.mono (by omega))
      have bMr : Boxed wr (w.heap.size + 1) 3 (.int .i64 kk) := (HW.out.block _ (by omega)).trans bM3
      have bRr : ∃ v, Boxed wr (w.heap.size + 1 + 1) 4 v := by obtain ⟨v, hv⟩ := bR3; exact ⟨v, (HW.out.block _ (by omega)).trans hv⟩
      have hEr : wr.cell? ⟨w.heap.size + 1 + 1 + 1, 0, none⟩ = some (.int .i64 k) := (HW.out.cell (p := ⟨w.heap.size + 1 + 1 + 1, 0, none⟩) (by show w.heap.size + 1 + 1 + 1 < _; omega)).trans hE3
      have bKr : Boxed wr (w.heap.size + 1 + 1 + 1 + 1) 3 (.int .i64 0) := (HW.out.block _ (by omega)).trans bK3
      have bLr : Boxed wr (w.heap.size + 1 + 1 + 1 + 1 + 1) 3 (.int .i64 (-1)) := (HW.out.block _ (by omega)).trans bL3
      have hTr : SpT wr := HTW.out.below hBw HTW.out.lt
      have bPr : Boxed wr w.heap.size 3 (.int .i64 k) := bP
      have hgl := HTW.out.lt
      clear bM3 bR3 hE3 bK3 bL3 bP3 bP
      gi_wp2
      refine wpIn_range_cellsE rfl (by decide) (gf := 32) (lb := #[.pointer (some ⟨w.heap.size + 1 + 1 + 1, 0, none⟩)]) rfl trivial (enters_of Tryd.func32 (by kernel_rfl) rfl)
        (each32_seqE 8 (by decide) (w.heap.size + 1 + 1 + 1) k wr hEr hTr) KpV.trans (fun X p o o' _ hl ho _ => KpV.put X p o o' hl ho) (Below.refl _ _) (fun _ => rfl)
        (fun (pre : List (Nat × ByteArray)) X => pre.length ≤ kk ∧ Boxed X w.heap.size 3 (.int .i64 k) ∧ Boxed X (w.heap.size + 1) 3 (.int .i64 kk) ∧ (∃ v, Boxed X (w.heap.size + 1 + 1) 4 v) ∧ Boxed X (w.heap.size + 1 + 1 + 1 + 1) 3 (.int .i64 (pre.length : Int)) ∧ Boxed X (w.heap.size + 1 + 1 + 1 + 1 + 1) 3 (.int .i64 (lastV pre)) ∧ Below w.heap.size w X)
        (fun c (pre : List (Nat × ByteArray)) X => c = .exit 2 ∧ pre.length = kk + 1 ∧ Boxed X (w.heap.size + 1) 3 (.int .i64 kk) ∧ (∃ v, Boxed X (w.heap.size + 1 + 1) 4 v) ∧ Boxed X (w.heap.size + 1 + 1 + 1 + 1) 3 (.int .i64 kk) ∧ Below w.heap.size w X)
        ?own1 ?own2 (fun b hb => by omega) ?lets (fun _ _ _ _ hs _ _ => hs)
        ⟨Nat.zero_le _, bPr, bMr, bRr, bKr, bLr, hBw⟩
        (fun x => { tmps := #[.int .i64 k, .int .i64 most, .pointer (some ⟨w.heap.size, 0, none⟩), .pointer (some ⟨w.heap.size + 1, 0, none⟩), .pointer (some ⟨w.heap.size + 1 + 1, 0, none⟩), .func (.func 32) #[] #[.pointer (some ⟨w.heap.size + 1 + 1 + 1, 0, none⟩)], .pointer (some ⟨w.heap.size + 1 + 1 + 1 + 1, 0, none⟩), .pointer (some ⟨w.heap.size + 1 + 1 + 1 + 1 + 1, 0, none⟩), .int .i64 (n : Int), .int .i64 ((256 : Nat) : Int), .int .u8 (x.1 : Int), .string x.2, .int .i64 k, .func (.func 32) #[] #[.pointer (some ⟨w.heap.size + 1 + 1 + 1, 0, none⟩)], .func (.func 32) #[] #[.pointer (some ⟨w.heap.size + 1 + 1 + 1, 0, none⟩)], .bool false, .int .i64 most, .int .u64 (IntKind.u64.wrap most), .int .u64 ((IntKind.u64.wrap most).tmod 300), .int .i64 kk, .int .i64 ((256 : Nat) : Int), .bool false, u22, u23, u24, u25, u26, u27, u28, u29, u30, .func (.func 32) #[] #[.pointer (some ⟨w.heap.size + 1 + 1 + 1, 0, none⟩)], .int .u8 (x.1 : Int), .string x.2, undef, undef, undef, undef, undef, undef, undef, undef, undef, undef, undef, undef, undef, undef, undef, undef, undef, undef, undef, undef, undef, undef, undef, undef, undef, undef, undef, undef, undef, undef, undef], defers := [] }) ?assign ?body ?done ?stop
      case own1 =>
        rintro pre X Y row ⟨h1, h2, h3, ⟨v, h4⟩, h5, h6, h7⟩ hg hr
        have hb := ownFrom_below (β := Unit) (n₀ := w.heap.size) (B := wr.heap.size) (w₀ := w) (Nat.le_refl _) (by omega) () X Y row h7 hg hr
        exact ⟨h1, h2.kept hg (fun e => by have := (hr _ e.symm).1; omega), h3.kept hg (fun e => by have := (hr _ e.symm).1; omega), ⟨v, h4.kept hg (fun e => by have := (hr _ e.symm).1; omega)⟩, h5.kept hg (fun e => by have := (hr _ e.symm).1; omega), h6.kept hg (fun e => by have := (hr _ e.symm).1; omega), hb⟩
      case own2 =>
        rintro c pre X Y row ⟨h0, h1, h3, ⟨v, h4⟩, h5, h7⟩ hg hr
        have hb := ownFrom_below (β := Unit) (n₀ := w.heap.size) (B := wr.heap.size) (w₀ := w) (Nat.le_refl _) (by omega) () X Y row h7 hg hr
        exact ⟨h0, h1, h3.kept hg (fun e => by have := (hr _ e.symm).1; omega), ⟨v, h4.kept hg (fun e => by have := (hr _ e.symm).1; omega)⟩, h5.kept hg (fun e => by have := (hr _ e.symm).1; omega), hb⟩
      case lets =>
        rintro pre X b v hb ⟨h1, h2, h3, ⟨u, h4⟩, h5, h6, h7⟩
        exact ⟨h1, h2.other (by omega) v, h3.other (by omega) v, ⟨u, h4.other (by omega) v⟩, h5.other (by omega) v, h6.other (by omega) v, h7.setCell (p := ⟨b, 0, none⟩) (by show w.heap.size ≤ b; omega) v⟩
      case assign =>
        intro l x W K hK
        gi_wp2
        exact hK
      case body =>
        rintro l' pre ⟨t, s⟩ X ⟨h1, h2, h3, ⟨u, h4⟩, h5, h6, h7⟩ hnx hm
        obtain ⟨e1, e2, e3, e4⟩ := next_is k pre (t, s) hnx
        have hcP2 := h2.cell
        have hcM := h3.cell
        have hcK := h5.cell
        have hcL := h6.cell
        have hfK := h5.frozen
        have hfL := h6.frozen
        show Code.wpIn _ _ _ _ _ _ _
        by_cases hlx : pre.length = kk
        · have hd : ((pre.length : Int) == (kk : Int)) = true := by simp; omega
          have h5' : Boxed X (w.heap.size + 1 + 1 + 1 + 1) 3 (.int .i64 kk) := by rw [← hlx]; exact h5
          gi_wp2
          exact ⟨KeepsFrom.refl _ _, rfl, by simp; omega, h3, ⟨u, h4⟩, h5', h7⟩
        · have hd : ((pre.length : Int) == (kk : Int)) = false := by rw [beq_eq_false_iff_ne]; omega
          have c13 := Lib.hid (fun w => refName_any k t e2 w)
          simp only at e1 e2 e3 e4
          rw [e4] at c13
          have hq := (str_is s s).2 rfl
          have he : s.toList.isEmpty = false := isEmpty_no s (fun h => e3 (by
            have := List.eq_nil_of_length_eq_zero (l := s.data.toList) (by rw [len_toList]; exact h)
            exact Go.WideShapes.bytes_inj (by rw [this])))
          have hlt : ¬ (t : Int) ≤ lastV pre := by omega
          have HLL : Hid (lastV (pre ++ [(t, s)]) = (t : Int)) := lastV_snoc pre (t, s)
          have hwl : wrap64 ((pre.length : Int) + 1) = ((pre.length + 1 : Nat) : Int) := by unfold wrap64; omega
          have hlen : (pre ++ [(t, s)]).length = pre.length + 1 := by simp
          clear e1 e3 e4 hnx
          generalize lastV pre = lv at *
          gi_wp2_with (first | (gi_at_call 13; refine (CallsIn.inRound l' (callsIn_wide.2 (c13.out _))).mono ?_; rintro e w5 ⟨rfl, hb5⟩; have i5 := box_below h5 hb5; have i6 := box_below h6 hb5; have c5 := i5.cell; have c6 := i6.cell; have f5 := i5.frozen; have f6 := i6.frozen) | (refine ⟨trivial, ?_⟩; gi_at_call 13; refine (CallsIn.inRound l' (callsIn_wide.2 (c13.out _))).mono ?_; rintro e w5 ⟨rfl, hb5⟩; have i5 := box_below h5 hb5; have i6 := box_below h6 hb5; have c5 := i5.cell; have c6 := i6.cell; have f5 := i5.frozen; have f6 := i6.frozen))
          refine ⟨(keeps_below hb5).trans (((KeepsOthers.setCell _ _ _).from _).trans ((KeepsOthers.setCell _ _ _).from _)), KpV.trans (KpV.below hb5) (KpV.trans (KpV.store _ _ (by omega) (by omega)) (KpV.store _ _ (by omega) (by omega))), by rw [hlen]; omega, ((box_below h2 hb5).other (by omega) _).other (by omega) _, ((box_below h3 hb5).other (by omega) _).other (by omega) _, ⟨u, ((box_below h4 hb5).other (by omega) _).other (by omega) _⟩, ?_, ?_, ?_⟩
          · rw [hlen]; exact (i5.other (by omega) _).set _
          · rw [HLL.out]; exact (i6.set _).other (by omega) _
          · exact ((h7.trans (hb5.mono h7.size)).setCell (p := ⟨w.heap.size + 1 + 1 + 1 + 1 + 1, 0, none⟩) (by show w.heap.size ≤ w.heap.size + 1 + 1 + 1 + 1 + 1; omega) _).setCell (p := ⟨w.heap.size + 1 + 1 + 1 + 1, 0, none⟩) (by show w.heap.size ≤ w.heap.size + 1 + 1 + 1 + 1; omega) _
      case done =>
        rintro D ys X hD rfl ⟨h1, h2, h3, ⟨u, h4⟩, h5, h6, h7⟩ hK
        have e : (tkL (wdsE (txt k))).length = n := HN.out
        rw [e] at h1 h5
        clear e
        have hI : min (kk : Int) (n : Int) = (n : Int) := by omega
        have hIa : (if (n : Int) < (kk : Int) then (n : Int) else (kk : Int)) = (n : Int) := by split <;> omega
        have hIb : (if n < kk then (n : Int) else (kk : Int)) = (n : Int) := by split <;> omega
        have hcK := h5.cell
        have hcM := h3.cell
        have hTX : SpT X := HTW.out.below h7 HTW.out.lt
        have c14 := Lib.hid (fun w h => vname_any 1 5 w h)
        rw [name_anchor] at c14
        have HK := Lib.hid hK
        clear hK
        gi_wp2_with (refine ⟨trivial, ?_⟩; gi_at_call 14; refine (callsIn_wide.2 (c14.out _ hTX)).mono ?_; rintro e w6 ⟨rfl, hb6⟩; have i4 := box_below h4 hb6; have c4 := i4.cell; have f4 := i4.frozen)
        have hDX : D < X.heap.size := (Array.getElem?_eq_some_iff.1 HK.out).1
        have HK6 : Hid ((w6.setCell ⟨w.heap.size + 1 + 1, 0, none⟩ (.bool true)).heap[D]? = some (.deferred (some []))) := (Below.heap_setCell _ _ _ _ (by show D ≠ w.heap.size + 1 + 1; omega)).trans ((hb6.block D hDX).trans HK.out)
        have HC6 : Hid (Boxed ((w6.setCell ⟨w.heap.size + 1 + 1, 0, none⟩ (.bool true)).putObj D (.deferred none)) (w.heap.size + 1 + 1) 4 (.bool true)) := (World.putObj_heap_other (by omega)).trans (i4.set _)
        have HB6 : Hid (Below w.heap.size w (w6.setCell ⟨w.heap.size + 1 + 1, 0, none⟩ (.bool true))) := (h7.trans (hb6.mono h7.size)).setCell (p := ⟨w.heap.size + 1 + 1, 0, none⟩) (by show w.heap.size ≤ w.heap.size + 1 + 1; omega) _
        refine ⟨by simp, .inl ⟨_, _, rfl, run_takeDeferred HK6.out, ?_⟩⟩
        exact ⟨_, results_cell1 rfl rfl (run_loadVar_cell HC6.out.cell (by kernel_rfl)), rfl, HB6.out.trans (belowK_b (Nat.le_refl _) _ D _ _ (by omega) HK6.out rfl rfl)⟩
      case stop =>
        rintro D cc pre X hD ⟨post, hp⟩ ⟨rfl, h1, h3, ⟨u, h4⟩, h5, h7⟩ hK
        have e : (tkL (wdsE (txt k))).length = n := HN.out
        have hlp : kk + 1 ≤ n := by rw [← e, ← hp, List.length_append]; omega
        clear e hp h1
        have hI : min (kk : Int) (n : Int) = (kk : Int) := by omega
        have hIa : (if (n : Int) < (kk : Int) then (n : Int) else (kk : Int)) = (kk : Int) := by split <;> omega
        have hIb : (if n < kk then (n : Int) else (kk : Int)) = (kk : Int) := by split <;> omega
        have hcK := h5.cell
        have hcM := h3.cell
        have hTX : SpT X := HTW.out.below h7 HTW.out.lt
        have c14 := Lib.hid (fun w h => vname_any 1 5 w h)
        rw [name_anchor] at c14
        have HK := Lib.hid hK
        clear hK
        gi_wp2_with (refine ⟨trivial, ?_⟩; gi_at_call 14; refine (callsIn_wide.2 (c14.out _ hTX)).mono ?_; rintro e w6 ⟨rfl, hb6⟩; have i4 := box_below h4 hb6; have c4 := i4.cell; have f4 := i4.frozen)
        have hDX : D < X.heap.size := (Array.getElem?_eq_some_iff.1 HK.out).1
        have HK6 : Hid ((w6.setCell ⟨w.heap.size + 1 + 1, 0, none⟩ (.bool true)).heap[D]? = some (.deferred (some []))) := (Below.heap_setCell _ _ _ _ (by show D ≠ w.heap.size + 1 + 1; omega)).trans ((hb6.block D hDX).trans HK.out)
        have HC6 : Hid (Boxed ((w6.setCell ⟨w.heap.size + 1 + 1, 0, none⟩ (.bool true)).putObj D (.deferred none)) (w.heap.size + 1 + 1) 4 (.bool true)) := (World.putObj_heap_other (by omega)).trans (i4.set _)
        have HB6 : Hid (Below w.heap.size w (w6.setCell ⟨w.heap.size + 1 + 1, 0, none⟩ (.bool true))) := (h7.trans (hb6.mono h7.size)).setCell (p := ⟨w.heap.size + 1 + 1, 0, none⟩) (by show w.heap.size ≤ w.heap.size + 1 + 1; omega) _
        refine ⟨by simp, .inl ⟨_, _, rfl, run_takeDeferred HK6.out, ?_⟩⟩
        exact ⟨_, results_cell1 rfl rfl (run_loadVar_cell HC6.out.cell (by kernel_rfl)), rfl, HB6.out.trans (belowK_b (Nat.le_refl _) _ D _ _ (by omega) HK6.out rfl rfl)⟩
end Go.Proofs.YtcpmgnejbfnnjaaDoor
