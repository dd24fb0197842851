/- markup: the program's put: an element's document written into a builder. No condition but that the element is right. -/
import Derived.Test.YtgechifbbhipaaaDoorMkE
import Derived.Test.YtgechifbbhipaaaDoorMkS
import Derived.Test.YtgechifbbhipaaaDoorEncW
import Derived.Test.YtgechifbbhipaaaDoorTrM
set_option linter.unusedVariables false
set_option linter.unusedSimpArgs false
namespace Go.Proofs.YtgechifbbhipaaaDoor
open Go.RowKit

/-- under way: the builder holds L; the element's own box at z -/
def PutSt (C b : Nat) (w : World) (bv : Value) (z : Nat) (cs : Array Value) (t : TypeId) (q : Nat) (L : List UInt8) (X : World) : Prop :=
  (∃ v, BdV C b (Lib.byteCells L) v X ∧ GrB b bv v w X ∧ v.ownBlock ≠ some z) ∧ X.heap[z]? = some (.cells cs t (0, 0)) ∧ C ≤ X.heap.size ∧ L.length ≤ q ∧ z ≠ b
theorem PutSt.write {C b : Nat} {w : World} {bv : Value} {z : Nat} {cs : Array Value} {t : TypeId} {q : Nat} {L : List UInt8} {X : World} (h : PutSt C b w bv z cs t q L X) (hq : q ≤ 100000000) (s : ByteArray) (k : Nat) (hs : s.size ≤ k) (hk : k ≤ 1000000) :
    Calls Tryd.prog 127 #[.pointer (some ⟨b, 0, none⟩), .string s] X fun e X' => (∃ n, e = .returned (.tuple #[.int .i64 n, .nilIface])) ∧ PutSt C b w bv z cs t (q + k) (L ++ s.data.toList) X' := by
  obtain ⟨⟨v, h1, h2, h3⟩, hz, hC, hq', hzb⟩ := h
  refine (bdv_write C b _ v s X h1 (by rw [Lib.byteCells_length]; omega) hC).mono ?_
  rintro e X' ⟨hn, v', k1, k2⟩
  have hzl : z < X.heap.size := (Array.getElem?_eq_some_iff.1 hz).1
  refine ⟨hn, ⟨v', by rw [Lib.byteCells_append, ← Lib.strCells_eq]; exact k1, h2.trans k2, ?_⟩, (k2.block z hzl hzb h3).trans hz, Nat.le_trans hC k2.size, ?_, hzb⟩
  · rcases k2.moved with h | h
    · rw [h]; exact h3
    · intro e'; have := h z e'; omega
  · rw [List.length_append, len_toList]; omega
theorem PutSt.below {C b : Nat} {w : World} {bv : Value} {z : Nat} {cs : Array Value} {t : TypeId} {q : Nat} {L : List UInt8} {X X' : World} (h : PutSt C b w bv z cs t q L X) (hb : Below X.heap.size X X') : PutSt C b w bv z cs t q L X' := by
  obtain ⟨⟨v, h1, h2, h3⟩, hz, hC, hq, hzb⟩ := h
  have hzl : z < X.heap.size := (Array.getElem?_eq_some_iff.1 hz).1
  exact ⟨⟨v, h1.below hb, h2.trans (GrB.of_below hb), h3⟩, (hb.block z hzl).trans hz, Nat.le_trans hC hb.size, hq, hzb⟩
theorem PutSt.y {C b : Nat} {w : World} {bv : Value} {z : Nat} {cs : Array Value} {t : TypeId} {q : Nat} {L : List UInt8} {X : World} (h : PutSt C b w bv z cs t q L X) (k : Nat) (u : Value) (hk : cs[k]? = some u) : X.cell? ⟨z, k, none⟩ = some u := by
  obtain ⟨_, hz, _⟩ := h
  rw [Lib.cell_of_heap hz]; exact hk
theorem PutSt.y5 {C b : Nat} {w : World} {bv : Value} {z : Nat} {v0 v1 v2 v3 v4 : Value} {t : TypeId} {q : Nat} {L : List UInt8} {X : World} (h : PutSt C b w bv z #[v0, v1, v2, v3, v4] t q L X) :
    X.cell? ⟨z, 0, none⟩ = some v0 ∧ X.cell? ⟨z, 1, none⟩ = some v1 ∧ X.cell? ⟨z, 2, none⟩ = some v2 ∧ X.cell? ⟨z, 3, none⟩ = some v3 ∧ X.cell? ⟨z, 4, none⟩ = some v4 :=
  ⟨h.y 0 _ rfl, h.y 1 _ rfl, h.y 2 _ rfl, h.y 3 _ rfl, h.y 4 _ rfl⟩
theorem PutSt.q {C b : Nat} {w : World} {bv : Value} {z : Nat} {cs : Array Value} {t : TypeId} {q q' : Nat} {L : List UInt8} {X : World} (h : PutSt C b w bv z cs t q L X) (hq : L.length ≤ q') : PutSt C b w bv z cs t q' L X := by
  obtain ⟨h1, hz, hC, _, hzb⟩ := h
  exact ⟨h1, hz, hC, hq, hzb⟩
theorem PutSt.len {C b : Nat} {w : World} {bv : Value} {z : Nat} {cs : Array Value} {t : TypeId} {q : Nat} {L : List UInt8} {X : World} (h : PutSt C b w bv z cs t q L X) : L.length ≤ q := by
  obtain ⟨_, _, _, h, _⟩ := h
  exact h
theorem PutSt.size {C b : Nat} {w : World} {bv : Value} {z : Nat} {cs : Array Value} {t : TypeId} {q : Nat} {L : List UInt8} {X : World} (h : PutSt C b w bv z cs t q L X) : C ≤ X.heap.size ∧ z < X.heap.size := by
  obtain ⟨_, hz, h, _⟩ := h
  exact ⟨h, (Array.getElem?_eq_some_iff.1 hz).1⟩
theorem PutSt.wr {C b : Nat} {w : World} {bv : Value} {z : Nat} {cs : Array Value} {t : TypeId} {q : Nat} {L : List UInt8} {X : World} (h : PutSt C b w bv z cs t q L X) : Wr C b (Lib.byteCells L) bv w X := by
  obtain ⟨⟨v, h1, h2, _⟩, _⟩ := h
  exact ⟨v, h1, h2⟩
/-- written by another, from here on -/
theorem PutSt.step {C b : Nat} {w : World} {bv : Value} {z : Nat} {cs : Array Value} {t : TypeId} {q q' : Nat} {L L' : List UInt8} {X : World} (h : PutSt C b w bv z cs t q L X) (hq : L'.length ≤ q') :
    ∃ v, BdV C b (Lib.byteCells L) v X ∧ ∀ X', Wr C b (Lib.byteCells L') v X X' → PutSt C b w bv z cs t q' L' X' := by
  obtain ⟨⟨v, h1, h2, h3⟩, hz, hC, _, hzb⟩ := h
  have hzl : z < X.heap.size := (Array.getElem?_eq_some_iff.1 hz).1
  refine ⟨v, h1, fun X' hw => ?_⟩
  obtain ⟨v', k1, k2⟩ := hw
  refine ⟨⟨v', k1, h2.trans k2, ?_⟩, (k2.block z hzl hzb h3).trans hz, Nat.le_trans hC k2.size, hq, hzb⟩
  rcases k2.moved with h | h
  · rw [h]; exact h3
  · intro e'; have := h z e'; omega

theorem kid_at {w X : World} {M : Nat} {a : Option Addr} {ks : List Tr} (hk : AtL w M a 0 ks) (hb : Below M w X) (i : Nat) (hi : i < ks.length) : ∃ bb o a' c', a = some ⟨bb, o, none⟩ ∧
    X.rangeAt bb (o + i * 5) [.int .i64 ks[i].page, .string ks[i].name, .string ks[i].text, .bool ks[i].opq, .slice a' ks[i].kids.length c'] ∧
    AtT X M ks[i] (.agg #[.int .i64 ks[i].page, .string ks[i].name, .string ks[i].text, .bool ks[i].opq, .slice a' ks[i].kids.length c']) := by
  obtain ⟨bb, o, a', c', h1, h2, h3, h4⟩ := hk.kid i hi
  exact ⟨bb, o, a', c', h1, range_below h3 hb h2, AtT.below hb _ _ h4⟩

def PutOk (e : Tr) : Prop := ∀ (v : Value) (pg : Int) (C b M : Nat) (L : List UInt8) (bv : Value) (w : World), M ≤ C → M ≤ b → C ≤ w.heap.size → AtT w M e v → BdV C b (Lib.byteCells L) bv w → L.length + 21000 * cT e ≤ 50000000 →
  Calls Tryd.prog 128 #[.pointer (some ⟨b, 0, none⟩), v, .int .i64 pg] w fun r w' => r = .returned (.tuple #[]) ∧ Wr C b (Lib.byteCells (L ++ docT spcL pg e)) bv w w'

set_option maxRecDepth 100000 in
set_option maxHeartbeats 4000000 in
theorem put_eotl (e : Tr) (he : chkA e = 0) (ih : ∀ k ∈ e.kids, PutOk k) (v : Value) (pg : Int) (C b M : Nat) (L : List UInt8) (bv : Value) (w : World) (hMC : M ≤ C) (hMb : M ≤ b) (hCw : C ≤ w.heap.size) (hv : AtT w M e v) (hB : BdV C b (Lib.byteCells L) bv w) (hL : L.length + 21000 * cT e ≤ 50000000)
    (hp : e.page = pg) (ho : e.opq = true) (hx : e.text.size ≠ 0) :
    Calls Tryd.prog 128 #[.pointer (some ⟨b, 0, none⟩), v, .int .i64 pg] w fun r w' => r = .returned (.tuple #[]) ∧ Wr C b (Lib.byteCells (L ++ docT spcL pg e)) bv w w' := by
  obtain ⟨hz1, hcT, hpg, hz2, hnm, hkl, htx, hz3, hz4, hz5, hks⟩ := chkA_right he
  clear hz1 hz2 hz3 hz4 hz5
  obtain ⟨hz1, hz2, s3, a, c, rfl, hk⟩ := hv.parts
  clear hz1 hz2
  obtain ⟨XE, hXE⟩ : ∃ XE : ByteArray, (⟨(esc e.text.data.toList).toArray⟩ : ByteArray) = XE := ⟨_, rfl⟩
  have cE := Lib.hid (fun W => escape_any e.text W (by omega))
  rw [hXE] at cE
  have HXE : Hid (XE.data.toList = esc e.text.data.toList) := by unfold Hid; rw [← hXE]
  obtain ⟨XO, hXO⟩ : ∃ XO : ByteArray, strOfNums (encS e.text.data.toList) = XO := ⟨_, rfl⟩
  have cO := Lib.hid (fun W => encode_any e.text W (by omega))
  rw [hXO] at cO
  have HX : Hid (XO.data.toList = txL e.opq e.text) := by unfold Hid txL; rw [ho, if_pos rfl, ← hXO]; simp [strOfNums, u8s]
  clear hXO
  have HXl : Hid (XO.size ≤ 20000) := by unfold Hid; rw [← len_toList, HX.out]; have := (txL_len e.opq e.text).2; omega
  have hx0 : XO.size ≠ 0 := by rw [← len_toList, HX.out]; have := (txL_len e.opq e.text).1; omega
  have i1 := not_empty XO hx0
  have HT0 : Hid (txL e.opq e.text ≠ []) := by unfold Hid; rw [← HX.out]; exact fun h => hx0 (by rw [← len_toList, h]; rfl)
  clear hx0
  have HDoc : Hid (L ++ docT spcL pg e = L ++ (headL spcL pg e.page e.name e.opq ++ (([62] ++ txL e.opq e.text) ++ (docL spcL e.page e.kids ++ tailL e.name)))) := by
    unfold Hid; rw [docT_of, if_neg (fun h => HT0.out h.1)]
  have HHead : Hid (headL spcL pg e.page e.name e.opq = ([60] ++ e.name.data.toList) ++ sEnc) := by
    unfold Hid headL; rw [if_neg (by simpa using hp), ho]; simp
  have j0 : (e.page == pg) = true := by simpa using hp
  have j1 : (e.page != pg) = false := by simpa using hp
  have j2 : e.opq = true := ho
  have HDL : Hid (∀ i, (docL spcL e.page (e.kids.take i)).length ≤ 21000 * cL (e.kids.take i)) := fun i => docL_len spcL spcL_len e.page _ (fun k hk => hks k (List.mem_of_mem_take hk))
  have HCL : Hid (∀ (i : Nat) (k : Tr), e.kids[i]? = some k → cL (e.kids.take i) + cT k ≤ cL e.kids) := fun i k h => by
    obtain ⟨h1, h2⟩ := List.getElem?_eq_some_iff.1 h
    rw [← h2, ← cL_take e.kids i h1]; exact cL_le e.kids (i + 1)
  have HLL : Hid (L.length + 21000 + 21000 * cL e.kids ≤ 50000000) := by unfold Hid; rw [cT_of] at hL; omega
  have HIH := Lib.hid ih
  have HKs := Lib.hid hk
  have HTL : Hid ((txL e.opq e.text).length ≤ 20000) := by unfold Hid; rw [← HX.out, len_toList]; exact HXl.out
  have HKN : Hid (∀ i, (docL spcL e.page (e.kids.take (i + 1))).length = (docL spcL e.page (e.kids.take (i + 1))).length) := fun _ => rfl
  clear HKN
  have hSp : (spc e.page).size ≤ 40 := by have := spcL_len e.page; unfold spcL at this; rw [len_toList] at this; exact this
  have hzb : w.heap.size ≠ b := by have := hB.lt; omega
  have HS : Hid (PutSt C b w bv w.heap.size #[.int .i64 e.page, .string e.name, .string e.text, .bool e.opq, .slice a e.kids.length c] 46 50000000 L (w.alloc (.cells #[.int .i64 e.page, .string e.name, .string e.text, .bool e.opq, .slice a e.kids.length c] 46))) :=
    ⟨⟨bv, hB.below ((Below.refl _ w).alloc (Nat.le_refl _) _), GrB.of_below ((Below.refl _ w).alloc (Nat.le_refl _) _), fun h => by have := (hB.own _ h).2; omega⟩, World.alloc_heap_new w _, by simp; omega, by omega, hzb⟩
  have HGB : Hid (∀ X, Wr C b [] bv w X ∨ True) := fun X => .inr trivial
  clear HGB
  have HBB : Hid (∀ q LL X, PutSt C b w bv w.heap.size #[.int .i64 e.page, .string e.name, .string e.text, .bool e.opq, .slice a e.kids.length c] 46 q LL X → Below M w X) := fun q LL X h => by
    obtain ⟨⟨v, _, h2, _⟩, _⟩ := h
    exact h2.below hB hMC hMb (Nat.le_trans hMC hCw)
  have HNN := Lib.hid (rfl : e.kids = e.kids)
  have HMC := Lib.hid hMC
  have HMb := Lib.hid hMb
  clear hp hx hv hB hL he ih hks hk hpg hcT hXE hMC hMb hCw HNN
  have hW0 : (w.alloc (.cells #[.int .i64 e.page, .string e.name, .string e.text, .bool e.opq, .slice a e.kids.length c] 46)).cell? ⟨w.heap.size, 0, none⟩ = some (.int .i64 e.page) ∨ True := .inr trivial
  clear hW0
  generalize hgp : e.page = p at *
  generalize hgn : e.name = nm at *
  generalize hgt : e.text = tx at *
  generalize hgo : e.opq = o at *
  generalize hgk : e.kids = ks at *
  clear hgp hgn hgt hgo hgk
  generalize hnk : ks.length = nk at *
  have HNK := Lib.hid hnk
  clear hnk
  have hSz := spcL_len p
  clear hSz
  subst j2
  clear ho
  go_enter Tryd.func128, Tryd.ntmps128
  go_wp2_with fail
  have cW := PutSt.write HS.out (by omega) ({ data := #[60] } ++ nm) 40 (by rw [ByteArray.size_append]; show 1 + nm.size ≤ 40; omega) (by omega)
  refine cW.mono ?_
  clear cW
  rintro r X ⟨⟨n1, rfl⟩, hs⟩
  clear HS
  have HS := Lib.hid hs
  clear hs
  obtain ⟨y0, y1, y2, y3, y4⟩ := HS.out.y5
  go_wp2_with fail
  have cW := cE.out X
  refine cW.mono ?_
  clear cW
  rintro r X ⟨rfl, hbx⟩
  have HS2 := Lib.hid (HS.out.below hbx)
  clear HS hbx y0 y1 y2 y3 y4
  have HS := HS2
  clear HS2
  obtain ⟨y0, y1, y2, y3, y4⟩ := HS.out.y5
  go_wp2_with fail
  clear y0 y1 y2 y3 y4
  have cW := PutSt.write HS.out (by omega) { data := #[32, 101, 110, 99, 61, 34, 98, 54, 52, 34] } 60 (by decide) (by omega)
  refine cW.mono ?_
  clear cW
  rintro r X ⟨⟨n1, rfl⟩, hs⟩
  clear HS
  have HS := Lib.hid hs
  clear hs
  obtain ⟨y0, y1, y2, y3, y4⟩ := HS.out.y5
  go_wp2_with fail
  have cW := cO.out X
  refine cW.mono ?_
  clear cW
  rintro r X ⟨rfl, hbx⟩
  have HS2 := Lib.hid (HS.out.below hbx)
  clear HS hbx y0 y1 y2 y3 y4
  have HS := HS2
  clear HS2
  obtain ⟨y0, y1, y2, y3, y4⟩ := HS.out.y5
  have hxl := HXl.out
  go_wp2_with fail
  clear y0 y1 y2 y3 y4
  have cW := PutSt.write HS.out (by omega) ({ data := #[62] } ++ XO) 30000 (by rw [ByteArray.size_append]; show 1 + XO.size ≤ 30000; omega) (by omega)
  refine cW.mono ?_
  clear cW
  rintro r X ⟨⟨n1, rfl⟩, hs⟩
  clear HS
  have HS := Lib.hid hs
  clear hs
  obtain ⟨y0, y1, y2, y3, y4⟩ := HS.out.y5
  have HPre : Hid (PutSt C b w bv w.heap.size #[.int .i64 p, .string nm, .string tx, .bool true, .slice a nk c] 46 50000000 (((L ++ (([60] ++ nm.data.toList) ++ sEnc)) ++ ([62] ++ txL true tx)) ++ docL spcL p (ks.take 0)) X) := by
    have h0 : docL spcL p (ks.take 0) = [] := by rw [List.take_zero]; rfl
    have h1 : ((L ++ (([60] ++ nm.data.toList) ++ sEnc)) ++ ([62] ++ txL true tx)) ++ docL spcL p (ks.take 0) = ((L ++ ({ data := #[60] } ++ nm).data.toList) ++ ({ data := #[32, 101, 110, 99, 61, 34, 98, 54, 52, 34] } : ByteArray).data.toList) ++ ({ data := #[62] } ++ XO).data.toList := by
      rw [h0, ← HX.out]
      simp [ByteArray.data_append, sXm, sEnc, spcL]
    unfold Hid
    rw [h1]
    refine HS.out.q ?_
    rw [← h1, h0]
    have h2 := HLL.out
    have h3 := HTL.out
    have h4 := spcL_len p
    have h5 := len_toList nm
    simp [sXm, sEnc] at h3 ⊢
    omega
  clear HS
  have HFl : Hid (((L ++ (([60] ++ nm.data.toList) ++ sEnc)) ++ ([62] ++ txL true tx)).length ≤ L.length + 21000) := by
    have h3 := HTL.out
    have h4 := spcL_len p
    have h5 := len_toList nm
    unfold Hid
    simp [sXm, sEnc] at h3 ⊢
    omega
  generalize hFr : ((L ++ (([60] ++ nm.data.toList) ++ sEnc)) ++ ([62] ++ txL true tx)) = FR at HPre HFl
  have HFr := Lib.hid hFr
  clear hFr
  go_wp2_with fail
  go_loopw [52] (fun iv wr => ∃ i : Nat, i ≤ nk ∧ iv = .int .i64 (i : Int) ∧ Hid (PutSt C b w bv w.heap.size #[.int .i64 p, .string nm, .string tx, .bool true, .slice a nk c] 46 50000000 (FR ++ docL spcL p (ks.take i)) wr)) (fun iv _ => nk - (intOf iv).toNat)
  case atStart => exact ⟨0, Nat.zero_le _, rfl, HPre.out⟩
  case round =>
    obtain ⟨i, hi, rfl, HR⟩ := hrel
    clear HPre y0 y1 y2 y3 y4
    obtain ⟨y0, y1, y2, y3, y4⟩ := HR.out.y5
    by_cases hlt : i < nk
    · have j3 : (i : Int) < (nk : Int) := by omega
      have d3 : decide (i < nk) = true := by simp; omega
      have HW1 : Hid (wrap64 ((i : Int) + 1) = (i : Int) + 1) := by unfold Hid wrap64; omega
      have HMs : Hid (nk - (intOf (.int .i64 ((i : Int) + 1))).toNat < nk - (intOf (.int .i64 (i : Int))).toNat) := by unfold Hid; simp [intOf]; omega
      have hik : i < ks.length := by rw [HNK.out]; exact hlt
      obtain ⟨bb, oo, a', c', rfl, hrg, hat⟩ := kid_at HKs.out (HBB.out _ _ _ HR.out) i hik
      obtain ⟨x0, x1, x2, x3, x4⟩ := elem_cells hrg
      have hnext : (FR ++ docL spcL p (ks.take i)) ++ docT spcL p ks[i] = FR ++ docL spcL p (ks.take (i + 1)) := by
        rw [List.take_succ_eq_append_getElem hik, docL_snoc, List.append_assoc]
      have hfl : (FR ++ docL spcL p (ks.take (i + 1))).length ≤ 50000000 ∧ (FR ++ docL spcL p (ks.take i)).length + 21000 * cT ks[i] ≤ 50000000 := by
        have h1 := HDL.out (i + 1)
        have h2 := HDL.out i
        have h3 := HCL.out i _ (List.getElem?_eq_getElem hik)
        have h4 := cL_take ks i hik
        have h5 := HLL.out
        have h6 := HFl.out
        rw [List.length_append, List.length_append]
        have h7 : 21000 * (cL (ks.take i) + cT ks[i]) ≤ 21000 * cL ks := Nat.mul_le_mul_left _ h3
        rw [Nat.mul_add] at h7
        rw [h4, Nat.mul_add] at h1
        omega
      have hal : Below wr.heap.size wr (wr.alloc (.cells #[.int .i64 ks[i].page, .string ks[i].name, .string ks[i].text, .bool ks[i].opq, .slice a' ks[i].kids.length c'] 46)) := (Below.refl _ wr).alloc (Nat.le_refl _) _
      obtain ⟨kv, hkb, hkw⟩ := PutSt.step (q' := 50000000) (L' := FR ++ docL spcL p (ks.take (i + 1))) (HR.out.below hal) hfl.1
      have hsz := HR.out.size
      have cI := HIH.out ks[i] (List.getElem_mem hik) _ p C b M (FR ++ docL spcL p (ks.take i)) kv _ HMC.out HMb.out (Nat.le_trans hsz.1 hal.size) (AtT.below (hal.mono (Nat.le_trans HMC.out hsz.1)) _ _ hat) hkb hfl.2
      rw [hnext] at cI
      have CI := Lib.hid cI
      have HKW := Lib.hid hkw
      have HKal := (HR.out.below hal).y5
      clear cI hkw hkb hfl hnext hrg hat hal hsz HR
      obtain ⟨u0, u1, u2, u3, u4⟩ := HKal
      have hw1 := HW1.out
      generalize ks[i] = k at *
      go_wp2_with (go_at_call 128; (with_reducible refine CI.out.mono ?_); rintro r w5 ⟨rfl, hwr⟩; have HR5 := Lib.hid (HKW.out _ hwr); clear hwr)
      go_roundw
      case rel => exact ⟨i + 1, by omega, by go_num, HR5.out⟩
      case measure => first | exact HMs.out | (rw [hw1]; exact HMs.out)
    · have j3 : ¬ (i : Int) < (nk : Int) := by omega
      have d3 : decide (i < nk) = false := by simp; omega
      have hkk : ks.take i = ks := List.take_of_length_le (by rw [HNK.out]; omega)
      have hr := HR.out
      rw [hkk] at hr
      have HS := Lib.hid hr
      clear hr hkk HR
      go_wp2_with fail
      have cW := PutSt.write HS.out (by omega) (({ data := #[60, 47] } ++ nm) ++ { data := #[62] }) 60 (by rw [ByteArray.size_append, ByteArray.size_append]; show 2 + nm.size + 1 ≤ 60; omega) (by omega)
      refine cW.mono ?_
      clear cW
      rintro r X ⟨⟨n1, rfl⟩, hs⟩
      have HW : Hid (Wr C b (Lib.byteCells (L ++ docT spcL pg e)) bv w X) := by
        unfold Hid; rw [HDoc.out, HHead.out]
        have h1 := hs.wr
        rw [← HFr.out] at h1
        simpa [ByteArray.data_append, tailL] using h1
      clear HS hs
      go_wp2_with fail
      go_end0
      exact ⟨rfl, HW.out⟩

set_option maxRecDepth 100000 in
set_option maxHeartbeats 4000000 in
theorem put_eptl (e : Tr) (he : chkA e = 0) (ih : ∀ k ∈ e.kids, PutOk k) (v : Value) (pg : Int) (C b M : Nat) (L : List UInt8) (bv : Value) (w : World) (hMC : M ≤ C) (hMb : M ≤ b) (hCw : C ≤ w.heap.size) (hv : AtT w M e v) (hB : BdV C b (Lib.byteCells L) bv w) (hL : L.length + 21000 * cT e ≤ 50000000)
    (hp : e.page = pg) (ho : e.opq = false) (hx : e.text.size ≠ 0) :
    Calls Tryd.prog 128 #[.pointer (some ⟨b, 0, none⟩), v, .int .i64 pg] w fun r w' => r = .returned (.tuple #[]) ∧ Wr C b (Lib.byteCells (L ++ docT spcL pg e)) bv w w' := by
  obtain ⟨hz1, hcT, hpg, hz2, hnm, hkl, htx, hz3, hz4, hz5, hks⟩ := chkA_right he
  clear hz1 hz2 hz3 hz4 hz5
  obtain ⟨hz1, hz2, s3, a, c, rfl, hk⟩ := hv.parts
  clear hz1 hz2
  obtain ⟨XE, hXE⟩ : ∃ XE : ByteArray, (⟨(esc e.text.data.toList).toArray⟩ : ByteArray) = XE := ⟨_, rfl⟩
  have cE := Lib.hid (fun W => escape_any e.text W (by omega))
  rw [hXE] at cE
  have HXE : Hid (XE.data.toList = esc e.text.data.toList) := by unfold Hid; rw [← hXE]
  have HX : Hid (XE.data.toList = txL e.opq e.text) := by unfold Hid txL; rw [ho, HXE.out]; rfl
  have HXl : Hid (XE.size ≤ 20000) := by unfold Hid; rw [← len_toList, HX.out]; have := (txL_len e.opq e.text).2; omega
  have hx0 : XE.size ≠ 0 := by rw [← len_toList, HX.out]; have := (txL_len e.opq e.text).1; omega
  have i1 := not_empty XE hx0
  have HT0 : Hid (txL e.opq e.text ≠ []) := by unfold Hid; rw [← HX.out]; exact fun h => hx0 (by rw [← len_toList, h]; rfl)
  clear hx0
  have HDoc : Hid (L ++ docT spcL pg e = L ++ (headL spcL pg e.page e.name e.opq ++ (([62] ++ txL e.opq e.text) ++ (docL spcL e.page e.kids ++ tailL e.name)))) := by
    unfold Hid; rw [docT_of, if_neg (fun h => HT0.out h.1)]
  have HHead : Hid (headL spcL pg e.page e.name e.opq = ([60] ++ e.name.data.toList)) := by
    unfold Hid headL; rw [if_neg (by simpa using hp), ho]; simp
  have j0 : (e.page == pg) = true := by simpa using hp
  have j1 : (e.page != pg) = false := by simpa using hp
  have j2 : e.opq = false := ho
  have HDL : Hid (∀ i, (docL spcL e.page (e.kids.take i)).length ≤ 21000 * cL (e.kids.take i)) := fun i => docL_len spcL spcL_len e.page _ (fun k hk => hks k (List.mem_of_mem_take hk))
  have HCL : Hid (∀ (i : Nat) (k : Tr), e.kids[i]? = some k → cL (e.kids.take i) + cT k ≤ cL e.kids) := fun i k h => by
    obtain ⟨h1, h2⟩ := List.getElem?_eq_some_iff.1 h
    rw [← h2, ← cL_take e.kids i h1]; exact cL_le e.kids (i + 1)
  have HLL : Hid (L.length + 21000 + 21000 * cL e.kids ≤ 50000000) := by unfold Hid; rw [cT_of] at hL; omega
  have HIH := Lib.hid ih
  have HKs := Lib.hid hk
  have HTL : Hid ((txL e.opq e.text).length ≤ 20000) := by unfold Hid; rw [← HX.out, len_toList]; exact HXl.out
  have HKN : Hid (∀ i, (docL spcL e.page (e.kids.take (i + 1))).length = (docL spcL e.page (e.kids.take (i + 1))).length) := fun _ => rfl
  clear HKN
  have hSp : (spc e.page).size ≤ 40 := by have := spcL_len e.page; unfold spcL at this; rw [len_toList] at this; exact this
  have hzb : w.heap.size ≠ b := by have := hB.lt; omega
  have HS : Hid (PutSt C b w bv w.heap.size #[.int .i64 e.page, .string e.name, .string e.text, .bool e.opq, .slice a e.kids.length c] 46 50000000 L (w.alloc (.cells #[.int .i64 e.page, .string e.name, .string e.text, .bool e.opq, .slice a e.kids.length c] 46))) :=
    ⟨⟨bv, hB.below ((Below.refl _ w).alloc (Nat.le_refl _) _), GrB.of_below ((Below.refl _ w).alloc (Nat.le_refl _) _), fun h => by have := (hB.own _ h).2; omega⟩, World.alloc_heap_new w _, by simp; omega, by omega, hzb⟩
  have HGB : Hid (∀ X, Wr C b [] bv w X ∨ True) := fun X => .inr trivial
  clear HGB
  have HBB : Hid (∀ q LL X, PutSt C b w bv w.heap.size #[.int .i64 e.page, .string e.name, .string e.text, .bool e.opq, .slice a e.kids.length c] 46 q LL X → Below M w X) := fun q LL X h => by
    obtain ⟨⟨v, _, h2, _⟩, _⟩ := h
    exact h2.below hB hMC hMb (Nat.le_trans hMC hCw)
  have HNN := Lib.hid (rfl : e.kids = e.kids)
  have HMC := Lib.hid hMC
  have HMb := Lib.hid hMb
  clear hp hx hv hB hL he ih hks hk hpg hcT hXE hMC hMb hCw HNN
  have hW0 : (w.alloc (.cells #[.int .i64 e.page, .string e.name, .string e.text, .bool e.opq, .slice a e.kids.length c] 46)).cell? ⟨w.heap.size, 0, none⟩ = some (.int .i64 e.page) ∨ True := .inr trivial
  clear hW0
  generalize hgp : e.page = p at *
  generalize hgn : e.name = nm at *
  generalize hgt : e.text = tx at *
  generalize hgo : e.opq = o at *
  generalize hgk : e.kids = ks at *
  clear hgp hgn hgt hgo hgk
  generalize hnk : ks.length = nk at *
  have HNK := Lib.hid hnk
  clear hnk
  have hSz := spcL_len p
  clear hSz
  subst j2
  clear ho
  go_enter Tryd.func128, Tryd.ntmps128
  go_wp2_with fail
  have cW := PutSt.write HS.out (by omega) ({ data := #[60] } ++ nm) 40 (by rw [ByteArray.size_append]; show 1 + nm.size ≤ 40; omega) (by omega)
  refine cW.mono ?_
  clear cW
  rintro r X ⟨⟨n1, rfl⟩, hs⟩
  clear HS
  have HS := Lib.hid hs
  clear hs
  obtain ⟨y0, y1, y2, y3, y4⟩ := HS.out.y5
  go_wp2_with fail
  have cW := cE.out X
  refine cW.mono ?_
  clear cW
  rintro r X ⟨rfl, hbx⟩
  have HS2 := Lib.hid (HS.out.below hbx)
  clear HS hbx y0 y1 y2 y3 y4
  have HS := HS2
  clear HS2
  obtain ⟨y0, y1, y2, y3, y4⟩ := HS.out.y5
  have hxl := HXl.out
  go_wp2_with fail
  clear y0 y1 y2 y3 y4
  have cW := PutSt.write HS.out (by omega) ({ data := #[62] } ++ XE) 30000 (by rw [ByteArray.size_append]; show 1 + XE.size ≤ 30000; omega) (by omega)
  refine cW.mono ?_
  clear cW
  rintro r X ⟨⟨n1, rfl⟩, hs⟩
  clear HS
  have HS := Lib.hid hs
  clear hs
  obtain ⟨y0, y1, y2, y3, y4⟩ := HS.out.y5
  have HPre : Hid (PutSt C b w bv w.heap.size #[.int .i64 p, .string nm, .string tx, .bool false, .slice a nk c] 46 50000000 (((L ++ (([60] ++ nm.data.toList))) ++ ([62] ++ txL false tx)) ++ docL spcL p (ks.take 0)) X) := by
    have h0 : docL spcL p (ks.take 0) = [] := by rw [List.take_zero]; rfl
    have h1 : ((L ++ (([60] ++ nm.data.toList))) ++ ([62] ++ txL false tx)) ++ docL spcL p (ks.take 0) = (L ++ ({ data := #[60] } ++ nm).data.toList) ++ ({ data := #[62] } ++ XE).data.toList := by
      rw [h0, ← HX.out]
      simp [ByteArray.data_append, sXm, sEnc, spcL]
    unfold Hid
    rw [h1]
    refine HS.out.q ?_
    rw [← h1, h0]
    have h2 := HLL.out
    have h3 := HTL.out
    have h4 := spcL_len p
    have h5 := len_toList nm
    simp [sXm, sEnc] at h3 ⊢
    omega
  clear HS
  have HFl : Hid (((L ++ (([60] ++ nm.data.toList))) ++ ([62] ++ txL false tx)).length ≤ L.length + 21000) := by
    have h3 := HTL.out
    have h4 := spcL_len p
    have h5 := len_toList nm
    unfold Hid
    simp [sXm, sEnc] at h3 ⊢
    omega
  generalize hFr : ((L ++ (([60] ++ nm.data.toList))) ++ ([62] ++ txL false tx)) = FR at HPre HFl
  have HFr := Lib.hid hFr
  clear hFr
  go_wp2_with fail
  go_loopw [52] (fun iv wr => ∃ i : Nat, i ≤ nk ∧ iv = .int .i64 (i : Int) ∧ Hid (PutSt C b w bv w.heap.size #[.int .i64 p, .string nm, .string tx, .bool false, .slice a nk c] 46 50000000 (FR ++ docL spcL p (ks.take i)) wr)) (fun iv _ => nk - (intOf iv).toNat)
  case atStart => exact ⟨0, Nat.zero_le _, rfl, HPre.out⟩
  case round =>
    obtain ⟨i, hi, rfl, HR⟩ := hrel
    clear HPre y0 y1 y2 y3 y4
    obtain ⟨y0, y1, y2, y3, y4⟩ := HR.out.y5
    by_cases hlt : i < nk
    · have j3 : (i : Int) < (nk : Int) := by omega
      have d3 : decide (i < nk) = true := by simp; omega
      have HW1 : Hid (wrap64 ((i : Int) + 1) = (i : Int) + 1) := by unfold Hid wrap64; omega
      have HMs : Hid (nk - (intOf (.int .i64 ((i : Int) + 1))).toNat < nk - (intOf (.int .i64 (i : Int))).toNat) := by unfold Hid; simp [intOf]; omega
      have hik : i < ks.length := by rw [HNK.out]; exact hlt
      obtain ⟨bb, oo, a', c', rfl, hrg, hat⟩ := kid_at HKs.out (HBB.out _ _ _ HR.out) i hik
      obtain ⟨x0, x1, x2, x3, x4⟩ := elem_cells hrg
      have hnext : (FR ++ docL spcL p (ks.take i)) ++ docT spcL p ks[i] = FR ++ docL spcL p (ks.take (i + 1)) := by
        rw [List.take_succ_eq_append_getElem hik, docL_snoc, List.append_assoc]
      have hfl : (FR ++ docL spcL p (ks.take (i + 1))).length ≤ 50000000 ∧ (FR ++ docL spcL p (ks.take i)).length + 21000 * cT ks[i] ≤ 50000000 := by
        have h1 := HDL.out (i + 1)
        have h2 := HDL.out i
        have h3 := HCL.out i _ (List.getElem?_eq_getElem hik)
        have h4 := cL_take ks i hik
        have h5 := HLL.out
        have h6 := HFl.out
        rw [List.length_append, List.length_append]
        have h7 : 21000 * (cL (ks.take i) + cT ks[i]) ≤ 21000 * cL ks := Nat.mul_le_mul_left _ h3
        rw [Nat.mul_add] at h7
        rw [h4, Nat.mul_add] at h1
        omega
      have hal : Below wr.heap.size wr (wr.alloc (.cells #[.int .i64 ks[i].page, .string ks[i].name, .string ks[i].text, .bool ks[i].opq, .slice a' ks[i].kids.length c'] 46)) := (Below.refl _ wr).alloc (Nat.le_refl _) _
      obtain ⟨kv, hkb, hkw⟩ := PutSt.step (q' := 50000000) (L' := FR ++ docL spcL p (ks.take (i + 1))) (HR.out.below hal) hfl.1
      have hsz := HR.out.size
      have cI := HIH.out ks[i] (List.getElem_mem hik) _ p C b M (FR ++ docL spcL p (ks.take i)) kv _ HMC.out HMb.out (Nat.le_trans hsz.1 hal.size) (AtT.below (hal.mono (Nat.le_trans HMC.out hsz.1)) _ _ hat) hkb hfl.2
      rw [hnext] at cI
      have CI := Lib.hid cI
      have HKW := Lib.hid hkw
      have HKal := (HR.out.below hal).y5
      clear cI hkw hkb hfl hnext hrg hat hal hsz HR
      obtain ⟨u0, u1, u2, u3, u4⟩ := HKal
      have hw1 := HW1.out
      generalize ks[i] = k at *
      go_wp2_with (go_at_call 128; (with_reducible refine CI.out.mono ?_); rintro r w5 ⟨rfl, hwr⟩; have HR5 := Lib.hid (HKW.out _ hwr); clear hwr)
      go_roundw
      case rel => exact ⟨i + 1, by omega, by go_num, HR5.out⟩
      case measure => first | exact HMs.out | (rw [hw1]; exact HMs.out)
    · have j3 : ¬ (i : Int) < (nk : Int) := by omega
      have d3 : decide (i < nk) = false := by simp; omega
      have hkk : ks.take i = ks := List.take_of_length_le (by rw [HNK.out]; omega)
      have hr := HR.out
      rw [hkk] at hr
      have HS := Lib.hid hr
      clear hr hkk HR
      go_wp2_with fail
      have cW := PutSt.write HS.out (by omega) (({ data := #[60, 47] } ++ nm) ++ { data := #[62] }) 60 (by rw [ByteArray.size_append, ByteArray.size_append]; show 2 + nm.size + 1 ≤ 60; omega) (by omega)
      refine cW.mono ?_
      clear cW
      rintro r X ⟨⟨n1, rfl⟩, hs⟩
      have HW : Hid (Wr C b (Lib.byteCells (L ++ docT spcL pg e)) bv w X) := by
        unfold Hid; rw [HDoc.out, HHead.out]
        have h1 := hs.wr
        rw [← HFr.out] at h1
        simpa [ByteArray.data_append, tailL] using h1
      clear HS hs
      go_wp2_with fail
      go_end0
      exact ⟨rfl, HW.out⟩

set_option maxRecDepth 100000 in
set_option maxHeartbeats 4000000 in
theorem put_epxl (e : Tr) (he : chkA e = 0) (ih : ∀ k ∈ e.kids, PutOk k) (v : Value) (pg : Int) (C b M : Nat) (L : List UInt8) (bv : Value) (w : World) (hMC : M ≤ C) (hMb : M ≤ b) (hCw : C ≤ w.heap.size) (hv : AtT w M e v) (hB : BdV C b (Lib.byteCells L) bv w) (hL : L.length + 21000 * cT e ≤ 50000000)
    (hp : e.page = pg) (ho : e.opq = false) (hx : e.text.size = 0) (hk0 : e.kids.length ≠ 0) :
    Calls Tryd.prog 128 #[.pointer (some ⟨b, 0, none⟩), v, .int .i64 pg] w fun r w' => r = .returned (.tuple #[]) ∧ Wr C b (Lib.byteCells (L ++ docT spcL pg e)) bv w w' := by
  obtain ⟨hz1, hcT, hpg, hz2, hnm, hkl, htx, hz3, hz4, hz5, hks⟩ := chkA_right he
  clear hz1 hz2 hz3 hz4 hz5
  obtain ⟨hz1, hz2, s3, a, c, rfl, hk⟩ := hv.parts
  clear hz1 hz2
  obtain ⟨XE, hXE⟩ : ∃ XE : ByteArray, (⟨(esc e.text.data.toList).toArray⟩ : ByteArray) = XE := ⟨_, rfl⟩
  have cE := Lib.hid (fun W => escape_any e.text W (by omega))
  rw [hXE] at cE
  have HXE : Hid (XE.data.toList = esc e.text.data.toList) := by unfold Hid; rw [← hXE]
  have HX : Hid (XE.data.toList = txL e.opq e.text) := by unfold Hid txL; rw [ho, HXE.out]; rfl
  have HXl : Hid (XE.size ≤ 20000) := by unfold Hid; rw [← len_toList, HX.out]; have := (txL_len e.opq e.text).2; omega
  have hx0 : XE.size = 0 := by rw [← len_toList, HX.out]; have := (txL_len e.opq e.text).2; omega
  have i1 := emptyB XE hx0
  have HT0 : Hid (txL e.opq e.text = []) := by unfold Hid; rw [← HX.out]; exact List.eq_nil_of_length_eq_zero (by rw [len_toList]; exact hx0)
  clear hx0
  have HDoc : Hid (L ++ docT spcL pg e = L ++ (headL spcL pg e.page e.name e.opq ++ (([62] ++ txL e.opq e.text) ++ (docL spcL e.page e.kids ++ tailL e.name)))) := by
    unfold Hid; rw [docT_of, if_neg (fun h => hk0 (by rw [h.2]; rfl))]
  have HHead : Hid (headL spcL pg e.page e.name e.opq = ([60] ++ e.name.data.toList)) := by
    unfold Hid headL; rw [if_neg (by simpa using hp), ho]; simp
  have j0 : (e.page == pg) = true := by simpa using hp
  have j1 : (e.page != pg) = false := by simpa using hp
  have j2 : e.opq = false := ho
  have j4 : ((e.kids.length : Int) == 0) = false := by rw [beq_eq_false_iff_ne]; omega
  have j5 : (e.kids.length == 0) = false := by rw [beq_eq_false_iff_ne]; omega
  have HDL : Hid (∀ i, (docL spcL e.page (e.kids.take i)).length ≤ 21000 * cL (e.kids.take i)) := fun i => docL_len spcL spcL_len e.page _ (fun k hk => hks k (List.mem_of_mem_take hk))
  have HCL : Hid (∀ (i : Nat) (k : Tr), e.kids[i]? = some k → cL (e.kids.take i) + cT k ≤ cL e.kids) := fun i k h => by
    obtain ⟨h1, h2⟩ := List.getElem?_eq_some_iff.1 h
    rw [← h2, ← cL_take e.kids i h1]; exact cL_le e.kids (i + 1)
  have HLL : Hid (L.length + 21000 + 21000 * cL e.kids ≤ 50000000) := by unfold Hid; rw [cT_of] at hL; omega
  have HIH := Lib.hid ih
  have HKs := Lib.hid hk
  have HTL : Hid ((txL e.opq e.text).length ≤ 20000) := by unfold Hid; rw [← HX.out, len_toList]; exact HXl.out
  have HKN : Hid (∀ i, (docL spcL e.page (e.kids.take (i + 1))).length = (docL spcL e.page (e.kids.take (i + 1))).length) := fun _ => rfl
  clear HKN
  have hSp : (spc e.page).size ≤ 40 := by have := spcL_len e.page; unfold spcL at this; rw [len_toList] at this; exact this
  have hzb : w.heap.size ≠ b := by have := hB.lt; omega
  have HS : Hid (PutSt C b w bv w.heap.size #[.int .i64 e.page, .string e.name, .string e.text, .bool e.opq, .slice a e.kids.length c] 46 50000000 L (w.alloc (.cells #[.int .i64 e.page, .string e.name, .string e.text, .bool e.opq, .slice a e.kids.length c] 46))) :=
    ⟨⟨bv, hB.below ((Below.refl _ w).alloc (Nat.le_refl _) _), GrB.of_below ((Below.refl _ w).alloc (Nat.le_refl _) _), fun h => by have := (hB.own _ h).2; omega⟩, World.alloc_heap_new w _, by simp; omega, by omega, hzb⟩
  have HGB : Hid (∀ X, Wr C b [] bv w X ∨ True) := fun X => .inr trivial
  clear HGB
  have HBB : Hid (∀ q LL X, PutSt C b w bv w.heap.size #[.int .i64 e.page, .string e.name, .string e.text, .bool e.opq, .slice a e.kids.length c] 46 q LL X → Below M w X) := fun q LL X h => by
    obtain ⟨⟨v, _, h2, _⟩, _⟩ := h
    exact h2.below hB hMC hMb (Nat.le_trans hMC hCw)
  have HNN := Lib.hid (rfl : e.kids = e.kids)
  have HMC := Lib.hid hMC
  have HMb := Lib.hid hMb
  clear hp hx hk0 hv hB hL he ih hks hk hpg hcT hXE hMC hMb hCw HNN
  have hW0 : (w.alloc (.cells #[.int .i64 e.page, .string e.name, .string e.text, .bool e.opq, .slice a e.kids.length c] 46)).cell? ⟨w.heap.size, 0, none⟩ = some (.int .i64 e.page) ∨ True := .inr trivial
  clear hW0
  generalize hgp : e.page = p at *
  generalize hgn : e.name = nm at *
  generalize hgt : e.text = tx at *
  generalize hgo : e.opq = o at *
  generalize hgk : e.kids = ks at *
  clear hgp hgn hgt hgo hgk
  generalize hnk : ks.length = nk at *
  have HNK := Lib.hid hnk
  clear hnk
  have hSz := spcL_len p
  clear hSz
  subst j2
  clear ho
  go_enter Tryd.func128, Tryd.ntmps128
  go_wp2_with fail
  have cW := PutSt.write HS.out (by omega) ({ data := #[60] } ++ nm) 40 (by rw [ByteArray.size_append]; show 1 + nm.size ≤ 40; omega) (by omega)
  refine cW.mono ?_
  clear cW
  rintro r X ⟨⟨n1, rfl⟩, hs⟩
  clear HS
  have HS := Lib.hid hs
  clear hs
  obtain ⟨y0, y1, y2, y3, y4⟩ := HS.out.y5
  go_wp2_with fail
  have cW := cE.out X
  refine cW.mono ?_
  clear cW
  rintro r X ⟨rfl, hbx⟩
  have HS2 := Lib.hid (HS.out.below hbx)
  clear HS hbx y0 y1 y2 y3 y4
  have HS := HS2
  clear HS2
  obtain ⟨y0, y1, y2, y3, y4⟩ := HS.out.y5
  have hxl := HXl.out
  go_wp2_with fail
  clear y0 y1 y2 y3 y4
  have cW := PutSt.write HS.out (by omega) ({ data := #[62] } ++ XE) 30000 (by rw [ByteArray.size_append]; show 1 + XE.size ≤ 30000; omega) (by omega)
  refine cW.mono ?_
  clear cW
  rintro r X ⟨⟨n1, rfl⟩, hs⟩
  clear HS
  have HS := Lib.hid hs
  clear hs
  obtain ⟨y0, y1, y2, y3, y4⟩ := HS.out.y5
  have HPre : Hid (PutSt C b w bv w.heap.size #[.int .i64 p, .string nm, .string tx, .bool false, .slice a nk c] 46 50000000 (((L ++ (([60] ++ nm.data.toList))) ++ ([62] ++ txL false tx)) ++ docL spcL p (ks.take 0)) X) := by
    have h0 : docL spcL p (ks.take 0) = [] := by rw [List.take_zero]; rfl
    have h1 : ((L ++ (([60] ++ nm.data.toList))) ++ ([62] ++ txL false tx)) ++ docL spcL p (ks.take 0) = (L ++ ({ data := #[60] } ++ nm).data.toList) ++ ({ data := #[62] } ++ XE).data.toList := by
      rw [h0, ← HX.out]
      simp [ByteArray.data_append, sXm, sEnc, spcL]
    unfold Hid
    rw [h1]
    refine HS.out.q ?_
    rw [← h1, h0]
    have h2 := HLL.out
    have h3 := HTL.out
    have h4 := spcL_len p
    have h5 := len_toList nm
    simp [sXm, sEnc] at h3 ⊢
    omega
  clear HS
  have HFl : Hid (((L ++ (([60] ++ nm.data.toList))) ++ ([62] ++ txL false tx)).length ≤ L.length + 21000) := by
    have h3 := HTL.out
    have h4 := spcL_len p
    have h5 := len_toList nm
    unfold Hid
    simp [sXm, sEnc] at h3 ⊢
    omega
  generalize hFr : ((L ++ (([60] ++ nm.data.toList))) ++ ([62] ++ txL false tx)) = FR at HPre HFl
  have HFr := Lib.hid hFr
  clear hFr
  go_wp2_with fail
  go_loopw [52] (fun iv wr => ∃ i : Nat, i ≤ nk ∧ iv = .int .i64 (i : Int) ∧ Hid (PutSt C b w bv w.heap.size #[.int .i64 p, .string nm, .string tx, .bool false, .slice a nk c] 46 50000000 (FR ++ docL spcL p (ks.take i)) wr)) (fun iv _ => nk - (intOf iv).toNat)
  case atStart => exact ⟨0, Nat.zero_le _, rfl, HPre.out⟩
  case round =>
    obtain ⟨i, hi, rfl, HR⟩ := hrel
    clear HPre y0 y1 y2 y3 y4
    obtain ⟨y0, y1, y2, y3, y4⟩ := HR.out.y5
    by_cases hlt : i < nk
    · have j3 : (i : Int) < (nk : Int) := by omega
      have d3 : decide (i < nk) = true := by simp; omega
      have HW1 : Hid (wrap64 ((i : Int) + 1) = (i : Int) + 1) := by unfold Hid wrap64; omega
      have HMs : Hid (nk - (intOf (.int .i64 ((i : Int) + 1))).toNat < nk - (intOf (.int .i64 (i : Int))).toNat) := by unfold Hid; simp [intOf]; omega
      have hik : i < ks.length := by rw [HNK.out]; exact hlt
      obtain ⟨bb, oo, a', c', rfl, hrg, hat⟩ := kid_at HKs.out (HBB.out _ _ _ HR.out) i hik
      obtain ⟨x0, x1, x2, x3, x4⟩ := elem_cells hrg
      have hnext : (FR ++ docL spcL p (ks.take i)) ++ docT spcL p ks[i] = FR ++ docL spcL p (ks.take (i + 1)) := by
        rw [List.take_succ_eq_append_getElem hik, docL_snoc, List.append_assoc]
      have hfl : (FR ++ docL spcL p (ks.take (i + 1))).length ≤ 50000000 ∧ (FR ++ docL spcL p (ks.take i)).length + 21000 * cT ks[i] ≤ 50000000 := by
        have h1 := HDL.out (i + 1)
        have h2 := HDL.out i
        have h3 := HCL.out i _ (List.getElem?_eq_getElem hik)
        have h4 := cL_take ks i hik
        have h5 := HLL.out
        have h6 := HFl.out
        rw [List.length_append, List.length_append]
        have h7 : 21000 * (cL (ks.take i) + cT ks[i]) ≤ 21000 * cL ks := Nat.mul_le_mul_left _ h3
        rw [Nat.mul_add] at h7
        rw [h4, Nat.mul_add] at h1
        omega
      have hal : Below wr.heap.size wr (wr.alloc (.cells #[.int .i64 ks[i].page, .string ks[i].name, .string ks[i].text, .bool ks[i].opq, .slice a' ks[i].kids.length c'] 46)) := (Below.refl _ wr).alloc (Nat.le_refl _) _
      obtain ⟨kv, hkb, hkw⟩ := PutSt.step (q' := 50000000) (L' := FR ++ docL spcL p (ks.take (i + 1))) (HR.out.below hal) hfl.1
      have hsz := HR.out.size
      have cI := HIH.out ks[i] (List.getElem_mem hik) _ p C b M (FR ++ docL spcL p (ks.take i)) kv _ HMC.out HMb.out (Nat.le_trans hsz.1 hal.size) (AtT.below (hal.mono (Nat.le_trans HMC.out hsz.1)) _ _ hat) hkb hfl.2
      rw [hnext] at cI
      have CI := Lib.hid cI
      have HKW := Lib.hid hkw
      have HKal := (HR.out.below hal).y5
      clear cI hkw hkb hfl hnext hrg hat hal hsz HR
      obtain ⟨u0, u1, u2, u3, u4⟩ := HKal
      have hw1 := HW1.out
      generalize ks[i] = k at *
      go_wp2_with (go_at_call 128; (with_reducible refine CI.out.mono ?_); rintro r w5 ⟨rfl, hwr⟩; have HR5 := Lib.hid (HKW.out _ hwr); clear hwr)
      go_roundw
      case rel => exact ⟨i + 1, by omega, by go_num, HR5.out⟩
      case measure => first | exact HMs.out | (rw [hw1]; exact HMs.out)
    · have j3 : ¬ (i : Int) < (nk : Int) := by omega
      have d3 : decide (i < nk) = false := by simp; omega
      have hkk : ks.take i = ks := List.take_of_length_le (by rw [HNK.out]; omega)
      have hr := HR.out
      rw [hkk] at hr
      have HS := Lib.hid hr
      clear hr hkk HR
      go_wp2_with fail
      have cW := PutSt.write HS.out (by omega) (({ data := #[60, 47] } ++ nm) ++ { data := #[62] }) 60 (by rw [ByteArray.size_append, ByteArray.size_append]; show 2 + nm.size + 1 ≤ 60; omega) (by omega)
      refine cW.mono ?_
      clear cW
      rintro r X ⟨⟨n1, rfl⟩, hs⟩
      have HW : Hid (Wr C b (Lib.byteCells (L ++ docT spcL pg e)) bv w X) := by
        unfold Hid; rw [HDoc.out, HHead.out]
        have h1 := hs.wr
        rw [← HFr.out] at h1
        simpa [ByteArray.data_append, tailL] using h1
      clear HS hs
      go_wp2_with fail
      go_end0
      exact ⟨rfl, HW.out⟩

set_option maxRecDepth 100000 in
set_option maxHeartbeats 4000000 in
theorem put_epxk (e : Tr) (he : chkA e = 0) (ih : ∀ k ∈ e.kids, PutOk k) (v : Value) (pg : Int) (C b M : Nat) (L : List UInt8) (bv : Value) (w : World) (hMC : M ≤ C) (hMb : M ≤ b) (hCw : C ≤ w.heap.size) (hv : AtT w M e v) (hB : BdV C b (Lib.byteCells L) bv w) (hL : L.length + 21000 * cT e ≤ 50000000)
    (hp : e.page = pg) (ho : e.opq = false) (hx : e.text.size = 0) (hk0 : e.kids.length = 0) :
    Calls Tryd.prog 128 #[.pointer (some ⟨b, 0, none⟩), v, .int .i64 pg] w fun r w' => r = .returned (.tuple #[]) ∧ Wr C b (Lib.byteCells (L ++ docT spcL pg e)) bv w w' := by
  obtain ⟨hz1, hcT, hpg, hz2, hnm, hkl, htx, hz3, hz4, hz5, hks⟩ := chkA_right he
  clear hz1 hz2 hz3 hz4 hz5
  obtain ⟨hz1, hz2, s3, a, c, rfl, hk⟩ := hv.parts
  clear hz1 hz2
  obtain ⟨XE, hXE⟩ : ∃ XE : ByteArray, (⟨(esc e.text.data.toList).toArray⟩ : ByteArray) = XE := ⟨_, rfl⟩
  have cE := Lib.hid (fun W => escape_any e.text W (by omega))
  rw [hXE] at cE
  have HXE : Hid (XE.data.toList = esc e.text.data.toList) := by unfold Hid; rw [← hXE]
  have HX : Hid (XE.data.toList = txL e.opq e.text) := by unfold Hid txL; rw [ho, HXE.out]; rfl
  have HXl : Hid (XE.size ≤ 20000) := by unfold Hid; rw [← len_toList, HX.out]; have := (txL_len e.opq e.text).2; omega
  have hx0 : XE.size = 0 := by rw [← len_toList, HX.out]; have := (txL_len e.opq e.text).2; omega
  have i1 := emptyB XE hx0
  have HT0 : Hid (txL e.opq e.text = []) := by unfold Hid; rw [← HX.out]; exact List.eq_nil_of_length_eq_zero (by rw [len_toList]; exact hx0)
  clear hx0
  have HDoc : Hid (L ++ docT spcL pg e = L ++ (headL spcL pg e.page e.name e.opq ++ [47, 62])) := by
    unfold Hid; rw [docT_of, if_pos ⟨HT0.out, List.eq_nil_of_length_eq_zero hk0⟩]
  have HHead : Hid (headL spcL pg e.page e.name e.opq = ([60] ++ e.name.data.toList)) := by
    unfold Hid headL; rw [if_neg (by simpa using hp), ho]; simp
  have j0 : (e.page == pg) = true := by simpa using hp
  have j1 : (e.page != pg) = false := by simpa using hp
  have j2 : e.opq = false := ho
  have j4 : ((e.kids.length : Int) == 0) = true := by rw [hk0]; rfl
  have j5 : (e.kids.length == 0) = true := by rw [hk0]; rfl
  have hSp : (spc e.page).size ≤ 40 := by have := spcL_len e.page; unfold spcL at this; rw [len_toList] at this; exact this
  have hzb : w.heap.size ≠ b := by have := hB.lt; omega
  have HS : Hid (PutSt C b w bv w.heap.size #[.int .i64 e.page, .string e.name, .string e.text, .bool e.opq, .slice a e.kids.length c] 46 50000000 L (w.alloc (.cells #[.int .i64 e.page, .string e.name, .string e.text, .bool e.opq, .slice a e.kids.length c] 46))) :=
    ⟨⟨bv, hB.below ((Below.refl _ w).alloc (Nat.le_refl _) _), GrB.of_below ((Below.refl _ w).alloc (Nat.le_refl _) _), fun h => by have := (hB.own _ h).2; omega⟩, World.alloc_heap_new w _, by simp; omega, by omega, hzb⟩
  have HGB : Hid (∀ X, Wr C b [] bv w X ∨ True) := fun X => .inr trivial
  clear HGB
  have HBB : Hid (∀ q LL X, PutSt C b w bv w.heap.size #[.int .i64 e.page, .string e.name, .string e.text, .bool e.opq, .slice a e.kids.length c] 46 q LL X → Below M w X) := fun q LL X h => by
    obtain ⟨⟨v, _, h2, _⟩, _⟩ := h
    exact h2.below hB hMC hMb (Nat.le_trans hMC hCw)
  have HNN := Lib.hid (rfl : e.kids = e.kids)
  have HMC := Lib.hid hMC
  have HMb := Lib.hid hMb
  clear hp hx hk0 hv hB hL he ih hks hk hpg hcT hXE hMC hMb hCw HNN
  have hW0 : (w.alloc (.cells #[.int .i64 e.page, .string e.name, .string e.text, .bool e.opq, .slice a e.kids.length c] 46)).cell? ⟨w.heap.size, 0, none⟩ = some (.int .i64 e.page) ∨ True := .inr trivial
  clear hW0
  generalize hgp : e.page = p at *
  generalize hgn : e.name = nm at *
  generalize hgt : e.text = tx at *
  generalize hgo : e.opq = o at *
  generalize hgk : e.kids = ks at *
  clear hgp hgn hgt hgo hgk
  generalize hnk : ks.length = nk at *
  have HNK := Lib.hid hnk
  clear hnk
  have hSz := spcL_len p
  clear hSz
  subst j2
  clear ho
  go_enter Tryd.func128, Tryd.ntmps128
  go_wp2_with fail
  have cW := PutSt.write HS.out (by omega) ({ data := #[60] } ++ nm) 40 (by rw [ByteArray.size_append]; show 1 + nm.size ≤ 40; omega) (by omega)
  refine cW.mono ?_
  clear cW
  rintro r X ⟨⟨n1, rfl⟩, hs⟩
  clear HS
  have HS := Lib.hid hs
  clear hs
  obtain ⟨y0, y1, y2, y3, y4⟩ := HS.out.y5
  go_wp2_with fail
  have cW := cE.out X
  refine cW.mono ?_
  clear cW
  rintro r X ⟨rfl, hbx⟩
  have HS2 := Lib.hid (HS.out.below hbx)
  clear HS hbx y0 y1 y2 y3 y4
  have HS := HS2
  clear HS2
  obtain ⟨y0, y1, y2, y3, y4⟩ := HS.out.y5
  have hxl := HXl.out
  go_wp2_with fail
  clear y0 y1 y2 y3 y4
  have cW := PutSt.write HS.out (by omega) { data := #[47, 62] } 60 (by decide) (by omega)
  refine cW.mono ?_
  clear cW
  rintro r X ⟨⟨n1, rfl⟩, hs⟩
  clear HS
  have HS := Lib.hid hs
  clear hs
  obtain ⟨y0, y1, y2, y3, y4⟩ := HS.out.y5
  have HW : Hid (Wr C b (Lib.byteCells (L ++ docT spcL pg e)) bv w X) := by
    unfold Hid; rw [HDoc.out, HHead.out]
    have := HS.out.wr
    simpa [ByteArray.data_append, sXm, sEnc, spcL] using this
  clear HS y0 y1 y2 y3 y4
  go_wp2_with fail
  (try simp only [Exit.inBlock, Exit.then])
  refine bodyPost_ret (results_none rfl _ _ _) rfl ?_
  exact ⟨rfl, HW.out⟩

set_option maxRecDepth 100000 in
set_option maxHeartbeats 4000000 in
theorem put_notl (e : Tr) (he : chkA e = 0) (ih : ∀ k ∈ e.kids, PutOk k) (v : Value) (pg : Int) (C b M : Nat) (L : List UInt8) (bv : Value) (w : World) (hMC : M ≤ C) (hMb : M ≤ b) (hCw : C ≤ w.heap.size) (hv : AtT w M e v) (hB : BdV C b (Lib.byteCells L) bv w) (hL : L.length + 21000 * cT e ≤ 50000000)
    (hp : e.page ≠ pg) (ho : e.opq = true) (hx : e.text.size ≠ 0) :
    Calls Tryd.prog 128 #[.pointer (some ⟨b, 0, none⟩), v, .int .i64 pg] w fun r w' => r = .returned (.tuple #[]) ∧ Wr C b (Lib.byteCells (L ++ docT spcL pg e)) bv w w' := by
  obtain ⟨hz1, hcT, hpg, hz2, hnm, hkl, htx, hz3, hz4, hz5, hks⟩ := chkA_right he
  clear hz1 hz2 hz3 hz4 hz5
  obtain ⟨hz1, hz2, s3, a, c, rfl, hk⟩ := hv.parts
  clear hz1 hz2
  obtain ⟨XE, hXE⟩ : ∃ XE : ByteArray, (⟨(esc e.text.data.toList).toArray⟩ : ByteArray) = XE := ⟨_, rfl⟩
  have cE := Lib.hid (fun W => escape_any e.text W (by omega))
  rw [hXE] at cE
  have HXE : Hid (XE.data.toList = esc e.text.data.toList) := by unfold Hid; rw [← hXE]
  obtain ⟨XO, hXO⟩ : ∃ XO : ByteArray, strOfNums (encS e.text.data.toList) = XO := ⟨_, rfl⟩
  have cO := Lib.hid (fun W => encode_any e.text W (by omega))
  rw [hXO] at cO
  have HX : Hid (XO.data.toList = txL e.opq e.text) := by unfold Hid txL; rw [ho, if_pos rfl, ← hXO]; simp [strOfNums, u8s]
  clear hXO
  have HXl : Hid (XO.size ≤ 20000) := by unfold Hid; rw [← len_toList, HX.out]; have := (txL_len e.opq e.text).2; omega
  have hx0 : XO.size ≠ 0 := by rw [← len_toList, HX.out]; have := (txL_len e.opq e.text).1; omega
  have i1 := not_empty XO hx0
  have HT0 : Hid (txL e.opq e.text ≠ []) := by unfold Hid; rw [← HX.out]; exact fun h => hx0 (by rw [← len_toList, h]; rfl)
  clear hx0
  have HDoc : Hid (L ++ docT spcL pg e = L ++ (headL spcL pg e.page e.name e.opq ++ (([62] ++ txL e.opq e.text) ++ (docL spcL e.page e.kids ++ tailL e.name)))) := by
    unfold Hid; rw [docT_of, if_neg (fun h => HT0.out h.1)]
  have HHead : Hid (headL spcL pg e.page e.name e.opq = ([60] ++ e.name.data.toList) ++ (sXm ++ spcL e.page ++ [34]) ++ sEnc) := by
    unfold Hid headL; rw [if_pos hp, ho]; simp
  have j0 : (e.page == pg) = false := by simpa using hp
  have j1 : (e.page != pg) = true := by simpa using hp
  have j2 : e.opq = true := ho
  have HDL : Hid (∀ i, (docL spcL e.page (e.kids.take i)).length ≤ 21000 * cL (e.kids.take i)) := fun i => docL_len spcL spcL_len e.page _ (fun k hk => hks k (List.mem_of_mem_take hk))
  have HCL : Hid (∀ (i : Nat) (k : Tr), e.kids[i]? = some k → cL (e.kids.take i) + cT k ≤ cL e.kids) := fun i k h => by
    obtain ⟨h1, h2⟩ := List.getElem?_eq_some_iff.1 h
    rw [← h2, ← cL_take e.kids i h1]; exact cL_le e.kids (i + 1)
  have HLL : Hid (L.length + 21000 + 21000 * cL e.kids ≤ 50000000) := by unfold Hid; rw [cT_of] at hL; omega
  have HIH := Lib.hid ih
  have HKs := Lib.hid hk
  have HTL : Hid ((txL e.opq e.text).length ≤ 20000) := by unfold Hid; rw [← HX.out, len_toList]; exact HXl.out
  have HKN : Hid (∀ i, (docL spcL e.page (e.kids.take (i + 1))).length = (docL spcL e.page (e.kids.take (i + 1))).length) := fun _ => rfl
  clear HKN
  have hSp : (spc e.page).size ≤ 40 := by have := spcL_len e.page; unfold spcL at this; rw [len_toList] at this; exact this
  have hzb : w.heap.size ≠ b := by have := hB.lt; omega
  have HS : Hid (PutSt C b w bv w.heap.size #[.int .i64 e.page, .string e.name, .string e.text, .bool e.opq, .slice a e.kids.length c] 46 50000000 L (w.alloc (.cells #[.int .i64 e.page, .string e.name, .string e.text, .bool e.opq, .slice a e.kids.length c] 46))) :=
    ⟨⟨bv, hB.below ((Below.refl _ w).alloc (Nat.le_refl _) _), GrB.of_below ((Below.refl _ w).alloc (Nat.le_refl _) _), fun h => by have := (hB.own _ h).2; omega⟩, World.alloc_heap_new w _, by simp; omega, by omega, hzb⟩
  have HGB : Hid (∀ X, Wr C b [] bv w X ∨ True) := fun X => .inr trivial
  clear HGB
  have HBB : Hid (∀ q LL X, PutSt C b w bv w.heap.size #[.int .i64 e.page, .string e.name, .string e.text, .bool e.opq, .slice a e.kids.length c] 46 q LL X → Below M w X) := fun q LL X h => by
    obtain ⟨⟨v, _, h2, _⟩, _⟩ := h
    exact h2.below hB hMC hMb (Nat.le_trans hMC hCw)
  have HNN := Lib.hid (rfl : e.kids = e.kids)
  have HMC := Lib.hid hMC
  have HMb := Lib.hid hMb
  clear hp hx hv hB hL he ih hks hk hpg hcT hXE hMC hMb hCw HNN
  have hW0 : (w.alloc (.cells #[.int .i64 e.page, .string e.name, .string e.text, .bool e.opq, .slice a e.kids.length c] 46)).cell? ⟨w.heap.size, 0, none⟩ = some (.int .i64 e.page) ∨ True := .inr trivial
  clear hW0
  generalize hgp : e.page = p at *
  generalize hgn : e.name = nm at *
  generalize hgt : e.text = tx at *
  generalize hgo : e.opq = o at *
  generalize hgk : e.kids = ks at *
  clear hgp hgn hgt hgo hgk
  generalize hnk : ks.length = nk at *
  have HNK := Lib.hid hnk
  clear hnk
  have hSz := spcL_len p
  clear hSz
  subst j2
  clear ho
  go_enter Tryd.func128, Tryd.ntmps128
  go_wp2_with fail
  have cW := PutSt.write HS.out (by omega) ({ data := #[60] } ++ nm) 40 (by rw [ByteArray.size_append]; show 1 + nm.size ≤ 40; omega) (by omega)
  refine cW.mono ?_
  clear cW
  rintro r X ⟨⟨n1, rfl⟩, hs⟩
  clear HS
  have HS := Lib.hid hs
  clear hs
  obtain ⟨y0, y1, y2, y3, y4⟩ := HS.out.y5
  go_wp2_with fail
  refine (space_any p _).mono ?_
  rintro r X ⟨rfl, rfl⟩
  go_wp2_with fail
  clear y0 y1 y2 y3 y4
  have cW := PutSt.write HS.out (by omega) (({ data := #[32, 120, 109, 108, 110, 115, 61, 34] } ++ spc p) ++ { data := #[34] }) 60 (by rw [ByteArray.size_append, ByteArray.size_append]; show 8 + (spc p).size + 1 ≤ 60; omega) (by omega)
  refine cW.mono ?_
  clear cW
  rintro r X ⟨⟨n1, rfl⟩, hs⟩
  clear HS
  have HS := Lib.hid hs
  clear hs
  obtain ⟨y0, y1, y2, y3, y4⟩ := HS.out.y5
  go_wp2_with fail
  have cW := cE.out X
  refine cW.mono ?_
  clear cW
  rintro r X ⟨rfl, hbx⟩
  have HS2 := Lib.hid (HS.out.below hbx)
  clear HS hbx y0 y1 y2 y3 y4
  have HS := HS2
  clear HS2
  obtain ⟨y0, y1, y2, y3, y4⟩ := HS.out.y5
  go_wp2_with fail
  clear y0 y1 y2 y3 y4
  have cW := PutSt.write HS.out (by omega) { data := #[32, 101, 110, 99, 61, 34, 98, 54, 52, 34] } 60 (by decide) (by omega)
  refine cW.mono ?_
  clear cW
  rintro r X ⟨⟨n1, rfl⟩, hs⟩
  clear HS
  have HS := Lib.hid hs
  clear hs
  obtain ⟨y0, y1, y2, y3, y4⟩ := HS.out.y5
  go_wp2_with fail
  have cW := cO.out X
  refine cW.mono ?_
  clear cW
  rintro r X ⟨rfl, hbx⟩
  have HS2 := Lib.hid (HS.out.below hbx)
  clear HS hbx y0 y1 y2 y3 y4
  have HS := HS2
  clear HS2
  obtain ⟨y0, y1, y2, y3, y4⟩ := HS.out.y5
  have hxl := HXl.out
  go_wp2_with fail
  clear y0 y1 y2 y3 y4
  have cW := PutSt.write HS.out (by omega) ({ data := #[62] } ++ XO) 30000 (by rw [ByteArray.size_append]; show 1 + XO.size ≤ 30000; omega) (by omega)
  refine cW.mono ?_
  clear cW
  rintro r X ⟨⟨n1, rfl⟩, hs⟩
  clear HS
  have HS := Lib.hid hs
  clear hs
  obtain ⟨y0, y1, y2, y3, y4⟩ := HS.out.y5
  have HPre : Hid (PutSt C b w bv w.heap.size #[.int .i64 p, .string nm, .string tx, .bool true, .slice a nk c] 46 50000000 (((L ++ (([60] ++ nm.data.toList) ++ (sXm ++ spcL p ++ [34]) ++ sEnc)) ++ ([62] ++ txL true tx)) ++ docL spcL p (ks.take 0)) X) := by
    have h0 : docL spcL p (ks.take 0) = [] := by rw [List.take_zero]; rfl
    have h1 : ((L ++ (([60] ++ nm.data.toList) ++ (sXm ++ spcL p ++ [34]) ++ sEnc)) ++ ([62] ++ txL true tx)) ++ docL spcL p (ks.take 0) = (((L ++ ({ data := #[60] } ++ nm).data.toList) ++ (({ data := #[32, 120, 109, 108, 110, 115, 61, 34] } ++ spc p) ++ { data := #[34] }).data.toList) ++ ({ data := #[32, 101, 110, 99, 61, 34, 98, 54, 52, 34] } : ByteArray).data.toList) ++ ({ data := #[62] } ++ XO).data.toList := by
      rw [h0, ← HX.out]
      simp [ByteArray.data_append, sXm, sEnc, spcL]
    unfold Hid
    rw [h1]
    refine HS.out.q ?_
    rw [← h1, h0]
    have h2 := HLL.out
    have h3 := HTL.out
    have h4 := spcL_len p
    have h5 := len_toList nm
    simp [sXm, sEnc] at h3 ⊢
    omega
  clear HS
  have HFl : Hid (((L ++ (([60] ++ nm.data.toList) ++ (sXm ++ spcL p ++ [34]) ++ sEnc)) ++ ([62] ++ txL true tx)).length ≤ L.length + 21000) := by
    have h3 := HTL.out
    have h4 := spcL_len p
    have h5 := len_toList nm
    unfold Hid
    simp [sXm, sEnc] at h3 ⊢
    omega
  generalize hFr : ((L ++ (([60] ++ nm.data.toList) ++ (sXm ++ spcL p ++ [34]) ++ sEnc)) ++ ([62] ++ txL true tx)) = FR at HPre HFl
  have HFr := Lib.hid hFr
  clear hFr
  go_wp2_with fail
  go_loopw [52] (fun iv wr => ∃ i : Nat, i ≤ nk ∧ iv = .int .i64 (i : Int) ∧ Hid (PutSt C b w bv w.heap.size #[.int .i64 p, .string nm, .string tx, .bool true, .slice a nk c] 46 50000000 (FR ++ docL spcL p (ks.take i)) wr)) (fun iv _ => nk - (intOf iv).toNat)
  case atStart => exact ⟨0, Nat.zero_le _, rfl, HPre.out⟩
  case round =>
    obtain ⟨i, hi, rfl, HR⟩ := hrel
    clear HPre y0 y1 y2 y3 y4
    obtain ⟨y0, y1, y2, y3, y4⟩ := HR.out.y5
    by_cases hlt : i < nk
    · have j3 : (i : Int) < (nk : Int) := by omega
      have d3 : decide (i < nk) = true := by simp; omega
      have HW1 : Hid (wrap64 ((i : Int) + 1) = (i : Int) + 1) := by unfold Hid wrap64; omega
      have HMs : Hid (nk - (intOf (.int .i64 ((i : Int) + 1))).toNat < nk - (intOf (.int .i64 (i : Int))).toNat) := by unfold Hid; simp [intOf]; omega
      have hik : i < ks.length := by rw [HNK.out]; exact hlt
      obtain ⟨bb, oo, a', c', rfl, hrg, hat⟩ := kid_at HKs.out (HBB.out _ _ _ HR.out) i hik
      obtain ⟨x0, x1, x2, x3, x4⟩ := elem_cells hrg
      have hnext : (FR ++ docL spcL p (ks.take i)) ++ docT spcL p ks[i] = FR ++ docL spcL p (ks.take (i + 1)) := by
        rw [List.take_succ_eq_append_getElem hik, docL_snoc, List.append_assoc]
      have hfl : (FR ++ docL spcL p (ks.take (i + 1))).length ≤ 50000000 ∧ (FR ++ docL spcL p (ks.take i)).length + 21000 * cT ks[i] ≤ 50000000 := by
        have h1 := HDL.out (i + 1)
        have h2 := HDL.out i
        have h3 := HCL.out i _ (List.getElem?_eq_getElem hik)
        have h4 := cL_take ks i hik
        have h5 := HLL.out
        have h6 := HFl.out
        rw [List.length_append, List.length_append]
        have h7 : 21000 * (cL (ks.take i) + cT ks[i]) ≤ 21000 * cL ks := Nat.mul_le_mul_left _ h3
        rw [Nat.mul_add] at h7
        rw [h4, Nat.mul_add] at h1
        omega
      have hal : Below wr.heap.size wr (wr.alloc (.cells #[.int .i64 ks[i].page, .string ks[i].name, .string ks[i].text, .bool ks[i].opq, .slice a' ks[i].kids.length c'] 46)) := (Below.refl _ wr).alloc (Nat.le_refl _) _
      obtain ⟨kv, hkb, hkw⟩ := PutSt.step (q' := 50000000) (L' := FR ++ docL spcL p (ks.take (i + 1))) (HR.out.below hal) hfl.1
      have hsz := HR.out.size
      have cI := HIH.out ks[i] (List.getElem_mem hik) _ p C b M (FR ++ docL spcL p (ks.take i)) kv _ HMC.out HMb.out (Nat.le_trans hsz.1 hal.size) (AtT.below (hal.mono (Nat.le_trans HMC.out hsz.1)) _ _ hat) hkb hfl.2
      rw [hnext] at cI
      have CI := Lib.hid cI
      have HKW := Lib.hid hkw
      have HKal := (HR.out.below hal).y5
      clear cI hkw hkb hfl hnext hrg hat hal hsz HR
      obtain ⟨u0, u1, u2, u3, u4⟩ := HKal
      have hw1 := HW1.out
      generalize ks[i] = k at *
      go_wp2_with (go_at_call 128; (with_reducible refine CI.out.mono ?_); rintro r w5 ⟨rfl, hwr⟩; have HR5 := Lib.hid (HKW.out _ hwr); clear hwr)
      go_roundw
      case rel => exact ⟨i + 1, by omega, by go_num, HR5.out⟩
      case measure => first | exact HMs.out | (rw [hw1]; exact HMs.out)
    · have j3 : ¬ (i : Int) < (nk : Int) := by omega
      have d3 : decide (i < nk) = false := by simp; omega
      have hkk : ks.take i = ks := List.take_of_length_le (by rw [HNK.out]; omega)
      have hr := HR.out
      rw [hkk] at hr
      have HS := Lib.hid hr
      clear hr hkk HR
      go_wp2_with fail
      have cW := PutSt.write HS.out (by omega) (({ data := #[60, 47] } ++ nm) ++ { data := #[62] }) 60 (by rw [ByteArray.size_append, ByteArray.size_append]; show 2 + nm.size + 1 ≤ 60; omega) (by omega)
      refine cW.mono ?_
      clear cW
      rintro r X ⟨⟨n1, rfl⟩, hs⟩
      have HW : Hid (Wr C b (Lib.byteCells (L ++ docT spcL pg e)) bv w X) := by
        unfold Hid; rw [HDoc.out, HHead.out]
        have h1 := hs.wr
        rw [← HFr.out] at h1
        simpa [ByteArray.data_append, tailL] using h1
      clear HS hs
      go_wp2_with fail
      go_end0
      exact ⟨rfl, HW.out⟩

set_option maxRecDepth 100000 in
set_option maxHeartbeats 4000000 in
theorem put_nptl (e : Tr) (he : chkA e = 0) (ih : ∀ k ∈ e.kids, PutOk k) (v : Value) (pg : Int) (C b M : Nat) (L : List UInt8) (bv : Value) (w : World) (hMC : M ≤ C) (hMb : M ≤ b) (hCw : C ≤ w.heap.size) (hv : AtT w M e v) (hB : BdV C b (Lib.byteCells L) bv w) (hL : L.length + 21000 * cT e ≤ 50000000)
    (hp : e.page ≠ pg) (ho : e.opq = false) (hx : e.text.size ≠ 0) :
    Calls Tryd.prog 128 #[.pointer (some ⟨b, 0, none⟩), v, .int .i64 pg] w fun r w' => r = .returned (.tuple #[]) ∧ Wr C b (Lib.byteCells (L ++ docT spcL pg e)) bv w w' := by
  obtain ⟨hz1, hcT, hpg, hz2, hnm, hkl, htx, hz3, hz4, hz5, hks⟩ := chkA_right he
  clear hz1 hz2 hz3 hz4 hz5
  obtain ⟨hz1, hz2, s3, a, c, rfl, hk⟩ := hv.parts
  clear hz1 hz2
  obtain ⟨XE, hXE⟩ : ∃ XE : ByteArray, (⟨(esc e.text.data.toList).toArray⟩ : ByteArray) = XE := ⟨_, rfl⟩
  have cE := Lib.hid (fun W => escape_any e.text W (by omega))
  rw [hXE] at cE
  have HXE : Hid (XE.data.toList = esc e.text.data.toList) := by unfold Hid; rw [← hXE]
  have HX : Hid (XE.data.toList = txL e.opq e.text) := by unfold Hid txL; rw [ho, HXE.out]; rfl
  have HXl : Hid (XE.size ≤ 20000) := by unfold Hid; rw [← len_toList, HX.out]; have := (txL_len e.opq e.text).2; omega
  have hx0 : XE.size ≠ 0 := by rw [← len_toList, HX.out]; have := (txL_len e.opq e.text).1; omega
  have i1 := not_empty XE hx0
  have HT0 : Hid (txL e.opq e.text ≠ []) := by unfold Hid; rw [← HX.out]; exact fun h => hx0 (by rw [← len_toList, h]; rfl)
  clear hx0
  have HDoc : Hid (L ++ docT spcL pg e = L ++ (headL spcL pg e.page e.name e.opq ++ (([62] ++ txL e.opq e.text) ++ (docL spcL e.page e.kids ++ tailL e.name)))) := by
    unfold Hid; rw [docT_of, if_neg (fun h => HT0.out h.1)]
  have HHead : Hid (headL spcL pg e.page e.name e.opq = ([60] ++ e.name.data.toList) ++ (sXm ++ spcL e.page ++ [34])) := by
    unfold Hid headL; rw [if_pos hp, ho]; simp
  have j0 : (e.page == pg) = false := by simpa using hp
  have j1 : (e.page != pg) = true := by simpa using hp
  have j2 : e.opq = false := ho
  have HDL : Hid (∀ i, (docL spcL e.page (e.kids.take i)).length ≤ 21000 * cL (e.kids.take i)) := fun i => docL_len spcL spcL_len e.page _ (fun k hk => hks k (List.mem_of_mem_take hk))
  have HCL : Hid (∀ (i : Nat) (k : Tr), e.kids[i]? = some k → cL (e.kids.take i) + cT k ≤ cL e.kids) := fun i k h => by
    obtain ⟨h1, h2⟩ := List.getElem?_eq_some_iff.1 h
    rw [← h2, ← cL_take e.kids i h1]; exact cL_le e.kids (i + 1)
  have HLL : Hid (L.length + 21000 + 21000 * cL e.kids ≤ 50000000) := by unfold Hid; rw [cT_of] at hL; omega
  have HIH := Lib.hid ih
  have HKs := Lib.hid hk
  have HTL : Hid ((txL e.opq e.text).length ≤ 20000) := by unfold Hid; rw [← HX.out, len_toList]; exact HXl.out
  have HKN : Hid (∀ i, (docL spcL e.page (e.kids.take (i + 1))).length = (docL spcL e.page (e.kids.take (i + 1))).length) := fun _ => rfl
  clear HKN
  have hSp : (spc e.page).size ≤ 40 := by have := spcL_len e.page; unfold spcL at this; rw [len_toList] at this; exact this
  have hzb : w.heap.size ≠ b := by have := hB.lt; omega
  have HS : Hid (PutSt C b w bv w.heap.size #[.int .i64 e.page, .string e.name, .string e.text, .bool e.opq, .slice a e.kids.length c] 46 50000000 L (w.alloc (.cells #[.int .i64 e.page, .string e.name, .string e.text, .bool e.opq, .slice a e.kids.length c] 46))) :=
    ⟨⟨bv, hB.below ((Below.refl _ w).alloc (Nat.le_refl _) _), GrB.of_below ((Below.refl _ w).alloc (Nat.le_refl _) _), fun h => by have := (hB.own _ h).2; omega⟩, World.alloc_heap_new w _, by simp; omega, by omega, hzb⟩
  have HGB : Hid (∀ X, Wr C b [] bv w X ∨ True) := fun X => .inr trivial
  clear HGB
  have HBB : Hid (∀ q LL X, PutSt C b w bv w.heap.size #[.int .i64 e.page, .string e.name, .string e.text, .bool e.opq, .slice a e.kids.length c] 46 q LL X → Below M w X) := fun q LL X h => by
    obtain ⟨⟨v, _, h2, _⟩, _⟩ := h
    exact h2.below hB hMC hMb (Nat.le_trans hMC hCw)
  have HNN := Lib.hid (rfl : e.kids = e.kids)
  have HMC := Lib.hid hMC
  have HMb := Lib.hid hMb
  clear hp hx hv hB hL he ih hks hk hpg hcT hXE hMC hMb hCw HNN
  have hW0 : (w.alloc (.cells #[.int .i64 e.page, .string e.name, .string e.text, .bool e.opq, .slice a e.kids.length c] 46)).cell? ⟨w.heap.size, 0, none⟩ = some (.int .i64 e.page) ∨ True := .inr trivial
  clear hW0
  generalize hgp : e.page = p at *
  generalize hgn : e.name = nm at *
  generalize hgt : e.text = tx at *
  generalize hgo : e.opq = o at *
  generalize hgk : e.kids = ks at *
  clear hgp hgn hgt hgo hgk
  generalize hnk : ks.length = nk at *
  have HNK := Lib.hid hnk
  clear hnk
  have hSz := spcL_len p
  clear hSz
  subst j2
  clear ho
  go_enter Tryd.func128, Tryd.ntmps128
  go_wp2_with fail
  have cW := PutSt.write HS.out (by omega) ({ data := #[60] } ++ nm) 40 (by rw [ByteArray.size_append]; show 1 + nm.size ≤ 40; omega) (by omega)
  refine cW.mono ?_
  clear cW
  rintro r X ⟨⟨n1, rfl⟩, hs⟩
  clear HS
  have HS := Lib.hid hs
  clear hs
  obtain ⟨y0, y1, y2, y3, y4⟩ := HS.out.y5
  go_wp2_with fail
  refine (space_any p _).mono ?_
  rintro r X ⟨rfl, rfl⟩
  go_wp2_with fail
  clear y0 y1 y2 y3 y4
  have cW := PutSt.write HS.out (by omega) (({ data := #[32, 120, 109, 108, 110, 115, 61, 34] } ++ spc p) ++ { data := #[34] }) 60 (by rw [ByteArray.size_append, ByteArray.size_append]; show 8 + (spc p).size + 1 ≤ 60; omega) (by omega)
  refine cW.mono ?_
  clear cW
  rintro r X ⟨⟨n1, rfl⟩, hs⟩
  clear HS
  have HS := Lib.hid hs
  clear hs
  obtain ⟨y0, y1, y2, y3, y4⟩ := HS.out.y5
  go_wp2_with fail
  have cW := cE.out X
  refine cW.mono ?_
  clear cW
  rintro r X ⟨rfl, hbx⟩
  have HS2 := Lib.hid (HS.out.below hbx)
  clear HS hbx y0 y1 y2 y3 y4
  have HS := HS2
  clear HS2
  obtain ⟨y0, y1, y2, y3, y4⟩ := HS.out.y5
  have hxl := HXl.out
  go_wp2_with fail
  clear y0 y1 y2 y3 y4
  have cW := PutSt.write HS.out (by omega) ({ data := #[62] } ++ XE) 30000 (by rw [ByteArray.size_append]; show 1 + XE.size ≤ 30000; omega) (by omega)
  refine cW.mono ?_
  clear cW
  rintro r X ⟨⟨n1, rfl⟩, hs⟩
  clear HS
  have HS := Lib.hid hs
  clear hs
  obtain ⟨y0, y1, y2, y3, y4⟩ := HS.out.y5
  have HPre : Hid (PutSt C b w bv w.heap.size #[.int .i64 p, .string nm, .string tx, .bool false, .slice a nk c] 46 50000000 (((L ++ (([60] ++ nm.data.toList) ++ (sXm ++ spcL p ++ [34]))) ++ ([62] ++ txL false tx)) ++ docL spcL p (ks.take 0)) X) := by
    have h0 : docL spcL p (ks.take 0) = [] := by rw [List.take_zero]; rfl
    have h1 : ((L ++ (([60] ++ nm.data.toList) ++ (sXm ++ spcL p ++ [34]))) ++ ([62] ++ txL false tx)) ++ docL spcL p (ks.take 0) = ((L ++ ({ data := #[60] } ++ nm).data.toList) ++ (({ data := #[32, 120, 109, 108, 110, 115, 61, 34] } ++ spc p) ++ { data := #[34] }).data.toList) ++ ({ data := #[62] } ++ XE).data.toList := by
      rw [h0, ← HX.out]
      simp [ByteArray.data_append, sXm, sEnc, spcL]
    unfold Hid
    rw [h1]
    refine HS.out.q ?_
    rw [← h1, h0]
    have h2 := HLL.out
    have h3 := HTL.out
    have h4 := spcL_len p
    have h5 := len_toList nm
    simp [sXm, sEnc] at h3 ⊢
    omega
  clear HS
  have HFl : Hid (((L ++ (([60] ++ nm.data.toList) ++ (sXm ++ spcL p ++ [34]))) ++ ([62] ++ txL false tx)).length ≤ L.length + 21000) := by
    have h3 := HTL.out
    have h4 := spcL_len p
    have h5 := len_toList nm
    unfold Hid
    simp [sXm, sEnc] at h3 ⊢
    omega
  generalize hFr : ((L ++ (([60] ++ nm.data.toList) ++ (sXm ++ spcL p ++ [34]))) ++ ([62] ++ txL false tx)) = FR at HPre HFl
  have HFr := Lib.hid hFr
  clear hFr
  go_wp2_with fail
  go_loopw [52] (fun iv wr => ∃ i : Nat, i ≤ nk ∧ iv = .int .i64 (i : Int) ∧ Hid (PutSt C b w bv w.heap.size #[.int .i64 p, .string nm, .string tx, .bool false, .slice a nk c] 46 50000000 (FR ++ docL spcL p (ks.take i)) wr)) (fun iv _ => nk - (intOf iv).toNat)
  case atStart => exact ⟨0, Nat.zero_le _, rfl, HPre.out⟩
  case round =>
    obtain ⟨i, hi, rfl, HR⟩ := hrel
    clear HPre y0 y1 y2 y3 y4
    obtain ⟨y0, y1, y2, y3, y4⟩ := HR.out.y5
    by_cases hlt : i < nk
    · have j3 : (i : Int) < (nk : Int) := by omega
      have d3 : decide (i < nk) = true := by simp; omega
      have HW1 : Hid (wrap64 ((i : Int) + 1) = (i : Int) + 1) := by unfold Hid wrap64; omega
      have HMs : Hid (nk - (intOf (.int .i64 ((i : Int) + 1))).toNat < nk - (intOf (.int .i64 (i : Int))).toNat) := by unfold Hid; simp [intOf]; omega
      have hik : i < ks.length := by rw [HNK.out]; exact hlt
      obtain ⟨bb, oo, a', c', rfl, hrg, hat⟩ := kid_at HKs.out (HBB.out _ _ _ HR.out) i hik
      obtain ⟨x0, x1, x2, x3, x4⟩ := elem_cells hrg
      have hnext : (FR ++ docL spcL p (ks.take i)) ++ docT spcL p ks[i] = FR ++ docL spcL p (ks.take (i + 1)) := by
        rw [List.take_succ_eq_append_getElem hik, docL_snoc, List.append_assoc]
      have hfl : (FR ++ docL spcL p (ks.take (i + 1))).length ≤ 50000000 ∧ (FR ++ docL spcL p (ks.take i)).length + 21000 * cT ks[i] ≤ 50000000 := by
        have h1 := HDL.out (i + 1)
        have h2 := HDL.out i
        have h3 := HCL.out i _ (List.getElem?_eq_getElem hik)
        have h4 := cL_take ks i hik
        have h5 := HLL.out
        have h6 := HFl.out
        rw [List.length_append, List.length_append]
        have h7 : 21000 * (cL (ks.take i) + cT ks[i]) ≤ 21000 * cL ks := Nat.mul_le_mul_left _ h3
        rw [Nat.mul_add] at h7
        rw [h4, Nat.mul_add] at h1
        omega
      have hal : Below wr.heap.size wr (wr.alloc (.cells #[.int .i64 ks[i].page, .string ks[i].name, .string ks[i].text, .bool ks[i].opq, .slice a' ks[i].kids.length c'] 46)) := (Below.refl _ wr).alloc (Nat.le_refl _) _
      obtain ⟨kv, hkb, hkw⟩ := PutSt.step (q' := 50000000) (L' := FR ++ docL spcL p (ks.take (i + 1))) (HR.out.below hal) hfl.1
      have hsz := HR.out.size
      have cI := HIH.out ks[i] (List.getElem_mem hik) _ p C b M (FR ++ docL spcL p (ks.take i)) kv _ HMC.out HMb.out (Nat.le_trans hsz.1 hal.size) (AtT.below (hal.mono (Nat.le_trans HMC.out hsz.1)) _ _ hat) hkb hfl.2
      rw [hnext] at cI
      have CI := Lib.hid cI
      have HKW := Lib.hid hkw
      have HKal := (HR.out.below hal).y5
      clear cI hkw hkb hfl hnext hrg hat hal hsz HR
      obtain ⟨u0, u1, u2, u3, u4⟩ := HKal
      have hw1 := HW1.out
      generalize ks[i] = k at *
      go_wp2_with (go_at_call 128; (with_reducible refine CI.out.mono ?_); rintro r w5 ⟨rfl, hwr⟩; have HR5 := Lib.hid (HKW.out _ hwr); clear hwr)
      go_roundw
      case rel => exact ⟨i + 1, by omega, by go_num, HR5.out⟩
      case measure => first | exact HMs.out | (rw [hw1]; exact HMs.out)
    · have j3 : ¬ (i : Int) < (nk : Int) := by omega
      have d3 : decide (i < nk) = false := by simp; omega
      have hkk : ks.take i = ks := List.take_of_length_le (by rw [HNK.out]; omega)
      have hr := HR.out
      rw [hkk] at hr
      have HS := Lib.hid hr
      clear hr hkk HR
      go_wp2_with fail
      have cW := PutSt.write HS.out (by omega) (({ data := #[60, 47] } ++ nm) ++ { data := #[62] }) 60 (by rw [ByteArray.size_append, ByteArray.size_append]; show 2 + nm.size + 1 ≤ 60; omega) (by omega)
      refine cW.mono ?_
      clear cW
      rintro r X ⟨⟨n1, rfl⟩, hs⟩
      have HW : Hid (Wr C b (Lib.byteCells (L ++ docT spcL pg e)) bv w X) := by
        unfold Hid; rw [HDoc.out, HHead.out]
        have h1 := hs.wr
        rw [← HFr.out] at h1
        simpa [ByteArray.data_append, tailL] using h1
      clear HS hs
      go_wp2_with fail
      go_end0
      exact ⟨rfl, HW.out⟩

set_option maxRecDepth 100000 in
set_option maxHeartbeats 4000000 in
theorem put_npxl (e : Tr) (he : chkA e = 0) (ih : ∀ k ∈ e.kids, PutOk k) (v : Value) (pg : Int) (C b M : Nat) (L : List UInt8) (bv : Value) (w : World) (hMC : M ≤ C) (hMb : M ≤ b) (hCw : C ≤ w.heap.size) (hv : AtT w M e v) (hB : BdV C b (Lib.byteCells L) bv w) (hL : L.length + 21000 * cT e ≤ 50000000)
    (hp : e.page ≠ pg) (ho : e.opq = false) (hx : e.text.size = 0) (hk0 : e.kids.length ≠ 0) :
    Calls Tryd.prog 128 #[.pointer (some ⟨b, 0, none⟩), v, .int .i64 pg] w fun r w' => r = .returned (.tuple #[]) ∧ Wr C b (Lib.byteCells (L ++ docT spcL pg e)) bv w w' := by
  obtain ⟨hz1, hcT, hpg, hz2, hnm, hkl, htx, hz3, hz4, hz5, hks⟩ := chkA_right he
  clear hz1 hz2 hz3 hz4 hz5
  obtain ⟨hz1, hz2, s3, a, c, rfl, hk⟩ := hv.parts
  clear hz1 hz2
  obtain ⟨XE, hXE⟩ : ∃ XE : ByteArray, (⟨(esc e.text.data.toList).toArray⟩ : ByteArray) = XE := ⟨_, rfl⟩
  have cE := Lib.hid (fun W => escape_any e.text W (by omega))
  rw [hXE] at cE
  have HXE : Hid (XE.data.toList = esc e.text.data.toList) := by unfold Hid; rw [← hXE]
  have HX : Hid (XE.data.toList = txL e.opq e.text) := by unfold Hid txL; rw [ho, HXE.out]; rfl
  have HXl : Hid (XE.size ≤ 20000) := by unfold Hid; rw [← len_toList, HX.out]; have := (txL_len e.opq e.text).2; omega
  have hx0 : XE.size = 0 := by rw [← len_toList, HX.out]; have := (txL_len e.opq e.text).2; omega
  have i1 := emptyB XE hx0
  have HT0 : Hid (txL e.opq e.text = []) := by unfold Hid; rw [← HX.out]; exact List.eq_nil_of_length_eq_zero (by rw [len_toList]; exact hx0)
  clear hx0
  have HDoc : Hid (L ++ docT spcL pg e = L ++ (headL spcL pg e.page e.name e.opq ++ (([62] ++ txL e.opq e.text) ++ (docL spcL e.page e.kids ++ tailL e.name)))) := by
    unfold Hid; rw [docT_of, if_neg (fun h => hk0 (by rw [h.2]; rfl))]
  have HHead : Hid (headL spcL pg e.page e.name e.opq = ([60] ++ e.name.data.toList) ++ (sXm ++ spcL e.page ++ [34])) := by
    unfold Hid headL; rw [if_pos hp, ho]; simp
  have j0 : (e.page == pg) = false := by simpa using hp
  have j1 : (e.page != pg) = true := by simpa using hp
  have j2 : e.opq = false := ho
  have j4 : ((e.kids.length : Int) == 0) = false := by rw [beq_eq_false_iff_ne]; omega
  have j5 : (e.kids.length == 0) = false := by rw [beq_eq_false_iff_ne]; omega
  have HDL : Hid (∀ i, (docL spcL e.page (e.kids.take i)).length ≤ 21000 * cL (e.kids.take i)) := fun i => docL_len spcL spcL_len e.page _ (fun k hk => hks k (List.mem_of_mem_take hk))
  have HCL : Hid (∀ (i : Nat) (k : Tr), e.kids[i]? = some k → cL (e.kids.take i) + cT k ≤ cL e.kids) := fun i k h => by
    obtain ⟨h1, h2⟩ := List.getElem?_eq_some_iff.1 h
    rw [← h2, ← cL_take e.kids i h1]; exact cL_le e.kids (i + 1)
  have HLL : Hid (L.length + 21000 + 21000 * cL e.kids ≤ 50000000) := by unfold Hid; rw [cT_of] at hL; omega
  have HIH := Lib.hid ih
  have HKs := Lib.hid hk
  have HTL : Hid ((txL e.opq e.text).length ≤ 20000) := by unfold Hid; rw [← HX.out, len_toList]; exact HXl.out
  have HKN : Hid (∀ i, (docL spcL e.page (e.kids.take (i + 1))).length = (docL spcL e.page (e.kids.take (i + 1))).length) := fun _ => rfl
  clear HKN
  have hSp : (spc e.page).size ≤ 40 := by have := spcL_len e.page; unfold spcL at this; rw [len_toList] at this; exact this
  have hzb : w.heap.size ≠ b := by have := hB.lt; omega
  have HS : Hid (PutSt C b w bv w.heap.size #[.int .i64 e.page, .string e.name, .string e.text, .bool e.opq, .slice a e.kids.length c] 46 50000000 L (w.alloc (.cells #[.int .i64 e.page, .string e.name, .string e.text, .bool e.opq, .slice a e.kids.length c] 46))) :=
    ⟨⟨bv, hB.below ((Below.refl _ w).alloc (Nat.le_refl _) _), GrB.of_below ((Below.refl _ w).alloc (Nat.le_refl _) _), fun h => by have := (hB.own _ h).2; omega⟩, World.alloc_heap_new w _, by simp; omega, by omega, hzb⟩
  have HGB : Hid (∀ X, Wr C b [] bv w X ∨ True) := fun X => .inr trivial
  clear HGB
  have HBB : Hid (∀ q LL X, PutSt C b w bv w.heap.size #[.int .i64 e.page, .string e.name, .string e.text, .bool e.opq, .slice a e.kids.length c] 46 q LL X → Below M w X) := fun q LL X h => by
    obtain ⟨⟨v, _, h2, _⟩, _⟩ := h
    exact h2.below hB hMC hMb (Nat.le_trans hMC hCw)
  have HNN := Lib.hid (rfl : e.kids = e.kids)
  have HMC := Lib.hid hMC
  have HMb := Lib.hid hMb
  clear hp hx hk0 hv hB hL he ih hks hk hpg hcT hXE hMC hMb hCw HNN
  have hW0 : (w.alloc (.cells #[.int .i64 e.page, .string e.name, .string e.text, .bool e.opq, .slice a e.kids.length c] 46)).cell? ⟨w.heap.size, 0, none⟩ = some (.int .i64 e.page) ∨ True := .inr trivial
  clear hW0
  generalize hgp : e.page = p at *
  generalize hgn : e.name = nm at *
  generalize hgt : e.text = tx at *
  generalize hgo : e.opq = o at *
  generalize hgk : e.kids = ks at *
  clear hgp hgn hgt hgo hgk
  generalize hnk : ks.length = nk at *
  have HNK := Lib.hid hnk
  clear hnk
  have hSz := spcL_len p
  clear hSz
  subst j2
  clear ho
  go_enter Tryd.func128, Tryd.ntmps128
  go_wp2_with fail
  have cW := PutSt.write HS.out (by omega) ({ data := #[60] } ++ nm) 40 (by rw [ByteArray.size_append]; show 1 + nm.size ≤ 40; omega) (by omega)
  refine cW.mono ?_
  clear cW
  rintro r X ⟨⟨n1, rfl⟩, hs⟩
  clear HS
  have HS := Lib.hid hs
  clear hs
  obtain ⟨y0, y1, y2, y3, y4⟩ := HS.out.y5
  go_wp2_with fail
  refine (space_any p _).mono ?_
  rintro r X ⟨rfl, rfl⟩
  go_wp2_with fail
  clear y0 y1 y2 y3 y4
  have cW := PutSt.write HS.out (by omega) (({ data := #[32, 120, 109, 108, 110, 115, 61, 34] } ++ spc p) ++ { data := #[34] }) 60 (by rw [ByteArray.size_append, ByteArray.size_append]; show 8 + (spc p).size + 1 ≤ 60; omega) (by omega)
  refine cW.mono ?_
  clear cW
  rintro r X ⟨⟨n1, rfl⟩, hs⟩
  clear HS
  have HS := Lib.hid hs
  clear hs
  obtain ⟨y0, y1, y2, y3, y4⟩ := HS.out.y5
  go_wp2_with fail
  have cW := cE.out X
  refine cW.mono ?_
  clear cW
  rintro r X ⟨rfl, hbx⟩
  have HS2 := Lib.hid (HS.out.below hbx)
  clear HS hbx y0 y1 y2 y3 y4
  have HS := HS2
  clear HS2
  obtain ⟨y0, y1, y2, y3, y4⟩ := HS.out.y5
  have hxl := HXl.out
  go_wp2_with fail
  clear y0 y1 y2 y3 y4
  have cW := PutSt.write HS.out (by omega) ({ data := #[62] } ++ XE) 30000 (by rw [ByteArray.size_append]; show 1 + XE.size ≤ 30000; omega) (by omega)
  refine cW.mono ?_
  clear cW
  rintro r X ⟨⟨n1, rfl⟩, hs⟩
  clear HS
  have HS := Lib.hid hs
  clear hs
  obtain ⟨y0, y1, y2, y3, y4⟩ := HS.out.y5
  have HPre : Hid (PutSt C b w bv w.heap.size #[.int .i64 p, .string nm, .string tx, .bool false, .slice a nk c] 46 50000000 (((L ++ (([60] ++ nm.data.toList) ++ (sXm ++ spcL p ++ [34]))) ++ ([62] ++ txL false tx)) ++ docL spcL p (ks.take 0)) X) := by
    have h0 : docL spcL p (ks.take 0) = [] := by rw [List.take_zero]; rfl
    have h1 : ((L ++ (([60] ++ nm.data.toList) ++ (sXm ++ spcL p ++ [34]))) ++ ([62] ++ txL false tx)) ++ docL spcL p (ks.take 0) = ((L ++ ({ data := #[60] } ++ nm).data.toList) ++ (({ data := #[32, 120, 109, 108, 110, 115, 61, 34] } ++ spc p) ++ { data := #[34] }).data.toList) ++ ({ data := #[62] } ++ XE).data.toList := by
      rw [h0, ← HX.out]
      simp [ByteArray.data_append, sXm, sEnc, spcL]
    unfold Hid
    rw [h1]
    refine HS.out.q ?_
    rw [← h1, h0]
    have h2 := HLL.out
    have h3 := HTL.out
    have h4 := spcL_len p
    have h5 := len_toList nm
    simp [sXm, sEnc] at h3 ⊢
    omega
  clear HS
  have HFl : Hid (((L ++ (([60] ++ nm.data.toList) ++ (sXm ++ spcL p ++ [34]))) ++ ([62] ++ txL false tx)).length ≤ L.length + 21000) := by
    have h3 := HTL.out
    have h4 := spcL_len p
    have h5 := len_toList nm
    unfold Hid
    simp [sXm, sEnc] at h3 ⊢
    omega
  generalize hFr : ((L ++ (([60] ++ nm.data.toList) ++ (sXm ++ spcL p ++ [34]))) ++ ([62] ++ txL false tx)) = FR at HPre HFl
  have HFr := Lib.hid hFr
  clear hFr
  go_wp2_with fail
  go_loopw [52] (fun iv wr => ∃ i : Nat, i ≤ nk ∧ iv = .int .i64 (i : Int) ∧ Hid (PutSt C b w bv w.heap.size #[.int .i64 p, .string nm, .string tx, .bool false, .slice a nk c] 46 50000000 (FR ++ docL spcL p (ks.take i)) wr)) (fun iv _ => nk - (intOf iv).toNat)
  case atStart => exact ⟨0, Nat.zero_le _, rfl, HPre.out⟩
  case round =>
    obtain ⟨i, hi, rfl, HR⟩ := hrel
    clear HPre y0 y1 y2 y3 y4
    obtain ⟨y0, y1, y2, y3, y4⟩ := HR.out.y5
    by_cases hlt : i < nk
    · have j3 : (i : Int) < (nk : Int) := by omega
      have d3 : decide (i < nk) = true := by simp; omega
      have HW1 : Hid (wrap64 ((i : Int) + 1) = (i : Int) + 1) := by unfold Hid wrap64; omega
      have HMs : Hid (nk - (intOf (.int .i64 ((i : Int) + 1))).toNat < nk - (intOf (.int .i64 (i : Int))).toNat) := by unfold Hid; simp [intOf]; omega
      have hik : i < ks.length := by rw [HNK.out]; exact hlt
      obtain ⟨bb, oo, a', c', rfl, hrg, hat⟩ := kid_at HKs.out (HBB.out _ _ _ HR.out) i hik
      obtain ⟨x0, x1, x2, x3, x4⟩ := elem_cells hrg
      have hnext : (FR ++ docL spcL p (ks.take i)) ++ docT spcL p ks[i] = FR ++ docL spcL p (ks.take (i + 1)) := by
        rw [List.take_succ_eq_append_getElem hik, docL_snoc, List.append_assoc]
      have hfl : (FR ++ docL spcL p (ks.take (i + 1))).length ≤ 50000000 ∧ (FR ++ docL spcL p (ks.take i)).length + 21000 * cT ks[i] ≤ 50000000 := by
        have h1 := HDL.out (i + 1)
        have h2 := HDL.out i
        have h3 := HCL.out i _ (List.getElem?_eq_getElem hik)
        have h4 := cL_take ks i hik
        have h5 := HLL.out
        have h6 := HFl.out
        rw [List.length_append, List.length_append]
        have h7 : 21000 * (cL (ks.take i) + cT ks[i]) ≤ 21000 * cL ks := Nat.mul_le_mul_left _ h3
        rw [Nat.mul_add] at h7
        rw [h4, Nat.mul_add] at h1
        omega
      have hal : Below wr.heap.size wr (wr.alloc (.cells #[.int .i64 ks[i].page, .string ks[i].name, .string ks[i].text, .bool ks[i].opq, .slice a' ks[i].kids.length c'] 46)) := (Below.refl _ wr).alloc (Nat.le_refl _) _
      obtain ⟨kv, hkb, hkw⟩ := PutSt.step (q' := 50000000) (L' := FR ++ docL spcL p (ks.take (i + 1))) (HR.out.below hal) hfl.1
      have hsz := HR.out.size
      have cI := HIH.out ks[i] (List.getElem_mem hik) _ p C b M (FR ++ docL spcL p (ks.take i)) kv _ HMC.out HMb.out (Nat.le_trans hsz.1 hal.size) (AtT.below (hal.mono (Nat.le_trans HMC.out hsz.1)) _ _ hat) hkb hfl.2
      rw [hnext] at cI
      have CI := Lib.hid cI
      have HKW := Lib.hid hkw
      have HKal := (HR.out.below hal).y5
      clear cI hkw hkb hfl hnext hrg hat hal hsz HR
      obtain ⟨u0, u1, u2, u3, u4⟩ := HKal
      have hw1 := HW1.out
      generalize ks[i] = k at *
      go_wp2_with (go_at_call 128; (with_reducible refine CI.out.mono ?_); rintro r w5 ⟨rfl, hwr⟩; have HR5 := Lib.hid (HKW.out _ hwr); clear hwr)
      go_roundw
      case rel => exact ⟨i + 1, by omega, by go_num, HR5.out⟩
      case measure => first | exact HMs.out | (rw [hw1]; exact HMs.out)
    · have j3 : ¬ (i : Int) < (nk : Int) := by omega
      have d3 : decide (i < nk) = false := by simp; omega
      have hkk : ks.take i = ks := List.take_of_length_le (by rw [HNK.out]; omega)
      have hr := HR.out
      rw [hkk] at hr
      have HS := Lib.hid hr
      clear hr hkk HR
      go_wp2_with fail
      have cW := PutSt.write HS.out (by omega) (({ data := #[60, 47] } ++ nm) ++ { data := #[62] }) 60 (by rw [ByteArray.size_append, ByteArray.size_append]; show 2 + nm.size + 1 ≤ 60; omega) (by omega)
      refine cW.mono ?_
      clear cW
      rintro r X ⟨⟨n1, rfl⟩, hs⟩
      have HW : Hid (Wr C b (Lib.byteCells (L ++ docT spcL pg e)) bv w X) := by
        unfold Hid; rw [HDoc.out, HHead.out]
        have h1 := hs.wr
        rw [← HFr.out] at h1
        simpa [ByteArray.data_append, tailL] using h1
      clear HS hs
      go_wp2_with fail
      go_end0
      exact ⟨rfl, HW.out⟩

set_option maxRecDepth 100000 in
set_option maxHeartbeats 4000000 in
theorem put_npxk (e : Tr) (he : chkA e = 0) (ih : ∀ k ∈ e.kids, PutOk k) (v : Value) (pg : Int) (C b M : Nat) (L : List UInt8) (bv : Value) (w : World) (hMC : M ≤ C) (hMb : M ≤ b) (hCw : C ≤ w.heap.size) (hv : AtT w M e v) (hB : BdV C b (Lib.byteCells L) bv w) (hL : L.length + 21000 * cT e ≤ 50000000)
    (hp : e.page ≠ pg) (ho : e.opq = false) (hx : e.text.size = 0) (hk0 : e.kids.length = 0) :
    Calls Tryd.prog 128 #[.pointer (some ⟨b, 0, none⟩), v, .int .i64 pg] w fun r w' => r = .returned (.tuple #[]) ∧ Wr C b (Lib.byteCells (L ++ docT spcL pg e)) bv w w' := by
  obtain ⟨hz1, hcT, hpg, hz2, hnm, hkl, htx, hz3, hz4, hz5, hks⟩ := chkA_right he
  clear hz1 hz2 hz3 hz4 hz5
  obtain ⟨hz1, hz2, s3, a, c, rfl, hk⟩ := hv.parts
  clear hz1 hz2
  obtain ⟨XE, hXE⟩ : ∃ XE : ByteArray, (⟨(esc e.text.data.toList).toArray⟩ : ByteArray) = XE := ⟨_, rfl⟩
  have cE := Lib.hid (fun W => escape_any e.text W (by omega))
  rw [hXE] at cE
  have HXE : Hid (XE.data.toList = esc e.text.data.toList) := by unfold Hid; rw [← hXE]
  have HX : Hid (XE.data.toList = txL e.opq e.text) := by unfold Hid txL; rw [ho, HXE.out]; rfl
  have HXl : Hid (XE.size ≤ 20000) := by unfold Hid; rw [← len_toList, HX.out]; have := (txL_len e.opq e.text).2; omega
  have hx0 : XE.size = 0 := by rw [← len_toList, HX.out]; have := (txL_len e.opq e.text).2; omega
  have i1 := emptyB XE hx0
  have HT0 : Hid (txL e.opq e.text = []) := by unfold Hid; rw [← HX.out]; exact List.eq_nil_of_length_eq_zero (by rw [len_toList]; exact hx0)
  clear hx0
  have HDoc : Hid (L ++ docT spcL pg e = L ++ (headL spcL pg e.page e.name e.opq ++ [47, 62])) := by
    unfold Hid; rw [docT_of, if_pos ⟨HT0.out, List.eq_nil_of_length_eq_zero hk0⟩]
  have HHead : Hid (headL spcL pg e.page e.name e.opq = ([60] ++ e.name.data.toList) ++ (sXm ++ spcL e.page ++ [34])) := by
    unfold Hid headL; rw [if_pos hp, ho]; simp
  have j0 : (e.page == pg) = false := by simpa using hp
  have j1 : (e.page != pg) = true := by simpa using hp
  have j2 : e.opq = false := ho
  have j4 : ((e.kids.length : Int) == 0) = true := by rw [hk0]; rfl
  have j5 : (e.kids.length == 0) = true := by rw [hk0]; rfl
  have hSp : (spc e.page).size ≤ 40 := by have := spcL_len e.page; unfold spcL at this; rw [len_toList] at this; exact this
  have hzb : w.heap.size ≠ b := by have := hB.lt; omega
  have HS : Hid (PutSt C b w bv w.heap.size #[.int .i64 e.page, .string e.name, .string e.text, .bool e.opq, .slice a e.kids.length c] 46 50000000 L (w.alloc (.cells #[.int .i64 e.page, .string e.name, .string e.text, .bool e.opq, .slice a e.kids.length c] 46))) :=
    ⟨⟨bv, hB.below ((Below.refl _ w).alloc (Nat.le_refl _) _), GrB.of_below ((Below.refl _ w).alloc (Nat.le_refl _) _), fun h => by have := (hB.own _ h).2; omega⟩, World.alloc_heap_new w _, by simp; omega, by omega, hzb⟩
  have HGB : Hid (∀ X, Wr C b [] bv w X ∨ True) := fun X => .inr trivial
  clear HGB
  have HBB : Hid (∀ q LL X, PutSt C b w bv w.heap.size #[.int .i64 e.page, .string e.name, .string e.text, .bool e.opq, .slice a e.kids.length c] 46 q LL X → Below M w X) := fun q LL X h => by
    obtain ⟨⟨v, _, h2, _⟩, _⟩ := h
    exact h2.below hB hMC hMb (Nat.le_trans hMC hCw)
  have HNN := Lib.hid (rfl : e.kids = e.kids)
  have HMC := Lib.hid hMC
  have HMb := Lib.hid hMb
  clear hp hx hk0 hv hB hL he ih hks hk hpg hcT hXE hMC hMb hCw HNN
  have hW0 : (w.alloc (.cells #[.int .i64 e.page, .string e.name, .string e.text, .bool e.opq, .slice a e.kids.length c] 46)).cell? ⟨w.heap.size, 0, none⟩ = some (.int .i64 e.page) ∨ True := .inr trivial
  clear hW0
  generalize hgp : e.page = p at *
  generalize hgn : e.name = nm at *
  generalize hgt : e.text = tx at *
  generalize hgo : e.opq = o at *
  generalize hgk : e.kids = ks at *
  clear hgp hgn hgt hgo hgk
  generalize hnk : ks.length = nk at *
  have HNK := Lib.hid hnk
  clear hnk
  have hSz := spcL_len p
  clear hSz
  subst j2
  clear ho
  go_enter Tryd.func128, Tryd.ntmps128
  go_wp2_with fail
  have cW := PutSt.write HS.out (by omega) ({ data := #[60] } ++ nm) 40 (by rw [ByteArray.size_append]; show 1 + nm.size ≤ 40; omega) (by omega)
  refine cW.mono ?_
  clear cW
  rintro r X ⟨⟨n1, rfl⟩, hs⟩
  clear HS
  have HS := Lib.hid hs
  clear hs
  obtain ⟨y0, y1, y2, y3, y4⟩ := HS.out.y5
  go_wp2_with fail
  refine (space_any p _).mono ?_
  rintro r X ⟨rfl, rfl⟩
  go_wp2_with fail
  clear y0 y1 y2 y3 y4
  have cW := PutSt.write HS.out (by omega) (({ data := #[32, 120, 109, 108, 110, 115, 61, 34] } ++ spc p) ++ { data := #[34] }) 60 (by rw [ByteArray.size_append, ByteArray.size_append]; show 8 + (spc p).size + 1 ≤ 60; omega) (by omega)
  refine cW.mono ?_
  clear cW
  rintro r X ⟨⟨n1, rfl⟩, hs⟩
  clear HS
  have HS := Lib.hid hs
  clear hs
  obtain ⟨y0, y1, y2, y3, y4⟩ := HS.out.y5
  go_wp2_with fail
  have cW := cE.out X
  refine cW.mono ?_
  clear cW
  rintro r X ⟨rfl, hbx⟩
  have HS2 := Lib.hid (HS.out.below hbx)
  clear HS hbx y0 y1 y2 y3 y4
  have HS := HS2
  clear HS2
  obtain ⟨y0, y1, y2, y3, y4⟩ := HS.out.y5
  have hxl := HXl.out
  go_wp2_with fail
  clear y0 y1 y2 y3 y4
  have cW := PutSt.write HS.out (by omega) { data := #[47, 62] } 60 (by decide) (by omega)
  refine cW.mono ?_
  clear cW
  rintro r X ⟨⟨n1, rfl⟩, hs⟩
  clear HS
  have HS := Lib.hid hs
  clear hs
  obtain ⟨y0, y1, y2, y3, y4⟩ := HS.out.y5
  have HW : Hid (Wr C b (Lib.byteCells (L ++ docT spcL pg e)) bv w X) := by
    unfold Hid; rw [HDoc.out, HHead.out]
    have := HS.out.wr
    simpa [ByteArray.data_append, sXm, sEnc, spcL] using this
  clear HS y0 y1 y2 y3 y4
  go_wp2_with fail
  (try simp only [Exit.inBlock, Exit.then])
  refine bodyPost_ret (results_none rfl _ _ _) rfl ?_
  exact ⟨rfl, HW.out⟩

theorem put_any : ∀ (n : Nat) (e : Tr), hT e ≤ n → chkA e = 0 → PutOk e := by
  intro n
  induction n with
  | zero => intro e he; cases e; rw [hT] at he; omega
  | succ n ih =>
    intro e he h v pg C b M L bv w h1 h2 h3 h4 h5 h6
    have hr := chkA_right h
    have ih' : ∀ k ∈ e.kids, PutOk k := fun k hk => ih k (Nat.le_of_lt_succ (Nat.lt_of_lt_of_le (hT_kid hk) he)) (hr.2.2.2.2.2.2.2.2.2.2 k hk)
    by_cases hp : e.page = pg
    · cases ho : e.opq with
      | true => exact put_eotl e h ih' v pg C b M L bv w h1 h2 h3 h4 h5 h6 hp ho (hr.2.2.2.2.2.2.2.2.1 ho)
      | false =>
        by_cases hx : e.text.size = 0
        · by_cases hk : e.kids.length = 0
          · exact put_epxk e h ih' v pg C b M L bv w h1 h2 h3 h4 h5 h6 hp ho hx hk
          · exact put_epxl e h ih' v pg C b M L bv w h1 h2 h3 h4 h5 h6 hp ho hx hk
        · exact put_eptl e h ih' v pg C b M L bv w h1 h2 h3 h4 h5 h6 hp ho hx
    · cases ho : e.opq with
      | true => exact put_notl e h ih' v pg C b M L bv w h1 h2 h3 h4 h5 h6 hp ho (hr.2.2.2.2.2.2.2.2.1 ho)
      | false =>
        by_cases hx : e.text.size = 0
        · by_cases hk : e.kids.length = 0
          · exact put_npxk e h ih' v pg C b M L bv w h1 h2 h3 h4 h5 h6 hp ho hx hk
          · exact put_npxl e h ih' v pg C b M L bv w h1 h2 h3 h4 h5 h6 hp ho hx hk
        · exact put_nptl e h ih' v pg C b M L bv w h1 h2 h3 h4 h5 h6 hp ho hx
end Go.Proofs.YtgechifbbhipaaaDoor
