/- metinf: Elem, the program's. No condition but sizes and the tables. -/
import Derived.Test.YtgechifbbhipaaaDoorMeA
import Derived.Test.YtgechifbbhipaaaDoorMeG
import Derived.Deep.CutRange
import Derived.Laws.EntriesVeiled
set_option linter.unusedVariables false
set_option linter.unusedSimpArgs false
namespace Go.Proofs.YtgechifbbhipaaaDoor
open Go.RowKit

theorem sayL_len (nm tx : ByteArray) : (sayL nm tx).length ≤ 1 := by unfold sayL; split <;> simp
theorem numL_len (nm : ByteArray) (n : Int) : (numL nm n).length ≤ 1 := by unfold numL; split <;> simp
/-- the list under way -/
def StM (w W4 : World) (ks : List Tr) (X : World) : Prop := (∃ v, Boxed X (w.heap.size + 1 + 1) 44 v ∧ RowQ X (w.heap.size + 1 + 1 + 1 + 1) v ks) ∧ BelowBut (w.heap.size + 1 + 1 + 1 + 1) (w.heap.size + 1 + 1) W4 X
theorem StM.put {w W4 X X' : World} {ks ks' : List Tr} {r : Ending} (h : StM w W4 ks X) (hp : PutP (w.heap.size + 1 + 1) (w.heap.size + 1 + 1 + 1 + 1) ks' X r X') : (∃ u, r = .returned u) ∧ StM w W4 ks' X' := ⟨hp.1, hp.2.1, h.2.trans hp.2.2⟩
theorem StM.old {w W4 X : World} {ks : List Tr} (h : StM w W4 ks X) {b j : Nat} {v : Value} (hb : b < (w.heap.size + 1 + 1 + 1 + 1)) (hne : b ≠ (w.heap.size + 1 + 1)) (hc : W4.cell? ⟨b, j, none⟩ = some v) : X.cell? ⟨b, j, none⟩ = some v := (h.2.cell hb hne).trans hc
theorem stm_of {w W4 X W : World} {ks : List Tr} (h : BelowBut (w.heap.size + 1 + 1 + 1 + 1) (w.heap.size + 1 + 1) W4 X) (k : (∃ v', Boxed W (w.heap.size + 1 + 1) 44 v' ∧ RowQ W (w.heap.size + 1 + 1 + 1 + 1) v' ks) ∧ BelowBut (w.heap.size + 1 + 1 + 1 + 1) (w.heap.size + 1 + 1) X W) : StM w W4 ks W := ⟨k.1, h.trans k.2⟩
/-- one call more -/
theorem StM.say {w W4 X : World} {ks : List Tr} (h : StM w W4 ks X) (hz : (w.heap.size + 1 + 1 + 1 + 1) ≤ W4.heap.size) (hn : ks.length ≤ 900) (nm tx : ByteArray) (h1 : nm.size ≤ reachT) (h2 : tx.size ≤ reachT) :
    Calls Tryd.prog 106 #[.string nm, .string tx, .pointer (some ⟨(w.heap.size + 1 + 1), 0, none⟩)] X fun r X' => (∃ u, r = .returned u) ∧ StM w W4 (ks ++ sayL nm tx) X' := by
  obtain ⟨v, hx, hr⟩ := h.1
  exact (say_any (w.heap.size + 1 + 1) (w.heap.size + 1 + 1 + 1 + 1) (by omega) nm tx h1 h2 v ks (by omega) X (Nat.le_trans hz h.2.size) hx hr).mono fun r X' hp => h.put hp
theorem StM.number {w W4 X : World} {ks : List Tr} (h : StM w W4 ks X) (hz : (w.heap.size + 1 + 1 + 1 + 1) ≤ W4.heap.size) (hn : ks.length ≤ 900) (nm : ByteArray) (n : Int) (h1 : nm.size ≤ reachT) (hn0 : -9223372036854775808 ≤ n) (hn1 : n ≤ 9223372036854775807)
    (hs : W4.cell? ⟨(w.heap.size + 1 + 1 + 1), 0, none⟩ = some (.func (.func 106) #[] #[.pointer (some ⟨(w.heap.size + 1 + 1), 0, none⟩)])) :
    Calls Tryd.prog 107 #[.string nm, .int .i64 n, .pointer (some ⟨(w.heap.size + 1 + 1 + 1), 0, none⟩)] X fun r X' => (∃ u, r = .returned u) ∧ StM w W4 (ks ++ numL nm n) X' := by
  obtain ⟨v, hx, hr⟩ := h.1
  exact (number_any (w.heap.size + 1 + 1) (w.heap.size + 1 + 1 + 1) (w.heap.size + 1 + 1 + 1 + 1) (by omega) nm h1 n hn0 hn1 v ks (by omega) X (Nat.le_trans hz h.2.size) hx hr (h.old (by omega) (by omega) hs)).mono fun r X' hp => h.put hp

theorem len_app {α : Type} {l m : List α} {a : Nat} (h : l.length ≤ a) (h2 : m.length ≤ 1) : (l ++ m).length ≤ a + 1 := by rw [List.length_append]; omega
/-- an element with kids, made beside, over the growth of the row -/
theorem kid_keep {w0 w1 X w' : World} {v : Value} {B g n c : Nat} {k : Tr} {u : Value} (hat : AtQ w1 (fun b => w0.heap.size ≤ b ∧ b < w1.heap.size) k u) (hB : B ≤ w0.heap.size) (hX : Below w1.heap.size w1 X) (hg : X.grownBy w' v.ownBlock)
    (hown : ∀ b, v.ownBlock = some b → b < w0.heap.size) (hm : (.slice (some ⟨g, 0, none⟩) n c : Value).ownBlock = v.ownBlock ∨ (.slice (some ⟨g, 0, none⟩) n c : Value).ownBlock = some X.heap.size) :
    AtQ w' (fun b => w0.heap.size ≤ b ∧ b < w1.heap.size) k u ∧ ∀ b, (w0.heap.size ≤ b ∧ b < w1.heap.size) → B ≤ b ∧ b < w'.heap.size ∧ b ≠ g := by
  refine ⟨AtQ.keep (fun b hb => ⟨hb, (hg.block b (Nat.lt_of_lt_of_le hb.2 hX.size) (fun e => ?_)).trans (hX.block b hb.2)⟩) _ _ hat, fun b hb => ⟨by omega, Nat.lt_of_lt_of_le hb.2 (Nat.le_trans hX.size hg.size), ?_⟩⟩
  · have := hown b e.symm; omega
  · rintro rfl
    rcases hm with hm | hm
    · have := hown b hm.symm; omega
    · have hm : some b = some X.heap.size := hm
      injection hm with hm
      have := hX.size; omega

set_option maxRecDepth 100000 in
set_option maxHeartbeats 16000000 in
theorem metElem_any (fo ty : ByteArray) (sz ve : Int) (la ne no : ByteArray) (mm mo : Int) (h1 : fo.size ≤ 1000000) (h2 : ty.size ≤ 1000000) (h3 : no.size ≤ 1000000) (h4 : la.size ≤ 1000000) (h5 : ne.size ≤ 1000000)
    (g1 : -9223372036854775808 ≤ sz ∧ sz ≤ 9223372036854775807) (g2 : -9223372036854775808 ≤ ve ∧ ve ≤ 9223372036854775807) (g3 : -9223372036854775808 ≤ mm ∧ mm ≤ 9223372036854775807) (g4 : -9223372036854775808 ≤ mo ∧ mo ≤ 9223372036854775807)
    (w : World) (hT : Lib.Utf8Tabs 2 3 w) :
    Calls Tryd.prog 40 #[.agg #[.string fo, .string ty, .int .i64 sz, .int .i64 ve, .string la, .string ne, .string no, .int .i64 mm, .int .i64 mo]] w fun r w' => (∃ v, r = .returned v ∧ AtT w' w'.heap.size (elemM fo ty sz ve la ne no mm mo) v) ∧ Below w.heap.size w w' := by
  obtain ⟨W4, hW4⟩ : ∃ W4, (((w.alloc (.cells #[.string fo, .string ty, .int .i64 sz, .int .i64 ve, .string la, .string ne, .string no, .int .i64 mm, .int .i64 mo] 23)).alloc (.cells #[.int .i64 0, .string ⟨#[]⟩, .string ⟨#[]⟩, .bool false, .slice none 0 0] 46)).alloc (.cells #[.slice none 0 0] 44)).alloc (.cells #[.func (.func 106) #[] #[.pointer (some ⟨w.heap.size + 1 + 1, 0, none⟩)]] 89) = W4 := ⟨_, rfl⟩
  have hB4 : Below w.heap.size w W4 := by rw [← hW4]; exact ((((Below.refl _ w).alloc (Nat.le_refl _) _).alloc (by simp) _).alloc (by simp only [World.size_alloc]; omega) _).alloc (by simp only [World.size_alloc]; omega) _
  have hZ4 : W4.heap.size = w.heap.size + 1 + 1 + 1 + 1 := by rw [← hW4]; simp
  have hE0 : (w.alloc (.cells #[.string fo, .string ty, .int .i64 sz, .int .i64 ve, .string la, .string ne, .string no, .int .i64 mm, .int .i64 mo] 23)).heap[w.heap.size]? = some (.cells #[.string fo, .string ty, .int .i64 sz, .int .i64 ve, .string la, .string ne, .string no, .int .i64 mm, .int .i64 mo] 23 (0, 0)) := World.alloc_heap_new _ _
  have hE1 : ((w.alloc (.cells #[.string fo, .string ty, .int .i64 sz, .int .i64 ve, .string la, .string ne, .string no, .int .i64 mm, .int .i64 mo] 23)).alloc (.cells #[.int .i64 0, .string ⟨#[]⟩, .string ⟨#[]⟩, .bool false, .slice none 0 0] 46)).heap[w.heap.size + 1]? = some (.cells #[.int .i64 0, .string ⟨#[]⟩, .string ⟨#[]⟩, .bool false, .slice none 0 0] 46 (0, 0)) := by have := World.alloc_heap_new (w.alloc (.cells #[.string fo, .string ty, .int .i64 sz, .int .i64 ve, .string la, .string ne, .string no, .int .i64 mm, .int .i64 mo] 23)) (.cells #[.int .i64 0, .string ⟨#[]⟩, .string ⟨#[]⟩, .bool false, .slice none 0 0] 46); rwa [World.size_alloc] at this
  have hE2 : (((w.alloc (.cells #[.string fo, .string ty, .int .i64 sz, .int .i64 ve, .string la, .string ne, .string no, .int .i64 mm, .int .i64 mo] 23)).alloc (.cells #[.int .i64 0, .string ⟨#[]⟩, .string ⟨#[]⟩, .bool false, .slice none 0 0] 46)).alloc (.cells #[.slice none 0 0] 44)).heap[w.heap.size + 1 + 1]? = some (.cells #[.slice none 0 0] 44 (0, 0)) := by have := World.alloc_heap_new ((w.alloc (.cells #[.string fo, .string ty, .int .i64 sz, .int .i64 ve, .string la, .string ne, .string no, .int .i64 mm, .int .i64 mo] 23)).alloc (.cells #[.int .i64 0, .string ⟨#[]⟩, .string ⟨#[]⟩, .bool false, .slice none 0 0] 46)) (.cells #[.slice none 0 0] 44); rwa [World.size_alloc, World.size_alloc] at this
  have hres : W4.heap[w.heap.size + 1]? = some (.cells #[.int .i64 0, .string ⟨#[]⟩, .string ⟨#[]⟩, .bool false, .slice none 0 0] 46 (0, 0)) := by rw [← hW4, Below.heap_alloc _ _ _ (by simp only [World.size_alloc]; omega), Below.heap_alloc _ _ _ (by simp)]; exact hE1
  have hbx : Boxed W4 (w.heap.size + 1 + 1) 44 (.slice none 0 0) := by unfold Boxed; rw [← hW4, Below.heap_alloc _ _ _ (by simp)]; exact hE2
  have hfn : W4.cell? ⟨w.heap.size + 1 + 1 + 1, 0, none⟩ = some (.func (.func 106) #[] #[.pointer (some ⟨w.heap.size + 1 + 1, 0, none⟩)]) := by rw [← hW4, World.cell?_alloc_at _ _ _ _ (by simp)]; rfl
  have hBx : ∀ j v, (#[.string fo, .string ty, .int .i64 sz, .int .i64 ve, .string la, .string ne, .string no, .int .i64 mm, .int .i64 mo] : Array Value)[j]? = some v → W4.cell? ⟨w.heap.size, j, none⟩ = some v := fun j v hv => by
    rw [← hW4]; exact cell_allocG (cell_allocG (cell_allocG ((World.cell?_alloc_at _ _ _ _ rfl).trans hv) _) _) _
  have cC := Lib.hid (fun X (hX : Below w.heap.size w X) => metCheck_any fo ty sz ve la ne no mm mo h1 h2 h3 h4 h5 X (Utf8Tabs_below hT hX))
  have s1 : fo.size ≤ reachT := by simp only [reachT]; omega
  have s2 : ty.size ≤ reachT := by simp only [reachT]; omega
  have s3 : no.size ≤ reachT := by simp only [reachT]; omega
  have s4 : la.size ≤ reachT := by simp only [reachT]; omega
  have s5 : ne.size ≤ reachT := by simp only [reachT]; omega
  have S1 := Lib.hid s1
  have S2 := Lib.hid s2
  have S3 := Lib.hid s3
  have S4 := Lib.hid s4
  have S5 := Lib.hid s5
  have G1 := Lib.hid g1
  have G2 := Lib.hid g2
  have G3 := Lib.hid g3
  have G4 := Lib.hid g4
  have HW4 := Lib.hid hW4
  have HB4 := Lib.hid hB4
  have HZ4 := Lib.hid hZ4
  have HRes := Lib.hid hres
  have HFn := Lib.hid hfn
  have HBx := Lib.hid hBx
  have HX4 := Lib.hid hbx
  have HZl : Hid ((w.heap.size + 1 + 1 + 1 + 1) ≤ W4.heap.size) := Nat.le_of_eq hZ4.symm
  have HE : Hid (elemM fo ty sz ve la ne no mm mo = .mk 0 nMeta ByteArray.empty false (if chkM fo ty sz ve la ne no mm mo = 0 then saidL fo ty sz ve la ne no mm mo else [])) := rfl
  have HS : Hid (saidL fo ty sz ve la ne no mm mo = ((((((sayL nFormat fo ++ sayL nType ty) ++ numL nSize sz) ++ (if ne.size = 0 then [] else [anchorT la ne])) ++ numL nVersion ve) ++ sayL nNextNonce no) ++ numL nMaxMsgSize mm) ++ numL nMaxObjSize mo) := rfl
  have m0 := hBx 0 _ rfl
  have m1 := hBx 1 _ rfl
  have m2 := hBx 2 _ rfl
  have m3 := hBx 3 _ rfl
  have m4 := hBx 4 _ rfl
  have m5 := hBx 5 _ rfl
  have m6 := hBx 6 _ rfl
  have m7 := hBx 7 _ rfl
  have m8 := hBx 8 _ rfl
  clear h1 h2 h3 h4 h5 g1 g2 g3 g4 hT hW4 hB4 hZ4 hres hbx hfn hBx hE0 hE1 hE2 s1 s2 s3 s4 s5
  generalize chkM fo ty sz ve la ne no mm mo = q at *
  generalize saidL fo ty sz ve la ne no mm mo = SL at *
  generalize elemM fo ty sz ve la ne no mm mo = R at *
  have hmf : ∀ (fn : Fn) (first cap : Array Value) (w : World), (Instr.makeFunc fn first cap).run Tryd.prog w = .ok (.func fn first cap) w := fun _ _ _ _ => rfl
  by_cases hq : q = 0
  · subst hq
    have HE2 : Hid (R = .mk 0 nMeta ByteArray.empty false SL) := HE.out
    clear HE
    by_cases hn : ne.size = 0
    · have i1 := emptyB ne hn
      have HSL : Hid (SL = ((((((([] ++ sayL nFormat fo) ++ sayL nType ty) ++ numL nSize sz)) ++ numL nVersion ve) ++ sayL nNextNonce no) ++ numL nMaxMsgSize mm) ++ numL nMaxObjSize mo) := by unfold Hid; rw [HS.out, if_pos hn]; simp
      clear hn HS
      go_enter Tryd.func40, Tryd.ntmps40
      go_wp2_with fail
      rw [HW4.out]
      refine (cC.out _ HB4.out).mono ?_
      rintro r X0 ⟨rfl, hb0⟩
      have H0 : Hid (StM w W4 [] X0) := ⟨⟨_, (hb0.block _ HX4.out.lt).trans HX4.out, RowQ.nil _ _⟩, BelowBut.of_below (hb0.mono HZl.out)⟩
      clear hb0 m0 m1 m2 m3 m4 m5 m6 m7 m8
      have fs := H0.out.old (by omega) (by omega) HFn.out
      have fm := H0.out.old (b := w.heap.size) (by omega) (by omega) (HBx.out 0 _ rfl)
      go_wp2_with fail
      refine (H0.out.say HZl.out (Nat.le_trans (Nat.le_refl 0) (by decide)) nFormat fo (by decide) S1.out).mono ?_
      rintro r X1 ⟨⟨u, rfl⟩, hst⟩
      have H1 := Lib.hid hst
      clear hst fs fm
      have fs := H1.out.old (by omega) (by omega) HFn.out
      have fm := H1.out.old (b := w.heap.size) (by omega) (by omega) (HBx.out 1 _ rfl)
      go_wp2_with fail
      refine (H1.out.say HZl.out (Nat.le_trans (len_app (Nat.le_refl 0) (sayL_len _ _)) (by decide)) nType ty (by decide) S2.out).mono ?_
      rintro r X2 ⟨⟨u, rfl⟩, hst⟩
      have H2 := Lib.hid hst
      clear hst fs fm
      have fs := H2.out.old (by omega) (by omega) HFn.out
      have fm := H2.out.old (b := w.heap.size) (by omega) (by omega) (HBx.out 2 _ rfl)
      go_wp2_with fail
      refine (H2.out.number HZl.out (Nat.le_trans (len_app (len_app (Nat.le_refl 0) (sayL_len _ _)) (sayL_len _ _)) (by decide)) nSize sz (by decide) G1.out.1 G1.out.2 HFn.out).mono ?_
      rintro r X3 ⟨⟨u, rfl⟩, hst⟩
      have H3 := Lib.hid hst
      clear hst fs fm
      have f5 := H3.out.old (b := w.heap.size) (by omega) (by omega) (HBx.out 5 _ rfl)
      have fs := H3.out.old (by omega) (by omega) HFn.out
      have fm := H3.out.old (b := w.heap.size) (by omega) (by omega) (HBx.out 3 _ rfl)
      go_wp2_with fail
      refine (H3.out.number HZl.out (Nat.le_trans (len_app (len_app (len_app (Nat.le_refl 0) (sayL_len _ _)) (sayL_len _ _)) (numL_len _ _)) (by decide)) nVersion ve (by decide) G2.out.1 G2.out.2 HFn.out).mono ?_
      rintro r X4 ⟨⟨u, rfl⟩, hst⟩
      have H4 := Lib.hid hst
      clear hst fs fm
      have fs := H4.out.old (by omega) (by omega) HFn.out
      have fm := H4.out.old (b := w.heap.size) (by omega) (by omega) (HBx.out 6 _ rfl)
      go_wp2_with fail
      refine (H4.out.say HZl.out (Nat.le_trans (len_app (len_app (len_app (len_app (Nat.le_refl 0) (sayL_len _ _)) (sayL_len _ _)) (numL_len _ _)) (numL_len _ _)) (by decide)) nNextNonce no (by decide) S3.out).mono ?_
      rintro r X5 ⟨⟨u, rfl⟩, hst⟩
      have H5 := Lib.hid hst
      clear hst fs fm
      have fs := H5.out.old (by omega) (by omega) HFn.out
      have fm := H5.out.old (b := w.heap.size) (by omega) (by omega) (HBx.out 7 _ rfl)
      go_wp2_with fail
      refine (H5.out.number HZl.out (Nat.le_trans (len_app (len_app (len_app (len_app (len_app (Nat.le_refl 0) (sayL_len _ _)) (sayL_len _ _)) (numL_len _ _)) (numL_len _ _)) (sayL_len _ _)) (by decide)) nMaxMsgSize mm (by decide) G3.out.1 G3.out.2 HFn.out).mono ?_
      rintro r X6 ⟨⟨u, rfl⟩, hst⟩
      have H6 := Lib.hid hst
      clear hst fs fm
      have fs := H6.out.old (by omega) (by omega) HFn.out
      have fm := H6.out.old (b := w.heap.size) (by omega) (by omega) (HBx.out 8 _ rfl)
      go_wp2_with fail
      refine (H6.out.number HZl.out (Nat.le_trans (len_app (len_app (len_app (len_app (len_app (len_app (Nat.le_refl 0) (sayL_len _ _)) (sayL_len _ _)) (numL_len _ _)) (numL_len _ _)) (sayL_len _ _)) (numL_len _ _)) (by decide)) nMaxObjSize mo (by decide) G4.out.1 G4.out.2 HFn.out).mono ?_
      rintro r X7 ⟨⟨u, rfl⟩, hst⟩
      have H7 := Lib.hid hst
      clear hst fs fm
      obtain ⟨⟨v, hx, hr⟩, hbb⟩ := H7.out
      obtain ⟨a, c, rfl, hk, ha⟩ := hr.atLQ
      have fl := hx.cell
      have hres := (hbb.block (w.heap.size + 1) (by omega) (by omega)).trans HRes.out
      have hBz : w.heap.size + 1 + 1 + 1 + 1 ≤ X7.heap.size := Nat.le_trans HZl.out hbb.size
      have cN := Lib.hid (nodeQ_any (fun b => w.heap.size + 1 + 1 + 1 + 1 ≤ b ∧ b < X7.heap.size) 0 nMeta (by decide) ((((((([] ++ sayL nFormat fo) ++ sayL nType ty) ++ numL nSize sz) ++ numL nVersion ve) ++ sayL nNextNonce no) ++ numL nMaxMsgSize mm) ++ numL nMaxObjSize mo) a c X7 (fun b hb => hb.2) hk (Nat.le_trans (len_app (len_app (len_app (len_app (len_app (len_app (len_app (Nat.le_refl 0) (sayL_len _ _)) (sayL_len _ _)) (numL_len _ _)) (numL_len _ _)) (sayL_len _ _)) (numL_len _ _)) (numL_len _ _)) (by decide)) ha)
      have HBw : Hid (Below w.heap.size w X7) := HB4.out.trans (hbb.below (by omega) (by omega))
      have HR := Lib.hid hres
      have HBz := Lib.hid hBz
      have HSL2 : Hid (SL = ((((((([] ++ sayL nFormat fo) ++ sayL nType ty) ++ numL nSize sz) ++ numL nVersion ve) ++ sayL nNextNonce no) ++ numL nMaxMsgSize mm) ++ numL nMaxObjSize mo)) := HSL.out
      clear hx hr hbb hk ha hres hBz
      generalize ((((((([] ++ sayL nFormat fo) ++ sayL nType ty) ++ numL nSize sz) ++ numL nVersion ve) ++ sayL nNextNonce no) ++ numL nMaxMsgSize mm) ++ numL nMaxObjSize mo) = LL at *
      generalize LL.length = nl at *
      go_wp2_with fail
      refine cN.out.mono ?_
      rintro r Y ⟨⟨v, rfl, hat⟩, hby⟩
      obtain ⟨a6, c6, hv⟩ := hat.cells5
      have hz2 : Y.heap[w.heap.size + 1]? = some (.cells #[.int .i64 0, .string ⟨#[]⟩, .string ⟨#[]⟩, .bool false, .slice none 0 0] 46 (0, 0)) := (hby.block _ (by have := HBz.out; omega)).trans HR.out
      obtain ⟨hcs, hfz⟩ := cells_of hz2
      have u0 := hcs 0 _ rfl
      have u1 := hcs 1 _ rfl
      have u2 := hcs 2 _ rfl
      have u3 := hcs 3 _ rfl
      have u4 := hcs 4 _ rfl
      have hv2 : v = .agg #[.int .i64 0, .string nMeta, .string ByteArray.empty, .bool false, .slice a6 LL.length c6] := hv
      subst hv2
      clear hv
      have HFin := Lib.hid (stored_at (w := w) (w2 := Y) (g := w.heap.size + 1) (HBw.out.trans (hby.mono HBw.out.size)) (Nat.le_succ _) hat (fun b hb => by
        have h1 := HBz.out
        have h2 := hby.size
        omega))
      have HZz := Lib.hid hz2
      clear hcs hz2 hat hby
      generalize LL.length = nl at *
      go_wp2_with fail
      refine bodyPost_ret (results_cell_row rfl _ _ (w.heap.size + 1) 46 #[.int .i64 0, .string nMeta, .string ByteArray.empty, .bool false, .slice a6 nl c6] (0, 0) _ rfl (set5_row HZz.out) Tryd.underlying46 rfl (by kernel_rfl)) rfl ?_
      exact ⟨⟨_, rfl, by rw [HE2.out, HSL2.out]; exact AtQ.to (fun b hb => hb.2) _ _ HFin.out.1⟩, HFin.out.2⟩
    · have i1 := not_empty ne hn
      have HSL : Hid (SL = ((((((([] ++ sayL nFormat fo) ++ sayL nType ty) ++ numL nSize sz) ++ [anchorT la ne]) ++ numL nVersion ve) ++ sayL nNextNonce no) ++ numL nMaxMsgSize mm) ++ numL nMaxObjSize mo) := by unfold Hid; rw [HS.out, if_neg hn]; simp
      clear hn HS
      go_enter Tryd.func40, Tryd.ntmps40
      go_wp2_with fail
      rw [HW4.out]
      refine (cC.out _ HB4.out).mono ?_
      rintro r X0 ⟨rfl, hb0⟩
      have H0 : Hid (StM w W4 [] X0) := ⟨⟨_, (hb0.block _ HX4.out.lt).trans HX4.out, RowQ.nil _ _⟩, BelowBut.of_below (hb0.mono HZl.out)⟩
      clear hb0 m0 m1 m2 m3 m4 m5 m6 m7 m8
      have fs := H0.out.old (by omega) (by omega) HFn.out
      have fm := H0.out.old (b := w.heap.size) (by omega) (by omega) (HBx.out 0 _ rfl)
      go_wp2_with fail
      refine (H0.out.say HZl.out (Nat.le_trans (Nat.le_refl 0) (by decide)) nFormat fo (by decide) S1.out).mono ?_
      rintro r X1 ⟨⟨u, rfl⟩, hst⟩
      have H1 := Lib.hid hst
      clear hst fs fm
      have fs := H1.out.old (by omega) (by omega) HFn.out
      have fm := H1.out.old (b := w.heap.size) (by omega) (by omega) (HBx.out 1 _ rfl)
      go_wp2_with fail
      refine (H1.out.say HZl.out (Nat.le_trans (len_app (Nat.le_refl 0) (sayL_len _ _)) (by decide)) nType ty (by decide) S2.out).mono ?_
      rintro r X2 ⟨⟨u, rfl⟩, hst⟩
      have H2 := Lib.hid hst
      clear hst fs fm
      have fs := H2.out.old (by omega) (by omega) HFn.out
      have fm := H2.out.old (b := w.heap.size) (by omega) (by omega) (HBx.out 2 _ rfl)
      go_wp2_with fail
      refine (H2.out.number HZl.out (Nat.le_trans (len_app (len_app (Nat.le_refl 0) (sayL_len _ _)) (sayL_len _ _)) (by decide)) nSize sz (by decide) G1.out.1 G1.out.2 HFn.out).mono ?_
      rintro r X3 ⟨⟨u, rfl⟩, hst⟩
      have H3 := Lib.hid hst
      clear hst fs fm
      have f5 := H3.out.old (b := w.heap.size) (by omega) (by omega) (HBx.out 5 _ rfl)
      go_upto_region 9 with fail
      go_cut [] from 26 to 32 (fun wc => StM w W4 (((([] ++ sayL nFormat fo) ++ sayL nType ty) ++ numL nSize sz) ++ [anchorT la ne]) wc)
      case first =>
        obtain ⟨⟨v, hx, hr⟩, hbb⟩ := H3.out
        have hn : ((([] ++ sayL nFormat fo) ++ sayL nType ty) ++ numL nSize sz).length ≤ 1000 := Nat.le_trans (len_app (len_app (len_app (Nat.le_refl 0) (sayL_len _ _)) (sayL_len _ _)) (numL_len _ _)) (by decide)
        have hB : (w.heap.size + 1 + 1 + 1 + 1) ≤ X3.heap.size := Nat.le_trans HZl.out hbb.size
        have q0 := H3.out.old (b := w.heap.size) (by omega) (by omega) (HBx.out 0 _ rfl)
        have q1 := H3.out.old (b := w.heap.size) (by omega) (by omega) (HBx.out 1 _ rfl)
        have q2 := H3.out.old (b := w.heap.size) (by omega) (by omega) (HBx.out 2 _ rfl)
        have q3 := H3.out.old (b := w.heap.size) (by omega) (by omega) (HBx.out 3 _ rfl)
        have q4 := H3.out.old (b := w.heap.size) (by omega) (by omega) (HBx.out 4 _ rfl)
        have q6 := H3.out.old (b := w.heap.size) (by omega) (by omega) (HBx.out 6 _ rfl)
        have q7 := H3.out.old (b := w.heap.size) (by omega) (by omega) (HBx.out 7 _ rfl)
        have q8 := H3.out.old (b := w.heap.size) (by omega) (by omega) (HBx.out 8 _ rfl)
        have HBB := Lib.hid hbb
        clear hbb
        generalize hLL : ((([] ++ sayL nFormat fo) ++ sayL nType ty) ++ numL nSize sz) = ks at *
        have HLL := Lib.hid hLL
        clear hLL
        have cAn := Lib.hid (fun X => anchor_any fo ty sz ve la ne no mm mo S4.out S5.out X)
        obtain ⟨K, hK⟩ : ∃ K, (anchorT la ne).kids.length = K := ⟨_, rfl⟩
        have HKd : Hid (∀ a1 c1, (.agg #[.int .i64 (anchorT la ne).page, .string (anchorT la ne).name, .string (anchorT la ne).text, .bool (anchorT la ne).opq, .slice a1 (anchorT la ne).kids.length c1] : Value) = .agg #[.int .i64 1, .string { data := #[65, 110, 99, 104, 111, 114] }, .string ByteArray.empty, .bool false, .slice a1 K c1]) := fun a1 c1 => by rw [hK]; rfl
        clear hK
        obtain ⟨xs, ho, hq⟩ := hr
        have hc := hx.cell
        have hf := hx.frozen
        obtain ⟨a, c, rfl⟩ := own_form ho
        have HO : Hid (∀ X, Below X3.heap.size X3 X → X.ownsRow (w.heap.size + 1 + 1 + 1 + 1) 46 5 (.slice a ks.length c) ks.length xs) := fun X hX => owns_keep ho (fun k hk => hX.block k (ho.lt k hk).2)
        have HQ := Lib.hid hq
        have HXL := Lib.hid ho.1
        have HOW0 := Lib.hid (fun b hb => (ho.lt b hb).2)
        have HOB := Lib.hid (fun b hb => (ho.lt b hb).1)
        have HBX : Hid (∀ X, Below X3.heap.size X3 X → Boxed X (w.heap.size + 1 + 1) 44 (.slice a ks.length c)) := fun X hX => (hX.block (w.heap.size + 1 + 1) hx.lt).trans hx
        have HNE : Hid (some (w.heap.size + 1 + 1) ≠ (.slice a ks.length c : Value).ownBlock) := fun e => by have := (ho.lt (w.heap.size + 1 + 1) e.symm).1; omega
        clear ho hq hx
        generalize hnn : ks.length = n at *
        have HNN := Lib.hid hnn
        clear hnn
        obtain ⟨i0, hi, hz0, hz1, hz2⟩ := info24
        have HI := Lib.hid hi
        have HZ0 := Lib.hid hz0
        have HZ1 := Lib.hid hz1
        have HZ2 := Lib.hid hz2
        clear hi hz0 hz1 hz2
        have HBY : Hid ((n + 1) * 72 ≤ 140737488355328) := by unfold Hid; omega
        have H63 : Hid (n + 1 ≤ maxLen) := by unfold Hid maxLen; omega
        have HD : Hid (Below X3.heap.size X3 X3.drew) := (Below.refl _ X3).drew
        have hlt1 : (n : Int) < (n : Int) + 1 := by omega
        have hcd : ∀ o, (X3.alloc o).cell? ⟨w.heap.size + 1 + 1, 0, none⟩ = some (.slice a n c) := fun o => cell_allocG hc o

        have HOW : Hid (∀ b, (.slice a n c : Value).ownBlock = some b → b < X3.heap.size) := HOW0.out
        have o0 : ∀ o, (X3.alloc o).cell? ⟨w.heap.size, 0, none⟩ = some (.string fo) := fun o => cell_allocG q0 o
        have o1 : ∀ o, (X3.alloc o).cell? ⟨w.heap.size, 1, none⟩ = some (.string ty) := fun o => cell_allocG q1 o
        have o2 : ∀ o, (X3.alloc o).cell? ⟨w.heap.size, 2, none⟩ = some (.int .i64 sz) := fun o => cell_allocG q2 o
        have o3 : ∀ o, (X3.alloc o).cell? ⟨w.heap.size, 3, none⟩ = some (.int .i64 ve) := fun o => cell_allocG q3 o
        have o4 : ∀ o, (X3.alloc o).cell? ⟨w.heap.size, 4, none⟩ = some (.string la) := fun o => cell_allocG q4 o
        have o5 : ∀ o, (X3.alloc o).cell? ⟨w.heap.size, 5, none⟩ = some (.string ne) := fun o => cell_allocG f5 o
        have o6 : ∀ o, (X3.alloc o).cell? ⟨w.heap.size, 6, none⟩ = some (.string no) := fun o => cell_allocG q6 o
        have o7 : ∀ o, (X3.alloc o).cell? ⟨w.heap.size, 7, none⟩ = some (.int .i64 mm) := fun o => cell_allocG q7 o
        have o8 : ∀ o, (X3.alloc o).cell? ⟨w.heap.size, 8, none⟩ = some (.int .i64 mo) := fun o => cell_allocG q8 o
        go_region_law (first | (go_simp; go_at_call 109; refine (cAn.out _).mono ?_; rintro r w1 ⟨⟨v1, rfl, hat1⟩, hb1⟩; obtain ⟨a1, c1, hv1⟩ := hat1.cells5; have hv2 : v1 = .agg #[.int .i64 1, .string { data := #[65, 110, 99, 104, 111, 114] }, .string ByteArray.empty, .bool false, .slice a1 K c1] := (hv1.trans (HKd.out _ _)); subst hv2; clear hv1; have HAT1 : Hid (AtQ w1 (fun b => X3.heap.size ≤ b ∧ b < w1.heap.size) (anchorT la ne) (.agg #[.int .i64 1, .string { data := #[65, 110, 99, 104, 111, 114] }, .string ByteArray.empty, .bool false, .slice a1 K c1])) := AtQ.keep (fun b hb => ⟨⟨Nat.le_trans (by first | exact Nat.le_refl _ | exact (HD.out.alloc HD.out.size _).size) hb.1, hb.2⟩, rfl⟩) _ _ hat1; clear hat1; have hcb1 : w1.cell? ⟨w.heap.size + 1 + 1, 0, none⟩ = some (.slice a n c) := Boxed.cell (HBX.out _ (by first | exact (HD.out.trans (hb1.mono HD.out.size)) | exact ((HD.out.alloc HD.out.size _).trans (hb1.mono (HD.out.alloc HD.out.size _).size)))); have hcb2 : ∀ o, (w1.alloc o).cell? ⟨w.heap.size + 1 + 1, 0, none⟩ = some (.slice a n c) := (fun o => cell_allocG hcb1 o)) | (refine step_appR rfl (.tmp 26) (.tmp 30) 44 rfl (w.heap.size + 1 + 1 + 1 + 1) 46 i0 _ 5 72 Tryd.underlying44 HI.out HZ0.out HZ1.out HZ2.out rfl (by decide) _ n xs rfl (HO.out _ ((HD.out.trans (hb1.mono HD.out.size)).alloc (HD.out.trans (hb1.mono HD.out.size)).size _)) _ 1 1 zero5 rfl rfl (fun h => by cases h) (new_cells (Below.refl _ _)) (by simp [zero5, Value.oneCell']) H63.out HBY.out (Nat.le_trans hB (Below.size ((HD.out.trans (hb1.mono HD.out.size)).alloc (HD.out.trans (hb1.mono HD.out.size)).size _))) (fun a' c' w' k1 k2 k3 => ?_); obtain ⟨g, rfl, hgB, hgl, hz, hfr⟩ := own_push k1 HXL.out; have z0 : w'.cell? ⟨g, n * 5, none⟩ = some (.int .i64 0) := hz 0 _ rfl; have z1 := hz 1 _ rfl; have z2 := hz 2 _ rfl; have z3 := hz 3 _ rfl; have z4 := hz 4 _ rfl; have hbx : Boxed w' (w.heap.size + 1 + 1) 44 (.slice a n c) := Boxed.kept (HBX.out _ ((HD.out.trans (hb1.mono HD.out.size)).alloc (HD.out.trans (hb1.mono HD.out.size)).size _)) k2 HNE.out; have hcb := hbx.cell; have hfb := hbx.frozen; have hg1 : ¬ g = (w.heap.size + 1 + 1) := (by omega); have hg2 : ¬ (w.heap.size + 1 + 1) = g := (by omega); have HPG := Lib.hid (push_grown ((HD.out.trans (hb1.mono HD.out.size)).alloc (HD.out.trans (hb1.mono HD.out.size)).size _) k2); have HM := Lib.hid (push_moved ((HD.out.trans (hb1.mono HD.out.size)).alloc (HD.out.trans (hb1.mono HD.out.size)).size _) k3); have HKK := kid_keep (w0 := X3) (B := (w.heap.size + 1 + 1 + 1 + 1)) HAT1.out hB ((Below.refl _ w1).alloc (Nat.le_refl _) _) k2 HOW.out k3; have HPA := Lib.hid (stm_of HBB.out (push_A (by omega) HNN.out HXL.out hB HQ.out HOB.out HPG.out HM.out k1 hbx HKK.1 HKK.2)); have HPB := Lib.hid (stm_of HBB.out (push_B (by omega) HNN.out HXL.out hB HQ.out HOB.out HPG.out HM.out k1 hbx HKK.1 HKK.2)); clear k1 k2 k3 hbx HKK) | (refine step_appR rfl (.tmp 26) (.tmp 30) 44 rfl (w.heap.size + 1 + 1 + 1 + 1) 46 i0 _ 5 72 Tryd.underlying44 HI.out HZ0.out HZ1.out HZ2.out rfl (by decide) _ n xs rfl (HO.out _ ((HD.out.alloc HD.out.size _).trans (hb1.mono (HD.out.alloc HD.out.size _).size))) _ 1 1 zero5 rfl rfl (fun h => by cases h) (new_cells (w := X3.drew) (cs := zero5) (t := 46) (hb1.mono (Nat.le_of_eq (World.size_alloc _ _).symm))) (by simp [zero5, Value.oneCell']) H63.out HBY.out (Nat.le_trans hB (Below.size ((HD.out.alloc HD.out.size _).trans (hb1.mono (HD.out.alloc HD.out.size _).size)))) (fun a' c' w' k1 k2 k3 => ?_); obtain ⟨g, rfl, hgB, hgl, hz, hfr⟩ := own_push k1 HXL.out; have z0 : w'.cell? ⟨g, n * 5, none⟩ = some (.int .i64 0) := hz 0 _ rfl; have z1 := hz 1 _ rfl; have z2 := hz 2 _ rfl; have z3 := hz 3 _ rfl; have z4 := hz 4 _ rfl; have hbx : Boxed w' (w.heap.size + 1 + 1) 44 (.slice a n c) := Boxed.kept (HBX.out _ ((HD.out.alloc HD.out.size _).trans (hb1.mono (HD.out.alloc HD.out.size _).size))) k2 HNE.out; have hcb := hbx.cell; have hfb := hbx.frozen; have hg1 : ¬ g = (w.heap.size + 1 + 1) := (by omega); have hg2 : ¬ (w.heap.size + 1 + 1) = g := (by omega); have HPG := Lib.hid (push_grown ((HD.out.alloc HD.out.size _).trans (hb1.mono (HD.out.alloc HD.out.size _).size)) k2); have HM := Lib.hid (push_moved ((HD.out.alloc HD.out.size _).trans (hb1.mono (HD.out.alloc HD.out.size _).size)) k3); have HKK := kid_keep (w0 := X3) (B := (w.heap.size + 1 + 1 + 1 + 1)) HAT1.out hB (Below.refl _ _) k2 HOW.out k3; have HPA := Lib.hid (stm_of HBB.out (push_A (by omega) HNN.out HXL.out hB HQ.out HOB.out HPG.out HM.out k1 hbx HKK.1 HKK.2)); have HPB := Lib.hid (stm_of HBB.out (push_B (by omega) HNN.out HXL.out hB HQ.out HOB.out HPG.out HM.out k1 hbx HKK.1 HKK.2)); clear k1 k2 k3 hbx HKK) | fail)
        all_goals
          go_wp2_with fail
          go_meet
          first | with_reducible exact HPA.out | with_reducible exact HPB.out
      case rest =>
        have H4 : Hid (StM w W4 (((([] ++ sayL nFormat fo) ++ sayL nType ty) ++ numL nSize sz) ++ [anchorT la ne]) wc) := hcut
        clear hcut f5
        obtain ⟨X4, hX4⟩ : ∃ X4, wc = X4 := ⟨_, rfl⟩
        subst hX4
        have fs := H4.out.old (by omega) (by omega) HFn.out
        have fm := H4.out.old (b := w.heap.size) (by omega) (by omega) (HBx.out 3 _ rfl)
        go_wp2_with fail
        refine (H4.out.number HZl.out (Nat.le_trans (len_app (len_app (len_app (len_app (Nat.le_refl 0) (sayL_len _ _)) (sayL_len _ _)) (numL_len _ _)) (Nat.le_refl 1)) (by decide)) nVersion ve (by decide) G2.out.1 G2.out.2 HFn.out).mono ?_
        rintro r X5 ⟨⟨u, rfl⟩, hst⟩
        have H5 := Lib.hid hst
        clear hst fs fm
        have fs := H5.out.old (by omega) (by omega) HFn.out
        have fm := H5.out.old (b := w.heap.size) (by omega) (by omega) (HBx.out 6 _ rfl)
        go_wp2_with fail
        refine (H5.out.say HZl.out (Nat.le_trans (len_app (len_app (len_app (len_app (len_app (Nat.le_refl 0) (sayL_len _ _)) (sayL_len _ _)) (numL_len _ _)) (Nat.le_refl 1)) (numL_len _ _)) (by decide)) nNextNonce no (by decide) S3.out).mono ?_
        rintro r X6 ⟨⟨u, rfl⟩, hst⟩
        have H6 := Lib.hid hst
        clear hst fs fm
        have fs := H6.out.old (by omega) (by omega) HFn.out
        have fm := H6.out.old (b := w.heap.size) (by omega) (by omega) (HBx.out 7 _ rfl)
        go_wp2_with fail
        refine (H6.out.number HZl.out (Nat.le_trans (len_app (len_app (len_app (len_app (len_app (len_app (Nat.le_refl 0) (sayL_len _ _)) (sayL_len _ _)) (numL_len _ _)) (Nat.le_refl 1)) (numL_len _ _)) (sayL_len _ _)) (by decide)) nMaxMsgSize mm (by decide) G3.out.1 G3.out.2 HFn.out).mono ?_
        rintro r X7 ⟨⟨u, rfl⟩, hst⟩
        have H7 := Lib.hid hst
        clear hst fs fm
        have fs := H7.out.old (by omega) (by omega) HFn.out
        have fm := H7.out.old (b := w.heap.size) (by omega) (by omega) (HBx.out 8 _ rfl)
        go_wp2_with fail
        refine (H7.out.number HZl.out (Nat.le_trans (len_app (len_app (len_app (len_app (len_app (len_app (len_app (Nat.le_refl 0) (sayL_len _ _)) (sayL_len _ _)) (numL_len _ _)) (Nat.le_refl 1)) (numL_len _ _)) (sayL_len _ _)) (numL_len _ _)) (by decide)) nMaxObjSize mo (by decide) G4.out.1 G4.out.2 HFn.out).mono ?_
        rintro r X8 ⟨⟨u, rfl⟩, hst⟩
        have H8 := Lib.hid hst
        clear hst fs fm
        obtain ⟨⟨v, hx, hr⟩, hbb⟩ := H8.out
        obtain ⟨a, c, rfl, hk, ha⟩ := hr.atLQ
        have fl := hx.cell
        have hres := (hbb.block (w.heap.size + 1) (by omega) (by omega)).trans HRes.out
        have hBz : w.heap.size + 1 + 1 + 1 + 1 ≤ X8.heap.size := Nat.le_trans HZl.out hbb.size
        have cN := Lib.hid (nodeQ_any (fun b => w.heap.size + 1 + 1 + 1 + 1 ≤ b ∧ b < X8.heap.size) 0 nMeta (by decide) (((((((([] ++ sayL nFormat fo) ++ sayL nType ty) ++ numL nSize sz) ++ [anchorT la ne]) ++ numL nVersion ve) ++ sayL nNextNonce no) ++ numL nMaxMsgSize mm) ++ numL nMaxObjSize mo) a c X8 (fun b hb => hb.2) hk (Nat.le_trans (len_app (len_app (len_app (len_app (len_app (len_app (len_app (len_app (Nat.le_refl 0) (sayL_len _ _)) (sayL_len _ _)) (numL_len _ _)) (Nat.le_refl 1)) (numL_len _ _)) (sayL_len _ _)) (numL_len _ _)) (numL_len _ _)) (by decide)) ha)
        have HBw : Hid (Below w.heap.size w X8) := HB4.out.trans (hbb.below (by omega) (by omega))
        have HR := Lib.hid hres
        have HBz := Lib.hid hBz
        have HSL2 : Hid (SL = (((((((([] ++ sayL nFormat fo) ++ sayL nType ty) ++ numL nSize sz) ++ [anchorT la ne]) ++ numL nVersion ve) ++ sayL nNextNonce no) ++ numL nMaxMsgSize mm) ++ numL nMaxObjSize mo)) := HSL.out
        clear hx hr hbb hk ha hres hBz
        generalize (((((((([] ++ sayL nFormat fo) ++ sayL nType ty) ++ numL nSize sz) ++ [anchorT la ne]) ++ numL nVersion ve) ++ sayL nNextNonce no) ++ numL nMaxMsgSize mm) ++ numL nMaxObjSize mo) = LL at *
        generalize LL.length = nl at *
        go_wp2_with fail
        refine cN.out.mono ?_
        rintro r Y ⟨⟨v, rfl, hat⟩, hby⟩
        obtain ⟨a6, c6, hv⟩ := hat.cells5
        have hz2 : Y.heap[w.heap.size + 1]? = some (.cells #[.int .i64 0, .string ⟨#[]⟩, .string ⟨#[]⟩, .bool false, .slice none 0 0] 46 (0, 0)) := (hby.block _ (by have := HBz.out; omega)).trans HR.out
        obtain ⟨hcs, hfz⟩ := cells_of hz2
        have u0 := hcs 0 _ rfl
        have u1 := hcs 1 _ rfl
        have u2 := hcs 2 _ rfl
        have u3 := hcs 3 _ rfl
        have u4 := hcs 4 _ rfl
        have hv2 : v = .agg #[.int .i64 0, .string nMeta, .string ByteArray.empty, .bool false, .slice a6 LL.length c6] := hv
        subst hv2
        clear hv
        have HFin := Lib.hid (stored_at (w := w) (w2 := Y) (g := w.heap.size + 1) (HBw.out.trans (hby.mono HBw.out.size)) (Nat.le_succ _) hat (fun b hb => by
          have h1 := HBz.out
          have h2 := hby.size
          omega))
        have HZz := Lib.hid hz2
        clear hcs hz2 hat hby
        generalize LL.length = nl at *
        go_wp2_with fail
        refine bodyPost_ret (results_cell_row rfl _ _ (w.heap.size + 1) 46 #[.int .i64 0, .string nMeta, .string ByteArray.empty, .bool false, .slice a6 nl c6] (0, 0) _ rfl (set5_row HZz.out) Tryd.underlying46 rfl (by kernel_rfl)) rfl ?_
        exact ⟨⟨_, rfl, by rw [HE2.out, HSL2.out]; exact AtQ.to (fun b hb => hb.2) _ _ HFin.out.1⟩, HFin.out.2⟩
  · have hqb : (q == 0) = false := by simpa using hq
    have HE2 : Hid (R = .mk 0 nMeta ByteArray.empty false []) := by unfold Hid; rw [HE.out, if_neg hq]
    clear HE
    go_enter Tryd.func40, Tryd.ntmps40
    go_wp2_with fail
    rw [HW4.out]
    refine (cC.out _ HB4.out).mono ?_
    rintro r X7 ⟨rfl, hb0⟩
    have H7 : Hid (StM w W4 [] X7) := ⟨⟨_, (hb0.block _ HX4.out.lt).trans HX4.out, RowQ.nil _ _⟩, BelowBut.of_below (hb0.mono HZl.out)⟩
    clear hb0 m0 m1 m2 m3 m4 m5 m6 m7 m8
    have HSL : Hid (([] : List Tr) = []) := rfl
    obtain ⟨⟨v, hx, hr⟩, hbb⟩ := H7.out
    obtain ⟨a, c, rfl, hk, ha⟩ := hr.atLQ
    have fl := hx.cell
    have hres := (hbb.block (w.heap.size + 1) (by omega) (by omega)).trans HRes.out
    have hBz : w.heap.size + 1 + 1 + 1 + 1 ≤ X7.heap.size := Nat.le_trans HZl.out hbb.size
    have cN := Lib.hid (nodeQ_any (fun b => w.heap.size + 1 + 1 + 1 + 1 ≤ b ∧ b < X7.heap.size) 0 nMeta (by decide) ([] : List Tr) a c X7 (fun b hb => hb.2) hk (Nat.le_trans (Nat.le_refl 0) (by decide)) ha)
    have HBw : Hid (Below w.heap.size w X7) := HB4.out.trans (hbb.below (by omega) (by omega))
    have HR := Lib.hid hres
    have HBz := Lib.hid hBz
    have HSL2 : Hid (([] : List Tr) = ([] : List Tr)) := HSL.out
    clear hx hr hbb hk ha hres hBz
    generalize hLLn : ([] : List Tr) = LL at *
    generalize LL.length = nl at *
    go_wp2_with fail
    refine cN.out.mono ?_
    rintro r Y ⟨⟨v, rfl, hat⟩, hby⟩
    obtain ⟨a6, c6, hv⟩ := hat.cells5
    have hz2 : Y.heap[w.heap.size + 1]? = some (.cells #[.int .i64 0, .string ⟨#[]⟩, .string ⟨#[]⟩, .bool false, .slice none 0 0] 46 (0, 0)) := (hby.block _ (by have := HBz.out; omega)).trans HR.out
    obtain ⟨hcs, hfz⟩ := cells_of hz2
    have u0 := hcs 0 _ rfl
    have u1 := hcs 1 _ rfl
    have u2 := hcs 2 _ rfl
    have u3 := hcs 3 _ rfl
    have u4 := hcs 4 _ rfl
    have hv2 : v = .agg #[.int .i64 0, .string nMeta, .string ByteArray.empty, .bool false, .slice a6 LL.length c6] := hv
    subst hv2
    clear hv
    have HFin := Lib.hid (stored_at (w := w) (w2 := Y) (g := w.heap.size + 1) (HBw.out.trans (hby.mono HBw.out.size)) (Nat.le_succ _) hat (fun b hb => by
      have h1 := HBz.out
      have h2 := hby.size
      omega))
    have HZz := Lib.hid hz2
    clear hcs hz2 hat hby
    generalize LL.length = nl at *
    go_wp2_with fail
    refine bodyPost_ret (results_cell_row rfl _ _ (w.heap.size + 1) 46 #[.int .i64 0, .string nMeta, .string ByteArray.empty, .bool false, .slice a6 nl c6] (0, 0) _ rfl (set5_row HZz.out) Tryd.underlying46 rfl (by kernel_rfl)) rfl ?_
    exact ⟨⟨_, rfl, by rw [HE2.out]; exact AtQ.to (fun b hb => hb.2) _ _ HFin.out.1⟩, HFin.out.2⟩
end Go.Proofs.YtgechifbbhipaaaDoor
