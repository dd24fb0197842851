/- devinf: store: a place as an element, the program's. No condition but sizes. -/
import Derived.Test.YtgechifbbhipaaaDoorDvY
set_option linter.unusedVariables false
set_option linter.unusedSimpArgs false
namespace Go.Proofs.YtgechifbbhipaaaDoor
open Go.RowKit

def nSourceRef : ByteArray := { data := #[83, 111, 117, 114, 99, 101, 82, 101, 102] }
def nDisplayName : ByteArray := { data := #[68, 105, 115, 112, 108, 97, 121, 78, 97, 109, 101] }
def nMaxGUID : ByteArray := { data := #[77, 97, 120, 71, 85, 73, 68, 83, 105, 122, 101] }
def nRx : ByteArray := { data := #[82, 120] }
def nTx : ByteArray := { data := #[84, 120] }
def nSyncType : ByteArray := { data := #[83, 121, 110, 99, 84, 121, 112, 101] }
def nSyncCap : ByteArray := { data := #[83, 121, 110, 99, 67, 97, 112] }
def nDataStore : ByteArray := { data := #[68, 97, 116, 97, 83, 116, 111, 114, 101] }
def kdL (l : List Int) : List Tr := l.map fun k => .mk 2 nSyncType (numD k) false []
def capT (l : List Int) : Tr := .mk 2 nSyncCap ByteArray.empty false (kdL l)
def mxL (n : Int) : List Tr := if n = 0 then [] else sayF nMaxGUID (numD n)
def placeL (p : Pl) : List Tr := ((((([] ++ sayF nSourceRef p.rf) ++ sayF nDisplayName p.nm) ++ mxL p.mx) ++ toldG nRx 0 p.tk) ++ toldG nTx 0 p.gv) ++ [capT p.kd]
/-- a place as an element -/
def storeT (p : Pl) : Tr := .mk 2 nDataStore ByteArray.empty false (placeL p)
theorem kdL_take (l : List Int) (i : Nat) (h : i < l.length) : kdL (l.take (i + 1)) = kdL (l.take i) ++ [.mk 2 nSyncType (numD l[i]) false []] := by
  unfold kdL; rw [List.take_succ_eq_append_getElem h, List.map_append]; rfl
theorem mxL_len (n : Int) : (mxL n).length ≤ 1 := by unfold mxL; split; simp; exact sayF_len _ _
/-- a cell that stays -/
abbrev SC (b j : Nat) (v : Value) (X : World) : Prop := X.cell? ⟨b, j, none⟩ = some v ∧ b < X.heap.size
theorem SC.bel {b j : Nat} {v : Value} {X Y : World} (h : SC b j v X) (hb : Below X.heap.size X Y) : SC b j v Y := ⟨(hb.cell (p := ⟨b, j, none⟩) h.2).trans h.1, Nat.lt_of_lt_of_le h.2 hb.size⟩
theorem SC.grown {b j : Nat} {v : Value} {X Y : World} {r : Option Nat} (h : SC b j v X) (hb : X.grownBy Y r) (hr : r ≠ some b) : SC b j v Y :=
  ⟨(World.cell?_of_block (a := ⟨b, j, none⟩) (hb.block b h.2 (fun e => hr e.symm))).trans h.1, Nat.lt_of_lt_of_le h.2 hb.size⟩
theorem SC.set {b j g k : Nat} {v u : Value} {X : World} (h : SC b j v X) (hne : b ≠ g) : SC b j v (X.setCell ⟨g, k, none⟩ u) :=
  ⟨(World.cell?_of_block (a := ⟨b, j, none⟩) (Below.heap_setCell _ _ _ _ hne)).trans h.1, by simpa [World.setCell] using h.2⟩
theorem SC.set5 {b j g : Nat} {v c0 c1 c2 c3 c4 : Value} {X : World} (h : SC b j v X) (hne : b ≠ g) : SC b j v (((((X.setCell ⟨g, 0, none⟩ c0).setCell ⟨g, 1, none⟩ c1).setCell ⟨g, 2, none⟩ c2).setCell ⟨g, 3, none⟩ c3).setCell ⟨g, 4, none⟩ c4) :=
  ((((h.set hne).set hne).set hne).set hne).set hne
theorem told_src (nm : ByteArray) (hnm : nm.size ≤ 1000) (l : List Fm) (hsz : ∀ f ∈ l, f.ty.size ≤ reachT ∧ f.ve.size ≤ reachT) (a : Option Addr) (cap : Nat) (hs : l.length ≤ 1000) (w : World) (hS : AtF w w.heap.size a l) :
    Calls Tryd.prog 126 #[.string nm, .slice a l.length cap] w fun r w' => (∃ ad cc news, r = .returned (.slice ad l.length cc) ∧ news.length = l.length * 5 ∧ KLQ w' (fun b => w.heap.size ≤ b ∧ b < w'.heap.size) (toldG nm 0 l) news ∧ (ad = none → l.length = 0 ∧ cc = 0) ∧ (∀ q, ad = some q → ∀ j u, news[j]? = some u → w'.cell? (q.add j) = some u) ∧ (∀ u ∈ news, u.oneCell' = true)) ∧ Below w.heap.size w w' := by
  refine (told_any nm hnm l hsz a cap hs w hS).mono ?_
  rintro r w' ⟨⟨v, rfl, hr⟩, hb⟩
  obtain ⟨ad, cc, news, rfl, h1, h2, h3, h4, h5⟩ := hr.src
  rw [toldG_len] at h1 h3 ⊢
  exact ⟨⟨ad, cc, news, rfl, h1, h2, h3, h4, h5⟩, hb⟩
/-- an element of a row -/
theorem node_row {Bq n c : Nat} {a : Option Addr} {ks : List Tr} (p : Int) (nm : ByteArray) (h0 : nm.size ≤ reachT) (w : World) (hr : RowQ w Bq (.slice a n c) ks) (hn : ks.length = n) (hk : n ≤ 1000000) (hB : Bq ≤ w.heap.size) :
    Calls Tryd.prog 64 #[.int .i64 p, .string nm, .slice a n c] w fun r w' => (∃ a6 c6, r = .returned (.agg #[.int .i64 p, .string nm, .string ByteArray.empty, .bool false, .slice a6 n c6]) ∧ AtQ w' (fun b => Bq ≤ b ∧ b < w'.heap.size) (.mk p nm ByteArray.empty false ks) (.agg #[.int .i64 p, .string nm, .string ByteArray.empty, .bool false, .slice a6 n c6])) ∧ Below w.heap.size w w' := by
  subst hn
  obtain ⟨a9, c9, he, hl, hnn⟩ := hr.atLQ
  simp only [Value.slice.injEq, true_and] at he
  obtain ⟨rfl, rfl⟩ := he
  refine (nodeQ_any (fun b => Bq ≤ b ∧ b < w.heap.size) p nm h0 ks a c w (fun b hb => hb.2) hl hk hnn).mono ?_
  rintro r w' ⟨⟨v, rfl, hat⟩, hb⟩
  obtain ⟨a6, c6, rfl⟩ := hat.cells5
  exact ⟨⟨a6, c6, rfl, AtQ.keep (fun b h => ⟨by have := hb.size; omega, rfl⟩) _ _ hat⟩, hb⟩
theorem node_rowL {Bq n c : Nat} {a : Option Addr} {ks : List Tr} (p : Int) (nm : ByteArray) (h0 : nm.size ≤ reachT) (w : World) (hr : RowL w Bq (.slice a n c) ks) (hn : ks.length = n) (hk : n ≤ 1000000) (hB : Bq ≤ w.heap.size) :
    Calls Tryd.prog 64 #[.int .i64 p, .string nm, .slice a n c] w fun r w' => (∃ a6 c6, r = .returned (.agg #[.int .i64 p, .string nm, .string ByteArray.empty, .bool false, .slice a6 n c6]) ∧ AtQ w' (fun b => Bq ≤ b ∧ b < w'.heap.size) (.mk p nm ByteArray.empty false ks) (.agg #[.int .i64 p, .string nm, .string ByteArray.empty, .bool false, .slice a6 n c6])) ∧ Below w.heap.size w w' := by
  subst hn
  obtain ⟨a9, c9, he, hl, hnn⟩ := hr.atLQ
  simp only [Value.slice.injEq, true_and] at he
  obtain ⟨rfl, rfl⟩ := he
  refine (nodeQ_any (fun b => Bq ≤ b ∧ b < w.heap.size) p nm h0 ks a c w (fun b hb => hb.2) hl hk hnn).mono ?_
  rintro r w' ⟨⟨v, rfl, hat⟩, hb⟩
  obtain ⟨a6, c6, rfl⟩ := hat.cells5
  exact ⟨⟨a6, c6, rfl, AtQ.keep (fun b h => ⟨by have := hb.size; omega, rfl⟩) _ _ hat⟩, hb⟩
set_option maxRecDepth 100000 in
set_option maxHeartbeats 16000000 in
theorem store_any (p : Pl) (cs : Array Value) (hz1 : p.rf.size ≤ reachT) (hz2 : p.nm.size ≤ reachT) (hz3 : ∀ f ∈ p.tk, f.ty.size ≤ reachT ∧ f.ve.size ≤ reachT) (hz4 : ∀ f ∈ p.gv, f.ty.size ≤ reachT ∧ f.ve.size ≤ reachT) (hl1 : p.tk.length ≤ 200) (hl2 : p.gv.length ≤ 200) (hl3 : p.kd.length ≤ 200) (w : World) (hp : AtP w w.heap.size p cs) :
    Calls Tryd.prog 65 #[.agg cs] w fun r w' => (∃ v, r = .returned v ∧ AtQ w' (fun b => w.heap.size ≤ b ∧ b < w'.heap.size) (storeT p) v) ∧ Below w.heap.size w w' := by
  obtain ⟨a1, c1, a2, c2, a3, c3, rfl, h1, h2, h3, hkd, hm1, hm2, _⟩ := hp
  obtain ⟨rf, nm, mx, tk, gv, kd⟩ := p
  simp only [cellsP] at h1 h2 h3 hkd hm1 hm2 hz1 hz2 hz3 hz4 hl1 hl2 hl3 ⊢
  obtain ⟨W3, hW3⟩ : ∃ W3, ((w.alloc (.cells #[.string rf, .string nm, .int .i64 mx, .slice a1 tk.length c1, .slice a2 gv.length c2, .slice a3 kd.length c3] 87)).alloc (.cells #[.int .i64 0, .string ⟨#[]⟩, .string ⟨#[]⟩, .bool false, .slice none 0 0] 46)).alloc (.cells #[.slice none 0 0] 44) = W3 := ⟨_, rfl⟩
  have hB3 : Below w.heap.size w W3 := by rw [← hW3]; exact (((Below.refl _ w).alloc (Nat.le_refl _) _).alloc (by simp) _).alloc (by simp only [World.size_alloc]; omega) _
  have hZ3 : W3.heap.size = w.heap.size + 1 + 1 + 1 := by rw [← hW3]; simp
  have hE1 : ((w.alloc (.cells #[.string rf, .string nm, .int .i64 mx, .slice a1 tk.length c1, .slice a2 gv.length c2, .slice a3 kd.length c3] 87)).alloc (.cells #[.int .i64 0, .string ⟨#[]⟩, .string ⟨#[]⟩, .bool false, .slice none 0 0] 46)).heap[w.heap.size + 1]? = some (.cells #[.int .i64 0, .string ⟨#[]⟩, .string ⟨#[]⟩, .bool false, .slice none 0 0] 46 (0, 0)) := by have := World.alloc_heap_new (w.alloc (.cells #[.string rf, .string nm, .int .i64 mx, .slice a1 tk.length c1, .slice a2 gv.length c2, .slice a3 kd.length c3] 87)) (.cells #[.int .i64 0, .string ⟨#[]⟩, .string ⟨#[]⟩, .bool false, .slice none 0 0] 46); rwa [World.size_alloc] at this
  have hres : W3.heap[w.heap.size + 1]? = some (.cells #[.int .i64 0, .string ⟨#[]⟩, .string ⟨#[]⟩, .bool false, .slice none 0 0] 46 (0, 0)) := by rw [← hW3, Below.heap_alloc _ _ _ (by simp)]; exact hE1
  have hbx : Boxed W3 (w.heap.size + 1 + 1) 44 (.slice none 0 0) := by unfold Boxed; rw [← hW3]; have := World.alloc_heap_new ((w.alloc (.cells #[.string rf, .string nm, .int .i64 mx, .slice a1 tk.length c1, .slice a2 gv.length c2, .slice a3 kd.length c3] 87)).alloc (.cells #[.int .i64 0, .string ⟨#[]⟩, .string ⟨#[]⟩, .bool false, .slice none 0 0] 46)) (.cells #[.slice none 0 0] 44); rwa [World.size_alloc, World.size_alloc] at this
  have hBp : ∀ j v, (#[.string rf, .string nm, .int .i64 mx, .slice a1 tk.length c1, .slice a2 gv.length c2, .slice a3 kd.length c3] : Array Value)[j]? = some v → W3.cell? ⟨w.heap.size, j, none⟩ = some v := fun j v hv => by
    rw [← hW3]; exact cell_allocG (cell_allocG ((World.cell?_alloc_at _ _ _ _ rfl).trans hv) _) _
  have HW3 := Lib.hid hW3
  have HB3 := Lib.hid hB3
  have HRes := Lib.hid hres
  have HBp := Lib.hid hBp
  have HX3 := Lib.hid hbx
  have HZl : Hid ((w.heap.size + 1 + 1 + 1) ≤ W3.heap.size) := Nat.le_of_eq hZ3.symm
  have S1 := Lib.hid hz1
  have S2 := Lib.hid hz2
  have S3 := Lib.hid hz3
  have S4 := Lib.hid hz4
  have L1 := Lib.hid hl1
  have L2 := Lib.hid hl2
  have L3 := Lib.hid hl3
  have A1 := Lib.hid h1
  have A2 := Lib.hid h2
  have A3 := Lib.hid h3
  have KD := Lib.hid hkd
  have M1 := Lib.hid hm1
  have M2 := Lib.hid hm2
  have HST : Hid (storeT ⟨rf, nm, mx, tk, gv, kd⟩ = .mk 2 nDataStore ByteArray.empty false (((((([] ++ sayF nSourceRef rf) ++ sayF nDisplayName nm) ++ mxL mx) ++ toldG nRx 0 tk) ++ toldG nTx 0 gv) ++ [capT kd])) := rfl
  have m0 := hBp 0 _ rfl
  have m1 := hBp 1 _ rfl
  have m2 := hBp 2 _ rfl
  clear hW3 hB3 hZ3 hE1 hres hbx hBp hz1 hz2 hz3 hz4 hl1 hl2 hl3 h1 h2 h3 hkd hm1 hm2
  generalize storeT ⟨rf, nm, mx, tk, gv, kd⟩ = R at *
  have hmf : ∀ (fn : Fn) (first cap : Array Value) (w : World), (Instr.makeFunc fn first cap).run Tryd.prog w = .ok (.func fn first cap) w := fun _ _ _ _ => rfl
  go_enter Tryd.func65, Tryd.ntmps65
  go_wp2_with fail
  rw [HW3.out]
  have H0 : Hid (StP (w.heap.size + 1 + 1) (w.heap.size + 1 + 1 + 1) W3 ([] : List Tr) W3) := ⟨⟨_, HX3.out, RowQ.nil _ _⟩, BelowBut.refl _ _ _⟩
  refine (H0.out.sayP (by omega) HZl.out (by decide) nSourceRef rf (by decide) S1.out).mono ?_
  rintro r X1 ⟨⟨u, rfl⟩, hst⟩
  have H1 := Lib.hid hst
  clear hst m0 m1 m2
  have f1 := H1.out.old (b := w.heap.size) (by omega) (by omega) (HBp.out 1 _ rfl)
  go_wp2_with fail
  have l1 := sayF_len nSourceRef rf
  refine (H1.out.sayP (by omega) HZl.out (by simp; omega) nDisplayName nm (by decide) S2.out).mono ?_
  rintro r X2 ⟨⟨u, rfl⟩, hst⟩
  have H2 := Lib.hid hst
  have HL2 : Hid ((([] ++ sayF nSourceRef rf) ++ sayF nDisplayName nm).length ≤ 2) := by have l2 := sayF_len nDisplayName nm; unfold Hid; simp; omega
  clear hst f1 l1
  have f2 := H2.out.old (b := w.heap.size) (by omega) (by omega) (HBp.out 2 _ rfl)
  go_upto_if 19 with (fail)
  go_cut [] from 19 to 24 (fun wc => StP (w.heap.size + 1 + 1) (w.heap.size + 1 + 1 + 1) W3 ((([] ++ sayF nSourceRef rf) ++ sayF nDisplayName nm) ++ mxL mx) wc)
  case first =>
    by_cases hmx : mx = 0
    · have e0 : (mx != 0) = false := by simpa using hmx
      have HE : Hid (mxL mx = []) := by unfold Hid mxL; rw [if_pos hmx]
      clear hmx
      go_wp2_with fail
      go_meet
      rw [HE.out, List.append_nil]
      exact H2.out
    · have e0 : (mx != 0) = true := by simpa using hmx
      have HE : Hid (mxL mx = sayF nMaxGUID (numD mx)) := by unfold Hid mxL; rw [if_neg hmx]
      have cX : Hid (∀ X, Calls Tryd.prog 108 #[.int .i64 mx] X fun e w' => e = .returned (.string (numD mx)) ∧ Below X.heap.size X w') := fun X => text_any mx X M1.out M2.out
      have HNS : Hid ((numD mx).size ≤ reachT) := by have := (numD_size mx).2; unfold Hid reachT; omega
      generalize numD mx = nx at *
      clear hmx
      go_wp2_with (go_at_call 108; (with_reducible refine (cX.out _).mono ?_); rintro r X ⟨rfl, hb9⟩; have HX := Lib.hid (H2.out.below (Nat.le_trans HZl.out H2.out.2.size) hb9))
      refine (HX.out.sayP (by omega) HZl.out (by have := HL2.out; omega) nMaxGUID nx (by decide) HNS.out).mono ?_
      rintro r X3 ⟨⟨u, rfl⟩, hst⟩
      have HS3 := Lib.hid hst
      clear hst
      go_wp2_with fail
      go_meet
      rw [HE.out]
      exact HS3.out
  case rest =>
    have H3 : Hid (StP (w.heap.size + 1 + 1) (w.heap.size + 1 + 1 + 1) W3 ((([] ++ sayF nSourceRef rf) ++ sayF nDisplayName nm) ++ mxL mx) wc) := hcut
    have HLN : Hid (((([] ++ sayF nSourceRef rf) ++ sayF nDisplayName nm) ++ mxL mx).length ≤ 3) := by have h := HL2.out; have h2 := mxL_len mx; unfold Hid; rw [List.length_append]; omega
    clear hcut f2
    obtain ⟨X3, hX3⟩ : ∃ X3, X3 = wc := ⟨_, rfl⟩
    subst hX3
    go_upto_region 7 with fail
    go_cut [] from 25 to 29 (fun wc => StP (w.heap.size + 1 + 1) (w.heap.size + 1 + 1 + 1) W3 (((([] ++ sayF nSourceRef rf) ++ sayF nDisplayName nm) ++ mxL mx) ++ toldG nRx 0 tk) wc)
    case first =>
      have HKS := HLN.out
      generalize ((([] ++ sayF nSourceRef rf) ++ sayF nDisplayName nm) ++ mxL mx) = ks at *
      have hks9 : ks.length ≤ 900 := by omega
      have HBw : Hid (Below w.heap.size w X3) := HB3.out.trans (H3.out.2.below (by omega) (by omega))
      have fa := H3.out.old (b := w.heap.size) (by omega) (by omega) (HBp.out 3 _ rfl)
      obtain ⟨⟨v, hx, hr⟩, hbb⟩ := H3.out
      have HBx : Hid ((w.heap.size + 1 + 1 + 1) ≤ X3.heap.size) := Nat.le_trans HZl.out hbb.size
      have HBB := Lib.hid hbb
      obtain ⟨xs, ho, hq⟩ := hr
      have hc := hx.cell
      obtain ⟨a, c, rfl⟩ := own_form ho
      have HO : Hid (∀ Y, Below X3.heap.size X3 Y → Y.ownsRow (w.heap.size + 1 + 1 + 1) 46 5 (.slice a ks.length c) ks.length xs) := fun Y hY => owns_keep ho (fun k hk => hY.block k (ho.lt k hk).2)
      have HQ := Lib.hid hq
      have HOW := Lib.hid ho
      have HBX : Hid (∀ Y, Below X3.heap.size X3 Y → Boxed Y (w.heap.size + 1 + 1) 44 (.slice a ks.length c)) := fun Y hY => (hY.block (w.heap.size + 1 + 1) hx.lt).trans hx
      have HNE : Hid (some (w.heap.size + 1 + 1) ≠ (.slice a ks.length c : Value).ownBlock) := fun e => by have := (ho.lt (w.heap.size + 1 + 1) e.symm).1; omega
      have HNP : Hid ((.slice a ks.length c : Value).ownBlock ≠ some w.heap.size) := fun e => by have := (ho.lt w.heap.size e).1; omega
      have HNR : Hid ((.slice a ks.length c : Value).ownBlock ≠ some (w.heap.size + 1)) := fun e => by have := (ho.lt (w.heap.size + 1) e).1; omega
      have HNL : Hid (w.heap.size ≠ (w.heap.size + 1 + 1)) := by unfold Hid; omega
      have HLT : Hid ((w.heap.size + 1 + 1) < X3.heap.size) := hx.lt
      clear ho hq hx hbb
      generalize hnn : ks.length = n at *
      have HNN := Lib.hid hnn
      clear hnn
      obtain ⟨i0, hi0, hz0, hz1, hz2⟩ := info24
      have HI := Lib.hid hi0
      have HZ0 := Lib.hid hz0
      have HZ1 := Lib.hid hz1
      have HZ2 := Lib.hid hz2
      clear hi0 hz0 hz1 hz2
      have HD : Hid (Below X3.heap.size X3 X3.drew) := (Below.refl _ X3).drew
      have hl9 := L1.out
      have HBY : Hid ((n + tk.length) * 72 ≤ 140737488355328) := by unfold Hid; omega
      have H63 : Hid (n + tk.length ≤ maxLen) := by unfold Hid maxLen; omega
      have cT := Lib.hid (fun Y (hY : Below w.heap.size w Y) => told_src nRx (by decide) tk S3.out a1 c1 (by omega) Y ((A1.out.below hY).mono hY.size))
      unfold nRx at cT
      clear hl9 hks9
      have HSC : SC w.heap.size 3 (.slice a1 tk.length c1) X3 := ⟨fa, Nat.lt_of_lt_of_le (by omega) HBx.out⟩
      go_region_law (first | (go_simp; go_at_call 126; (with_reducible refine (cT.out _ ?_).mono ?_); (first | exact HBw.out | exact HBw.out.drew); rintro r w1 ⟨⟨ad, cc, news, rfl, g1, g2, g3, g4, g5⟩, hb9⟩; have HT1 : Hid (Below X3.heap.size X3 w1) := (by first | exact (HD.out.trans (hb9.mono HD.out.size)) | exact hb9); have G1 := Lib.hid g1; have G2 := Lib.hid g2; have G3 := Lib.hid g3; have G4 := Lib.hid g4; have G5 := Lib.hid g5; clear g1 g2 g3 g4 g5; have hcb1 : w1.cell? ⟨(w.heap.size + 1 + 1), 0, none⟩ = some (.slice a n c) := Boxed.cell (HBX.out _ HT1.out)) | (refine step_appR rfl (.tmp 25) (.tmp 28) 44 rfl (w.heap.size + 1 + 1 + 1) 46 i0 _ 5 72 Tryd.underlying44 HI.out HZ0.out HZ1.out HZ2.out rfl (by decide) _ n xs rfl (HO.out _ HT1.out) ad tk.length cc news rfl G1.out G3.out G4.out G5.out H63.out HBY.out (Nat.le_trans HBx.out (Below.size HT1.out)) (fun a' c' w' k1 k2 k3 => ?_); have hbx : Boxed w' (w.heap.size + 1 + 1) 44 (.slice a n c) := Boxed.kept (HBX.out _ HT1.out) k2 HNE.out; have hcb := hbx.cell; have hfb := hbx.frozen; have HFIN := Lib.hid (StP.put HBB.out HBx.out HT1.out k2 (fun b hb => (HOW.out.lt b hb).1) (Nat.lt_succ_self _) hbx (push_many HNN.out (toldG_len _ _ _) HOW.out HQ.out HT1.out HBx.out (Nat.le_refl _) (Nat.le_refl _) G2.out k1 k2 k3))) | fail)
      all_goals
        go_wp2_with fail
        go_meet
        exact HFIN.out
    case rest =>
      have H4 : Hid (StP (w.heap.size + 1 + 1) (w.heap.size + 1 + 1 + 1) W3 (((([] ++ sayF nSourceRef rf) ++ sayF nDisplayName nm) ++ mxL mx) ++ toldG nRx 0 tk) wc) := hcut
      have HLN4 : Hid ((((([] ++ sayF nSourceRef rf) ++ sayF nDisplayName nm) ++ mxL mx) ++ toldG nRx 0 tk).length ≤ 203) := by have h := HLN.out; have h2 := L1.out; unfold Hid; rw [List.length_append, toldG_len]; omega
      clear hcut HLN
      have HLN := Lib.hid HLN4.out
      clear HLN4
      obtain ⟨X4, hX4⟩ : ∃ X4, X4 = wc := ⟨_, rfl⟩
      subst hX4
      go_upto_region 8 with fail
      go_cut [] from 30 to 34 (fun wc => StP (w.heap.size + 1 + 1) (w.heap.size + 1 + 1 + 1) W3 ((((([] ++ sayF nSourceRef rf) ++ sayF nDisplayName nm) ++ mxL mx) ++ toldG nRx 0 tk) ++ toldG nTx 0 gv) wc)
      case first =>
        have HKS := HLN.out
        generalize (((([] ++ sayF nSourceRef rf) ++ sayF nDisplayName nm) ++ mxL mx) ++ toldG nRx 0 tk) = ks at *
        have hks9 : ks.length ≤ 900 := by omega
        have HBw : Hid (Below w.heap.size w X4) := HB3.out.trans (H4.out.2.below (by omega) (by omega))
        have fa := H4.out.old (b := w.heap.size) (by omega) (by omega) (HBp.out 4 _ rfl)
        obtain ⟨⟨v, hx, hr⟩, hbb⟩ := H4.out
        have HBx : Hid ((w.heap.size + 1 + 1 + 1) ≤ X4.heap.size) := Nat.le_trans HZl.out hbb.size
        have HBB := Lib.hid hbb
        obtain ⟨xs, ho, hq⟩ := hr
        have hc := hx.cell
        obtain ⟨a, c, rfl⟩ := own_form ho
        have HO : Hid (∀ Y, Below X4.heap.size X4 Y → Y.ownsRow (w.heap.size + 1 + 1 + 1) 46 5 (.slice a ks.length c) ks.length xs) := fun Y hY => owns_keep ho (fun k hk => hY.block k (ho.lt k hk).2)
        have HQ := Lib.hid hq
        have HOW := Lib.hid ho
        have HBX : Hid (∀ Y, Below X4.heap.size X4 Y → Boxed Y (w.heap.size + 1 + 1) 44 (.slice a ks.length c)) := fun Y hY => (hY.block (w.heap.size + 1 + 1) hx.lt).trans hx
        have HNE : Hid (some (w.heap.size + 1 + 1) ≠ (.slice a ks.length c : Value).ownBlock) := fun e => by have := (ho.lt (w.heap.size + 1 + 1) e.symm).1; omega
        have HNP : Hid ((.slice a ks.length c : Value).ownBlock ≠ some w.heap.size) := fun e => by have := (ho.lt w.heap.size e).1; omega
        have HNR : Hid ((.slice a ks.length c : Value).ownBlock ≠ some (w.heap.size + 1)) := fun e => by have := (ho.lt (w.heap.size + 1) e).1; omega
        have HNL : Hid (w.heap.size ≠ (w.heap.size + 1 + 1)) := by unfold Hid; omega
        have HLT : Hid ((w.heap.size + 1 + 1) < X4.heap.size) := hx.lt
        clear ho hq hx hbb
        generalize hnn : ks.length = n at *
        have HNN := Lib.hid hnn
        clear hnn
        obtain ⟨i0, hi0, hz0, hz1, hz2⟩ := info24
        have HI := Lib.hid hi0
        have HZ0 := Lib.hid hz0
        have HZ1 := Lib.hid hz1
        have HZ2 := Lib.hid hz2
        clear hi0 hz0 hz1 hz2
        have HD : Hid (Below X4.heap.size X4 X4.drew) := (Below.refl _ X4).drew
        have hl9 := L2.out
        have HBY : Hid ((n + gv.length) * 72 ≤ 140737488355328) := by unfold Hid; omega
        have H63 : Hid (n + gv.length ≤ maxLen) := by unfold Hid maxLen; omega
        have cT := Lib.hid (fun Y (hY : Below w.heap.size w Y) => told_src nTx (by decide) gv S4.out a2 c2 (by omega) Y ((A2.out.below hY).mono hY.size))
        unfold nTx at cT
        clear hl9 hks9
        have HSC : SC w.heap.size 4 (.slice a2 gv.length c2) X4 := ⟨fa, Nat.lt_of_lt_of_le (by omega) HBx.out⟩
        go_region_law (first | (go_simp; go_at_call 126; (with_reducible refine (cT.out _ ?_).mono ?_); (first | exact HBw.out | exact HBw.out.drew); rintro r w1 ⟨⟨ad, cc, news, rfl, g1, g2, g3, g4, g5⟩, hb9⟩; have HT1 : Hid (Below X4.heap.size X4 w1) := (by first | exact (HD.out.trans (hb9.mono HD.out.size)) | exact hb9); have G1 := Lib.hid g1; have G2 := Lib.hid g2; have G3 := Lib.hid g3; have G4 := Lib.hid g4; have G5 := Lib.hid g5; clear g1 g2 g3 g4 g5; have hcb1 : w1.cell? ⟨(w.heap.size + 1 + 1), 0, none⟩ = some (.slice a n c) := Boxed.cell (HBX.out _ HT1.out)) | (refine step_appR rfl (.tmp 30) (.tmp 33) 44 rfl (w.heap.size + 1 + 1 + 1) 46 i0 _ 5 72 Tryd.underlying44 HI.out HZ0.out HZ1.out HZ2.out rfl (by decide) _ n xs rfl (HO.out _ HT1.out) ad gv.length cc news rfl G1.out G3.out G4.out G5.out H63.out HBY.out (Nat.le_trans HBx.out (Below.size HT1.out)) (fun a' c' w' k1 k2 k3 => ?_); have hbx : Boxed w' (w.heap.size + 1 + 1) 44 (.slice a n c) := Boxed.kept (HBX.out _ HT1.out) k2 HNE.out; have hcb := hbx.cell; have hfb := hbx.frozen; have HFIN := Lib.hid (StP.put HBB.out HBx.out HT1.out k2 (fun b hb => (HOW.out.lt b hb).1) (Nat.lt_succ_self _) hbx (push_many HNN.out (toldG_len _ _ _) HOW.out HQ.out HT1.out HBx.out (Nat.le_refl _) (Nat.le_refl _) G2.out k1 k2 k3))) | fail)
        all_goals
          go_wp2_with fail
          go_meet
          exact HFIN.out
      case rest =>
        have H5 : Hid (StP (w.heap.size + 1 + 1) (w.heap.size + 1 + 1 + 1) W3 ((((([] ++ sayF nSourceRef rf) ++ sayF nDisplayName nm) ++ mxL mx) ++ toldG nRx 0 tk) ++ toldG nTx 0 gv) wc) := hcut
        have HLN5 : Hid (((((([] ++ sayF nSourceRef rf) ++ sayF nDisplayName nm) ++ mxL mx) ++ toldG nRx 0 tk) ++ toldG nTx 0 gv).length ≤ 403) := by have h := HLN.out; have h2 := L2.out; unfold Hid; rw [List.length_append, toldG_len]; omega
        clear hcut HLN
        obtain ⟨X5, hX5⟩ : ∃ X5, X5 = wc := ⟨_, rfl⟩
        subst hX5
        have HBw5 : Hid (Below w.heap.size w X5) := HB3.out.trans (H5.out.2.below (by omega) (by omega))
        have f5 := H5.out.old (b := w.heap.size) (by omega) (by omega) (HBp.out 5 _ rfl)
        go_wp2_with fail
        go_loopw [4, 7, 38] (fun kv _ iv wr => ∃ i : Nat, i ≤ kd.length ∧ iv = .int .i64 (i : Int) ∧ Hid (RowL wr X5.heap.size kv (kdL (kd.take i))) ∧ Hid (Below X5.heap.size X5 wr)) (fun _ _ iv _ => kd.length - (intOf iv).toNat)
        case atStart => exact ⟨0, Nat.zero_le _, rfl, RowL.nil _ _, Below.refl _ _⟩
        case round =>
          obtain ⟨i, hi, rfl, HR, HB⟩ := hrel
          clear f5
          by_cases hlt : i < kd.length
          · obtain ⟨b, o, rfl, hbl, hc0⟩ := A3.out i hlt
            have hl3 := L3.out
            have k0 : (0 : Int) ≤ (i : Int) := by omega
            have k1 : (i : Int) < (kd.length : Int) := by omega
            have k2 : decide (i < kd.length) = true := by simp; omega
            have hbw := HBw5.out.trans (HB.out.mono HBw5.out.size)
            have hc : wr.rangeAt b (o + i * 1) [.int .i64 kd[i]] := fun j u hu => (hbw.cell (p := ⟨b, o + i * 1 + j, none⟩) hbl).trans (hc0 j u hu)
            have y0 := hc 0 _ rfl
            simp only [Nat.add_zero, Nat.mul_one] at y0
            obtain ⟨hx1, hx2⟩ := KD.out _ (List.getElem_mem hlt)
            have HTK := Lib.hid (kdL_take kd i hlt)
            have HLK : Hid ((kdL (kd.take i)).length = i) := by unfold Hid kdL; rw [List.length_map, List.length_take, Nat.min_eq_left (by omega)]
            have cX : Hid (∀ X, Calls Tryd.prog 108 #[.int .i64 kd[i]] X fun e w' => e = .returned (.string (numD kd[i])) ∧ Below X.heap.size X w') := fun X => text_any kd[i] X hx1 hx2
            have HNS : Hid ((numD kd[i]).size ≤ reachT) := by have := (numD_size kd[i]).2; unfold Hid reachT; omega
            clear hc0 hc hbl hbw hx1 hx2
            generalize numD kd[i] = ND at *
            generalize kd[i] = x at *
            generalize kdL (kd.take i) = ks2 at *
            obtain ⟨xs, ho, hq⟩ := HR.out
            obtain ⟨a0, c0, rfl⟩ := own_form ho
            have hmi := HLK.out
            generalize hm : ks2.length = m at *
            have HML := Lib.hid hm
            have HQ := Lib.hid hq
            have HO : Hid (∀ Y, Below wr.heap.size wr Y → Y.ownsRow X5.heap.size 46 5 (.slice a0 m c0) m xs) := fun Y hY => owns_keep ho (fun k hk => hY.block k (ho.lt k hk).2)
            have HBY : Hid ((m + 1) * 72 ≤ 140737488355328) := by unfold Hid; omega
            have H63 : Hid (m + 1 ≤ maxLen) := by unfold Hid maxLen; omega
            clear hm ho hq HR hmi HLK
            obtain ⟨i0, hi0, hz0, hz1, hz2⟩ := info24
            have HI := Lib.hid hi0
            have HZ0 := Lib.hid hz0
            have HZ1 := Lib.hid hz1
            have HZ2 := Lib.hid hz2
            clear hi0 hz0 hz1 hz2
            have cL := Lib.hid (fun X => leaf_any 2 nSyncType ND X)
            have HRP : Hid (∀ (W' : World) (a' : Option Addr) (c' : Nat), W'.ownsRow X5.heap.size 46 5 (.slice a' (m + 1) c') (m + 1) (xs ++ [.int .i64 2, .string nSyncType, .string ND, .bool false, .slice none 0 0]) → RowL W' X5.heap.size (.slice a' (m + 1) c') (ks2 ++ [.mk 2 nSyncType ND false []])) := fun W' a' c' h => RowL.push (w := wr) (X := wr) (c := 0) (a := none) HML.out (by decide) HNS.out HQ.out h
            unfold nSyncType at cL
            have HW1 : Hid (wrap64 ((i : Int) + 1) = (i : Int) + 1) := by unfold Hid wrap64; omega
            go_wp2_with (first | (go_at_call 108; (with_reducible refine (cX.out _).mono ?_); rintro r w1 ⟨rfl, hb1⟩; have HT1 := Lib.hid hb1) | (go_at_call 63; (with_reducible refine (cL.out _).mono ?_); rintro r w2 ⟨rfl, hb2⟩; have HT2 := Lib.hid (HT1.out.trans (hb2.mono HT1.out.size))) | (at_builtin; go_must (refine wpList_appR rfl _ _ 44 rfl X5.heap.size 46 i0 _ 5 72 Tryd.underlying44 HI.out HZ0.out HZ1.out HZ2.out rfl (by decide) _ m xs rfl (HO.out _ (HT2.out.alloc HT2.out.size _)) _ 1 1 [.int .i64 2, .string { data := #[83, 121, 110, 99, 84, 121, 112, 101] }, .string ND, .bool false, .slice none 0 0] rfl rfl (fun h => by cases h) (new_cells (Below.refl _ _)) (by simp [Value.oneCell']) H63.out HBY.out (Nat.le_trans HB.out.size (Below.size (HT2.out.alloc HT2.out.size _))) ?_; intro a' c' w' q1 q2 q3)))
            have HQ1 := Lib.hid q1
            have HBN := Lib.hid (HB.out.trans (((HT2.out.alloc HT2.out.size _).mono HB.out.size).trans q2))
            clear q1 q2 q3
            go_roundw
            case rel => exact ⟨i + 1, by omega, by go_num, by rw [HTK.out]; exact HRP.out _ _ _ HQ1.out, HBN.out⟩
            case measure => simp [intOf]; omega
          · have k1 : ¬ (i : Int) < (kd.length : Int) := by omega
            have k2 : decide (i < kd.length) = false := by simp; omega
            have hti : kd.take i = kd := List.take_of_length_le (by omega)
            rw [hti] at HR
            clear hti
            obtain ⟨xs9, ho9, hq9⟩ := HR.out
            obtain ⟨a9, c9, rfl⟩ := own_form ho9
            have HRK : Hid (RowL wr X5.heap.size (.slice a9 (kdL kd).length c9) (kdL kd)) := ⟨xs9, ho9, hq9⟩
            have hkn : (kdL kd).length ≤ 1000 := by unfold kdL; rw [List.length_map]; have := L3.out; omega
            clear ho9 hq9 HR
            generalize hnk : (kdL kd).length = nk at *
            have HNK := Lib.hid hnk
            clear hnk
            have HKN := Lib.hid hkn
            clear hkn
            have hcw := HB.out
            have HKS := HLN5.out
            generalize ((((([] ++ sayF nSourceRef rf) ++ sayF nDisplayName nm) ++ mxL mx) ++ toldG nRx 0 tk) ++ toldG nTx 0 gv) = ks at *
            have hks9 : ks.length ≤ 900 := by omega
            have hres5 : X5.heap[w.heap.size + 1]? = some (.cells #[.int .i64 0, .string ⟨#[]⟩, .string ⟨#[]⟩, .bool false, .slice none 0 0] 46 (0, 0)) := (H5.out.2.block (w.heap.size + 1) (by omega) (by omega)).trans HRes.out
            have HR5 := Lib.hid hres5
            clear hres5
            obtain ⟨⟨v, hx, hr⟩, hbb⟩ := H5.out
            have HBx : Hid ((w.heap.size + 1 + 1 + 1) ≤ X5.heap.size) := Nat.le_trans HZl.out hbb.size
            have HBB := Lib.hid hbb
            obtain ⟨xs, ho, hq⟩ := hr
            have hc := hx.cell
            obtain ⟨a, c, rfl⟩ := own_form ho
            have HO : Hid (∀ Y, Below X5.heap.size X5 Y → Y.ownsRow (w.heap.size + 1 + 1 + 1) 46 5 (.slice a ks.length c) ks.length xs) := fun Y hY => owns_keep ho (fun k hk => hY.block k (ho.lt k hk).2)
            have HQ := Lib.hid hq
            have HOW := Lib.hid ho
            have HBX : Hid (∀ Y, Below X5.heap.size X5 Y → Boxed Y (w.heap.size + 1 + 1) 44 (.slice a ks.length c)) := fun Y hY => (hY.block (w.heap.size + 1 + 1) hx.lt).trans hx
            have HNE : Hid (some (w.heap.size + 1 + 1) ≠ (.slice a ks.length c : Value).ownBlock) := fun e => by have := (ho.lt (w.heap.size + 1 + 1) e.symm).1; omega
            have HNP : Hid ((.slice a ks.length c : Value).ownBlock ≠ some w.heap.size) := fun e => by have := (ho.lt w.heap.size e).1; omega
            have HNR : Hid ((.slice a ks.length c : Value).ownBlock ≠ some (w.heap.size + 1)) := fun e => by have := (ho.lt (w.heap.size + 1) e).1; omega
            have HNL : Hid (w.heap.size ≠ (w.heap.size + 1 + 1)) := by unfold Hid; omega
            have HLT : Hid ((w.heap.size + 1 + 1) < X5.heap.size) := hx.lt
            clear ho hq hx hbb
            generalize hnn : ks.length = n at *
            have HNN := Lib.hid hnn
            clear hnn
            obtain ⟨i0, hi0, hz0, hz1, hz2⟩ := info24
            have HI := Lib.hid hi0
            have HZ0 := Lib.hid hz0
            have HZ1 := Lib.hid hz1
            have HZ2 := Lib.hid hz2
            clear hi0 hz0 hz1 hz2
            have HD : Hid (Below X5.heap.size X5 X5.drew) := (Below.refl _ X5).drew
            have hc6 : wr.cell? ⟨(w.heap.size + 1 + 1), 0, none⟩ = some (.slice a n c) := (hcw.cell (p := ⟨(w.heap.size + 1 + 1), 0, none⟩) HLT.out).trans hc
            have HSC : SC (w.heap.size + 1 + 1) 0 (.slice a n c) wr := ⟨hc6, Nat.lt_of_lt_of_le HLT.out hcw.size⟩
            have HBY : Hid ((n + 1) * 72 ≤ 140737488355328) := by unfold Hid; omega
            have H63 : Hid (n + 1 ≤ maxLen) := by unfold Hid maxLen; omega
            have HNK9 : Hid (n + 1 ≤ 1000000) := by unfold Hid; omega
            have cN1 := Lib.hid (fun Y (hY : Below wr.heap.size wr Y) => node_rowL 2 nSyncCap (by decide) Y (HRK.out.below hY) HNK.out (by have := HKN.out; omega) (Nat.le_trans HB.out.size hY.size))
            have HND := Lib.hid (fun W' a' c' hr => @node_row (w.heap.size + 1 + 1 + 1) (n + 1) c' a' (ks ++ [capT kd]) 2 nDataStore (by decide) W' hr (by rw [List.length_append, HNN.out]; rfl) HNK9.out)
            have HCP : Hid (capT kd = .mk 2 nSyncCap ByteArray.empty false (kdL kd)) := rfl
            rw [← HCP.out] at cN1
            unfold nSyncCap at cN1
            unfold nDataStore at HND
            clear hc hks9 hcw HKS HCP
            have HDw : Hid (Below wr.heap.size wr wr.drew) := (Below.refl _ wr).drew
            have HNB : Hid ((w.heap.size + 1 + 1) ≠ w.heap.size + 1) := by unfold Hid; omega
            go_upto_region 14 with fail
            go_region_held3 (fun X => X.cell? ⟨(w.heap.size + 1 + 1), 0, none⟩ = some (.slice a n c) ∧ (w.heap.size + 1 + 1) < X.heap.size) (first | with_reducible assumption | with_reducible exact hS5 _ _ _ _ _ | with_reducible exact SC.bel (by assumption) ((Below.refl _ _).drew) | with_reducible exact SC.bel (by assumption) hb9 | with_reducible exact SC.bel (by assumption) ((Below.refl _ _).alloc (Nat.le_refl _) _) | with_reducible exact hS5 _ _ _ _ _) (first | (go_at_call 64; (with_reducible refine (cN1.out _ ?_).mono ?_); (first | exact Below.refl _ _ | exact HDw.out); rintro r w1 ⟨⟨a6, c6, rfl, hat⟩, hb9⟩; have HT1 : Hid (Below wr.heap.size wr w1) := (by first | exact (HDw.out.trans (hb9.mono HDw.out.size)) | exact hb9); have HT5 := Lib.hid (HB.out.trans (HT1.out.mono HB.out.size)); have HAT := Lib.hid hat; clear hat; have HTX : Hid (Below X5.heap.size X5 (w1.alloc (.cells #[.int .i64 2, .string { data := #[83, 121, 110, 99, 67, 97, 112] }, .string ByteArray.empty, .bool false, .slice a6 nk c6] 46))) := (HT5.out.alloc HT5.out.size _)) | (go_at_call 64; (with_reducible refine cN2.out.mono ?_); rintro r w5 ⟨⟨a7, c7, rfl, hat⟩, hb9⟩; have HAT7 := Lib.hid hat; have HBF := Lib.hid (HB9.out.trans (hb9.mono HB9.out.size)); have HZ5 := Lib.hid ((hb9.block _ (Nat.lt_of_lt_of_le (by omega) HS9.out)).trans HZ9.out); obtain ⟨hcs, hfz⟩ := dv_cells_of HZ5.out; have u0 := hcs 0 _ rfl; have u1 := hcs 1 _ rfl; have u2 := hcs 2 _ rfl; have u3 := hcs 3 _ rfl; have u4 := hcs 4 _ rfl; clear hcs hat; have hS5 := fun d0 d1 d2 d3 d4 => SC.set5 (c0 := d0) (c1 := d1) (c2 := d2) (c3 := d3) (c4 := d4) (SC.bel hS9 hb9) HNB.out) | (refine step_appR rfl (.tmp 49) (.tmp 52) 44 rfl (w.heap.size + 1 + 1 + 1) 46 i0 _ 5 72 Tryd.underlying44 HI.out HZ0.out HZ1.out HZ2.out rfl (by decide) _ n xs rfl (HO.out _ HTX.out) _ 1 1 [.int .i64 2, .string { data := #[83, 121, 110, 99, 67, 97, 112] }, .string ByteArray.empty, .bool false, .slice a6 nk c6] rfl rfl (fun h => by cases h) (new_cells (Below.refl _ _)) (by simp [Value.oneCell']) H63.out HBY.out (Nat.le_trans HBx.out (Below.size HTX.out)) (fun a' c' w' k1 k2 k3 => ?_); have HR9 := Lib.hid (push_end (k := capT kd) HNN.out HOW.out HQ.out HTX.out HBx.out (Nat.le_refl _) (by simp) (AtQ.keep (w' := w1.alloc (.cells #[.int .i64 2, .string { data := #[83, 121, 110, 99, 67, 97, 112] }, .string ByteArray.empty, .bool false, .slice a6 nk c6] 46)) (fun b hb => ⟨hb, Below.heap_alloc _ _ _ hb.2⟩) _ _ HAT.out) rfl k1 k2 k3); have HG9 := Lib.hid k2; have HS9 : Hid ((w.heap.size + 1 + 1 + 1) ≤ w'.heap.size) := Nat.le_trans HBx.out (Nat.le_trans (Below.size HTX.out) k2.size); have HZ9 : Hid (w'.heap[w.heap.size + 1]? = some (.cells #[.int .i64 0, .string ⟨#[]⟩, .string ⟨#[]⟩, .bool false, .slice none 0 0] 46 (0, 0))) := ((k2.block _ (Nat.lt_of_lt_of_le (by omega) (Nat.le_trans HBx.out (Below.size HTX.out))) (fun e => HNR.out e.symm)).trans ((Below.block HTX.out _ (Nat.lt_of_lt_of_le (by omega) HBx.out)).trans HR5.out)); have HB9 : Hid (Below w.heap.size w w') := (HBw5.out.trans (Below.mono HTX.out HBw5.out.size)).grown k2 (Nat.le_trans HBw5.out.size (Below.size HTX.out)) (fun k hk => by have := (HOW.out.lt k hk).1; omega); have cN2 := Lib.hid (HND.out w' a' c' HR9.out HS9.out); have hS9 : w'.cell? ⟨(w.heap.size + 1 + 1), 0, none⟩ = some (.slice a n c) ∧ (w.heap.size + 1 + 1) < w'.heap.size := SC.grown (by assumption) k2 HNE.out.symm))
            all_goals
              go_wp2_with fail
              have hfin := dv_stored_at (w := w) (w2 := w5) (g := w.heap.size + 1) HBF.out (Nat.le_succ _) HAT7.out (fun b hb => by omega)
              refine bodyPost_ret (results_cell_row rfl _ _ (w.heap.size + 1) 46 #[.int .i64 2, .string { data := #[68, 97, 116, 97, 83, 116, 111, 114, 101] }, .string ByteArray.empty, .bool false, .slice a7 (n + 1) c7] (0, 0) _ rfl (dv_set5_row HZ5.out) Tryd.underlying46 rfl (by kernel_rfl)) rfl ?_
              exact ⟨⟨_, rfl, by rw [HST.out]; exact hfin.1⟩, hfin.2⟩
end Go.Proofs.YtgechifbbhipaaaDoor
