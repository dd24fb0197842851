/- devinf: whether devices are the same, the program's. No condition but how many. -/
import Derived.Test.YtgechifbbhipaaaDoorDvT
set_option linter.unusedVariables false
set_option linter.unusedSimpArgs false
namespace Go.Proofs.YtgechifbbhipaaaDoor
open Go.RowKit

/-- a world behind the boxes of two arguments -/
def Se (w : World) (c1 c2 : Array Value) (t : TypeId) (X : World) : Prop := Below w.heap.size w X ∧ X.heap[w.heap.size]? = some (.cells c1 t (0, 0)) ∧ X.heap[w.heap.size + 1]? = some (.cells c2 t (0, 0)) ∧ w.heap.size + 2 ≤ X.heap.size
theorem Se.below {w X Y : World} {c1 c2 : Array Value} {t : TypeId} (h : Se w c1 c2 t X) (hb : Below X.heap.size X Y) : Se w c1 c2 t Y := by
  obtain ⟨h1, h2, h3, h4⟩ := h
  exact ⟨h1.trans (hb.mono h1.size), (hb.block _ (by omega)).trans h2, (hb.block _ (by omega)).trans h3, Nat.le_trans h4 hb.size⟩
theorem Se.start (w : World) (c1 c2 : Array Value) (t : TypeId) : Se w c1 c2 t ((w.alloc (.cells c1 t)).alloc (.cells c2 t)) := by
  refine ⟨((Below.refl _ w).alloc (Nat.le_refl _) _).alloc (by simp) _, (Below.heap_alloc _ _ _ (by simp)).trans (World.alloc_heap_new w _), ?_, by simp⟩
  have h := World.alloc_heap_new (w.alloc (.cells c1 t)) (.cells c2 t)
  rw [World.size_alloc] at h; exact h
def SmallP (p : Pl) : Prop := p.tk.length ≤ 1000000 ∧ p.gv.length ≤ 1000000 ∧ p.kd.length ≤ 1000000
/-- are two places the same -/
def sameP (p q : Pl) : Bool := (p.rf.toList == q.rf.toList) && ((p.nm.toList == q.nm.toList) && ((p.mx == q.mx) && (decide (p.tk = q.tk) && (decide (p.gv = q.gv) && decide (p.kd = q.kd)))))
def samePs : List Pl → List Pl → Bool
  | [], [] => true
  | p :: l, q :: m => sameP p q && samePs l m
  | _, _ => false
theorem samePs_len : ∀ (l m : List Pl), l.length ≠ m.length → samePs l m = false
  | [], [], h => absurd rfl h
  | p :: l, q :: m, h => by
    rw [samePs, samePs_len l m (by intro e; exact h (by simp [e])), Bool.and_false]
  | [], q :: m, _ => rfl
  | p :: l, [], _ => rfl
theorem samePs_no : ∀ (l m : List Pl) (i : Nat) (h : i < l.length) (h' : i < m.length), sameP l[i] m[i] = false → samePs l m = false
  | p :: l, q :: m, 0, _, _, hp => by rw [samePs, show sameP p q = false from hp]; rfl
  | p :: l, q :: m, i + 1, h, h', hp => by
    rw [samePs, samePs_no l m i (by simpa using h) (by simpa using h') hp, Bool.and_false]
theorem samePs_yes : ∀ (l m : List Pl), l.length = m.length → (∀ i (h : i < l.length) (h' : i < m.length), sameP l[i] m[i] = true) → samePs l m = true
  | [], [], _, _ => rfl
  | p :: l, q :: m, hl, h => by
    rw [samePs, show sameP p q = true from h 0 (by simp) (by simp), samePs_yes l m (by simpa using hl) (fun i h1 h2 => h (i + 1) (by simpa using h1) (by simpa using h2))]; rfl
theorem sameP_refl (p : Pl) : sameP p p = true := by unfold sameP; rw [str_self, str_self]; simp
theorem samePs_refl : ∀ (l : List Pl), samePs l l = true
  | [] => rfl
  | p :: l => by rw [samePs, sameP_refl, samePs_refl l]; rfl
def sameD (h : Dh) (ps : List Pl) (g : Dh) (qs : List Pl) : Bool := (h.man.toList == g.man.toList) && ((h.mod.toList == g.mod.toList) && ((h.soft.toList == g.soft.toList) && ((h.id.toList == g.id.toList) && ((h.ty.toList == g.ty.toList) && ((h.lg == g.lg) && samePs ps qs)))))
theorem sameD_refl (h : Dh) (ps : List Pl) : sameD h ps h ps = true := by unfold sameD; rw [str_self, str_self, str_self, str_self, str_self, samePs_refl]; simp
set_option maxRecDepth 100000 in
set_option maxHeartbeats 4000000 in
theorem sameP_any (p q : Pl) (hs : SmallP p) (cs ds : Array Value) (w : World) (hp : AtP w w.heap.size p cs) (hq : AtP w w.heap.size q ds) : Calls Tryd.prog 80 #[.agg cs, .agg ds] w fun r w' => r = .returned (.bool (sameP p q)) ∧ Below w.heap.size w w' := by
  obtain ⟨a1, c1, a2, c2, a3, c3, rfl, h1, h2, h3, _⟩ := hp
  obtain ⟨b1, e1, b2, e2, b3, e3, rfl, g1, g2, g3, _⟩ := hq
  obtain ⟨rf, nm, mx, tk, gv, kd⟩ := p
  obtain ⟨rf2, nm2, mx2, tk2, gv2, kd2⟩ := q
  simp only [cellsP] at h1 h2 h3 g1 g2 g3 ⊢
  obtain ⟨s1, s2, s3⟩ := hs
  have cA := Lib.hid (fun X (hX : Below w.heap.size w X) => eqF_any tk tk2 a1 b1 c1 e1 s1 X ((h1.below hX).mono hX.size) ((g1.below hX).mono hX.size))
  have cB := Lib.hid (fun X (hX : Below w.heap.size w X) => eqF_any gv gv2 a2 b2 c2 e2 s2 X ((h2.below hX).mono hX.size) ((g2.below hX).mono hX.size))
  have cC := Lib.hid (fun X (hX : Below w.heap.size w X) => eqI_any kd kd2 a3 b3 c3 e3 s3 X ((h3.below hX).mono hX.size) ((g3.below hX).mono hX.size))
  have hE : Hid (sameP ⟨rf, nm, mx, tk, gv, kd⟩ ⟨rf2, nm2, mx2, tk2, gv2, kd2⟩ = ((rf.toList == rf2.toList) && ((nm.toList == nm2.toList) && ((mx == mx2) && (decide (tk = tk2) && (decide (gv = gv2) && decide (kd = kd2))))))) := rfl
  generalize decide (tk = tk2) = q1 at *
  generalize decide (gv = gv2) = q2 at *
  generalize decide (kd = kd2) = q3 at *
  have KK := Lib.hid (Se.start w #[.string rf, .string nm, .int .i64 mx, .slice a1 tk.length c1, .slice a2 gv.length c2, .slice a3 kd.length c3] #[.string rf2, .string nm2, .int .i64 mx2, .slice b1 tk2.length e1, .slice b2 gv2.length e2, .slice b3 kd2.length e3] 87)
  have KB := KK.out.1
  clear h1 h2 h3 g1 g2 g3 s1 s2 s3
  by_cases hx : mx = mx2
  · subst hx
    have hE2 : Hid (sameP ⟨rf, nm, mx, tk, gv, kd⟩ ⟨rf2, nm2, mx, tk2, gv2, kd2⟩ = ((rf.toList == rf2.toList) && ((nm.toList == nm2.toList) && (q1 && (q2 && q3))))) := by unfold Hid; rw [hE.out]; simp
    clear hE
    go_enter Tryd.func80, Tryd.ntmps80
    go_wp2_with (first | (go_at_call 81; (with_reducible refine (cA.out _ KB).mono ?_); rintro r X ⟨rfl, hb⟩; have KK := Lib.hid (KK.out.below hb); have KB := KK.out.1; have y0 := blk_cell KK.out.2.1 0 _ rfl; have y1 := blk_cell KK.out.2.1 1 _ rfl; have y2 := blk_cell KK.out.2.1 2 _ rfl; have y3 := blk_cell KK.out.2.1 3 _ rfl; have y4 := blk_cell KK.out.2.1 4 _ rfl; have y5 := blk_cell KK.out.2.1 5 _ rfl; have z0 := blk_cell KK.out.2.2.1 0 _ rfl; have z1 := blk_cell KK.out.2.2.1 1 _ rfl; have z2 := blk_cell KK.out.2.2.1 2 _ rfl; have z3 := blk_cell KK.out.2.2.1 3 _ rfl; have z4 := blk_cell KK.out.2.2.1 4 _ rfl; have z5 := blk_cell KK.out.2.2.1 5 _ rfl) | (go_at_call 81; (with_reducible refine (cB.out _ KB).mono ?_); rintro r X ⟨rfl, hb⟩; have KK := Lib.hid (KK.out.below hb); have KB := KK.out.1; have y0 := blk_cell KK.out.2.1 0 _ rfl; have y1 := blk_cell KK.out.2.1 1 _ rfl; have y2 := blk_cell KK.out.2.1 2 _ rfl; have y3 := blk_cell KK.out.2.1 3 _ rfl; have y4 := blk_cell KK.out.2.1 4 _ rfl; have y5 := blk_cell KK.out.2.1 5 _ rfl; have z0 := blk_cell KK.out.2.2.1 0 _ rfl; have z1 := blk_cell KK.out.2.2.1 1 _ rfl; have z2 := blk_cell KK.out.2.2.1 2 _ rfl; have z3 := blk_cell KK.out.2.2.1 3 _ rfl; have z4 := blk_cell KK.out.2.2.1 4 _ rfl; have z5 := blk_cell KK.out.2.2.1 5 _ rfl) | (go_at_call 82; (with_reducible refine (cC.out _ KB).mono ?_); rintro r X ⟨rfl, hb⟩; have KK := Lib.hid (KK.out.below hb); have KB := KK.out.1; have y0 := blk_cell KK.out.2.1 0 _ rfl; have y1 := blk_cell KK.out.2.1 1 _ rfl; have y2 := blk_cell KK.out.2.1 2 _ rfl; have y3 := blk_cell KK.out.2.1 3 _ rfl; have y4 := blk_cell KK.out.2.1 4 _ rfl; have y5 := blk_cell KK.out.2.1 5 _ rfl; have z0 := blk_cell KK.out.2.2.1 0 _ rfl; have z1 := blk_cell KK.out.2.2.1 1 _ rfl; have z2 := blk_cell KK.out.2.2.1 2 _ rfl; have z3 := blk_cell KK.out.2.2.1 3 _ rfl; have z4 := blk_cell KK.out.2.2.1 4 _ rfl; have z5 := blk_cell KK.out.2.2.1 5 _ rfl))
    all_goals (go_ret; refine ⟨?_, KB⟩; change Ending.returned (Value.bool _) = _; rw [hE2.out]; (try clear y0 y1 y2 y3 y4 y5 z0 z1 z2 z3 z4 z5); clear KK KB; simp_all)
  · have hE2 : Hid (sameP ⟨rf, nm, mx, tk, gv, kd⟩ ⟨rf2, nm2, mx2, tk2, gv2, kd2⟩ = false) := by unfold Hid; rw [hE.out]; simp [hx]
    have hx2 : (mx == mx2) = false := by simpa using hx
    clear hE cA cB cC
    go_enter Tryd.func80, Tryd.ntmps80
    go_wp2_with fail
    all_goals (go_ret; exact ⟨by rw [hE2.out]; (try rfl); (try simp_all), KB⟩)
set_option maxRecDepth 100000 in
set_option maxHeartbeats 8000000 in
theorem samePs_any (l m : List Pl) (hs : ∀ p ∈ l, SmallP p) (a b : Option Addr) (ca cb : Nat) (hl6 : l.length ≤ 1000000) (w : World) (h1 : AtPs w w.heap.size a l) (h2 : AtPs w w.heap.size b m) : Calls Tryd.prog 79 #[.slice a l.length ca, .slice b m.length cb, .func (.func 80) #[] #[]] w fun r w' => r = .returned (.bool (samePs l m)) ∧ Below w.heap.size w w' := by
  by_cases hl : l.length = m.length
  case neg =>
    rw [samePs_len l m hl]
    clear h1 h2 hs
    generalize l.length = n at *
    generalize m.length = k at *
    have k0 : ¬ (n : Int) = (k : Int) := by omega
    have k1 : ((n : Int) != (k : Int)) = true := by simp; omega
    go_enter Tryd.func79, Tryd.ntmps79
    go_wp2
    go_ret
    exact ⟨rfl, Below.refl _ _⟩
  case pos =>
  have hY := Lib.hid (samePs_no l m)
  have hN := Lib.hid (samePs_yes l m hl)
  generalize samePs l m = v at *
  have HS := Lib.hid h1
  have HT := Lib.hid h2
  have HL := Lib.hid hl
  have HSm := Lib.hid hs
  rw [← hl]
  clear h1 h2 hl hs
  generalize hnn : l.length = n at hl6 ⊢
  have HNN := Lib.hid hnn
  clear hnn
  go_enter Tryd.func79, Tryd.ntmps79
  go_wp2_with fail
  go_loopw [7, 8, 9, 17] (fun _ _ _ iv wr => ∃ i : Nat, i ≤ n ∧ iv = .int .i64 (i : Int) ∧ Hid (∀ j (h : j < l.length) (h' : j < m.length), j < i → sameP l[j] m[j] = true) ∧ Hid (Below w.heap.size w wr)) (fun _ _ _ iv _ => n - (intOf iv).toNat)
  case atStart => exact ⟨0, Nat.zero_le _, rfl, fun _ _ _ h => absurd h (Nat.not_lt_zero _), Below.refl _ _⟩
  case round =>
    obtain ⟨i, hi, rfl, HI, HB⟩ := hrel
    by_cases hlt : i < n
    · have hil : i < l.length := by rw [HNN.out]; exact hlt
      have him : i < m.length := by rw [← HL.out]; exact hil
      obtain ⟨bb1, o1, a1, c1, a2, c2, a3, c3, rfl, hbl, hc0, hat⟩ := HS.out.at i hil
      obtain ⟨bb2, o2, b1, e1, b2, e2, b3, e3, rfl, hbl2, hd0, hat2⟩ := HT.out.at i him
      have k0 : (0 : Int) ≤ (i : Int) := by omega
      have k1 : (i : Int) < (n : Int) := by omega
      have k2 : decide (i < n) = true := by simp; omega
      have hst : Hid (sameP l[i] m[i] = true → ∀ j (h : j < l.length) (h' : j < m.length), j < i + 1 → sameP l[j] m[j] = true) := fun hp j h h' hj => by
        by_cases e : j = i
        · subst e; exact hp
        · exact HI.out j h h' (by omega)
      have hyi := Lib.hid (hY.out i hil him)
      have hc : wr.rangeAt bb1 (o1 + i * 6) (cellsP l[i] a1 c1 a2 c2 a3 c3).toList := fun j u hu => (HB.out.cell (p := ⟨bb1, o1 + i * 6 + j, none⟩) hbl).trans (hc0 j u hu)
      have HDD := Lib.hid (fun X (hX : Below w.heap.size w X) => show X.rangeAt bb2 (o2 + i * 6) (cellsP m[i] b1 e1 b2 e2 b3 e3).toList from fun j u hu => (hX.cell (p := ⟨bb2, o2 + i * 6 + j, none⟩) hbl2).trans (hd0 j u hu))
      obtain ⟨c00, c01, c02, c03, c04, c05⟩ := cells6 hc
      have cQ := Lib.hid (fun X (hX : Below w.heap.size w X) => sameP_any l[i] m[i] (HSm.out _ (List.getElem_mem hil)) _ _ X ((hat.below hX).mono hX.size) ((hat2.below hX).mono hX.size))
      clear hc0 hc hbl HI hd0 hbl2 hat hat2
      generalize sameP l[i] m[i] = t at *
      generalize l[i] = x at *
      generalize m[i] = y at *
      obtain ⟨rf, nm, mx, tk, gv, kd⟩ := x
      obtain ⟨rf2, nm2, mx2, tk2, gv2, kd2⟩ := y
      simp only [cellsP] at c00 c01 c02 c03 c04 c05 cQ HDD
      have HW1 : Hid (wrap64 ((i : Int) + 1) = (i : Int) + 1) := by unfold Hid wrap64; omega
      go_upto_region 6 with fail
      obtain ⟨W2, hW2⟩ : ∃ W2, wr.alloc (.cells #[.string rf, .string nm, .int .i64 mx, .slice a1 tk.length c1, .slice a2 gv.length c2, .slice a3 kd.length c3] 87) = W2 := ⟨_, rfl⟩
      rw [hW2]
      have hB2 : Below wr.heap.size wr W2 := by rw [← hW2]; exact (Below.refl _ _).alloc (Nat.le_refl _) _
      have HB2 := Lib.hid (HB.out.trans (hB2.mono HB.out.size))
      have hz : W2.heap[wr.heap.size]? = some (.cells #[.string rf, .string nm, .int .i64 mx, .slice a1 tk.length c1, .slice a2 gv.length c2, .slice a3 kd.length c3] 87 (0, 0)) := by rw [← hW2]; exact World.alloc_heap_new _ _
      have HZ := Lib.hid hz
      have HG : Hid (wr.heap.size < W2.heap.size) := by unfold Hid; rw [← hW2]; simp
      obtain ⟨d00, d01, d02, d03, d04, d05⟩ := cells6 (p := ⟨rf2, nm2, mx2, tk2, gv2, kd2⟩) (a1 := b1) (c1 := e1) (a2 := b2) (c2 := e2) (a3 := b3) (c3 := e3) (HDD.out W2 HB2.out)
      simp only [] at d00 d01 d02 d03 d04 d05
      clear hW2 hB2 hz c00 c01 c02 c03 c04 c05
      generalize wr.heap.size = g at *
      go_upto_region 7 with fail
      obtain ⟨W3, hW3⟩ : ∃ W3, W2.alloc (.cells #[.string rf2, .string nm2, .int .i64 mx2, .slice b1 tk2.length e1, .slice b2 gv2.length e2, .slice b3 kd2.length e3] 87) = W3 := ⟨_, rfl⟩
      rw [hW3]
      have hB3 : Below W2.heap.size W2 W3 := by rw [← hW3]; exact (Below.refl _ _).alloc (Nat.le_refl _) _
      have HB3 := Lib.hid (HB2.out.trans (hB3.mono HB2.out.size))
      have hz3 : W3.heap[W2.heap.size]? = some (.cells #[.string rf2, .string nm2, .int .i64 mx2, .slice b1 tk2.length e1, .slice b2 gv2.length e2, .slice b3 kd2.length e3] 87 (0, 0)) := by rw [← hW3]; exact World.alloc_heap_new _ _
      have hz2 : W3.heap[g]? = some (.cells #[.string rf, .string nm, .int .i64 mx, .slice a1 tk.length c1, .slice a2 gv.length c2, .slice a3 kd.length c3] 87 (0, 0)) := (hB3.block _ HG.out).trans HZ.out
      have y0 := blk_cell hz2 0 _ rfl; have y1 := blk_cell hz2 1 _ rfl; have y2 := blk_cell hz2 2 _ rfl; have y3 := blk_cell hz2 3 _ rfl; have y4 := blk_cell hz2 4 _ rfl; have y5 := blk_cell hz2 5 _ rfl; have z0 := blk_cell hz3 0 _ rfl; have z1 := blk_cell hz3 1 _ rfl; have z2 := blk_cell hz3 2 _ rfl; have z3 := blk_cell hz3 3 _ rfl; have z4 := blk_cell hz3 4 _ rfl; have z5 := blk_cell hz3 5 _ rfl
      clear hW3 hB3 hz2 hz3 d00 d01 d02 d03 d04 d05
      generalize W2.heap.size = g2 at *
      go_wp2_with (go_at_call 80; (with_reducible refine (cQ.out _ HB3.out).mono ?_); rintro r X ⟨rfl, hb⟩; have HB4 := Lib.hid (HB3.out.trans (hb.mono HB3.out.size)))
      all_goals first
        | (go_ret; refine ⟨?_, HB4.out⟩; change Ending.returned (Value.bool _) = _; rw [hyi.out (by clear y0 y1 y2 y3 y4 y5 z0 z1 z2 z3 z4 z5; simp_all)])
        | (go_roundw
           case rel => exact ⟨i + 1, by omega, by go_num, hst.out (by clear y0 y1 y2 y3 y4 y5 z0 z1 z2 z3 z4 z5; simp_all), HB4.out⟩
           case measure => simp [intOf]; omega)
    · have k1 : ¬ (i : Int) < (n : Int) := by omega
      have k2 : decide (i < n) = false := by simp; omega
      have HV := Lib.hid (hN.out (fun j h h' => HI.out j h h' (by rw [HNN.out] at h; omega)))
      go_wp2_with fail
      go_ret
      exact ⟨by rw [HV.out]; rfl, HB.out⟩
set_option maxRecDepth 100000 in
set_option maxHeartbeats 4000000 in
theorem devSame_any (h g : Dh) (ps qs : List Pl) (hs : ∀ p ∈ ps, SmallP p) (ab ab2 : Option Addr) (cb cb2 : Nat) (hl6 : ps.length ≤ 1000000) (w : World) (h1 : AtPs w w.heap.size ab ps) (h2 : AtPs w w.heap.size ab2 qs) : Calls Tryd.prog 25 #[.agg (cellsD h ab ps.length cb), .agg (cellsD g ab2 qs.length cb2)] w fun r w' => r = .returned (.bool (sameD h ps g qs)) ∧ Below w.heap.size w w' := by
  obtain ⟨man, mod, soft, id, ty, lg⟩ := h
  obtain ⟨man2, mod2, soft2, id2, ty2, lg2⟩ := g
  simp only [cellsD]
  have cA := Lib.hid (fun X (hX : Below w.heap.size w X) => samePs_any ps qs hs ab ab2 cb cb2 hl6 X (((h1.below hX)).mono hX.size) ((h2.below hX).mono hX.size))
  have hE : Hid (sameD ⟨man, mod, soft, id, ty, lg⟩ ps ⟨man2, mod2, soft2, id2, ty2, lg2⟩ qs = ((man.toList == man2.toList) && ((mod.toList == mod2.toList) && ((soft.toList == soft2.toList) && ((id.toList == id2.toList) && ((ty.toList == ty2.toList) && ((lg == lg2) && samePs ps qs))))))) := rfl
  generalize samePs ps qs = q1 at *
  have KK := Lib.hid (Se.start w #[.string man, .string mod, .string soft, .string id, .string ty, .bool lg, .slice ab ps.length cb] #[.string man2, .string mod2, .string soft2, .string id2, .string ty2, .bool lg2, .slice ab2 qs.length cb2] 42)
  have KB := KK.out.1
  clear h1 h2 hs
  cases hlg : (lg == lg2)
  · rw [hlg] at hE
    have hE2 : Hid (sameD ⟨man, mod, soft, id, ty, lg⟩ ps ⟨man2, mod2, soft2, id2, ty2, lg2⟩ qs = false) := by unfold Hid; rw [hE.out]; simp
    clear hE cA
    have hn : ¬ lg = lg2 := by simpa using hlg
    go_enter Tryd.func25, Tryd.ntmps25
    go_wp2_with fail
    all_goals (go_ret; exact ⟨by rw [hE2.out]; (try rfl); (try simp_all), KB⟩)
  · have hn : lg = lg2 := by simpa using hlg
    subst hn
    have hE2 : Hid (sameD ⟨man, mod, soft, id, ty, lg⟩ ps ⟨man2, mod2, soft2, id2, ty2, lg⟩ qs = ((man.toList == man2.toList) && ((mod.toList == mod2.toList) && ((soft.toList == soft2.toList) && ((id.toList == id2.toList) && ((ty.toList == ty2.toList) && q1)))))) := by unfold Hid; rw [hE.out, hlg]; simp
    clear hE
    go_enter Tryd.func25, Tryd.ntmps25
    go_wp2_with (go_at_call 79; (with_reducible refine (cA.out _ KB).mono ?_); rintro r X ⟨rfl, hb⟩; have KK := Lib.hid (KK.out.below hb); have KB := KK.out.1; have y0 := blk_cell KK.out.2.1 0 _ rfl; have y1 := blk_cell KK.out.2.1 1 _ rfl; have y2 := blk_cell KK.out.2.1 2 _ rfl; have y3 := blk_cell KK.out.2.1 3 _ rfl; have y4 := blk_cell KK.out.2.1 4 _ rfl; have y5 := blk_cell KK.out.2.1 5 _ rfl; have y6 := blk_cell KK.out.2.1 6 _ rfl; have z0 := blk_cell KK.out.2.2.1 0 _ rfl; have z1 := blk_cell KK.out.2.2.1 1 _ rfl; have z2 := blk_cell KK.out.2.2.1 2 _ rfl; have z3 := blk_cell KK.out.2.2.1 3 _ rfl; have z4 := blk_cell KK.out.2.2.1 4 _ rfl; have z5 := blk_cell KK.out.2.2.1 5 _ rfl; have z6 := blk_cell KK.out.2.2.1 6 _ rfl)
    all_goals (go_ret; refine ⟨?_, KB⟩; change Ending.returned (Value.bool _) = _; rw [hE2.out]; (try clear y0 y1 y2 y3 y4 y5 y6 z0 z1 z2 z3 z4 z5 z6); clear KK KB; simp_all)
end Go.Proofs.YtgechifbbhipaaaDoor
