/- devinf: whether devices are the same, the reference's. No condition but how many. -/
import Derived.Test.YtgechifbbhipaaaDoorDvU
import Derived.Test.YtgechifbbhipaaaDoorTrH
import Derived.BigRegion
import Derived.Test.YtgechifbbhipaaaDoorDwC
import Derived.Test.YtgechifbbhipaaaDoorDwG
import Derived.Test.YtgechifbbhipaaaDoorTrE
set_option linter.unusedVariables false
set_option linter.unusedSimpArgs false
namespace Go.Proofs.YtgechifbbhipaaaDoor
open Go.RowKit

/-- a world behind two places' boxes, in blocks g and g2 -/
def Sg (w : World) (d1 d2 r1 r2 : Array Value) (g g2 : Nat) (X : World) : Prop := Se w d1 d2 42 X ∧ X.heap[g]? = some (.cells r1 87 (0, 0)) ∧ X.heap[g2]? = some (.cells r2 87 (0, 0)) ∧ g < X.heap.size ∧ g2 < X.heap.size
theorem Sg.below {w X Y : World} {d1 d2 r1 r2 : Array Value} {g g2 : Nat} (h : Sg w d1 d2 r1 r2 g g2 X) (hb : Below X.heap.size X Y) : Sg w d1 d2 r1 r2 g g2 Y := by
  obtain ⟨h1, h2, h3, h4, h5⟩ := h
  exact ⟨h1.below hb, (hb.block _ h4).trans h2, (hb.block _ h5).trans h3, Nat.lt_of_lt_of_le h4 hb.size, Nat.lt_of_lt_of_le h5 hb.size⟩
theorem Sg.bel {w X : World} {d1 d2 r1 r2 : Array Value} {g g2 : Nat} (h : Sg w d1 d2 r1 r2 g g2 X) : Below w.heap.size w X := h.1.1
theorem Sg.two {w X : World} {d1 d2 r1 r2 : Array Value} (h : Se w d1 d2 42 X) : Sg w d1 d2 r1 r2 X.heap.size (X.heap.size + 1) (((X.alloc (.cells r1 87)).alloc (.cells r2 87)).drew) := by
  have hb : Below X.heap.size X (((X.alloc (.cells r1 87)).alloc (.cells r2 87)).drew) := (((Below.refl _ X).alloc (Nat.le_refl _) _).alloc (by simp) _).drew
  refine ⟨h.below hb, (Below.heap_alloc _ _ _ (by simp)).trans (World.alloc_heap_new X _), ?_, ?_, ?_⟩
  · have h := World.alloc_heap_new (X.alloc (.cells r1 87)) (.cells r2 87)
    rw [World.size_alloc] at h; exact h
  · show _ < ((X.alloc _).alloc _).heap.size
    simp only [World.size_alloc]; omega
  · show _ < ((X.alloc _).alloc _).heap.size
    simp only [World.size_alloc]; omega
theorem Sg.two2 {w X : World} {d1 d2 r1 r2 : Array Value} (h : Se w d1 d2 42 X) : Sg w d1 d2 r1 r2 (X.heap.size + 1) X.heap.size (((X.alloc (.cells r2 87)).alloc (.cells r1 87)).drew) := by
  obtain ⟨h1, h2, h3, h4, h5⟩ := Sg.two (r1 := r2) (r2 := r1) h
  exact ⟨h1, h3, h2, h5, h4⟩
set_option maxRecDepth 100000 in
set_option maxHeartbeats 16000000 in
theorem refDevSame_any (h g : Dh) (ps qs : List Pl) (hs : ∀ p ∈ ps, SmallP p) (ab ab2 : Option Addr) (cb cb2 : Nat) (hl6 : ps.length ≤ 1000000) (w : World) (h1 : AtPs w w.heap.size ab ps) (h2 : AtPs w w.heap.size ab2 qs) : Calls Tryd.prog 26 #[.agg (cellsD h ab ps.length cb), .agg (cellsD g ab2 qs.length cb2)] w fun r w' => r = .returned (.bool (sameD h ps g qs)) ∧ Below w.heap.size w w' := by
  obtain ⟨man, mod, soft, id, ty, lg⟩ := h
  obtain ⟨man2, mod2, soft2, id2, ty2, lg2⟩ := g
  simp only [cellsD]
  have hE : Hid (sameD ⟨man, mod, soft, id, ty, lg⟩ ps ⟨man2, mod2, soft2, id2, ty2, lg2⟩ qs = ((man.toList == man2.toList) && ((mod.toList == mod2.toList) && ((soft.toList == soft2.toList) && ((id.toList == id2.toList) && ((ty.toList == ty2.toList) && ((lg == lg2) && samePs ps qs))))))) := rfl
  have KK := Lib.hid (Se.start w #[.string man, .string mod, .string soft, .string id, .string ty, .bool lg, .slice ab ps.length cb] #[.string man2, .string mod2, .string soft2, .string id2, .string ty2, .bool lg2, .slice ab2 qs.length cb2] 42)
  have KB := KK.out.1
  cases hlg : (lg == lg2)
  case false =>
    rw [hlg] at hE
    have hE2 : Hid (sameD ⟨man, mod, soft, id, ty, lg⟩ ps ⟨man2, mod2, soft2, id2, ty2, lg2⟩ qs = false) := by unfold Hid; rw [hE.out]; simp
    clear hE h1 h2 hs
    have hn : ¬ lg = lg2 := by simpa using hlg
    have hn2 : (lg != lg2) = true := by simpa using hlg
    go_enter Tryd.func26, Tryd.ntmps26
    go_wp2_with fail
    all_goals (go_ret; exact ⟨by rw [hE2.out]; (try rfl); (try simp_all), KB⟩)
  case true =>
  have hn : lg = lg2 := by simpa using hlg
  subst hn
  by_cases hl : ps.length = qs.length
  case neg =>
    have hE2 : Hid (sameD ⟨man, mod, soft, id, ty, lg⟩ ps ⟨man2, mod2, soft2, id2, ty2, lg⟩ qs = false) := by unfold Hid; rw [hE.out, samePs_len ps qs hl]; simp
    clear hE h1 h2 hs
    have k0 : ¬ (ps.length : Int) = (qs.length : Int) := by omega
    have k1 : ((ps.length : Int) != (qs.length : Int)) = true := by simp; omega
    clear hl
    go_enter Tryd.func26, Tryd.ntmps26
    go_wp2_with fail
    all_goals (go_ret; exact ⟨by rw [hE2.out]; (try rfl); (try simp_all), KB⟩)
  case pos =>
  have hY := Lib.hid (samePs_no ps qs)
  have hN := Lib.hid (samePs_yes ps qs hl)
  rw [hlg, Bool.true_and] at hE
  clear hlg
  generalize samePs ps qs = v at *
  have HS := Lib.hid h1
  have HT := Lib.hid h2
  have HL := Lib.hid hl
  have HSm := Lib.hid hs
  rw [← hl] at KK KB ⊢
  clear h1 h2 hl hs
  have HB1 := Lib.hid (show sameD ⟨man, mod, soft, id, ty, lg⟩ ps ⟨man2, mod2, soft2, id2, ty2, lg⟩ qs = (((man.toList == man2.toList) && ((mod.toList == mod2.toList) && ((soft.toList == soft2.toList) && ((id.toList == id2.toList) && (ty.toList == ty2.toList))))) && v) from by rw [hE.out]; simp only [Bool.and_assoc])
  clear hE
  generalize sameD ⟨man, mod, soft, id, ty, lg⟩ ps ⟨man2, mod2, soft2, id2, ty2, lg⟩ qs = R at *
  go_enter Tryd.func26, Tryd.ntmps26
  go_wp2_with fail
  all_goals first
    | (go_ret; exact ⟨by rw [HB1.out]; (try rfl); (try simp_all), KB⟩)
    | skip
  have HR : Hid (R = v) := by unfold Hid; rw [HB1.out]; clear KK KB; simp_all
  clear HB1
  go_loopw [5, 6, 7, 8] (fun iv _ _ _ wo => ∃ i : Nat, i ≤ ps.length ∧ iv = .int .i64 (i : Int) ∧ Hid (∀ j (h : j < ps.length) (h' : j < qs.length), j < i → sameP ps[j] qs[j] = true) ∧ Hid (Se w #[.string man, .string mod, .string soft, .string id, .string ty, .bool lg, .slice ab ps.length cb] #[.string man2, .string mod2, .string soft2, .string id2, .string ty2, .bool lg, .slice ab2 ps.length cb2] 42 wo)) (fun iv _ _ _ _ => ps.length - (intOf iv).toNat)
  case atStart => exact ⟨0, Nat.zero_le _, rfl, fun _ _ _ h => absurd h (Nat.not_lt_zero _), KK.out⟩
  case round =>
    clear KK KB
    obtain ⟨i, hi, rfl, HI, KK⟩ := hrel
    obtain ⟨wo, hwo⟩ : ∃ wo, wo = wr := ⟨_, rfl⟩
    subst hwo
    have KB := KK.out.1
    have y6 := blk_cell KK.out.2.1 6 _ rfl
    have z6 := blk_cell KK.out.2.2.1 6 _ rfl
    by_cases hlt : i < ps.length
    · have him : i < qs.length := by rw [← HL.out]; exact hlt
      obtain ⟨bb1, o1, a1, c1, a2, c2, a3, c3, rfl, hbl, hc0, hat⟩ := HS.out.at i hlt
      obtain ⟨bb2, o2, b1, e1, b2, e2, b3, e3, rfl, hbl2, hd0, hat2⟩ := HT.out.at i him
      have k0 : (0 : Int) ≤ (i : Int) := by omega
      have k1 : (i : Int) < (ps.length : Int) := by omega
      have k2 : decide (i < ps.length) = true := by simp; omega
      have hst : Hid (sameP ps[i] qs[i] = true → ∀ j (h : j < ps.length) (h' : j < qs.length), j < i + 1 → sameP ps[j] qs[j] = true) := fun hp j h h' hj => by
        by_cases e : j = i
        · subst e; exact hp
        · exact HI.out j h h' (by omega)
      have hyi := Lib.hid (hY.out i hlt him)
      have hc : wo.rangeAt bb1 (o1 + i * 6) (cellsP ps[i] a1 c1 a2 c2 a3 c3).toList := fun j u hu => (KB.cell (p := ⟨bb1, o1 + i * 6 + j, none⟩) hbl).trans (hc0 j u hu)
      have hd : wo.rangeAt bb2 (o2 + i * 6) (cellsP qs[i] b1 e1 b2 e2 b3 e3).toList := fun j u hu => (KB.cell (p := ⟨bb2, o2 + i * 6 + j, none⟩) hbl2).trans (hd0 j u hu)
      obtain ⟨c00, c01, c02, c03, c04, c05⟩ := cells6 hc
      obtain ⟨d00, d01, d02, d03, d04, d05⟩ := cells6 hd
      have HSi := Lib.hid (HSm.out _ (List.getElem_mem hlt))
      have HA1 := Lib.hid hat
      have HA2 := Lib.hid hat2
      have HQ1 := Lib.hid hbl
      have HQ2 := Lib.hid hbl2
      clear hc0 hc hbl HI hd0 hd hbl2 hat hat2
      have hsp : Hid (sameP ps[i] qs[i] = sameP ps[i] qs[i]) := rfl
      generalize hx : ps[i] = x at *
      generalize hy : qs[i] = y at *
      clear hx hy
      obtain ⟨rf, nm, mx, tk, gv, kd⟩ := x
      obtain ⟨rf2, nm2, mx2, tk2, gv2, kd2⟩ := y
      simp only [cellsP] at c00 c01 c02 c03 c04 c05 d00 d01 d02 d03 d04 d05 HA1 HA2 HSi
      have HW1 : Hid (wrap64 ((i : Int) + 1) = (i : Int) + 1) := by unfold Hid wrap64; omega
      go_upto_region 6 with fail
      go_cut [6, 7] from 72 to 81 (fun p6 p7 wx => ∃ g g2, p6 = .pointer (some ⟨g, 0, none⟩) ∧ p7 = .pointer (some ⟨g2, 0, none⟩) ∧ Hid (Sg w #[.string man, .string mod, .string soft, .string id, .string ty, .bool lg, .slice (some ⟨bb1, o1, none⟩) ps.length cb] #[.string man2, .string mod2, .string soft2, .string id2, .string ty2, .bool lg, .slice (some ⟨bb2, o2, none⟩) ps.length cb2] #[.string rf, .string nm, .int .i64 mx, .slice a1 tk.length c1, .slice a2 gv.length c2, .slice a3 kd.length c3] #[.string rf2, .string nm2, .int .i64 mx2, .slice b1 tk2.length e1, .slice b2 gv2.length e2, .slice b3 kd2.length e3] g g2 wx))
      case first =>
        have ac00 := fun o => cell_allocG c00 o; have ac01 := fun o => cell_allocG c01 o; have ac02 := fun o => cell_allocG c02 o; have ac03 := fun o => cell_allocG c03 o; have ac04 := fun o => cell_allocG c04 o; have ac05 := fun o => cell_allocG c05 o; have ad00 := fun o => cell_allocG d00 o; have ad01 := fun o => cell_allocG d01 o; have ad02 := fun o => cell_allocG d02 o; have ad03 := fun o => cell_allocG d03 o; have ad04 := fun o => cell_allocG d04 o; have ad05 := fun o => cell_allocG d05 o; have ay6 := fun o => cell_allocG y6 o; have az6 := fun o => cell_allocG z6 o; have bc00 := fun o q => cell_allocG (cell_allocG c00 o) q; have bc01 := fun o q => cell_allocG (cell_allocG c01 o) q; have bc02 := fun o q => cell_allocG (cell_allocG c02 o) q; have bc03 := fun o q => cell_allocG (cell_allocG c03 o) q; have bc04 := fun o q => cell_allocG (cell_allocG c04 o) q; have bc05 := fun o q => cell_allocG (cell_allocG c05 o) q; have bd00 := fun o q => cell_allocG (cell_allocG d00 o) q; have bd01 := fun o q => cell_allocG (cell_allocG d01 o) q; have bd02 := fun o q => cell_allocG (cell_allocG d02 o) q; have bd03 := fun o q => cell_allocG (cell_allocG d03 o) q; have bd04 := fun o q => cell_allocG (cell_allocG d04 o) q; have bd05 := fun o q => cell_allocG (cell_allocG d05 o) q; have by6 := fun o q => cell_allocG (cell_allocG y6 o) q; have bz6 := fun o q => cell_allocG (cell_allocG z6 o) q
        have q1 : bb1 < wo.heap.size := Nat.lt_of_lt_of_le HQ1.out KK.out.1.size
        have q2 : bb2 < wo.heap.size := Nat.lt_of_lt_of_le HQ2.out KK.out.1.size
        have q3 : w.heap.size < wo.heap.size := Nat.lt_of_lt_of_le (Nat.lt_succ_self _) (Nat.le_trans (Nat.le_succ _) KK.out.2.2.2)
        have q4 : w.heap.size + 1 < wo.heap.size := KK.out.2.2.2
        go_region
        all_goals
          go_wp2_with fail
          go_meet
          first
            | exact ⟨_, _, rfl, rfl, Sg.two KK.out⟩
            | exact ⟨_, _, rfl, rfl, Sg.two2 KK.out⟩
      case rest =>
        obtain ⟨g, g2, rfl, rfl, HSG⟩ := hcut
        clear KK KB y6 z6 c00 c01 c02 c03 c04 c05 d00 d01 d02 d03 d04 d05
        have KK := Lib.hid HSG.out
        clear HSG
        have hE := Lib.hid (show sameP ⟨rf, nm, mx, tk, gv, kd⟩ ⟨rf2, nm2, mx2, tk2, gv2, kd2⟩ = ((rf.toList == rf2.toList) && ((nm.toList == nm2.toList) && ((mx == mx2) && (decide (tk = tk2) && (decide (gv = gv2) && decide (kd = kd2)))))) from rfl)
        obtain ⟨s1, s2, s3⟩ := HSi.out
        obtain ⟨_, _, _, _, _, _, he1, h1, h2, h3, _⟩ := HA1.out
        obtain ⟨_, _, _, _, _, _, he2, g1, g2', g3, _⟩ := HA2.out
        simp only [cellsP, Array.mk.injEq, List.cons.injEq, Value.slice.injEq] at he1 he2
        obtain ⟨-, -, -, ⟨rfl, -, rfl⟩, ⟨rfl, -, rfl⟩, ⟨rfl, -, rfl⟩, -⟩ := he1
        obtain ⟨-, -, -, ⟨rfl, -, rfl⟩, ⟨rfl, -, rfl⟩, ⟨rfl, -, rfl⟩, -⟩ := he2
        have cA := Lib.hid (fun X (hX : Below w.heap.size w X) => sameF_any tk tk2 _ _ c1 e1 s1 X ((h1.below hX).mono hX.size) ((g1.below hX).mono hX.size))
        have cB := Lib.hid (fun X (hX : Below w.heap.size w X) => sameF_any gv gv2 _ _ c2 e2 s2 X ((h2.below hX).mono hX.size) ((g2'.below hX).mono hX.size))
        have HK1 := Lib.hid h3
        have HK2 := Lib.hid g3
        have HS3 := Lib.hid s3
        clear h1 h2 h3 g1 g2' g3 s1 s2 s3 HA1 HA2 HSi
        by_cases hx : mx = mx2
        case neg =>
          have HF := Lib.hid (hyi.out (by rw [hE.out]; simp [hx]))
          have hx1 : (mx != mx2) = true := by simpa using hx
          clear cA cB hE
          have HZ2 := Lib.hid KK.out.2.1
          have HZ3 := Lib.hid KK.out.2.2.1
          have KB := KK.out.1.1
          have y0 := blk_cell HZ2.out 0 _ rfl; have y1 := blk_cell HZ2.out 1 _ rfl; have y2 := blk_cell HZ2.out 2 _ rfl; have y3 := blk_cell HZ2.out 3 _ rfl; have y4 := blk_cell HZ2.out 4 _ rfl; have y5 := blk_cell HZ2.out 5 _ rfl; have z0 := blk_cell HZ3.out 0 _ rfl; have z1 := blk_cell HZ3.out 1 _ rfl; have z2 := blk_cell HZ3.out 2 _ rfl; have z3 := blk_cell HZ3.out 3 _ rfl; have z4 := blk_cell HZ3.out 4 _ rfl; have z5 := blk_cell HZ3.out 5 _ rfl
          clear HZ2 HZ3
          go_wp2_with fail
          all_goals (go_ret; exact ⟨by rw [HR.out, HF.out]; rfl, KB⟩)
        case pos =>
        subst hx
        by_cases hl2 : kd.length = kd2.length
        case neg =>
          have HF := Lib.hid (hyi.out (by rw [hE.out, show decide (kd = kd2) = false from by rw [decide_eq_false_iff_not]; intro e; exact hl2 (by rw [e])]; simp))
          have kl0 : ¬ (kd.length : Int) = (kd2.length : Int) := by omega
          have kl1 : ((kd.length : Int) != (kd2.length : Int)) = true := by simp; omega
          clear hE hl2
          have HZ2 := Lib.hid KK.out.2.1
          have HZ3 := Lib.hid KK.out.2.2.1
          have KB := KK.out.1.1
          have y0 := blk_cell HZ2.out 0 _ rfl; have y1 := blk_cell HZ2.out 1 _ rfl; have y2 := blk_cell HZ2.out 2 _ rfl; have y3 := blk_cell HZ2.out 3 _ rfl; have y4 := blk_cell HZ2.out 4 _ rfl; have y5 := blk_cell HZ2.out 5 _ rfl; have z0 := blk_cell HZ3.out 0 _ rfl; have z1 := blk_cell HZ3.out 1 _ rfl; have z2 := blk_cell HZ3.out 2 _ rfl; have z3 := blk_cell HZ3.out 3 _ rfl; have z4 := blk_cell HZ3.out 4 _ rfl; have z5 := blk_cell HZ3.out 5 _ rfl
          clear HZ2 HZ3
          go_wp2_with (first | (go_at_call 83; (with_reducible refine (cA.out _ KK.out.bel).mono ?_); rintro r X ⟨rfl, hb⟩; have KK := Lib.hid (KK.out.below hb); have HZ2 := Lib.hid KK.out.2.1; have HZ3 := Lib.hid KK.out.2.2.1; have y0 := blk_cell HZ2.out 0 _ rfl; have y1 := blk_cell HZ2.out 1 _ rfl; have y2 := blk_cell HZ2.out 2 _ rfl; have y3 := blk_cell HZ2.out 3 _ rfl; have y4 := blk_cell HZ2.out 4 _ rfl; have y5 := blk_cell HZ2.out 5 _ rfl; have z0 := blk_cell HZ3.out 0 _ rfl; have z1 := blk_cell HZ3.out 1 _ rfl; have z2 := blk_cell HZ3.out 2 _ rfl; have z3 := blk_cell HZ3.out 3 _ rfl; have z4 := blk_cell HZ3.out 4 _ rfl; have z5 := blk_cell HZ3.out 5 _ rfl) | (go_at_call 83; (with_reducible refine (cB.out _ KK.out.bel).mono ?_); rintro r X ⟨rfl, hb⟩; have KK := Lib.hid (KK.out.below hb); have HZ2 := Lib.hid KK.out.2.1; have HZ3 := Lib.hid KK.out.2.2.1; have y0 := blk_cell HZ2.out 0 _ rfl; have y1 := blk_cell HZ2.out 1 _ rfl; have y2 := blk_cell HZ2.out 2 _ rfl; have y3 := blk_cell HZ2.out 3 _ rfl; have y4 := blk_cell HZ2.out 4 _ rfl; have y5 := blk_cell HZ2.out 5 _ rfl; have z0 := blk_cell HZ3.out 0 _ rfl; have z1 := blk_cell HZ3.out 1 _ rfl; have z2 := blk_cell HZ3.out 2 _ rfl; have z3 := blk_cell HZ3.out 3 _ rfl; have z4 := blk_cell HZ3.out 4 _ rfl; have z5 := blk_cell HZ3.out 5 _ rfl))
          all_goals (go_ret; exact ⟨by rw [HR.out, HF.out]; rfl, KK.out.1.1⟩)
        case pos =>
        have HE2 := Lib.hid (show sameP ⟨rf, nm, mx, tk, gv, kd⟩ ⟨rf2, nm2, mx, tk2, gv2, kd2⟩ = ((rf.toList == rf2.toList) && ((nm.toList == nm2.toList) && (decide (tk = tk2) && (decide (gv = gv2) && decide (kd = kd2))))) from by rw [hE.out]; simp)
        have HL2 := Lib.hid hl2
        have HKN : Hid (∀ (k : Nat) (h : k < kd.length) (h' : k < kd2.length), kd[k] ≠ kd2[k] → decide (kd = kd2) = false) := fun k h h' hn => by
          rw [decide_eq_false_iff_not]; intro e; subst e; exact hn rfl
        have HKY : Hid ((∀ (k : Nat) (h : k < kd.length) (h' : k < kd2.length), kd[k] = kd2[k]) → decide (kd = kd2) = true) := fun h => by
          rw [decide_eq_true_eq]; exact List.ext_getElem hl2 (fun k h1 h2 => h k h1 h2)
        rw [← hl2] at KK
        clear hE hl2
        generalize sameP ⟨rf, nm, mx, tk, gv, kd⟩ ⟨rf2, nm2, mx, tk2, gv2, kd2⟩ = t at *
        generalize decide (tk = tk2) = q1 at *
        generalize decide (gv = gv2) = q2 at *
        generalize decide (kd = kd2) = q3 at *
        have HZ2 := Lib.hid KK.out.2.1
        have HZ3 := Lib.hid KK.out.2.2.1
        have KB := KK.out.1.1
        have y0 := blk_cell HZ2.out 0 _ rfl; have y1 := blk_cell HZ2.out 1 _ rfl; have y2 := blk_cell HZ2.out 2 _ rfl; have y3 := blk_cell HZ2.out 3 _ rfl; have y4 := blk_cell HZ2.out 4 _ rfl; have y5 := blk_cell HZ2.out 5 _ rfl; have z0 := blk_cell HZ3.out 0 _ rfl; have z1 := blk_cell HZ3.out 1 _ rfl; have z2 := blk_cell HZ3.out 2 _ rfl; have z3 := blk_cell HZ3.out 3 _ rfl; have z4 := blk_cell HZ3.out 4 _ rfl; have z5 := blk_cell HZ3.out 5 _ rfl
        clear HZ2 HZ3
        go_wp2_with (first | (go_at_call 83; (with_reducible refine (cA.out _ KK.out.bel).mono ?_); rintro r X ⟨rfl, hb⟩; have KK := Lib.hid (KK.out.below hb); have HZ2 := Lib.hid KK.out.2.1; have HZ3 := Lib.hid KK.out.2.2.1; have y0 := blk_cell HZ2.out 0 _ rfl; have y1 := blk_cell HZ2.out 1 _ rfl; have y2 := blk_cell HZ2.out 2 _ rfl; have y3 := blk_cell HZ2.out 3 _ rfl; have y4 := blk_cell HZ2.out 4 _ rfl; have y5 := blk_cell HZ2.out 5 _ rfl; have z0 := blk_cell HZ3.out 0 _ rfl; have z1 := blk_cell HZ3.out 1 _ rfl; have z2 := blk_cell HZ3.out 2 _ rfl; have z3 := blk_cell HZ3.out 3 _ rfl; have z4 := blk_cell HZ3.out 4 _ rfl; have z5 := blk_cell HZ3.out 5 _ rfl) | (go_at_call 83; (with_reducible refine (cB.out _ KK.out.bel).mono ?_); rintro r X ⟨rfl, hb⟩; have KK := Lib.hid (KK.out.below hb); have HZ2 := Lib.hid KK.out.2.1; have HZ3 := Lib.hid KK.out.2.2.1; have y0 := blk_cell HZ2.out 0 _ rfl; have y1 := blk_cell HZ2.out 1 _ rfl; have y2 := blk_cell HZ2.out 2 _ rfl; have y3 := blk_cell HZ2.out 3 _ rfl; have y4 := blk_cell HZ2.out 4 _ rfl; have y5 := blk_cell HZ2.out 5 _ rfl; have z0 := blk_cell HZ3.out 0 _ rfl; have z1 := blk_cell HZ3.out 1 _ rfl; have z2 := blk_cell HZ3.out 2 _ rfl; have z3 := blk_cell HZ3.out 3 _ rfl; have z4 := blk_cell HZ3.out 4 _ rfl; have z5 := blk_cell HZ3.out 5 _ rfl))
        all_goals first
          | (go_ret; exact ⟨by rw [HR.out, hyi.out (by rw [HE2.out]; (try clear y0 y1 y2 y3 y4 y5 z0 z1 z2 z3 z4 z5 KK KB); simp_all)]; rfl, KK.out.1.1⟩)
          | skip
        have HTQ : Hid (t = q3) := by unfold Hid; rw [HE2.out]; (try clear y0 y1 y2 y3 y4 y5 z0 z1 z2 z3 z4 z5 KK KB); simp_all
        have KK2 := Lib.hid KK.out
        clear HE2 cA cB y0 y1 y2 y3 y4 y5 z0 z1 z2 z3 z4 z5
        go_loopw [8] (fun kv wr => ∃ k : Nat, k ≤ kd.length ∧ kv = .int .i64 (k : Int) ∧ Hid (∀ j (h : j < kd.length) (h' : j < kd2.length), j < k → kd[j] = kd2[j]) ∧ Hid (Sg w #[.string man, .string mod, .string soft, .string id, .string ty, .bool lg, .slice (some ⟨bb1, o1, none⟩) ps.length cb] #[.string man2, .string mod2, .string soft2, .string id2, .string ty2, .bool lg, .slice (some ⟨bb2, o2, none⟩) ps.length cb2] #[.string rf, .string nm, .int .i64 mx, .slice a1 tk.length c1, .slice a2 gv.length c2, .slice a3 kd.length c3] #[.string rf2, .string nm2, .int .i64 mx, .slice b1 tk2.length e1, .slice b2 gv2.length e2, .slice b3 kd.length e3] g g2 wr)) (fun kv _ => kd.length - (intOf kv).toNat)
        case atStart => exact ⟨0, Nat.zero_le _, rfl, fun _ _ _ h => absurd h (Nat.not_lt_zero _), KK2.out⟩
        case round =>
          obtain ⟨k, hk, rfl, HJ, KN⟩ := hrel
          have KM := KN.out.bel
          have y5 := blk_cell KN.out.2.1 5 _ rfl
          have z5 := blk_cell KN.out.2.2.1 5 _ rfl
          by_cases hlk : k < kd.length
          · have hlk2 : k < kd2.length := by rw [← HL2.out]; exact hlk
            obtain ⟨bk, ok, rfl, hbk, hk0⟩ := HK1.out k hlk
            obtain ⟨bl, ol, rfl, hbl3, hl0⟩ := HK2.out k hlk2
            have hs3 := HS3.out
            have kk0 : (0 : Int) ≤ (k : Int) := by omega
            have kk1 : (k : Int) < (kd.length : Int) := by omega
            have kk2 : decide (k < kd.length) = true := by simp; omega
            have hst2 : Hid (kd[k] = kd2[k] → ∀ j (h : j < kd.length) (h' : j < kd2.length), j < k + 1 → kd[j] = kd2[j]) := fun hp j h h' hj => by
              by_cases e : j = k
              · subst e; exact hp
              · exact HJ.out j h h' (by omega)
            have hyk := Lib.hid (HKN.out k hlk hlk2)
            have hc : wr.rangeAt bk (ok + k * 1) [.int .i64 kd[k]] := fun j u hu => (KM.cell (p := ⟨bk, ok + k * 1 + j, none⟩) hbk).trans (hk0 j u hu)
            have hd : wr.rangeAt bl (ol + k * 1) [.int .i64 kd2[k]] := fun j u hu => (KM.cell (p := ⟨bl, ol + k * 1 + j, none⟩) hbl3).trans (hl0 j u hu)
            have m0 := hc 0 _ rfl
            have n0 := hd 0 _ rfl
            simp only [Nat.add_zero, Nat.mul_one] at m0 n0
            clear hk0 hc hbk HJ hl0 hd hbl3
            generalize kd[k] = x at *
            generalize kd2[k] = y at *
            have HW2 : Hid (wrap64 ((k : Int) + 1) = (k : Int) + 1) := by unfold Hid wrap64; omega
            skip
            go_wp2_with fail
            go_quiet (fail)
            by_cases hxy : x = y
            · have HXY := Lib.hid hxy
              have hd1 : (x != y) = false := by simpa using hxy
              clear hxy
              go_wp2_with fail
              go_roundw
              case rel => exact ⟨k + 1, by omega, by go_num, hst2.out HXY.out, KN.out.below (below_dr0 _ _ _)⟩
              case measure => simp [intOf]; omega
            · have HXY := Lib.hid hxy
              have hd1 : (x != y) = true := by simpa using hxy
              clear hxy
              have HV := Lib.hid (hyi.out (by rw [HTQ.out]; exact hyk.out HXY.out))
              go_wp2_with fail
              go_ret
              exact ⟨by rw [HR.out, HV.out]; rfl, (KN.out.below (below_dr0 _ _ _)).bel⟩
          · have kk1 : ¬ (k : Int) < (kd.length : Int) := by omega
            have kk2 : decide (k < kd.length) = false := by simp; omega
            have HV := Lib.hid (hst.out (by rw [HTQ.out]; exact HKY.out (fun j h h' => HJ.out j h h' (by omega))))
            have hwi := HW1.out
            go_wp2_with fail
            go_roundw
            case rel => exact ⟨i + 1, by omega, by go_num, HV.out, KN.out.1⟩
            case measure => simp [intOf]; omega
    · have k1 : ¬ (i : Int) < (ps.length : Int) := by omega
      have k2 : decide (i < ps.length) = false := by simp; omega
      have HV := Lib.hid (hN.out (fun j h h' => by first | exact absurd h (Nat.not_lt_zero _) | exact HI.out j h h' (by omega)))
      go_wp2_with fail
      go_ret
      exact ⟨by rw [HR.out, HV.out]; rfl, KB⟩
end Go.Proofs.YtgechifbbhipaaaDoor

/- devinf: is a device too great to be asked. No condition. -/
set_option linter.unusedVariables false
set_option linter.unusedSimpArgs false
namespace Go.Proofs.YtgechifbbhipaaaDoor
open Go.RowKit

def fcs (l : List Fm) : List Value := l.flatMap fun f => [.string f.ty, .string f.ve]
theorem fcs_len (l : List Fm) : (fcs l).length = l.length * 2 := by
  induction l with
  | nil => rfl
  | cons f l ih => show (_ :: _ :: fcs l).length = _; simp only [List.length_cons, ih]; omega
theorem fcs_get : ∀ (l : List Fm) (i : Nat) (h : i < l.length), (fcs l)[i * 2]? = some (.string l[i].ty) ∧ (fcs l)[i * 2 + 1]? = some (.string l[i].ve)
  | f :: l, 0, _ => ⟨rfl, rfl⟩
  | f :: l, i + 1, h => by
    have ih := fcs_get l i (by simpa using h)
    have e : fcs (f :: l) = .string f.ty :: .string f.ve :: fcs l := rfl
    rw [e, show (i + 1) * 2 = i * 2 + 1 + 1 from by omega]
    exact ⟨ih.1, ih.2⟩
theorem fcs_one (l : List Fm) : ∀ u ∈ fcs l, u.oneCell' = true := by
  induction l with
  | nil => intro u hu; cases hu
  | cons f l ih =>
    intro u hu
    have hu : u ∈ (.string f.ty :: .string f.ve :: fcs l : List Value) := hu
    simp only [List.mem_cons] at hu
    rcases hu with rfl | rfl | hu
    · rfl
    · rfl
    · exact ih u hu
theorem fcs_app (l m : List Fm) : fcs (l ++ m) = fcs l ++ fcs m := by unfold fcs; rw [List.flatMap_append]
/-- forms in memory, as what is appended -/
theorem AtF.src {w : World} {M : Nat} {a : Option Addr} {l : List Fm} (h : AtF w M a l) : ∀ q, a = some q → ∀ j u, (fcs l)[j]? = some u → w.cell? (q.add j) = some u := by
  intro q hq j u hu
  have hj : j < (fcs l).length := (List.getElem?_eq_some_iff.1 hu).1
  rw [fcs_len] at hj
  have hi : j / 2 < l.length := by omega
  obtain ⟨b, o, ha, hb, hc⟩ := h (j / 2) hi
  rw [hq] at ha
  obtain rfl : q = ⟨b, o, none⟩ := by simpa using ha
  obtain ⟨h1, h2⟩ := fcs_get l (j / 2) hi
  rw [addr_addT]
  rcases Nat.mod_two_eq_zero_or_one j with hm | hm
  · have e : j = j / 2 * 2 := by omega
    rw [e] at hu
    rw [h1] at hu
    have := hc 0 _ hu
    rwa [show o + j / 2 * 2 + 0 = o + j from by omega] at this
  · have e : j = j / 2 * 2 + 1 := by omega
    rw [e] at hu
    rw [h2] at hu
    have := hc 1 _ hu
    rwa [show o + j / 2 * 2 + 1 = o + j from by omega] at this
theorem AtF.none {w : World} {M : Nat} {a : Option Addr} {l : List Fm} (h : AtF w M a l) (ha : a = none) : l.length = 0 := by
  subst ha
  by_cases h0 : 0 < l.length
  · obtain ⟨b, o, hn, _⟩ := h 0 h0
    cases hn
  · omega
def GpR (p : Pl) (r : Ending) : Prop := ∃ g : Bool, r = .returned (.bool g) ∧ (g = false → SmallP p)
theorem info100 : ∃ i0, Tryd.prog.info? 100 = some i0 ∧ i0.zero = some (.agg #[.string ByteArray.empty, .string ByteArray.empty]) ∧ i0.size = 2 ∧ i0.bytes = 32 := by
  have h : (Tryd.prog.info? 100).map (fun i => (i.zero, i.size, i.bytes)) = some (some (.agg #[.string ByteArray.empty, .string ByteArray.empty]), 2, 32) := by kernel_rfl
  obtain ⟨i0, hi, h⟩ := Option.map_eq_some_iff.1 h
  simp only [Prod.mk.injEq] at h
  exact ⟨i0, hi, h.1, h.2.1, h.2.2⟩
set_option maxRecDepth 100000 in
set_option maxHeartbeats 8000000 in
theorem greatPlace_any (p : Pl) (cs : Array Value) (w : World) (hp : AtP w w.heap.size p cs) : Calls Tryd.prog 61 #[.agg cs] w fun r w' => GpR p r ∧ Below w.heap.size w w' := by
  obtain ⟨a1, c1, a2, c2, a3, c3, rfl, h1, h2, h3, _, _, _, n1, n2⟩ := hp
  obtain ⟨rf, nm, mx, tk, gv, kd⟩ := p
  simp only [cellsP] at h1 h2 h3 ⊢
  have A1 := Lib.hid h1
  have A2 := Lib.hid h2
  have N1 := Lib.hid n1
  have N2 := Lib.hid n2
  have KK := Lib.hid (Sd.start w #[.string rf, .string nm, .int .i64 mx, .slice a1 tk.length c1, .slice a2 gv.length c2, .slice a3 kd.length c3] 87)
  have KB := KK.out.bel
  clear h1 h2 h3 n1 n2
  go_enter Tryd.func61, Tryd.ntmps61
  go_upto_region 3 with fail
  all_goals first
    | (go_ret; exact ⟨⟨true, rfl, fun h => by cases h⟩, KB⟩)
    | skip
  generalize hW : w.alloc (.cells #[.string rf, .string nm, .int .i64 mx, .slice a1 tk.length c1, .slice a2 gv.length c2, .slice a3 kd.length c3] 87) = W at *
  clear hW
  have y3 := blk_cell KK.out.blk 3 _ rfl
  have y4 := blk_cell KK.out.blk 4 _ rfl
  have HT1 : Hid (tk.length ≤ 30) := by unfold Hid; omega
  have HT2 : Hid (gv.length ≤ 30) := by unfold Hid; omega
  have HT3 : Hid (kd.length ≤ 60) := by unfold Hid; omega
  obtain ⟨i0, hi0, hz0, hz1, hz2⟩ := info100
  have HI := Lib.hid hi0
  have HZ0 := Lib.hid hz0
  have HZ1 := Lib.hid hz1
  have HZ2 := Lib.hid hz2
  clear hi0 hz0 hz1 hz2
  have HPB : Hid (w.heap.size < w.heap.size + 1) := Nat.lt_succ_self _
  have HBd : Hid (Below w.heap.size w (W.drew.alloc (.cells #[] 100))) := KB.drew.alloc (KB.drew).size _
  have HO0 : Hid ((W.drew.alloc (.cells #[] 100)).ownsRow (w.heap.size + 1) 100 2 (.slice (some ⟨W.drew.heap.size, 0, none⟩) 0 0) 0 []) := World.ownsRow_made W.drew #[] 0 KK.out.2.2 (by decide) rfl
  have HBz : Hid (w.heap.size + 1 ≤ (W.drew.alloc (.cells #[] 100)).heap.size) := Nat.le_trans KK.out.2.2 (by show W.heap.size ≤ (W.drew.alloc _).heap.size; rw [World.size_alloc]; exact Nat.le_succ _)
  have H63a : Hid (0 + tk.length ≤ maxLen) := by unfold Hid maxLen; have := HT1.out; omega
  have HBYa : Hid ((0 + tk.length) * 32 ≤ 140737488355328) := by unfold Hid; have := HT1.out; omega
  have H63b : Hid (0 + tk.length + gv.length ≤ maxLen) := by unfold Hid maxLen; have := HT1.out; have := HT2.out; omega
  have HBYb : Hid ((0 + tk.length + gv.length) * 32 ≤ 140737488355328) := by unfold Hid; have := HT1.out; have := HT2.out; omega
  have HSK : SK w.heap.size 3 4 (.slice a1 tk.length c1) (.slice a2 gv.length c2) (w.heap.size + 1) W := ⟨y3, y4, KK.out.2.2⟩
  go_region_held3 (fun X => X.cell? ⟨w.heap.size, 3, none⟩ = some (.slice a1 tk.length c1) ∧ X.cell? ⟨w.heap.size, 4, none⟩ = some (.slice a2 gv.length c2) ∧ w.heap.size + 1 ≤ X.heap.size) (first | with_reducible assumption | exact SK.drew (by assumption) HPB.out | exact SK.alloc (by assumption) HPB.out _ | exact SK.grown (by assumption) HPB.out k2 hk1) (first | (refine step_appR rfl (.tmp 33) (.tmp 35) 84 rfl (w.heap.size + 1) 100 i0 _ 2 32 Tryd.underlying84 HI.out HZ0.out HZ1.out HZ2.out rfl (by decide) _ 0 [] rfl HO0.out a1 tk.length c1 (fcs tk) rfl (fcs_len tk) (fun e => ⟨A1.out.none e, N1.out e⟩) (AtF.src (A1.out.below HBd.out)) (fcs_one tk) H63a.out HBYa.out HBz.out (fun a' c' w1 k1 k2 k3 => ?_); have hk1 : ∀ k, (.slice (some ⟨W.drew.heap.size, 0, none⟩) 0 0 : Value).ownBlock = some k → w.heap.size + 1 ≤ k := fun k hk => (HO0.out.lt k hk).1; have HO1 := Lib.hid k1; have HBe : Hid (Below w.heap.size w w1) := HBd.out.grown k2 (HBd.out.size) (fun k hk => Nat.le_of_succ_le (hk1 k hk)); have HBf : Hid (w.heap.size + 1 ≤ w1.heap.size) := Nat.le_trans HBz.out k2.size) | (refine step_appR rfl (.tmp 36) (.tmp 38) 84 rfl (w.heap.size + 1) 100 i0 _ 2 32 Tryd.underlying84 HI.out HZ0.out HZ1.out HZ2.out rfl (by decide) _ (0 + tk.length) ([] ++ fcs tk) rfl HO1.out a2 gv.length c2 (fcs gv) rfl (fcs_len gv) (fun e => ⟨A2.out.none e, N2.out e⟩) (AtF.src (A2.out.below HBe.out)) (fcs_one gv) H63b.out HBYb.out HBf.out (fun a2' c2' w2 k1 k2 k3 => ?_); have hk1 := (fun k hk => (HO1.out.lt k hk).1); have HO2 := Lib.hid k1; have HB2 : Hid (Below w.heap.size w w2) := HBe.out.grown k2 (HBe.out.size) (fun k hk => Nat.le_of_succ_le (hk1 k hk))) | fail)
  all_goals
    have HX : Hid (∀ i, i < 0 + tk.length + gv.length → ∃ s1 s2, (([] ++ fcs tk) ++ fcs gv)[i * 2]? = some (.string s1) ∧ (([] ++ fcs tk) ++ fcs gv)[i * 2 + 1]? = some (.string s2)) := fun i hi => by
      have e : ([] ++ fcs tk) ++ fcs gv = fcs (tk ++ gv) := by rw [fcs_app]; rfl
      have hl : i < (tk ++ gv).length := by rw [List.length_append]; omega
      rw [e]
      exact ⟨_, _, fcs_get _ i hl⟩
    have HM : Hid (0 + tk.length + gv.length ≤ 60) := by unfold Hid; have := HT1.out; have := HT2.out; omega
    have HSM : Hid (SmallP ⟨rf, nm, mx, tk, gv, kd⟩) := ⟨Nat.le_trans HT1.out (by decide), Nat.le_trans HT2.out (by decide), Nat.le_trans HT3.out (by decide)⟩
    have HO9 := Lib.hid HO2.out
    have HB9 := Lib.hid HB2.out
    clear HO2 HB2 HO1 k1 k2 k3
    generalize ([] ++ fcs tk) ++ fcs gv = xs at *
    simp only [Nat.zero_add] at HX HM HO9 ⊢
    generalize tk.length + gv.length = m at *
    go_wp2_with fail
    go_loopw [4] (fun iv wr => ∃ i : Nat, i ≤ m ∧ iv = .int .i64 (i : Int) ∧ Hid (Below w.heap.size w wr) ∧ Hid (wr.ownsRow (w.heap.size + 1) 100 2 (.slice a2' m c2') m xs)) (fun iv _ => m - (intOf iv).toNat)
    case atStart => exact ⟨0, Nat.zero_le _, rfl, HB9.out, HO9.out⟩
    case round =>
      obtain ⟨i, hi, rfl, HBr, HOr⟩ := hrel
      by_cases hlt : i < m
      · have hm60 := HM.out
        have k0 : (0 : Int) ≤ (i : Int) := by omega
        have k1 : (i : Int) < (m : Int) := by omega
        have k2 : decide (i < m) = true := by simp; omega
        obtain ⟨s1, s2, x1, x2⟩ := HX.out i hlt
        have hnz : ∃ g, a2' = some ⟨g, 0, none⟩ := by
          rcases HOr.out.2 with ⟨_, h0⟩ | ⟨g, cap, cur, hv, _⟩
          · omega
          · simp only [Value.slice.injEq] at hv; exact ⟨g, hv.1⟩
        obtain ⟨g, rfl⟩ := hnz
        have y0 := HOr.out.cells (g := g) rfl (i * 2) _ x1
        have y1 := HOr.out.cells (g := g) rfl (i * 2 + 1) _ x2
        rw [addr_addT, Nat.zero_add] at y0 y1
        clear x1 x2
        have HW1 : Hid (wrap64 ((i : Int) + 1) = (i : Int) + 1) := by unfold Hid wrap64; omega
        go_wp2_with fail
        all_goals first
          | (go_ret; exact ⟨⟨true, rfl, fun h => by cases h⟩, HBr.out⟩)
          | (go_roundw
             case rel => exact ⟨i + 1, by omega, by go_num, HBr.out, HOr.out⟩
             case measure => simp [intOf]; omega)
      · have k1 : ¬ (i : Int) < (m : Int) := by omega
        have k2 : decide (i < m) = false := by simp; omega
        go_wp2_with fail
        go_ret
        exact ⟨⟨false, rfl, fun _ => HSM.out⟩, HBr.out⟩
end Go.Proofs.YtgechifbbhipaaaDoor

/- devinf: Great of a device. No condition. -/
set_option linter.unusedVariables false
set_option linter.unusedSimpArgs false
namespace Go.Proofs.YtgechifbbhipaaaDoor
open Go.RowKit

def GdR (ps : List Pl) (r : Ending) : Prop := ∃ g : Bool, r = .returned (.bool g) ∧ (g = false → ps.length ≤ 20 ∧ ∀ p ∈ ps, SmallP p)
set_option maxRecDepth 100000 in
set_option maxHeartbeats 8000000 in
theorem greatD_any (h : Dh) (ps : List Pl) (ab : Option Addr) (cb : Nat) (w : World) (hab : AtPs w w.heap.size ab ps) : Calls Tryd.prog 17 #[.agg (cellsD h ab ps.length cb)] w fun r w' => GdR ps r ∧ Below w.heap.size w w' := by
  obtain ⟨man, mod, soft, id, ty, lg⟩ := h
  simp only [cellsD]
  have HS := Lib.hid hab
  have KK := Lib.hid (Sd.start w #[.string man, .string mod, .string soft, .string id, .string ty, .bool lg, .slice ab ps.length cb] 42)
  have KB := KK.out.bel
  clear hab
  go_enter Tryd.func17, Tryd.ntmps17
  go_wp2_with fail
  all_goals first
    | (go_ret; exact ⟨⟨true, rfl, fun h => by cases h⟩, KB⟩)
    | skip
  have HL20 : Hid (ps.length ≤ 20) := by unfold Hid; omega
  go_loopw [3] (fun iv wr => ∃ i : Nat, i ≤ ps.length ∧ iv = .int .i64 (i : Int) ∧ Hid (∀ j (h : j < ps.length), j < i → SmallP ps[j]) ∧ Hid (Sd w #[.string man, .string mod, .string soft, .string id, .string ty, .bool lg, .slice ab ps.length cb] 42 wr)) (fun iv _ => ps.length - (intOf iv).toNat)
  case atStart => exact ⟨0, Nat.zero_le _, rfl, fun _ _ h => absurd h (Nat.not_lt_zero _), KK.out⟩
  case round =>
    clear KK KB
    obtain ⟨i, hi, rfl, HI, KK⟩ := hrel
    have KB := KK.out.bel
    have y6 := blk_cell KK.out.blk 6 _ rfl
    by_cases hlt : i < ps.length
    · obtain ⟨b, o, a1, c1, a2, c2, a3, c3, rfl, hbl, hc0, hat⟩ := HS.out.at i hlt
      have hl20 := HL20.out
      have k0 : (0 : Int) ≤ (i : Int) := by omega
      have k1 : (i : Int) < (ps.length : Int) := by omega
      have k2 : decide (i < ps.length) = true := by simp; omega
      have hst : Hid (SmallP ps[i] → ∀ j (h : j < ps.length), j < i + 1 → SmallP ps[j]) := fun hp j h hj => by
        by_cases e : j = i
        · subst e; exact hp
        · exact HI.out j h (by omega)
      have hc : wr.rangeAt b (o + i * 6) (cellsP ps[i] a1 c1 a2 c2 a3 c3).toList := fun j u hu => (KB.cell (p := ⟨b, o + i * 6 + j, none⟩) hbl).trans (hc0 j u hu)
      obtain ⟨c00, c01, c02, c03, c04, c05⟩ := cells6 hc
      have cQ := Lib.hid (fun X (hX : Below w.heap.size w X) => greatPlace_any ps[i] _ X ((hat.below hX).mono hX.size))
      clear hc0 hc hbl HI hat
      generalize ps[i] = x at *
      obtain ⟨rf, nm, mx, tk, gv, kd⟩ := x
      simp only [cellsP] at c00 c01 c02 c03 c04 c05 cQ
      have HW1 : Hid (wrap64 ((i : Int) + 1) = (i : Int) + 1) := by unfold Hid wrap64; omega
      go_wp2_with (go_at_call 61; (with_reducible refine (cQ.out _ KB).mono ?_); rintro r X ⟨⟨g, rfl, hg⟩, hb⟩; have HG := Lib.hid hg; have KX := Lib.hid (KK.out.below hb); clear hg hb)
      all_goals first
        | (go_ret; exact ⟨⟨true, rfl, fun h => by cases h⟩, KX.out.bel⟩)
        | (go_roundw
           case rel => exact ⟨i + 1, by omega, by go_num, hst.out (HG.out (by first | rfl | assumption | simp_all)), KX.out⟩
           case measure => simp [intOf]; omega)
    · have k1 : ¬ (i : Int) < (ps.length : Int) := by omega
      have k2 : decide (i < ps.length) = false := by simp; omega
      have HV : Hid (ps.length ≤ 20 ∧ ∀ p ∈ ps, SmallP p) := ⟨HL20.out, fun p hp => by
        obtain ⟨j, hj, rfl⟩ := List.getElem_of_mem hp
        exact HI.out j hj (by omega)⟩
      go_wp2_with fail
      go_ret
      exact ⟨⟨false, rfl, fun _ => HV.out⟩, KB⟩
end Go.Proofs.YtgechifbbhipaaaDoor

/- devinf: DevinfTells, the law's walk, over what the program's Elem does. No condition but the tables. -/
set_option linter.unusedVariables false
set_option linter.unusedSimpArgs false
namespace Go.Proofs.YtgechifbbhipaaaDoor
open Go.RowKit

/-- a world behind the arguments' boxes and the two elements -/
def Te (w : World) (c1 c2 : Array Value) (E : Tr) (g1 : Nat) (r1 : Array Value) (g2 : Nat) (r2 : Array Value) (X : World) : Prop := Se w c1 c2 42 X ∧ X.heap[g1]? = some (.cells r1 46 (0, 0)) ∧ X.heap[g2]? = some (.cells r2 46 (0, 0)) ∧ (g1 < X.heap.size ∧ g2 < X.heap.size) ∧ AtT X X.heap.size E (.agg r1) ∧ AtT X X.heap.size E (.agg r2)
theorem Te.below {w X Y : World} {c1 c2 : Array Value} {E : Tr} {g1 : Nat} {r1 : Array Value} {g2 : Nat} {r2 : Array Value} (h : Te w c1 c2 E g1 r1 g2 r2 X) (hb : Below X.heap.size X Y) : Te w c1 c2 E g1 r1 g2 r2 Y := by
  obtain ⟨h1, h2, h3, ⟨h4, h5⟩, h6, h7⟩ := h
  exact ⟨h1.below hb, (hb.block _ h4).trans h2, (hb.block _ h5).trans h3, ⟨Nat.lt_of_lt_of_le h4 hb.size, Nat.lt_of_lt_of_le h5 hb.size⟩, AtT.mono hb.size _ _ (AtT.below hb _ _ h6), AtT.mono hb.size _ _ (AtT.below hb _ _ h7)⟩
theorem Te.bel {w X : World} {c1 c2 : Array Value} {E : Tr} {g1 : Nat} {r1 : Array Value} {g2 : Nat} {r2 : Array Value} (h : Te w c1 c2 E g1 r1 g2 r2 X) : Below w.heap.size w X := h.1.1
set_option maxRecDepth 100000 in
set_option maxHeartbeats 16000000 in
theorem devinfTells_walk (hOk : ElemOk) (h g : Dh) (ps qs : List Pl) (ab ab2 : Option Addr) (cb cb2 : Nat) (w : World) (hT : Lib.Utf8Tabs 2 3 w) (hab : AtPs w w.heap.size ab ps) (hab2 : AtPs w w.heap.size ab2 qs) :
    Calls Tryd.prog 4 #[.agg (cellsD h ab ps.length cb), .agg (cellsD g ab2 qs.length cb2)] w fun r w' => r = .returned (.bool true) ∧ Below w.heap.size w w' := by
  have cGd := Lib.hid (fun X (hX : Below w.heap.size w X) => greatD_any h ps ab cb X (hab.below hX |>.mono hX.size))
  have cGe := Lib.hid (fun X (hX : Below w.heap.size w X) => greatD_any g qs ab2 cb2 X (hab2.below hX |>.mono hX.size))
  have c18 := Lib.hid (fun X (hX : Below w.heap.size w X) => devElem_any hOk h ps ab cb X (Utf8Tabs_below hT hX) (hab.below hX |>.mono hX.size))
  have c19 := Lib.hid (fun X (hX : Below w.heap.size w X) => refElem_any h ps ab cb X (hab.below hX |>.mono hX.size))
  have c20 := Lib.hid (fun X (hX : Below w.heap.size w X) => devText_any hOk h ps ab cb X (Utf8Tabs_below hT hX) (hab.below hX |>.mono hX.size))
  have c21 := Lib.hid (fun X (hX : Below w.heap.size w X) => refDevText_any h ps ab cb X (hab.below hX |>.mono hX.size))
  have c23 := Lib.hid (fun X (hX : Below w.heap.size w X) => devCheck_any h ps ab cb X (Utf8Tabs_below hT hX) (hab.below hX |>.mono hX.size))
  have c24 := Lib.hid (fun X (hX : Below w.heap.size w X) => refDevCheck_any h ps ab cb X (hab.below hX |>.mono hX.size))
  have c25 := Lib.hid (fun (hs : ps.length ≤ 20 ∧ ∀ p ∈ ps, SmallP p) X (hX : Below w.heap.size w X) => devSame_any h g ps qs hs.2 ab ab2 cb cb2 (by omega) X (hab.below hX |>.mono hX.size) (hab2.below hX |>.mono hX.size))
  have c26 := Lib.hid (fun (hs : ps.length ≤ 20 ∧ ∀ p ∈ ps, SmallP p) X (hX : Below w.heap.size w X) => refDevSame_any h g ps qs hs.2 ab ab2 cb cb2 (by omega) X (hab.below hX |>.mono hX.size) (hab2.below hX |>.mono hX.size))
  have c27 := Lib.hid (fun (hs : ps.length ≤ 20 ∧ ∀ p ∈ ps, SmallP p) X (hX : Below w.heap.size w X) => devSame_any h h ps ps hs.2 ab ab cb cb (by omega) X (hab.below hX |>.mono hX.size) (hab.below hX |>.mono hX.size))
  rw [sameD_refl h ps] at c27
  have cS : Hid (∀ va vb X, AtT X X.heap.size (elemD h ps) va → AtT X X.heap.size (elemD h ps) vb → Calls Tryd.prog 22 #[va, vb] X fun r w' => r = .returned (.bool true) ∧ Below X.heap.size X w') := fun va vb X h1 h2 => by
    have := same_any _ _ va vb X h1 h2
    rwa [sameT_refl] at this
  clear hT hab hab2
  generalize sameD h ps g qs = sv at *
  generalize textD h ps = TX at *
  generalize devV h ps = q at *
  generalize elemD h ps = E at *
  have c18b : Hid (∀ X, Below w.heap.size w X → Calls Tryd.prog 18 #[.agg (cellsD h ab ps.length cb)] X fun r w' => (∃ a6 c6, r = .returned (.tuple #[.agg #[.int .i64 E.page, .string E.name, .string E.text, .bool E.opq, .slice a6 E.kids.length c6], .int .i64 q]) ∧ AtT w' w'.heap.size E (.agg #[.int .i64 E.page, .string E.name, .string E.text, .bool E.opq, .slice a6 E.kids.length c6])) ∧ Below X.heap.size X w') := fun X hX => (c18.out X hX).mono fun r w' hh => by
    obtain ⟨⟨v, rfl, hat⟩, hb⟩ := hh
    obtain ⟨a6, c6, rfl⟩ := hat.cells5
    exact ⟨⟨a6, c6, rfl, AtQ.to (fun b hb => hb.2) _ _ hat⟩, hb⟩
  have c19b : Hid (∀ X, Below w.heap.size w X → Calls Tryd.prog 19 #[.agg (cellsD h ab ps.length cb)] X fun r w' => (∃ a6 c6, r = .returned (.tuple #[.agg #[.int .i64 E.page, .string E.name, .string E.text, .bool E.opq, .slice a6 E.kids.length c6], .int .i64 q]) ∧ AtT w' w'.heap.size E (.agg #[.int .i64 E.page, .string E.name, .string E.text, .bool E.opq, .slice a6 E.kids.length c6])) ∧ Below X.heap.size X w') := fun X hX => (c19.out X hX).mono fun r w' hh => by
    obtain ⟨⟨v, rfl, hat⟩, hb⟩ := hh
    obtain ⟨a6, c6, rfl⟩ := hat.cells5
    exact ⟨⟨a6, c6, rfl, AtQ.to (fun b hb => hb.2) _ _ hat⟩, hb⟩
  clear c18 c19
  generalize E.page = e0 at *
  generalize E.name = e1 at *
  generalize E.text = e2 at *
  generalize E.opq = e3 at *
  generalize E.kids.length = e4 at *
  obtain ⟨man, mod, soft, id, ty, lg⟩ := h
  obtain ⟨man2, mod2, soft2, id2, ty2, lg2⟩ := g
  simp only [cellsD] at cGd cGe c18b c19b c20 c21 c23 c24 c25 c26 c27 ⊢
  obtain ⟨t1, t2⟩ := TX
  have KK := Lib.hid (Se.start w #[.string man, .string mod, .string soft, .string id, .string ty, .bool lg, .slice ab ps.length cb] #[.string man2, .string mod2, .string soft2, .string id2, .string ty2, .bool lg2, .slice ab2 qs.length cb2] 42)
  have KB := KK.out.1
  go_enter Tryd.func4, Tryd.ntmps4
  go_upto_region 3 with (first | (go_at_call 17; (with_reducible refine (cGd.out _ KB).mono ?_); rintro r X ⟨⟨gd, rfl, hg⟩, hb⟩; have KK := Lib.hid (KK.out.below hb); have KB := KK.out.1; have y0 := blk_cell KK.out.2.1 0 _ rfl; have y1 := blk_cell KK.out.2.1 1 _ rfl; have y2 := blk_cell KK.out.2.1 2 _ rfl; have y3 := blk_cell KK.out.2.1 3 _ rfl; have y4 := blk_cell KK.out.2.1 4 _ rfl; have y5 := blk_cell KK.out.2.1 5 _ rfl; have y6 := blk_cell KK.out.2.1 6 _ rfl; have z0 := blk_cell KK.out.2.2.1 0 _ rfl; have z1 := blk_cell KK.out.2.2.1 1 _ rfl; have z2 := blk_cell KK.out.2.2.1 2 _ rfl; have z3 := blk_cell KK.out.2.2.1 3 _ rfl; have z4 := blk_cell KK.out.2.2.1 4 _ rfl; have z5 := blk_cell KK.out.2.2.1 5 _ rfl; have z6 := blk_cell KK.out.2.2.1 6 _ rfl; have HGd := Lib.hid hg; clear hg) | (go_at_call 17; (with_reducible refine (cGe.out _ KB).mono ?_); rintro r X ⟨⟨ge, rfl, hg⟩, hb⟩; have KK := Lib.hid (KK.out.below hb); have KB := KK.out.1; have y0 := blk_cell KK.out.2.1 0 _ rfl; have y1 := blk_cell KK.out.2.1 1 _ rfl; have y2 := blk_cell KK.out.2.1 2 _ rfl; have y3 := blk_cell KK.out.2.1 3 _ rfl; have y4 := blk_cell KK.out.2.1 4 _ rfl; have y5 := blk_cell KK.out.2.1 5 _ rfl; have y6 := blk_cell KK.out.2.1 6 _ rfl; have z0 := blk_cell KK.out.2.2.1 0 _ rfl; have z1 := blk_cell KK.out.2.2.1 1 _ rfl; have z2 := blk_cell KK.out.2.2.1 2 _ rfl; have z3 := blk_cell KK.out.2.2.1 3 _ rfl; have z4 := blk_cell KK.out.2.2.1 4 _ rfl; have z5 := blk_cell KK.out.2.2.1 5 _ rfl; have z6 := blk_cell KK.out.2.2.1 6 _ rfl; clear hg) | fail)
  all_goals first
    | (go_ret; exact ⟨rfl, KB⟩)
    | skip
  have HSM := Lib.hid (HGd.out (by first | rfl | assumption | simp_all))
  clear HGd cGd cGe
  go_upto_region 4 with (first | (go_at_call 18; (with_reducible refine (c18b.out _ KB).mono ?_); rintro r X3 ⟨⟨a6, c6, rfl, hat⟩, hb⟩; have KX := Lib.hid (KK.out.below hb); have HAT1 := Lib.hid hat; clear hat hb) | fail)
  obtain ⟨W3, hW3⟩ : ∃ W3, X3.alloc (.cells #[.int .i64 e0, .string e1, .string e2, .bool e3, .slice a6 e4 c6] 46) = W3 := ⟨_, rfl⟩
  rw [hW3]
  have hb3 : Below X3.heap.size X3 W3 := by rw [← hW3]; exact (Below.refl _ _).alloc (Nat.le_refl _) _
  have KK3 := Lib.hid (KX.out.below hb3)
  have KB3 := KK3.out.1
  have HZ3 : Hid (W3.heap[X3.heap.size]? = some (.cells #[.int .i64 e0, .string e1, .string e2, .bool e3, .slice a6 e4 c6] 46 (0, 0))) := by unfold Hid; rw [← hW3]; exact World.alloc_heap_new _ _
  have HG3 : Hid (X3.heap.size < W3.heap.size) := by unfold Hid; rw [← hW3]; simp
  have HA3 : Hid (AtT W3 W3.heap.size E (.agg #[.int .i64 e0, .string e1, .string e2, .bool e3, .slice a6 e4 c6])) := AtT.mono hb3.size _ _ (AtT.below hb3 _ _ HAT1.out)
  clear hW3 hb3 KK KB KX HAT1
  generalize X3.heap.size = g1 at *
  have y0 := blk_cell KK3.out.2.1 0 _ rfl; have y1 := blk_cell KK3.out.2.1 1 _ rfl; have y2 := blk_cell KK3.out.2.1 2 _ rfl; have y3 := blk_cell KK3.out.2.1 3 _ rfl; have y4 := blk_cell KK3.out.2.1 4 _ rfl; have y5 := blk_cell KK3.out.2.1 5 _ rfl; have y6 := blk_cell KK3.out.2.1 6 _ rfl; have z0 := blk_cell KK3.out.2.2.1 0 _ rfl; have z1 := blk_cell KK3.out.2.2.1 1 _ rfl; have z2 := blk_cell KK3.out.2.2.1 2 _ rfl; have z3 := blk_cell KK3.out.2.2.1 3 _ rfl; have z4 := blk_cell KK3.out.2.2.1 4 _ rfl; have z5 := blk_cell KK3.out.2.2.1 5 _ rfl; have z6 := blk_cell KK3.out.2.2.1 6 _ rfl
  go_upto_region 5 with (first | (go_at_call 19; (with_reducible refine (c19b.out _ KB3).mono ?_); rintro r X4 ⟨⟨a7, c7, rfl, hat⟩, hb⟩; have KX := Lib.hid (KK3.out.below hb); have HAT2 := Lib.hid hat; have HB34 := Lib.hid hb; clear hat hb) | fail)
  obtain ⟨W4, hW4⟩ : ∃ W4, X4.alloc (.cells #[.int .i64 e0, .string e1, .string e2, .bool e3, .slice a7 e4 c7] 46) = W4 := ⟨_, rfl⟩
  rw [hW4]
  have hb4 : Below X4.heap.size X4 W4 := by rw [← hW4]; exact (Below.refl _ _).alloc (Nat.le_refl _) _
  have hbb : Below W3.heap.size W3 W4 := HB34.out.trans (hb4.mono HB34.out.size)
  have KK := Lib.hid (show Te w #[.string man, .string mod, .string soft, .string id, .string ty, .bool lg, .slice ab ps.length cb] #[.string man2, .string mod2, .string soft2, .string id2, .string ty2, .bool lg2, .slice ab2 qs.length cb2] E g1 #[.int .i64 e0, .string e1, .string e2, .bool e3, .slice a6 e4 c6] X4.heap.size #[.int .i64 e0, .string e1, .string e2, .bool e3, .slice a7 e4 c7] W4 from ⟨KX.out.below hb4, (hbb.block _ HG3.out).trans HZ3.out, by rw [← hW4]; exact World.alloc_heap_new _ _, ⟨Nat.lt_of_lt_of_le HG3.out hbb.size, by rw [← hW4]; simp⟩, AtT.mono hbb.size _ _ (AtT.below hbb _ _ HA3.out), AtT.mono hb4.size _ _ (AtT.below hb4 _ _ HAT2.out)⟩)
  have KB := KK.out.bel
  clear hW4 hb4 hbb KK3 KB3 HZ3 HG3 HA3 KX HAT2 HB34
  generalize X4.heap.size = g2 at *
  clear y0 y1 y2 y3 y4 y5 y6 z0 z1 z2 z3 z4 z5 z6
  have y0 := blk_cell KK.out.1.2.1 0 _ rfl; have y1 := blk_cell KK.out.1.2.1 1 _ rfl; have y2 := blk_cell KK.out.1.2.1 2 _ rfl; have y3 := blk_cell KK.out.1.2.1 3 _ rfl; have y4 := blk_cell KK.out.1.2.1 4 _ rfl; have y5 := blk_cell KK.out.1.2.1 5 _ rfl; have y6 := blk_cell KK.out.1.2.1 6 _ rfl; have z0 := blk_cell KK.out.1.2.2.1 0 _ rfl; have z1 := blk_cell KK.out.1.2.2.1 1 _ rfl; have z2 := blk_cell KK.out.1.2.2.1 2 _ rfl; have z3 := blk_cell KK.out.1.2.2.1 3 _ rfl; have z4 := blk_cell KK.out.1.2.2.1 4 _ rfl; have z5 := blk_cell KK.out.1.2.2.1 5 _ rfl; have z6 := blk_cell KK.out.1.2.2.1 6 _ rfl
  go_upto_region 7 with (first | (go_at_call 20; (with_reducible refine (c20.out _ KB).mono ?_); rintro r X ⟨rfl, hb⟩; have KK := Lib.hid (KK.out.below hb); have KB := KK.out.bel; have y0 := blk_cell KK.out.1.2.1 0 _ rfl; have y1 := blk_cell KK.out.1.2.1 1 _ rfl; have y2 := blk_cell KK.out.1.2.1 2 _ rfl; have y3 := blk_cell KK.out.1.2.1 3 _ rfl; have y4 := blk_cell KK.out.1.2.1 4 _ rfl; have y5 := blk_cell KK.out.1.2.1 5 _ rfl; have y6 := blk_cell KK.out.1.2.1 6 _ rfl; have z0 := blk_cell KK.out.1.2.2.1 0 _ rfl; have z1 := blk_cell KK.out.1.2.2.1 1 _ rfl; have z2 := blk_cell KK.out.1.2.2.1 2 _ rfl; have z3 := blk_cell KK.out.1.2.2.1 3 _ rfl; have z4 := blk_cell KK.out.1.2.2.1 4 _ rfl; have z5 := blk_cell KK.out.1.2.2.1 5 _ rfl; have z6 := blk_cell KK.out.1.2.2.1 6 _ rfl) | (go_at_call 21; (with_reducible refine (c21.out _ KB).mono ?_); rintro r X ⟨rfl, hb⟩; have KK := Lib.hid (KK.out.below hb); have KB := KK.out.bel; have y0 := blk_cell KK.out.1.2.1 0 _ rfl; have y1 := blk_cell KK.out.1.2.1 1 _ rfl; have y2 := blk_cell KK.out.1.2.1 2 _ rfl; have y3 := blk_cell KK.out.1.2.1 3 _ rfl; have y4 := blk_cell KK.out.1.2.1 4 _ rfl; have y5 := blk_cell KK.out.1.2.1 5 _ rfl; have y6 := blk_cell KK.out.1.2.1 6 _ rfl; have z0 := blk_cell KK.out.1.2.2.1 0 _ rfl; have z1 := blk_cell KK.out.1.2.2.1 1 _ rfl; have z2 := blk_cell KK.out.1.2.2.1 2 _ rfl; have z3 := blk_cell KK.out.1.2.2.1 3 _ rfl; have z4 := blk_cell KK.out.1.2.2.1 4 _ rfl; have z5 := blk_cell KK.out.1.2.2.1 5 _ rfl; have z6 := blk_cell KK.out.1.2.2.1 6 _ rfl) | fail)
  have i1 : (q == q) = true := by simp
  have i2 : (t1.toList == t1.toList) = true := str_self t1
  have i3 : (t2 == t2) = true := by simp
  have i4 : (sv == sv) = true := by cases sv <;> rfl
  have HKK := Lib.hid KK.out
  clear y0 y1 y2 y3 y4 y5 y6 z0 z1 z2 z3 z4 z5 z6 KB
  have hSS : Hid (∀ X, Te w #[.string man, .string mod, .string soft, .string id, .string ty, .bool lg, .slice ab ps.length cb] #[.string man2, .string mod2, .string soft2, .string id2, .string ty2, .bool lg2, .slice ab2 qs.length cb2] E g1 #[.int .i64 e0, .string e1, .string e2, .bool e3, .slice a6 e4 c6] g2 #[.int .i64 e0, .string e1, .string e2, .bool e3, .slice a7 e4 c7] X → (X.cell? ⟨w.heap.size, 0, none⟩ = some (.string man) ∧ X.cell? ⟨w.heap.size, 1, none⟩ = some (.string mod) ∧ X.cell? ⟨w.heap.size, 2, none⟩ = some (.string soft) ∧ X.cell? ⟨w.heap.size, 3, none⟩ = some (.string id) ∧ X.cell? ⟨w.heap.size, 4, none⟩ = some (.string ty) ∧ X.cell? ⟨w.heap.size, 5, none⟩ = some (.bool lg) ∧ X.cell? ⟨w.heap.size, 6, none⟩ = some (.slice ab ps.length cb) ∧ X.cell? ⟨w.heap.size + 1, 0, none⟩ = some (.string man2) ∧ X.cell? ⟨w.heap.size + 1, 1, none⟩ = some (.string mod2) ∧ X.cell? ⟨w.heap.size + 1, 2, none⟩ = some (.string soft2) ∧ X.cell? ⟨w.heap.size + 1, 3, none⟩ = some (.string id2) ∧ X.cell? ⟨w.heap.size + 1, 4, none⟩ = some (.string ty2) ∧ X.cell? ⟨w.heap.size + 1, 5, none⟩ = some (.bool lg2) ∧ X.cell? ⟨w.heap.size + 1, 6, none⟩ = some (.slice ab2 qs.length cb2) ∧ X.cell? ⟨g1, 0, none⟩ = some (.int .i64 e0) ∧ X.cell? ⟨g1, 1, none⟩ = some (.string e1) ∧ X.cell? ⟨g1, 2, none⟩ = some (.string e2) ∧ X.cell? ⟨g1, 3, none⟩ = some (.bool e3) ∧ X.cell? ⟨g1, 4, none⟩ = some (.slice a6 e4 c6) ∧ X.cell? ⟨g2, 0, none⟩ = some (.int .i64 e0) ∧ X.cell? ⟨g2, 1, none⟩ = some (.string e1) ∧ X.cell? ⟨g2, 2, none⟩ = some (.string e2) ∧ X.cell? ⟨g2, 3, none⟩ = some (.bool e3) ∧ X.cell? ⟨g2, 4, none⟩ = some (.slice a7 e4 c7) ∧ Te w #[.string man, .string mod, .string soft, .string id, .string ty, .bool lg, .slice ab ps.length cb] #[.string man2, .string mod2, .string soft2, .string id2, .string ty2, .bool lg2, .slice ab2 qs.length cb2] E g1 #[.int .i64 e0, .string e1, .string e2, .bool e3, .slice a6 e4 c6] g2 #[.int .i64 e0, .string e1, .string e2, .bool e3, .slice a7 e4 c7] X)) := fun X h => ⟨blk_cell h.1.2.1 0 _ rfl, blk_cell h.1.2.1 1 _ rfl, blk_cell h.1.2.1 2 _ rfl, blk_cell h.1.2.1 3 _ rfl, blk_cell h.1.2.1 4 _ rfl, blk_cell h.1.2.1 5 _ rfl, blk_cell h.1.2.1 6 _ rfl, blk_cell h.1.2.2.1 0 _ rfl, blk_cell h.1.2.2.1 1 _ rfl, blk_cell h.1.2.2.1 2 _ rfl, blk_cell h.1.2.2.1 3 _ rfl, blk_cell h.1.2.2.1 4 _ rfl, blk_cell h.1.2.2.1 5 _ rfl, blk_cell h.1.2.2.1 6 _ rfl, blk_cell h.2.1 0 _ rfl, blk_cell h.2.1 1 _ rfl, blk_cell h.2.1 2 _ rfl, blk_cell h.2.1 3 _ rfl, blk_cell h.2.1 4 _ rfl, blk_cell h.2.2.1 0 _ rfl, blk_cell h.2.2.1 1 _ rfl, blk_cell h.2.2.1 2 _ rfl, blk_cell h.2.2.1 3 _ rfl, blk_cell h.2.2.1 4 _ rfl, h⟩
  have hTT : Hid (∀ X, (X.cell? ⟨w.heap.size, 0, none⟩ = some (.string man) ∧ X.cell? ⟨w.heap.size, 1, none⟩ = some (.string mod) ∧ X.cell? ⟨w.heap.size, 2, none⟩ = some (.string soft) ∧ X.cell? ⟨w.heap.size, 3, none⟩ = some (.string id) ∧ X.cell? ⟨w.heap.size, 4, none⟩ = some (.string ty) ∧ X.cell? ⟨w.heap.size, 5, none⟩ = some (.bool lg) ∧ X.cell? ⟨w.heap.size, 6, none⟩ = some (.slice ab ps.length cb) ∧ X.cell? ⟨w.heap.size + 1, 0, none⟩ = some (.string man2) ∧ X.cell? ⟨w.heap.size + 1, 1, none⟩ = some (.string mod2) ∧ X.cell? ⟨w.heap.size + 1, 2, none⟩ = some (.string soft2) ∧ X.cell? ⟨w.heap.size + 1, 3, none⟩ = some (.string id2) ∧ X.cell? ⟨w.heap.size + 1, 4, none⟩ = some (.string ty2) ∧ X.cell? ⟨w.heap.size + 1, 5, none⟩ = some (.bool lg2) ∧ X.cell? ⟨w.heap.size + 1, 6, none⟩ = some (.slice ab2 qs.length cb2) ∧ X.cell? ⟨g1, 0, none⟩ = some (.int .i64 e0) ∧ X.cell? ⟨g1, 1, none⟩ = some (.string e1) ∧ X.cell? ⟨g1, 2, none⟩ = some (.string e2) ∧ X.cell? ⟨g1, 3, none⟩ = some (.bool e3) ∧ X.cell? ⟨g1, 4, none⟩ = some (.slice a6 e4 c6) ∧ X.cell? ⟨g2, 0, none⟩ = some (.int .i64 e0) ∧ X.cell? ⟨g2, 1, none⟩ = some (.string e1) ∧ X.cell? ⟨g2, 2, none⟩ = some (.string e2) ∧ X.cell? ⟨g2, 3, none⟩ = some (.bool e3) ∧ X.cell? ⟨g2, 4, none⟩ = some (.slice a7 e4 c7) ∧ Te w #[.string man, .string mod, .string soft, .string id, .string ty, .bool lg, .slice ab ps.length cb] #[.string man2, .string mod2, .string soft2, .string id2, .string ty2, .bool lg2, .slice ab2 qs.length cb2] E g1 #[.int .i64 e0, .string e1, .string e2, .bool e3, .slice a6 e4 c6] g2 #[.int .i64 e0, .string e1, .string e2, .bool e3, .slice a7 e4 c7] X) → Te w #[.string man, .string mod, .string soft, .string id, .string ty, .bool lg, .slice ab ps.length cb] #[.string man2, .string mod2, .string soft2, .string id2, .string ty2, .bool lg2, .slice ab2 qs.length cb2] E g1 #[.int .i64 e0, .string e1, .string e2, .bool e3, .slice a6 e4 c6] g2 #[.int .i64 e0, .string e1, .string e2, .bool e3, .slice a7 e4 c7] X) := fun X h => h.2.2.2.2.2.2.2.2.2.2.2.2.2.2.2.2.2.2.2.2.2.2.2.2
  have hS0 := hSS.out _ HKK.out
  go_region_held3 (fun X => X.cell? ⟨w.heap.size, 0, none⟩ = some (.string man) ∧ X.cell? ⟨w.heap.size, 1, none⟩ = some (.string mod) ∧ X.cell? ⟨w.heap.size, 2, none⟩ = some (.string soft) ∧ X.cell? ⟨w.heap.size, 3, none⟩ = some (.string id) ∧ X.cell? ⟨w.heap.size, 4, none⟩ = some (.string ty) ∧ X.cell? ⟨w.heap.size, 5, none⟩ = some (.bool lg) ∧ X.cell? ⟨w.heap.size, 6, none⟩ = some (.slice ab ps.length cb) ∧ X.cell? ⟨w.heap.size + 1, 0, none⟩ = some (.string man2) ∧ X.cell? ⟨w.heap.size + 1, 1, none⟩ = some (.string mod2) ∧ X.cell? ⟨w.heap.size + 1, 2, none⟩ = some (.string soft2) ∧ X.cell? ⟨w.heap.size + 1, 3, none⟩ = some (.string id2) ∧ X.cell? ⟨w.heap.size + 1, 4, none⟩ = some (.string ty2) ∧ X.cell? ⟨w.heap.size + 1, 5, none⟩ = some (.bool lg2) ∧ X.cell? ⟨w.heap.size + 1, 6, none⟩ = some (.slice ab2 qs.length cb2) ∧ X.cell? ⟨g1, 0, none⟩ = some (.int .i64 e0) ∧ X.cell? ⟨g1, 1, none⟩ = some (.string e1) ∧ X.cell? ⟨g1, 2, none⟩ = some (.string e2) ∧ X.cell? ⟨g1, 3, none⟩ = some (.bool e3) ∧ X.cell? ⟨g1, 4, none⟩ = some (.slice a6 e4 c6) ∧ X.cell? ⟨g2, 0, none⟩ = some (.int .i64 e0) ∧ X.cell? ⟨g2, 1, none⟩ = some (.string e1) ∧ X.cell? ⟨g2, 2, none⟩ = some (.string e2) ∧ X.cell? ⟨g2, 3, none⟩ = some (.bool e3) ∧ X.cell? ⟨g2, 4, none⟩ = some (.slice a7 e4 c7) ∧ Te w #[.string man, .string mod, .string soft, .string id, .string ty, .bool lg, .slice ab ps.length cb] #[.string man2, .string mod2, .string soft2, .string id2, .string ty2, .bool lg2, .slice ab2 qs.length cb2] E g1 #[.int .i64 e0, .string e1, .string e2, .bool e3, .slice a6 e4 c6] g2 #[.int .i64 e0, .string e1, .string e2, .bool e3, .slice a7 e4 c7] X) (first | with_reducible assumption | exact hSS.out _ (Te.below (hTT.out _ (by assumption)) ((Below.refl _ _).drew)) | exact hSS.out _ (Te.below (hTT.out _ (by assumption)) hb9)) (first | (go_at_call 22; (with_reducible refine (cS.out _ _ _ ?_ ?_).mono ?_); exact (hTT.out _ (by first | assumption | exact hSS.out _ (Te.below (hTT.out _ (by assumption)) ((Below.refl _ _).drew)))).2.2.2.2.1; exact (hTT.out _ (by first | assumption | exact hSS.out _ (Te.below (hTT.out _ (by assumption)) ((Below.refl _ _).drew)))).2.2.2.2.2; rintro e9 w9 ⟨rfl, hb9⟩) | (go_at_call 23; (with_reducible refine (c23.out _ ?_).mono ?_); exact (hTT.out _ (by first | assumption | exact hSS.out _ (Te.below (hTT.out _ (by assumption)) ((Below.refl _ _).drew)))).bel; rintro e9 w9 ⟨rfl, hb9⟩) | (go_at_call 24; (with_reducible refine (c24.out _ ?_).mono ?_); exact (hTT.out _ (by first | assumption | exact hSS.out _ (Te.below (hTT.out _ (by assumption)) ((Below.refl _ _).drew)))).bel; rintro e9 w9 ⟨rfl, hb9⟩) | (go_at_call 25; (with_reducible refine (c25.out HSM.out _ ?_).mono ?_); exact (hTT.out _ (by first | assumption | exact hSS.out _ (Te.below (hTT.out _ (by assumption)) ((Below.refl _ _).drew)))).bel; rintro e9 w9 ⟨rfl, hb9⟩) | (go_at_call 26; (with_reducible refine (c26.out HSM.out _ ?_).mono ?_); exact (hTT.out _ (by first | assumption | exact hSS.out _ (Te.below (hTT.out _ (by assumption)) ((Below.refl _ _).drew)))).bel; rintro e9 w9 ⟨rfl, hb9⟩) | (go_at_call 25; (with_reducible refine (c27.out HSM.out _ ?_).mono ?_); exact (hTT.out _ (by first | assumption | exact hSS.out _ (Te.below (hTT.out _ (by assumption)) ((Below.refl _ _).drew)))).bel; rintro e9 w9 ⟨rfl, hb9⟩) | fail)
  all_goals
    have HQ : Hid (Below w.heap.size w w9) := (hTT.out _ (by assumption)).bel
    go_wp2_with fail
    go_ret
    exact ⟨rfl, HQ.out⟩
end Go.Proofs.YtgechifbbhipaaaDoor
