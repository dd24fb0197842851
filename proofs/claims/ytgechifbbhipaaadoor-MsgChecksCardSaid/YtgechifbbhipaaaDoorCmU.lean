/- msg: what is too much to be asked: what is not is small. No condition. -/
import Derived.Test.YtgechifbbhipaaaDoorCmJ
import Derived.Test.YtgechifbbhipaaaDoorMeG
import Derived.BigGuardPart
set_option linter.unusedVariables false
set_option linter.unusedSimpArgs false
namespace Go.Proofs.YtgechifbbhipaaaDoor
open Go.RowKit Go.Shelf

/-- commands whose texts are small, so deep -/
def smallN : Nat → List Cm → Prop
  | 0, _ => True
  | n + 1, l => ∀ c ∈ l, SmallH c.hd ∧ smallN n c.ks
theorem smallN_small {n : Nat} {l : List Cm} (h : smallN (n + 2) l) : ∀ c ∈ l, SmallC c := fun c hc => ⟨(h c hc).1, fun k hk => ((h c hc).2 k hk).1⟩
theorem great_small {m : MetV} (h : greatM m.fo m.ty m.la m.ne m.no = false) : SmallMe m := by
  unfold greatM at h
  rw [decide_eq_false_iff_not] at h
  unfold SmallMe
  omega
theorem ka69 {w X : World} {g : Nat} {cs ds : Array Value} (hB : Below w.heap.size w X) (hA : X.heap[g]? = some (.cells ds 27 (0, 0))) : Below w.heap.size w (X.alloc (.cells cs 69)) ∧ (X.alloc (.cells cs 69)).heap[g]? = some (.cells ds 27 (0, 0)) ∧ (X.alloc (.cells cs 69)).heap[X.heap.size]? = some (.cells cs 69 (0, 0)) :=
  ⟨hB.trans (((Below.refl _ X).alloc (Nat.le_refl _) _).mono hB.size), as_below hA ((Below.refl _ X).alloc (Nat.le_refl _) _), World.alloc_heap_new X _⟩
theorem kb27 {X : World} {B : Nat} {cs z : Array Value} (hB : B ≤ X.heap.size) : Below B X ((X.alloc (.cells z 27)).setRow X.heap.size cs) ∧ ((X.alloc (.cells z 27)).setRow X.heap.size cs).heap[X.heap.size]? = some (.cells cs 27 (0, 0)) :=
  ⟨((Below.refl _ X).alloc hB _).trans ⟨rfl, rfl, rfl, by simp, fun k hk => setRow_other _ _ k cs (by omega)⟩, setRow_heap _ _ _ _ _ _ (World.alloc_heap_new X (.cells z 27))⟩
def GrR (n : Nat) (l : List Cm) (r : Ending) : Prop := ∃ (x : Int) (g : Bool), r = .returned (.tuple #[.int .i64 x, .bool g]) ∧ (g = false → smallN n l)
attribute [local go_sem] rowOk_drew rowOf_drew run_rowSem in
attribute [local go_sem ↓] lc_row in
attribute [local irreducible] wpList in
set_option maxRecDepth 100000 in
set_option maxHeartbeats 8000000 in
theorem great9_any : ∀ (n : Nat), n ≤ 5 → ∀ (l : List Cm) (a : Option Addr) (cap : Nat) (room : Int) (w : World), AtCs w w.heap.size a 0 l → Calls Tryd.prog 9 #[.slice a l.length cap, .int .i64 room, .int .i64 (n : Int)] w fun r w' => GrR n l r ∧ Below w.heap.size w w' := by
  intro n
  induction n with
  | zero =>
    intro _ l a cap room w hl
    generalize l.length = m at *
    clear hl
    go_enter Tryd.func9, Tryd.ntmps9
    go_wp2
    go_ret2
    exact ⟨⟨0, true, rfl, fun h => by cases h⟩, Below.refl _ _⟩
  | succ n ih =>
    intro hn5 l a cap room w hl
    have HS := Lib.hid hl
    clear hl
    have c9 := Lib.hid (fun (l' : List Cm) (a' : Option Addr) (cap' : Nat) (room' d : Int) (hd : d = (n : Int)) X (hX : AtCs X X.heap.size a' 0 l') => (by rw [hd]; exact ih (by omega) l' a' cap' room' X hX : Calls Tryd.prog 9 #[.slice a' l'.length cap', .int .i64 room', .int .i64 d] X fun r w' => GrR n l' r ∧ Below X.heap.size X w'))
    clear ih
    generalize hdd : ((n + 1 : Nat) : Int) = dd
    have dd1 : 1 ≤ dd := by omega
    have dd5 : dd ≤ 5 := by omega
    have d0 : (dd == 0) = false := by rw [beq_eq_false_iff_ne]; omega
    have HDD : Hid (dd - 1 = (n : Int)) := by unfold Hid; omega
    clear hdd
    by_cases h300 : 300 < l.length
    · have j1 : decide (300 < (l.length : Int)) = true := by rw [decide_eq_true_eq]; omega
      go_enter Tryd.func9, Tryd.ntmps9
      go_wp2_with fail
      all_goals (go_ret2; exact ⟨⟨0, true, rfl, fun h => by cases h⟩, Below.refl _ _⟩)
    have j1 : decide (300 < (l.length : Int)) = false := by rw [decide_eq_false_iff_not]; omega
    go_enter Tryd.func9, Tryd.ntmps9
    go_wp2_with fail
    go_loopw [1, 8, 9, 10, 11, 12, 118] (fun xv iv _ _ _ _ _ wr => ∃ (i : Nat) (x : Int), i ≤ l.length ∧ xv = .int .i64 x ∧ iv = .int .i64 (i : Int) ∧ Hid (∀ j (h : j < l.length), j < i → SmallH l[j].hd ∧ smallN n l[j].ks) ∧ Hid (Below w.heap.size w wr)) (fun _ iv _ _ _ _ _ _ => l.length - (intOf iv).toNat)
    case atStart => exact ⟨0, room, Nat.zero_le _, rfl, rfl, fun _ _ h => absurd h (Nat.not_lt_zero _), Below.refl _ _⟩
    case round =>
      obtain ⟨i, x, hi, rfl, rfl, HI, HB⟩ := hrel
      by_cases hlt : i < l.length
      · have k1 : (i : Int) < (l.length : Int) := by omega
        have k2 : decide (i < l.length) = true := by simp; omega
        have k0 : (0 : Int) ≤ (i : Int) := by omega
        obtain ⟨b2, o2, ai2, ci2, ak2, ck2, rfl, hbl, hc0, hI2, hK2⟩ := HS.out.kid i hlt
        have HR : Hid (wr.rangeAt b2 (o2 + i * 19) (cellsH l[i].hd ai2 ci2 ak2 l[i].ks.length ck2).toList) := fun j u hu => (HB.out.cell (p := ⟨b2, o2 + i * 19 + j, none⟩) hbl).trans (hc0 j u hu)
        have HI2 := Lib.hid hI2
        have HK2 := Lib.hid hK2
        have HL : Hid ((cellsH l[i].hd ai2 ci2 ak2 l[i].ks.length ck2).size = 19) := rfl
        have HL1 : Hid ((cellsH l[i].hd ai2 ci2 ak2 l[i].ks.length ck2).all (·.oneCell') = true) := by simp [Hid, cellsH, Value.oneCell']
        have HCL : Hid (∀ (k : Nat) (v : Value), (#[.int .i64 l[i].hd.kd, .int .i64 l[i].hd.id, .int .i64 l[i].hd.mr, .int .i64 l[i].hd.cr, .string l[i].hd.fr, .int .i64 l[i].hd.co, .string l[i].hd.ta, .string l[i].hd.so, .string l[i].hd.me.fo, .string l[i].hd.me.ty, .int .i64 l[i].hd.me.sz, .int .i64 l[i].hd.me.ve, .string l[i].hd.me.la, .string l[i].hd.me.ne, .string l[i].hd.me.no, .int .i64 l[i].hd.me.mm, .int .i64 l[i].hd.me.mo, .slice ai2 l[i].hd.its.length ci2, .slice ak2 l[i].ks.length ck2] : Array Value)[k]? = some v → (cellsH l[i].hd ai2 ci2 ak2 l[i].ks.length ck2)[k]? = some v) := fun k v h => h
        have HST : Hid ((SmallH l[i].hd ∧ smallN n l[i].ks) → ∀ j (h : j < l.length), j < i + 1 → SmallH l[j].hd ∧ smallN n l[j].ks) := fun hp j h hj => by
          by_cases e : j = i
          · subst e; exact hp
          · exact HI.out j h (by omega)
        clear hc0 hbl hI2 hK2 HI
        generalize cellsH l[i].hd ai2 ci2 ak2 l[i].ks.length ck2 = L at *
        generalize l[i].ks = kl at *
        generalize l[i].hd = h at *
        have HS1 : Hid ((Tryd.prog.info? 27).map (·.size) = some L.toList.length) := by have h := HL.out; unfold Hid; rw [Array.length_toList, h]; exact size27c
        have HS2 : Hid ((Tryd.prog.info? 27).map (·.size) = some L.size) := by have h := HL.out; unfold Hid; rw [h]; exact size27c
        have HW1 : Hid (wrap64 ((i : Int) + 1) = (i : Int) + 1) := by unfold Hid wrap64; omega
        go_upto_region 7 with (first | (refine wpList_load_mid rfl 27 (.tmp 28) rfl b2 (o2 + i * 19) rfl L.toList _ HR.out Tryd.underlying27 rfl HS1.out ?_; rw [Array.toArray_toList]) | (refine wpList_store_row rfl 27 (.tmp 9) (.tmp 29) rfl wr.heap.size L rfl rfl 27 _ (World.alloc_heap_new wr _) HS2.out (by rw [HL.out]; rfl) HL1.out ?_))
        obtain ⟨K1, K2⟩ := kb27 (B := w.heap.size) (cs := L) (z := #[.int .i64 0, .int .i64 0, .int .i64 0, .int .i64 0, .string ⟨#[]⟩, .int .i64 0, .string ⟨#[]⟩, .string ⟨#[]⟩, .string ⟨#[]⟩, .string ⟨#[]⟩, .int .i64 0, .int .i64 0, .string ⟨#[]⟩, .string ⟨#[]⟩, .string ⟨#[]⟩, .int .i64 0, .int .i64 0, .slice none 0 0, .slice none 0 0]) (X := wr) HB.out.size
        have KB := Lib.hid (HB.out.trans K1)
        generalize hg9 : wr.heap.size = g9 at *
        generalize (wr.alloc (.cells #[.int .i64 0, .int .i64 0, .int .i64 0, .int .i64 0, .string ⟨#[]⟩, .int .i64 0, .string ⟨#[]⟩, .string ⟨#[]⟩, .string ⟨#[]⟩, .string ⟨#[]⟩, .int .i64 0, .int .i64 0, .string ⟨#[]⟩, .string ⟨#[]⟩, .string ⟨#[]⟩, .int .i64 0, .int .i64 0, .slice none 0 0, .slice none 0 0] 27)).setRow g9 L = W1 at *
        have KA := Lib.hid K2
        clear K1 K2
        obtain ⟨hkd, hid, hmr, hcr, hfr, hco, hta, hso, ⟨mfo, mty, msz, mve, mla, mne, mno, mmm, mmo⟩, hits⟩ := h
        simp only [] at HCL HI2 HST
        have HCL2 := HCL.out
        dsimp only [Act.put]
        go_cut [56] from 30 to 57 (fun v wx => ∃ g : Bool, v = .bool g ∧ Hid (g = false → hits.length ≤ 60 ∧ SmallMe ⟨mfo, mty, msz, mve, mla, mne, mno, mmm, mmo⟩) ∧ Hid (Below w.heap.size w wx) ∧ Hid (wx.heap[g9]? = some (.cells L 27 (0, 0))))
        case first =>
          have y4 := cell_block KA.out 4 _ (HCL2 4 (.string hfr) rfl); have y6 := cell_block KA.out 6 _ (HCL2 6 (.string hta) rfl); have y7 := cell_block KA.out 7 _ (HCL2 7 (.string hso) rfl); have y8 := cell_block KA.out 8 _ (HCL2 8 (.string mfo) rfl); have y9 := cell_block KA.out 9 _ (HCL2 9 (.string mty) rfl); have y10 := cell_block KA.out 10 _ (HCL2 10 (.int .i64 msz) rfl); have y11 := cell_block KA.out 11 _ (HCL2 11 (.int .i64 mve) rfl); have y12 := cell_block KA.out 12 _ (HCL2 12 (.string mla) rfl); have y13 := cell_block KA.out 13 _ (HCL2 13 (.string mne) rfl); have y14 := cell_block KA.out 14 _ (HCL2 14 (.string mno) rfl); have y15 := cell_block KA.out 15 _ (HCL2 15 (.int .i64 mmm) rfl); have y16 := cell_block KA.out 16 _ (HCL2 16 (.int .i64 mmo) rfl); have y17 := cell_block KA.out 17 _ (HCL2 17 (.slice ai2 hits.length ci2) rfl)
          have cM := Lib.hid (fun X => greatM_any mfo mty msz mve mla mne mno mmm mmo X)
          generalize hgm : greatM mfo mty mla mne mno = gm at *
          have HGM := Lib.hid hgm
          clear hgm HCL2
          go_wp2_with (go_at_call 38; (with_reducible refine (cM.out _).mono ?_); rintro r X ⟨rfl, hb⟩; have KA := Lib.hid (as_below KA.out hb); have KB := Lib.hid (KB.out.trans (hb.mono KB.out.size)))
          all_goals (go_meet; refine ⟨_, rfl, fun hq => ?_, KB, KA⟩; first | (exact ⟨by omega, great_small (m := ⟨mfo, mty, msz, mve, mla, mne, mno, mmm, mmo⟩) (HGM.out.trans hq)⟩) | (cases hq))
        case rest =>
          obtain ⟨g, rfl, HQ, KB, KA⟩ := hcut
          cases g with
          | true =>
            clear HCL2
            go_wp2_with fail
            go_ret2
            exact ⟨⟨0, true, rfl, fun h => by cases h⟩, KB.out⟩
          | false =>
            have HQ1 := Lib.hid (HQ.out rfl).1
            have HQ2 := Lib.hid (HQ.out rfl).2
            have y4 := cell_block KA.out 4 _ (HCL2 4 (.string hfr) rfl)
            have y6 := cell_block KA.out 6 _ (HCL2 6 (.string hta) rfl)
            have y7 := cell_block KA.out 7 _ (HCL2 7 (.string hso) rfl)
            have y17 := cell_block KA.out 17 _ (HCL2 17 (.slice ai2 hits.length ci2) rfl)
            clear HQ
            go_wp2_with fail
            clear y4 y6 y7 y17
            go_loopw [1, 10, 11] (fun xv kv _ wy => ∃ (k : Nat) (x : Int), k ≤ hits.length ∧ xv = .int .i64 x ∧ kv = .int .i64 (k : Int) ∧ Hid (∀ j (h : j < hits.length), j < k → SmallMe hits[j].me) ∧ Hid (Below w.heap.size w wy) ∧ Hid (wy.heap[g9]? = some (.cells L 27 (0, 0)))) (fun _ kv _ _ => hits.length - (intOf kv).toNat)
            case atStart => exact ⟨0, _, Nat.zero_le _, rfl, rfl, fun _ _ h => absurd h (Nat.not_lt_zero _), KB, KA⟩
            case round =>
              obtain ⟨k, x2, hk, rfl, rfl, HJ, KB, KA⟩ := hrel
              have y17 := cell_block KA.out 17 _ (HCL2 17 (.slice ai2 hits.length ci2) rfl)
              by_cases hlk : k < hits.length
              · have k3 : (k : Int) < (hits.length : Int) := by omega
                have k4 : decide (k < hits.length) = true := by simp; omega
                have k5 : (0 : Int) ≤ (k : Int) := by omega
                obtain ⟨b3, o3, rfl, hbl, hc0⟩ := HI2.out k hlk
                have hc : wr.rangeAt b3 (o3 + k * 13) hits[k].cells.toList := fun j u hu => (KB.out.cell (p := ⟨b3, o3 + k * 13 + j, none⟩) hbl).trans (hc0 j u hu)
                obtain ⟨c00, c01, c02, c03, c04, c05, c06, c07, c08, c09, c10, c11, c12⟩ := cells13 hc
                have HST2 : Hid (SmallMe hits[k].me → ∀ j (h : j < hits.length), j < k + 1 → SmallMe hits[j].me) := fun hp j h hj => by
                  by_cases e : j = k
                  · subst e; exact hp
                  · exact HJ.out j h (by omega)
                clear hc0 hc hbl HJ
                generalize hits[k] = xx at *
                obtain ⟨xta, xso, ⟨xfo, xty, xsz, xve, xla, xne, xno, xmm, xmo⟩, xda, xmr⟩ := xx
                simp only [] at c00 c01 c02 c03 c04 c05 c06 c07 c08 c09 c10 c11 c12 HST2
                go_upto_region 14 with fail
                obtain ⟨K1, K2, K3⟩ := ka69 (cs := #[.string xta, .string xso, .string xfo, .string xty, .int .i64 xsz, .int .i64 xve, .string xla, .string xne, .string xno, .int .i64 xmm, .int .i64 xmo, .string xda, .bool xmr]) KB.out KA.out
                generalize wr.heap.size = g11 at *
                have KB := Lib.hid K1
                have KA := Lib.hid K2
                have KX := Lib.hid K3
                clear K1 K2 K3 c00 c01 c02 c03 c04 c05 c06 c07 c08 c09 c10 c11 c12 y17
                go_cut [103] from 83 to 104 (fun v wx => ∃ g : Bool, v = .bool g ∧ Hid (g = false → SmallMe ⟨xfo, xty, xsz, xve, xla, xne, xno, xmm, xmo⟩) ∧ Hid (Below w.heap.size w wx) ∧ Hid (wx.heap[g9]? = some (.cells L 27 (0, 0))) ∧ Hid (wx.heap[g11]? = some (.cells #[.string xta, .string xso, .string xfo, .string xty, .int .i64 xsz, .int .i64 xve, .string xla, .string xne, .string xno, .int .i64 xmm, .int .i64 xmo, .string xda, .bool xmr] 69 (0, 0))))
                case first =>
                  have z0 := cell_block KX.out 0 (.string xta) rfl; have z1 := cell_block KX.out 1 (.string xso) rfl; have z2 := cell_block KX.out 2 (.string xfo) rfl; have z3 := cell_block KX.out 3 (.string xty) rfl; have z4 := cell_block KX.out 4 (.int .i64 xsz) rfl; have z5 := cell_block KX.out 5 (.int .i64 xve) rfl; have z6 := cell_block KX.out 6 (.string xla) rfl; have z7 := cell_block KX.out 7 (.string xne) rfl; have z8 := cell_block KX.out 8 (.string xno) rfl; have z9 := cell_block KX.out 9 (.int .i64 xmm) rfl; have z10 := cell_block KX.out 10 (.int .i64 xmo) rfl; have z11 := cell_block KX.out 11 (.string xda) rfl; have z12 := cell_block KX.out 12 (.bool xmr) rfl
                  have cM := Lib.hid (fun X => greatM_any xfo xty xsz xve xla xne xno xmm xmo X)
                  generalize hgm : greatM xfo xty xla xne xno = gm at *
                  have HGM := Lib.hid hgm
                  clear hgm HCL2
                  go_wp2_with (go_at_call 38; (with_reducible refine (cM.out _).mono ?_); rintro r X ⟨rfl, hb⟩; have KA := Lib.hid (as_below KA.out hb); have KX := Lib.hid (as_below KX.out hb); have KB := Lib.hid (KB.out.trans (hb.mono KB.out.size)))
                  all_goals (go_meet; refine ⟨_, rfl, fun hq => ?_, KB, KA, KX⟩; first | (exact great_small (m := ⟨xfo, xty, xsz, xve, xla, xne, xno, xmm, xmo⟩) (HGM.out.trans hq)) | (cases hq))
                case rest =>
                  obtain ⟨g, rfl, HQ, KB, KA, KX⟩ := hcut
                  cases g with
                  | true =>
                    clear HCL2
                    go_wp2_with fail
                    go_ret2
                    exact ⟨⟨0, true, rfl, fun h => by cases h⟩, KB.out⟩
                  | false =>
                    have HJ2 := Lib.hid (HST2 (HQ.out rfl))
                    have z0 := cell_block KX.out 0 (.string xta) rfl; have z1 := cell_block KX.out 1 (.string xso) rfl; have z2 := cell_block KX.out 2 (.string xfo) rfl; have z3 := cell_block KX.out 3 (.string xty) rfl; have z4 := cell_block KX.out 4 (.int .i64 xsz) rfl; have z5 := cell_block KX.out 5 (.int .i64 xve) rfl; have z6 := cell_block KX.out 6 (.string xla) rfl; have z7 := cell_block KX.out 7 (.string xne) rfl; have z8 := cell_block KX.out 8 (.string xno) rfl; have z9 := cell_block KX.out 9 (.int .i64 xmm) rfl; have z10 := cell_block KX.out 10 (.int .i64 xmo) rfl; have z11 := cell_block KX.out 11 (.string xda) rfl; have z12 := cell_block KX.out 12 (.bool xmr) rfl
                    have HW2 : Hid (wrap64 ((k : Int) + 1) = (k : Int) + 1) := by unfold Hid wrap64; have := HQ1.out; omega
                    have hk60 : k ≤ 60 := by have := HQ1.out; omega
                    clear HCL2 HST2 HQ
                    go_wp2_with fail
                    go_roundw
                    case rel => exact ⟨k + 1, _, by omega, rfl, by go_num, HJ2, KB, KA⟩
                    case measure => simp [intOf]; omega
              · have k3 : ¬ (k : Int) < (hits.length : Int) := by omega
                have k4 : decide (k < hits.length) = false := by simp; omega
                have HSM : Hid (SmallIs hits) := fun z hz => by
                  obtain ⟨j, hj, rfl⟩ := List.getElem_of_mem hz
                  exact HJ.out j hj (by omega)
                have y18 := cell_block KA.out 18 _ (HCL2 18 (.slice ak2 kl.length ck2) rfl)
                have cR := Lib.hid (fun room' d hd X (hX : Below w.heap.size w X) => c9.out kl ak2 ck2 room' d hd X (AtCs.mono hX.size _ _ _ (AtCs.below hX _ _ _ HK2.out)))
                have KB1 := KB.out
                clear HCL2
                go_wp2_with (go_at_call 9; (with_reducible refine (cR.out _ _ HDD.out _ KB1).mono ?_); rintro r X ⟨⟨x3, g3, rfl, hg3⟩, hb⟩; have KB := Lib.hid (KB1.trans (hb.mono KB1.size)); have HG3 := Lib.hid hg3; clear hg3)
                all_goals try (go_ret2; exact ⟨⟨0, true, rfl, fun h => by cases h⟩, KB.out⟩)
                go_roundw
                case rel => exact ⟨i + 1, x3, by omega, rfl, by go_num, HST.out ⟨⟨HQ2.out, HSM.out⟩, HG3.out (by first | assumption | rfl | simp_all)⟩, KB⟩
                case measure => simp [intOf]; omega
      · have k1 : ¬ (i : Int) < (l.length : Int) := by omega
        have k2 : decide (i < l.length) = false := by simp; omega
        have HE : Hid (smallN (n + 1) l) := fun c hc => by
          obtain ⟨j, hj, rfl⟩ := List.getElem_of_mem hc
          exact HI.out j hj (by omega)
        go_wp2_with fail
        go_ret2
        exact ⟨⟨_, _, rfl, fun _ => HE.out⟩, HB.out⟩
end Go.Proofs.YtgechifbbhipaaaDoor
