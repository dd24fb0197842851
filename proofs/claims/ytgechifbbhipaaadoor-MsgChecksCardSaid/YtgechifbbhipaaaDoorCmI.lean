/- msg: rows of items; both sides. No condition but the tables and sizes. -/
import Derived.Test.YtgechifbbhipaaaDoorCmS
import Derived.Test.YtgechifbbhipaaaDoorMeG
set_option linter.unusedVariables false
set_option linter.unusedSimpArgs false
namespace Go.Proofs.YtgechifbbhipaaaDoor
open Go.RowKit

/-- nothing in it -/
def emptyMV (m : MetV) : Bool := decide (m.fo = ⟨#[]⟩ ∧ m.ty = ⟨#[]⟩ ∧ m.sz = 0 ∧ m.ve = 0 ∧ m.la = ⟨#[]⟩ ∧ m.ne = ⟨#[]⟩ ∧ m.no = ⟨#[]⟩ ∧ m.mm = 0 ∧ m.mo = 0)
theorem refEmptyV_any (fo : ByteArray) (ty : ByteArray) (sz : Int) (ve : Int) (la : ByteArray) (ne : ByteArray) (no : ByteArray) (mm : Int) (mo : Int) (w : World) : Calls Tryd.prog 59 #[.agg #[.string fo, .string ty, .int .i64 sz, .int .i64 ve, .string la, .string ne, .string no, .int .i64 mm, .int .i64 mo]] w fun r w' => r = .returned (.bool (emptyMV ⟨fo, ty, sz, ve, la, ne, no, mm, mo⟩)) ∧ Below w.heap.size w w' := by
  have heq := fun w => run_eq23 fo ⟨#[]⟩ ty ⟨#[]⟩ sz 0 ve 0 la ⟨#[]⟩ ne ⟨#[]⟩ no ⟨#[]⟩ mm 0 mo 0 w
  have hE : emptyMV ⟨fo, ty, sz, ve, la, ne, no, mm, mo⟩ = decide (fo = ⟨#[]⟩ ∧ ty = ⟨#[]⟩ ∧ sz = 0 ∧ ve = 0 ∧ la = ⟨#[]⟩ ∧ ne = ⟨#[]⟩ ∧ no = ⟨#[]⟩ ∧ mm = 0 ∧ mo = 0) := rfl
  rw [← hE] at heq
  clear hE
  generalize emptyMV ⟨fo, ty, sz, ve, la, ne, no, mm, mo⟩ = q at *
  go_enter Tryd.func59, Tryd.ntmps59
  go_wp2
  go_ret
  exact ⟨rfl, (Below.refl _ w).alloc (Nat.le_refl _) _⟩
def restI (x : It) : Bool := emptyMV x.me && (decide (x.da = ⟨#[]⟩) && !x.mo)
set_option maxHeartbeats 4000000 in
theorem run_eq69 (ta so : ByteArray) (fo : ByteArray) (ty : ByteArray) (sz : Int) (ve : Int) (la : ByteArray) (ne : ByteArray) (no : ByteArray) (mm : Int) (mo : Int) (da : ByteArray) (mr : Bool) (w : World) : (binOp .eql 69 (.agg #[.string ta, .string so, .string fo, .string ty, .int .i64 sz, .int .i64 ve, .string la, .string ne, .string no, .int .i64 mm, .int .i64 mo, .string da, .bool mr]) (.agg #[.string ta, .string so, .string ⟨#[]⟩, .string ⟨#[]⟩, .int .i64 0, .int .i64 0, .string ⟨#[]⟩, .string ⟨#[]⟩, .string ⟨#[]⟩, .int .i64 0, .int .i64 0, .string ⟨#[]⟩, .bool false])).run Tryd.prog w = .ok (.bool (restI ⟨ta, so, ⟨fo, ty, sz, ve, la, ne, no, mm, mo⟩, da, mr⟩)) w := by
  rw [run_eql_struct, run_equalIn_struct w _ 69 _ _ (by kernel_rfl) (by kernel_rfl)]
  have e : ∀ a b : ByteArray, a.toList = b.toList ↔ a = b := fun a b => by
    rw [ByteArray.toList_eq, ByteArray.toList_eq]
    exact ⟨fun h => ByteArray.ext (Array.toList_inj.1 h), fun h => by rw [h]⟩
  have e0 : ∀ a : ByteArray, a.toList = [] ↔ a = ⟨#[]⟩ := fun a => by
    have h0 : (⟨#[]⟩ : ByteArray).toList = [] := by rw [ByteArray.toList_eq]
    rw [← e a ⟨#[]⟩, h0]
  simp [go_sem, e, restI, emptyMV]
  simp only [e0]
  by_cases h0 : fo = ⟨#[]⟩
  case neg => simp [h0]
  by_cases h1 : ty = ⟨#[]⟩
  case neg => simp [h0, h1]
  by_cases h2 : sz = 0
  case neg => simp [h0, h1, h2]
  by_cases h3 : ve = 0
  case neg => simp [h0, h1, h2, h3]
  by_cases h4 : la = ⟨#[]⟩
  case neg => simp [h0, h1, h2, h3, h4]
  by_cases h5 : ne = ⟨#[]⟩
  case neg => simp [h0, h1, h2, h3, h4, h5]
  by_cases h6 : no = ⟨#[]⟩
  case neg => simp [h0, h1, h2, h3, h4, h5, h6]
  by_cases h7 : mm = 0
  case neg => simp [h0, h1, h2, h3, h4, h5, h6, h7]
  by_cases h8 : mo = 0
  case neg => simp [h0, h1, h2, h3, h4, h5, h6, h7, h8]
  by_cases h9 : da = ⟨#[]⟩
  case neg => simp [h0, h1, h2, h3, h4, h5, h6, h7, h8, h9]
  cases mr <;> simp [h0, h1, h2, h3, h4, h5, h6, h7, h8, h9]
/-- is an item of a Map as it should be -/
def parB (x : It) : Bool := adrB x.ta && (adrB x.so && restI x)
set_option maxHeartbeats 2000000 in
theorem paired_any (x : It) (w : World) (hT : Lib.Utf8Tabs 2 3 w) : Calls Tryd.prog 53 #[.agg x.cells] w fun r w' => r = .returned (.bool (parB x)) ∧ Below w.heap.size w w' := by
  obtain ⟨ta, so, ⟨fo, ty, sz, ve, la, ne, no, mm, mo⟩, da, mr⟩ := x
  simp only [It.cells]
  have cM := Lib.hid (fun s X (hX : Below w.heap.size w X) => adr_any s X (Utf8Tabs_below hT hX))
  have hE : parB ⟨ta, so, ⟨fo, ty, sz, ve, la, ne, no, mm, mo⟩, da, mr⟩ = (adrB ta && (adrB so && restI ⟨ta, so, ⟨fo, ty, sz, ve, la, ne, no, mm, mo⟩, da, mr⟩)) := rfl
  have heq := fun w => run_eq69 ta so fo ty sz ve la ne no mm mo da mr w
  clear hT
  generalize restI ⟨ta, so, ⟨fo, ty, sz, ve, la, ne, no, mm, mo⟩, da, mr⟩ = q at *
  have KK := Lib.hid (Sb.start w #[.string ta, .string so, .string fo, .string ty, .int .i64 sz, .int .i64 ve, .string la, .string ne, .string no, .int .i64 mm, .int .i64 mo, .string da, .bool mr] 69)
  have KB := KK.out.bel
  cases h0 : adrB ta with
  | false =>
    have hR : parB ⟨ta, so, ⟨fo, ty, sz, ve, la, ne, no, mm, mo⟩, da, mr⟩ = false := by rw [hE, h0]; rfl
    rw [hR]
    clear hR hE
    go_enter Tryd.func53, Tryd.ntmps53
    go_wp2_with (go_at_call 50; (with_reducible refine (cM.out _ _ KB).mono ?_); rintro r X ⟨rfl, hb⟩; have KK := Lib.hid (KK.out.below hb); have KB := KK.out.bel; have y0 := cell_block KK.out.blk 0 _ rfl; have y1 := cell_block KK.out.blk 1 _ rfl; have y2 := cell_block KK.out.blk 2 _ rfl; have y3 := cell_block KK.out.blk 3 _ rfl; have y4 := cell_block KK.out.blk 4 _ rfl; have y5 := cell_block KK.out.blk 5 _ rfl; have y6 := cell_block KK.out.blk 6 _ rfl; have y7 := cell_block KK.out.blk 7 _ rfl; have y8 := cell_block KK.out.blk 8 _ rfl; have y9 := cell_block KK.out.blk 9 _ rfl; have y10 := cell_block KK.out.blk 10 _ rfl; have y11 := cell_block KK.out.blk 11 _ rfl; have y12 := cell_block KK.out.blk 12 _ rfl)
    go_ret
    exact ⟨rfl, KB⟩
  | true =>
    cases h1 : adrB so with
    | false =>
      have hR : parB ⟨ta, so, ⟨fo, ty, sz, ve, la, ne, no, mm, mo⟩, da, mr⟩ = false := by rw [hE, h0, h1]; rfl
      rw [hR]
      clear hR hE
      go_enter Tryd.func53, Tryd.ntmps53
      go_wp2_with (go_at_call 50; (with_reducible refine (cM.out _ _ KB).mono ?_); rintro r X ⟨rfl, hb⟩; have KK := Lib.hid (KK.out.below hb); have KB := KK.out.bel; have y0 := cell_block KK.out.blk 0 _ rfl; have y1 := cell_block KK.out.blk 1 _ rfl; have y2 := cell_block KK.out.blk 2 _ rfl; have y3 := cell_block KK.out.blk 3 _ rfl; have y4 := cell_block KK.out.blk 4 _ rfl; have y5 := cell_block KK.out.blk 5 _ rfl; have y6 := cell_block KK.out.blk 6 _ rfl; have y7 := cell_block KK.out.blk 7 _ rfl; have y8 := cell_block KK.out.blk 8 _ rfl; have y9 := cell_block KK.out.blk 9 _ rfl; have y10 := cell_block KK.out.blk 10 _ rfl; have y11 := cell_block KK.out.blk 11 _ rfl; have y12 := cell_block KK.out.blk 12 _ rfl)
      go_ret
      exact ⟨rfl, KB⟩
    | true =>
      have hR : parB ⟨ta, so, ⟨fo, ty, sz, ve, la, ne, no, mm, mo⟩, da, mr⟩ = q := by rw [hE, h0, h1]; rfl
      rw [hR]
      clear hR hE
      go_enter Tryd.func53, Tryd.ntmps53
      go_wp2_with (go_at_call 50; (with_reducible refine (cM.out _ _ KB).mono ?_); rintro r X ⟨rfl, hb⟩; have KK := Lib.hid (KK.out.below hb); have KB := KK.out.bel; have y0 := cell_block KK.out.blk 0 _ rfl; have y1 := cell_block KK.out.blk 1 _ rfl; have y2 := cell_block KK.out.blk 2 _ rfl; have y3 := cell_block KK.out.blk 3 _ rfl; have y4 := cell_block KK.out.blk 4 _ rfl; have y5 := cell_block KK.out.blk 5 _ rfl; have y6 := cell_block KK.out.blk 6 _ rfl; have y7 := cell_block KK.out.blk 7 _ rfl; have y8 := cell_block KK.out.blk 8 _ rfl; have y9 := cell_block KK.out.blk 9 _ rfl; have y10 := cell_block KK.out.blk 10 _ rfl; have y11 := cell_block KK.out.blk 11 _ rfl; have y12 := cell_block KK.out.blk 12 _ rfl)
      go_ret
      exact ⟨rfl, KB⟩
theorem closI_any (x : It) (hm : SmallMe x.me) (w : World) (hT : Lib.Utf8Tabs 2 3 w) : Calls Tryd.prog 118 #[.agg x.cells] w fun r w' => r = .returned (.bool (!itB x)) ∧ Below w.heap.size w w' := by
  have cM := Lib.hid (fun X (hX : Below w.heap.size w X) => item_any x hm X (Utf8Tabs_below hT hX))
  generalize itB x = q at *
  obtain ⟨ta, so, ⟨fo, ty, sz, ve, la, ne, no, mm, mo⟩, da, mr⟩ := x
  simp only [It.cells] at cM ⊢
  have hb0 : Below w.heap.size w (w.alloc (.cells #[.string ta, .string so, .string fo, .string ty, .int .i64 sz, .int .i64 ve, .string la, .string ne, .string no, .int .i64 mm, .int .i64 mo, .string da, .bool mr] 69)) := (Below.refl _ w).alloc (Nat.le_refl _) _
  go_enter Tryd.func118, Tryd.ntmps118
  go_wp2_with (go_at_call 119; (with_reducible refine (cM.out _ hb0).mono ?_); rintro r X ⟨rfl, hb⟩)
  go_ret
  exact ⟨rfl, hb0.trans (hb.mono hb0.size)⟩
theorem closP_any (x : It) (w : World) (hT : Lib.Utf8Tabs 2 3 w) : Calls Tryd.prog 52 #[.agg x.cells] w fun r w' => r = .returned (.bool (!parB x)) ∧ Below w.heap.size w w' := by
  have cM := Lib.hid (fun X (hX : Below w.heap.size w X) => paired_any x X (Utf8Tabs_below hT hX))
  generalize parB x = q at *
  obtain ⟨ta, so, ⟨fo, ty, sz, ve, la, ne, no, mm, mo⟩, da, mr⟩ := x
  simp only [It.cells] at cM ⊢
  have hb0 : Below w.heap.size w (w.alloc (.cells #[.string ta, .string so, .string fo, .string ty, .int .i64 sz, .int .i64 ve, .string la, .string ne, .string no, .int .i64 mm, .int .i64 mo, .string da, .bool mr] 69)) := (Below.refl _ w).alloc (Nat.le_refl _) _
  go_enter Tryd.func52, Tryd.ntmps52
  go_wp2_with (go_at_call 53; (with_reducible refine (cM.out _ hb0).mono ?_); rintro r X ⟨rfl, hb⟩)
  go_ret
  exact ⟨rfl, hb0.trans (hb.mono hb0.size)⟩
set_option maxRecDepth 100000 in
set_option maxHeartbeats 4000000 in
theorem idxI_any (q : It → Bool) (l : List It) (a : Option Addr) (cap : Nat) (hs : l.length ≤ 1000000) (w : World) (hS : AtIs w w.heap.size a l)
    (cF : ∀ i (h : i < l.length) (X : World), Below w.heap.size w X → Calls Tryd.prog 118 #[.agg l[i].cells] X fun r w' => r = .returned (.bool (q l[i])) ∧ Below X.heap.size X w') :
    Calls Tryd.prog 122 #[.slice a l.length cap, .func (.func 118) #[] #[]] w fun e w' => (∃ r : Int, e = .returned (.int .i64 r) ∧ decide (0 ≤ r) = l.any q) ∧ Below w.heap.size w w' := by
  have hY : Hid (∀ i (h : i < l.length), q l[i] = true → l.any q = true) := fun i h hp => List.any_eq_true.2 ⟨l[i], List.getElem_mem h, hp⟩
  have hN : Hid ((∀ i (h : i < l.length), q l[i] = false) → l.any q = false) := fun h => any_false h
  generalize l.any q = v at *
  have HS := Lib.hid hS
  have HF := Lib.hid cF
  clear hS cF
  generalize hnn : l.length = n at hs ⊢
  have HNN := Lib.hid hnn
  clear hnn
  have hnl : n ≤ 140737488355328 := Nat.le_trans hs (by decide)
  go_enter Tryd.func122, Tryd.ntmps122
  go_wp2_with fail
  go_loopw [5, 8] (fun _ iv wr => ∃ i : Nat, i ≤ n ∧ iv = .int .i64 (i : Int) ∧ Hid (∀ j (h : j < l.length), j < i → q l[j] = false) ∧ Hid (Below w.heap.size w wr)) (fun _ iv _ => n - (intOf iv).toNat)
  case atStart => exact ⟨0, Nat.zero_le _, rfl, fun _ _ h => absurd h (Nat.not_lt_zero _), Below.refl _ _⟩
  case round =>
    obtain ⟨i, hi, rfl, HI, HB⟩ := hrel
    by_cases hlt : i < n
    · have hil : i < l.length := by rw [HNN.out]; exact hlt
      obtain ⟨b, o, rfl, hbl, hc0⟩ := HS.out i hil
      have c1 := Lib.hid (HF.out i hil wr HB.out)
      have k0 : (0 : Int) ≤ (i : Int) := by omega
      have k1 : (i : Int) < (n : Int) := by omega
      have k2 : decide (i < n) = true := by simp; omega
      have hst : Hid (q l[i] = false → ∀ j (h : j < l.length), j < i + 1 → q l[j] = false) := fun hp j h hj => by
        by_cases e : j = i
        · subst e; exact hp
        · exact HI.out j h (by omega)
      have hyi := Lib.hid (hY.out i hil)
      have hc : wr.rangeAt b (o + i * 13) l[i].cells.toList := fun j u hu => (HB.out.cell (p := ⟨b, o + i * 13 + j, none⟩) hbl).trans (hc0 j u hu)
      obtain ⟨c00, c01, c02, c03, c04, c05, c06, c07, c08, c09, c10, c11, c12⟩ := cells13 hc
      clear hc0 hc hbl HI
      generalize q l[i] = t at *
      generalize l[i] = x at *
      obtain ⟨ta, so, ⟨fo, ty, sz, ve, la, ne, no, mm, mo⟩, da, mr⟩ := x
      simp only [It.cells] at c1 c00 c01 c02 c03 c04 c05 c06 c07 c08 c09 c10 c11 c12
      cases t with
      | true =>
        have HV := Lib.hid (hyi.out rfl)
        clear hst hyi
        go_wp2_with (go_at_call 118; (with_reducible refine c1.out.mono ?_); rintro e w1 ⟨rfl, hb1⟩)
        go_ret
        exact ⟨⟨_, rfl, by rw [HV.out]; simp⟩, HB.out.trans (hb1.mono HB.out.size)⟩
      | false =>
        have HI2 := Lib.hid (hst.out rfl)
        have HW1 : Hid (wrap64 ((i : Int) + 1) = (i : Int) + 1) := by unfold Hid wrap64; omega
        clear hst hyi
        go_wp2_with (go_at_call 118; (with_reducible refine c1.out.mono ?_); rintro e w1 ⟨rfl, hb1⟩)
        go_roundw
        case rel => exact ⟨i + 1, by omega, by go_num, HI2, HB.out.trans (hb1.mono HB.out.size)⟩
        case measure => simp [intOf]; omega
    · have k1 : ¬ (i : Int) < (n : Int) := by omega
      have k2 : decide (i < n) = false := by simp; omega
      have HV := Lib.hid (hN.out (fun j h => HI.out j h (by rw [HNN.out] at h; omega)))
      go_wp2_with fail
      go_ret
      exact ⟨⟨_, rfl, by rw [HV.out]; decide⟩, HB.out⟩
theorem conI_any (q : It → Bool) (l : List It) (a : Option Addr) (cap : Nat) (hs : l.length ≤ 1000000) (w : World) (hS : AtIs w w.heap.size a l)
    (cF : ∀ i (h : i < l.length) (X : World), Below w.heap.size w X → Calls Tryd.prog 118 #[.agg l[i].cells] X fun r w' => r = .returned (.bool (q l[i])) ∧ Below X.heap.size X w') :
    Calls Tryd.prog 51 #[.slice a l.length cap, .func (.func 118) #[] #[]] w fun e w' => e = .returned (.bool (l.any q)) ∧ Below w.heap.size w w' := by
  have c1 := Lib.hid (idxI_any q l a cap hs w hS cF)
  generalize l.any q = v at *
  clear hS cF
  generalize l.length = n at *
  go_enter Tryd.func51, Tryd.ntmps51
  go_wp2_with (go_at_call 122; refine c1.out.mono ?_; rintro e w1 ⟨⟨r, rfl, hr⟩, hb1⟩)
  go_ret
  exact ⟨by rw [← hr]; rfl, hb1⟩
set_option maxRecDepth 100000 in
set_option maxHeartbeats 4000000 in
theorem idxP_any (q : It → Bool) (l : List It) (a : Option Addr) (cap : Nat) (hs : l.length ≤ 1000000) (w : World) (hS : AtIs w w.heap.size a l)
    (cF : ∀ i (h : i < l.length) (X : World), Below w.heap.size w X → Calls Tryd.prog 52 #[.agg l[i].cells] X fun r w' => r = .returned (.bool (q l[i])) ∧ Below X.heap.size X w') :
    Calls Tryd.prog 122 #[.slice a l.length cap, .func (.func 52) #[] #[]] w fun e w' => (∃ r : Int, e = .returned (.int .i64 r) ∧ decide (0 ≤ r) = l.any q) ∧ Below w.heap.size w w' := by
  have hY : Hid (∀ i (h : i < l.length), q l[i] = true → l.any q = true) := fun i h hp => List.any_eq_true.2 ⟨l[i], List.getElem_mem h, hp⟩
  have hN : Hid ((∀ i (h : i < l.length), q l[i] = false) → l.any q = false) := fun h => any_false h
  generalize l.any q = v at *
  have HS := Lib.hid hS
  have HF := Lib.hid cF
  clear hS cF
  generalize hnn : l.length = n at hs ⊢
  have HNN := Lib.hid hnn
  clear hnn
  have hnl : n ≤ 140737488355328 := Nat.le_trans hs (by decide)
  go_enter Tryd.func122, Tryd.ntmps122
  go_wp2_with fail
  go_loopw [5, 8] (fun _ iv wr => ∃ i : Nat, i ≤ n ∧ iv = .int .i64 (i : Int) ∧ Hid (∀ j (h : j < l.length), j < i → q l[j] = false) ∧ Hid (Below w.heap.size w wr)) (fun _ iv _ => n - (intOf iv).toNat)
  case atStart => exact ⟨0, Nat.zero_le _, rfl, fun _ _ h => absurd h (Nat.not_lt_zero _), Below.refl _ _⟩
  case round =>
    obtain ⟨i, hi, rfl, HI, HB⟩ := hrel
    by_cases hlt : i < n
    · have hil : i < l.length := by rw [HNN.out]; exact hlt
      obtain ⟨b, o, rfl, hbl, hc0⟩ := HS.out i hil
      have c1 := Lib.hid (HF.out i hil wr HB.out)
      have k0 : (0 : Int) ≤ (i : Int) := by omega
      have k1 : (i : Int) < (n : Int) := by omega
      have k2 : decide (i < n) = true := by simp; omega
      have hst : Hid (q l[i] = false → ∀ j (h : j < l.length), j < i + 1 → q l[j] = false) := fun hp j h hj => by
        by_cases e : j = i
        · subst e; exact hp
        · exact HI.out j h (by omega)
      have hyi := Lib.hid (hY.out i hil)
      have hc : wr.rangeAt b (o + i * 13) l[i].cells.toList := fun j u hu => (HB.out.cell (p := ⟨b, o + i * 13 + j, none⟩) hbl).trans (hc0 j u hu)
      obtain ⟨c00, c01, c02, c03, c04, c05, c06, c07, c08, c09, c10, c11, c12⟩ := cells13 hc
      clear hc0 hc hbl HI
      generalize q l[i] = t at *
      generalize l[i] = x at *
      obtain ⟨ta, so, ⟨fo, ty, sz, ve, la, ne, no, mm, mo⟩, da, mr⟩ := x
      simp only [It.cells] at c1 c00 c01 c02 c03 c04 c05 c06 c07 c08 c09 c10 c11 c12
      cases t with
      | true =>
        have HV := Lib.hid (hyi.out rfl)
        clear hst hyi
        go_wp2_with (go_at_call 52; (with_reducible refine c1.out.mono ?_); rintro e w1 ⟨rfl, hb1⟩)
        go_ret
        exact ⟨⟨_, rfl, by rw [HV.out]; simp⟩, HB.out.trans (hb1.mono HB.out.size)⟩
      | false =>
        have HI2 := Lib.hid (hst.out rfl)
        have HW1 : Hid (wrap64 ((i : Int) + 1) = (i : Int) + 1) := by unfold Hid wrap64; omega
        clear hst hyi
        go_wp2_with (go_at_call 52; (with_reducible refine c1.out.mono ?_); rintro e w1 ⟨rfl, hb1⟩)
        go_roundw
        case rel => exact ⟨i + 1, by omega, by go_num, HI2, HB.out.trans (hb1.mono HB.out.size)⟩
        case measure => simp [intOf]; omega
    · have k1 : ¬ (i : Int) < (n : Int) := by omega
      have k2 : decide (i < n) = false := by simp; omega
      have HV := Lib.hid (hN.out (fun j h => HI.out j h (by rw [HNN.out] at h; omega)))
      go_wp2_with fail
      go_ret
      exact ⟨⟨_, rfl, by rw [HV.out]; decide⟩, HB.out⟩
theorem conP_any (q : It → Bool) (l : List It) (a : Option Addr) (cap : Nat) (hs : l.length ≤ 1000000) (w : World) (hS : AtIs w w.heap.size a l)
    (cF : ∀ i (h : i < l.length) (X : World), Below w.heap.size w X → Calls Tryd.prog 52 #[.agg l[i].cells] X fun r w' => r = .returned (.bool (q l[i])) ∧ Below X.heap.size X w') :
    Calls Tryd.prog 51 #[.slice a l.length cap, .func (.func 52) #[] #[]] w fun e w' => e = .returned (.bool (l.any q)) ∧ Below w.heap.size w w' := by
  have c1 := Lib.hid (idxP_any q l a cap hs w hS cF)
  generalize l.any q = v at *
  clear hS cF
  generalize l.length = n at *
  go_enter Tryd.func51, Tryd.ntmps51
  go_wp2_with (go_at_call 122; refine c1.out.mono ?_; rintro e w1 ⟨⟨r, rfl, hr⟩, hb1⟩)
  go_ret
  exact ⟨by rw [← hr]; rfl, hb1⟩
/-- are items as they should be -/
def itsB (l : List It) (least : Int) : Bool := decide (least ≤ (l.length : Int)) && (decide ((l.length : Int) ≤ 8) && !l.any fun x => !itB x)
def SmallIs (l : List It) : Prop := ∀ x ∈ l, SmallMe x.me
theorem items_any (l : List It) (hm : SmallIs l) (a : Option Addr) (cap : Nat) (least : Int) (w : World) (hS : AtIs w w.heap.size a l) (hT : Lib.Utf8Tabs 2 3 w) : Calls Tryd.prog 45 #[.slice a l.length cap, .int .i64 least] w fun r w' => r = .returned (.bool (itsB l least)) ∧ Below w.heap.size w w' := by
  have cC := Lib.hid (fun hs => conI_any (fun x => !itB x) l a cap hs w hS (fun i h X hX => closI_any l[i] (hm _ (List.getElem_mem h)) X (Utf8Tabs_below hT hX)))
  clear hS hT hm
  cases h0 : decide (least ≤ (l.length : Int)) with
  | false =>
    have hR : itsB l least = false := by unfold itsB; rw [h0]; rfl
    rw [hR]
    clear hR cC
    generalize l.length = n at *
    go_enter Tryd.func45, Tryd.ntmps45
    go_wp2
    go_ret
    exact ⟨rfl, Below.refl _ _⟩
  | true =>
    cases h1 : decide ((l.length : Int) ≤ 8) with
    | false =>
      have hR : itsB l least = false := by unfold itsB; rw [h0, h1]; rfl
      rw [hR]
      clear hR cC
      generalize l.length = n at *
      go_enter Tryd.func45, Tryd.ntmps45
      go_wp2
      go_ret
      exact ⟨rfl, Below.refl _ _⟩
    | true =>
      have hR : itsB l least = !l.any fun x => !itB x := by unfold itsB; rw [h0, h1]; rfl
      rw [hR]
      have cC := Lib.hid (cC.out (by rw [decide_eq_true_eq] at h1; omega))
      clear hR
      generalize (l.any fun x => !itB x) = q at *
      generalize l.length = n at *
      go_enter Tryd.func45, Tryd.ntmps45
      go_wp2_with (go_at_call 51; refine cC.out.mono ?_; rintro e w1 ⟨rfl, hb1⟩)
      go_ret
      exact ⟨rfl, hb1⟩
set_option maxRecDepth 100000 in
set_option maxHeartbeats 4000000 in
theorem refItems_any (l : List It) (hm : SmallIs l) (a : Option Addr) (cap : Nat) (least : Int) (w : World) (hS : AtIs w w.heap.size a l) : Calls Tryd.prog 56 #[.slice a l.length cap, .int .i64 least] w fun r w' => r = .returned (.bool (itsB l least)) ∧ Below w.heap.size w w' := by
  cases h0 : decide (least ≤ (l.length : Int)) with
  | false =>
    have hR : itsB l least = false := by unfold itsB; rw [h0]; rfl
    rw [hR]
    have g0 : decide ((l.length : Int) < least) = true := by rw [decide_eq_false_iff_not] at h0; rw [decide_eq_true_eq]; omega
    clear hR h0 hS hm
    generalize l.length = n at *
    go_enter Tryd.func56, Tryd.ntmps56
    go_wp2
    go_ret
    exact ⟨rfl, Below.refl _ _⟩
  | true =>
  have g0 : decide ((l.length : Int) < least) = false := by rw [decide_eq_true_eq] at h0; rw [decide_eq_false_iff_not]; omega
  cases h1 : decide ((l.length : Int) ≤ 8) with
  | false =>
    have hR : itsB l least = false := by unfold itsB; rw [h0, h1]; rfl
    rw [hR]
    have g1 : decide (8 < (l.length : Int)) = true := by rw [decide_eq_false_iff_not] at h1; rw [decide_eq_true_eq]; omega
    clear hR h0 h1 hS hm
    generalize l.length = n at *
    go_enter Tryd.func56, Tryd.ntmps56
    go_wp2
    go_ret
    exact ⟨rfl, Below.refl _ _⟩
  | true =>
  have g1 : decide (8 < (l.length : Int)) = false := by rw [decide_eq_true_eq] at h1; rw [decide_eq_false_iff_not]; omega
  have hR : itsB l least = !l.any fun x => !itB x := by unfold itsB; rw [h0, h1]; rfl
  rw [hR]
  have hs : l.length ≤ 1000000 := by rw [decide_eq_true_eq] at h1; omega
  have hY : Hid (∀ i (h : i < l.length), itB l[i] = false → (l.any fun x => !itB x) = true) := fun i h hp => List.any_eq_true.2 ⟨l[i], List.getElem_mem h, by rw [hp]; rfl⟩
  have hN : Hid ((∀ i (h : i < l.length), itB l[i] = true) → (l.any fun x => !itB x) = false) := fun h => any_false fun i hi => by rw [h i hi]; rfl
  generalize (l.any fun x => !itB x) = v at *
  have HS := Lib.hid hS
  have HM := Lib.hid hm
  clear hS hm h0 h1 hR
  generalize hnn : l.length = n at hs g0 g1 ⊢
  have HNN := Lib.hid hnn
  clear hnn
  have hnl : n ≤ 140737488355328 := Nat.le_trans hs (by decide)
  go_enter Tryd.func56, Tryd.ntmps56
  go_wp2_with fail
  go_loopw [5] (fun iv wr => ∃ i : Nat, i ≤ n ∧ iv = .int .i64 (i : Int) ∧ Hid (∀ j (h : j < l.length), j < i → itB l[j] = true) ∧ Hid (Below w.heap.size w wr)) (fun iv _ => n - (intOf iv).toNat)
  case atStart => exact ⟨0, Nat.zero_le _, rfl, fun _ _ h => absurd h (Nat.not_lt_zero _), Below.refl _ _⟩
  case round =>
    obtain ⟨i, hi, rfl, HI, HB⟩ := hrel
    by_cases hlt : i < n
    · have hil : i < l.length := by rw [HNN.out]; exact hlt
      obtain ⟨b, o, rfl, hbl, hc0⟩ := HS.out i hil
      have c1 := Lib.hid (refItem_any l[i] (HM.out _ (List.getElem_mem hil)) wr)
      have k0 : (0 : Int) ≤ (i : Int) := by omega
      have k1 : (i : Int) < (n : Int) := by omega
      have k2 : decide (i < n) = true := by simp; omega
      have hst : Hid (itB l[i] = true → ∀ j (h : j < l.length), j < i + 1 → itB l[j] = true) := fun hp j h hj => by
        by_cases e : j = i
        · subst e; exact hp
        · exact HI.out j h (by omega)
      have hyi := Lib.hid (hY.out i hil)
      have hc : wr.rangeAt b (o + i * 13) l[i].cells.toList := fun j u hu => (HB.out.cell (p := ⟨b, o + i * 13 + j, none⟩) hbl).trans (hc0 j u hu)
      obtain ⟨c00, c01, c02, c03, c04, c05, c06, c07, c08, c09, c10, c11, c12⟩ := cells13 hc
      clear hc0 hc hbl HI
      generalize itB l[i] = t at *
      generalize l[i] = x at *
      obtain ⟨ta, so, ⟨fo, ty, sz, ve, la, ne, no, mm, mo⟩, da, mr⟩ := x
      simp only [It.cells] at c1 c00 c01 c02 c03 c04 c05 c06 c07 c08 c09 c10 c11 c12
      cases t with
      | false =>
        have HV := Lib.hid (hyi.out rfl)
        clear hst hyi
        go_wp2_with (go_at_call 123; (with_reducible refine c1.out.mono ?_); rintro e w1 ⟨rfl, hb1⟩)
        go_ret
        exact ⟨by rw [HV.out]; rfl, HB.out.trans (hb1.mono HB.out.size)⟩
      | true =>
        have HI2 := Lib.hid (hst.out rfl)
        have HW1 : Hid (wrap64 ((i : Int) + 1) = (i : Int) + 1) := by unfold Hid wrap64; omega
        clear hst hyi
        go_wp2_with (go_at_call 123; (with_reducible refine c1.out.mono ?_); rintro e w1 ⟨rfl, hb1⟩)
        go_roundw
        case rel => exact ⟨i + 1, by omega, by go_num, HI2, HB.out.trans (hb1.mono HB.out.size)⟩
        case measure => simp [intOf]; omega
    · have k1 : ¬ (i : Int) < (n : Int) := by omega
      have k2 : decide (i < n) = false := by simp; omega
      have HV := Lib.hid (hN.out (fun j h => HI.out j h (by rw [HNN.out] at h; omega)))
      go_wp2_with fail
      go_ret
      exact ⟨by rw [HV.out]; rfl, HB.out⟩
end Go.Proofs.YtgechifbbhipaaaDoor
