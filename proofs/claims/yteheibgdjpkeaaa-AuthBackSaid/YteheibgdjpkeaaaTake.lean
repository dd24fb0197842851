/- digest: the program's block. -/
import Derived.Test.YteheibgdjpkeaaaRot
import Derived.BigRegion
import Derived.Deep.RegionHeld3
namespace Go.Proofs.Yteheibgdjpkeaaa
open Go.RowKit

theorem run_at (s : ByteArray) (k : Nat) (h : k < s.size) (c : Nat) (hc : s[k].toNat = c) (w : World) : (Instr.index 9 (.string s) (.int .i64 (k : Int))).run Try.prog w = .ok (.int .u8 (c : Int)) w := by
  have h2 : (0 : Int) ≤ (k : Int) ∧ (k : Int) < s.size := ⟨by omega, by omega⟩
  rw [run_index_string w 9 _ _ _ Try.underlying9, dif_pos h2, ← hc]
  rfl
/-- the byte at j, 0 behind the end -/
def by8 (l : List UInt8) (j : Nat) : Nat := (l[j]?.getD 0).toNat
theorem by8_lt (l : List UInt8) (j : Nat) : by8 l j < 256 := by unfold by8; exact UInt8.toNat_lt _
/-- word i of a block -/
def xw (l : List UInt8) (i : Nat) : Nat := by8 l (4 * i) + by8 l (4 * i + 1) * 256 + by8 l (4 * i + 2) * 65536 + by8 l (4 * i + 3) * 16777216
theorem xw_lt (l : List UInt8) (i : Nat) : xw l i < 4294967296 := by
  unfold xw
  have h0 := by8_lt l (4 * i); have h1 := by8_lt l (4 * i + 1); have h2 := by8_lt l (4 * i + 2); have h3 := by8_lt l (4 * i + 3)
  omega

theorem cut_at (s : ByteArray) (k j : Nat) (h : k + j < s.size) (w : World) : (Instr.index 9 (.string (s.extract k s.size)) (.int .i64 (j : Int))).run Try.prog w = .ok (.int .u8 (by8 s.data.toList (k + j) : Int)) w := by
  refine run_at _ j (by simp; omega) _ ?_ w
  unfold by8
  rw [bat_get s (k + j) h, ByteArray.getElem_extract]; rfl

/-- the n cells of block b, that may be written. -/
def CellsF (w : World) (b n : Nat) (f : Nat → Value) : Prop := ∀ j, j < n → w.cell? ⟨b, j, none⟩ = some (f j) ∧ w.frozen? ⟨b, j, none⟩ = false
theorem CellsF.set {w : World} {b n : Nat} {f : Nat → Value} (h : CellsF w b n f) (k : Nat) (v : Value) (hk : k < n) : CellsF (w.setCell ⟨b, k, none⟩ v) b n (fun j => if j = k then v else f j) := by
  intro j hj
  refine ⟨?_, by rw [World.frozen?_setCell]; exact (h j hj).2⟩
  show _ = some (if j = k then v else f j)
  by_cases e : j = k
  · subst e
    rw [World.cell?_setCell_same _ _ _ (h j hk).1, if_pos rfl]
  · rw [World.cell?_setCell_other _ _ _ _ (fun h => e (by injection h with _ h2; exact h2.symm)), if_neg e]
    exact (h j hj).1
theorem CellsF.drew {w : World} {b n : Nat} {f : Nat → Value} (h : CellsF w b n f) : CellsF w.drew b n f := h
theorem CellsF.below {w w' : World} {b n : Nat} {f : Nat → Value} {C : Nat} (h : CellsF w b n f) (hb : Below C w w') (hC : b < C) : CellsF w' b n f :=
  fun j hj => ⟨(hb.cell (p := ⟨b, j, none⟩) hC).trans (h j hj).1, (hb.frozen (p := ⟨b, j, none⟩) hC).trans (h j hj).2⟩
theorem CellsF.congr {w : World} {b n : Nat} {f g : Nat → Value} (h : CellsF w b n f) (e : ∀ j, j < n → f j = g j) : CellsF w b n g :=
  fun j hj => ⟨by rw [(h j hj).1, e j hj], (h j hj).2⟩
theorem CellsF.new (w : World) (xs : Array Value) (t : TypeId) (n : Nat) (f : Nat → Value) (b : Nat) (hb : b = w.heap.size) (h : ∀ j, j < n → xs[j]? = some (f j)) : CellsF (w.alloc (.cells xs t)) b n f := by
  subst hb
  intro j hj
  refine ⟨cell_box w xs t j _ (h j hj), ?_⟩
  have e := block_new w (.cells xs t)
  unfold World.frozen?
  rw [e]
  simp
/-- the words of a block so far, noughts behind. -/
def wordsUpto (l : List UInt8) (k : Nat) (j : Nat) : Value := .int .u32 (if j < k then ((xw l j : Nat) : Int) else 0)
theorem words_succ (l : List UInt8) (k : Nat) (j : Nat) : (if j = k then Value.int .u32 ((xw l k : Nat) : Int) else wordsUpto l k j) = wordsUpto l (k + 1) j := by
  unfold wordsUpto
  by_cases h : j = k
  · subst h; rw [if_pos rfl, if_pos (by omega)]
  · rw [if_neg h]
    by_cases h2 : j < k
    · rw [if_pos h2, if_pos (by omega)]
    · rw [if_neg h2, if_neg (by omega)]

theorem or_word (b0 b1 b2 b3 : Nat) (h0 : b0 < 256) (h1 : b1 < 256) (h2 : b2 < 256) (h3 : b3 < 256) :
    bits BinOp.or IntKind.u32 (bits BinOp.or IntKind.u32 (bits BinOp.or IntKind.u32 (b0 : Int) ((b1 : Int) * 256)) ((b2 : Int) * 65536)) ((b3 : Int) * 16777216) = ((b0 + b1 * 256 + b2 * 65536 + b3 * 16777216 : Nat) : Int) := by
  have e1 := u32_or_nat b0 (b1 * 256) (by omega) (by omega)
  have e2 := u32_or_nat (b0 ||| b1 * 256) (b2 * 65536) (or_lt _ _ (by omega) (by omega)) (by omega)
  have e3 := u32_or_nat (b0 ||| b1 * 256 ||| b2 * 65536) (b3 * 16777216) (or_lt _ _ (or_lt _ _ (by omega) (by omega)) (by omega)) (by omega)
  have o1 : b0 ||| b1 * 256 = b1 * 256 + b0 := by
    rw [Nat.or_comm, Nat.mul_comm]; exact (Nat.two_pow_add_eq_or_of_lt (i := 8) h0 b1).symm
  have o2 : (b1 * 256 + b0) ||| b2 * 65536 = b2 * 65536 + (b1 * 256 + b0) := by
    rw [Nat.or_comm, Nat.mul_comm b2]; exact (Nat.two_pow_add_eq_or_of_lt (i := 16) (by omega) b2).symm
  have o3 : (b2 * 65536 + (b1 * 256 + b0)) ||| b3 * 16777216 = b3 * 16777216 + (b2 * 65536 + (b1 * 256 + b0)) := by
    rw [Nat.or_comm, Nat.mul_comm b3]; exact (Nat.two_pow_add_eq_or_of_lt (i := 24) (by omega) b3).symm
  rw [o1] at e1 e2 e3
  rw [o2] at e2 e3
  rw [o3] at e3
  rw [show ((b1 : Int) * 256) = ((b1 * 256 : Nat) : Int) from by omega, e1, show ((b2 : Int) * 65536) = ((b2 * 65536 : Nat) : Int) from by omega, e2,
    show ((b3 : Int) * 16777216) = ((b3 * 16777216 : Nat) : Int) from by omega, e3]
  omega

/-- the four words of a sum -/
structure St where
  a : Nat
  b : Nat
  c : Nat
  d : Nat
/-- all four are words -/
def St.ok (q : St) : Prop := q.a < 4294967296 ∧ q.b < 4294967296 ∧ q.c < 4294967296 ∧ q.d < 4294967296
def mixed (l : List UInt8) (i : Nat) (q : St) : Nat := (mixF i q.b q.c q.d + q.a + addT i + xw l (mixG i)) % 4294967296
def step (l : List UInt8) (i : Nat) (q : St) : St := ⟨q.d, (q.b + rotl (mixed l i q) (shT i)) % 4294967296, q.b, q.c⟩
def rounds (l : List UInt8) : Nat → St → St
  | 0, q => q
  | n + 1, q => step l n (rounds l n q)
def addSt (q r : St) : St := ⟨(q.a + r.a) % 4294967296, (q.b + r.b) % 4294967296, (q.c + r.c) % 4294967296, (q.d + r.d) % 4294967296⟩
def take (q : St) (l : List UInt8) : St := addSt q (rounds l 64 q)
theorem addSt_ok (q r : St) : (addSt q r).ok := ⟨Nat.mod_lt _ (by decide), Nat.mod_lt _ (by decide), Nat.mod_lt _ (by decide), Nat.mod_lt _ (by decide)⟩
theorem take_ok (q : St) (l : List UInt8) : (take q l).ok := addSt_ok _ _
theorem step_ok (l : List UInt8) (i : Nat) (q : St) (h : q.ok) : (step l i q).ok := ⟨h.2.2.2, Nat.mod_lt _ (by decide), h.2.1, h.2.2.1⟩
theorem rounds_ok (l : List UInt8) (n : Nat) (q : St) (h : q.ok) : (rounds l n q).ok := by
  induction n with
  | zero => exact h
  | succ n ih => exact step_ok _ _ _ ih
def vals (q : St) : Array Value := #[.int .u32 (q.a : Int), .int .u32 (q.b : Int), .int .u32 (q.c : Int), .int .u32 (q.d : Int)]
def f4 (q : St) (j : Nat) : Value := .int .u32 ((if j = 0 then q.a else if j = 1 then q.b else if j = 2 then q.c else q.d : Nat) : Int)
theorem f4_at (q : St) (j : Nat) (h : j < 4) : (vals q)[j]? = some (f4 q j) := by
  rcases (by omega : j = 0 ∨ j = 1 ∨ j = 2 ∨ j = 3) with rfl | rfl | rfl | rfl <;> rfl
theorem x0_at (l : List UInt8) (xs : Array Value) (h : xs = Array.replicate 16 (.int .u32 0)) (j : Nat) (hj : j < 16) : xs[j]? = some (wordsUpto l 0 j) := by
  subst h
  rw [Array.getElem?_replicate, if_pos hj]; rfl

theorem CellsF.far {w : World} {b n : Nat} {f : Nat → Value} (h : CellsF w b n f) {p : Addr} (hp : p.block ≠ b) (v : Value) : CellsF (w.setCell p v) b n f := by
  intro j hj
  refine ⟨?_, by rw [World.frozen?_setCell]; exact (h j hj).2⟩
  rw [World.cell?_setCell_other _ _ _ _ (fun e => hp (by rw [e]))]
  exact (h j hj).1

theorem keepA {w : World} {p : Addr} {v : Option Value} (C : Nat) (h : w.cell? p = v) : w.drew.cell? p = v ∧ Below C w w.drew := ⟨h, (Below.refl _ _).drew⟩
theorem keepB {wq W w' : World} {p : Addr} {v : Option Value} {C : Nat} (h : W.cell? p = v ∧ Below C wq W) (hp : p.block < C) (hz : C ≤ wq.heap.size) (hb : Below W.heap.size W w') : w'.cell? p = v ∧ Below C wq w' :=
  ⟨(hb.cell (by have := h.2.size; omega)).trans h.1, h.2.trans (hb.mono (by have := h.2.size; omega))⟩

set_option maxRecDepth 100000 in
set_option maxHeartbeats 1000000 in
theorem take_any (a b c d : Nat) (hq : (St.mk a b c d).ok) (s : ByteArray) (hs : s.size = 64) (w : World) :
    Calls Try.prog 39 #[.agg #[.int .u32 (a : Int), .int .u32 (b : Int), .int .u32 (c : Int), .int .u32 (d : Int)], .string s] w fun e w' => e = .returned (.agg (vals (take ⟨a, b, c, d⟩ s.data.toList))) ∧ Below w.heap.size w w' := by
  have hs1 : s.size ≤ 64 := by omega
  have hs2 : 64 ≤ s.size := by omega
  clear hs
  obtain ⟨B, hB⟩ : ∃ B, w.heap.size = B := ⟨_, rfl⟩
  have HB := Lib.hid hB
  have HQ := Lib.hid hq
  clear hq
  go_enter Try.func39, Try.ntmps39
  go_wp2
  clear hB
  go_loopw [6, 7, 15] (fun i p r wr => ∃ k : Nat, k ≤ 16 ∧ r = .int .i64 k ∧ Below B w wr ∧ CellsF wr B 4 (f4 ⟨a, b, c, d⟩) ∧ CellsF wr (B + 1) 4 (fun _ => .int .u32 0) ∧ CellsF wr (B + 1 + 1) 16 (wordsUpto s.data.toList k) ∧ B + 1 + 1 < wr.heap.size) (fun _ _ r _ => 16 - (intOf r).toNat)
  case atStart =>
    have hB := HB.out
    subst hB
    exact ⟨0, by omega, rfl, ((((Below.refl _ _).alloc (Nat.le_refl _) _).alloc (by simp) _).alloc (by simp; omega) _), ((CellsF.new w _ 67 4 (f4 ⟨a, b, c, d⟩) _ rfl (f4_at ⟨a, b, c, d⟩)).below (((Below.refl _ _).alloc (Nat.le_refl _) _).alloc (by simp) _) (by simp)), ((CellsF.new _ _ 67 4 (fun _ => .int .u32 0) _ (by simp) (fun j hj => by
      rcases (by omega : j = 0 ∨ j = 1 ∨ j = 2 ∨ j = 3) with rfl | rfl | rfl | rfl <;> rfl)).below ((Below.refl _ _).alloc (by exact Nat.le_refl _) _) (by simp)), CellsF.new _ _ 81 16 _ _ (by simp) (x0_at _ _ (by kernel_rfl)), by simp⟩
  case round =>
    obtain ⟨k, hk, rfl, hb, h4, h5, hcs, hz⟩ := hrel
    have H5 := Lib.hid h5
    clear h5
    by_cases hlt : k < 16
    · have H4 := Lib.hid h4
      clear h4
      go_wp2
      have r0 : ∀ w, (Instr.index 9 (.string (s.extract (4 * k) s.size)) (.int .i64 0)).run Try.prog w = .ok (.int .u8 (by8 s.data.toList (4 * k + 0) : Int)) w := fun w => cut_at s (4 * k) 0 (by omega) w
      have hb0 := by8_lt s.data.toList (4 * k + 0)
      have r1 : ∀ w, (Instr.index 9 (.string (s.extract (4 * k) s.size)) (.int .i64 1)).run Try.prog w = .ok (.int .u8 (by8 s.data.toList (4 * k + 1) : Int)) w := fun w => cut_at s (4 * k) 1 (by omega) w
      have hb1 := by8_lt s.data.toList (4 * k + 1)
      have r2 : ∀ w, (Instr.index 9 (.string (s.extract (4 * k) s.size)) (.int .i64 2)).run Try.prog w = .ok (.int .u8 (by8 s.data.toList (4 * k + 2) : Int)) w := fun w => cut_at s (4 * k) 2 (by omega) w
      have hb2 := by8_lt s.data.toList (4 * k + 2)
      have r3 : ∀ w, (Instr.index 9 (.string (s.extract (4 * k) s.size)) (.int .i64 3)).run Try.prog w = .ok (.int .u8 (by8 s.data.toList (4 * k + 3) : Int)) w := fun w => cut_at s (4 * k) 3 (by omega) w
      have hb3 := by8_lt s.data.toList (4 * k + 3)
      obtain ⟨hck, hfk⟩ := hcs k hlt
      have HCS := Lib.hid hcs
      clear hcs
      generalize s.extract (4 * k) s.size = p at *
      have HW : Hid (bits BinOp.or IntKind.u32 (bits BinOp.or IntKind.u32 (bits BinOp.or IntKind.u32 (by8 s.data.toList (4 * k + 0) : Int) ((by8 s.data.toList (4 * k + 1) : Int) * 256)) ((by8 s.data.toList (4 * k + 2) : Int) * 65536)) ((by8 s.data.toList (4 * k + 3) : Int) * 16777216) = ((xw s.data.toList k : Nat) : Int)) := or_word _ _ _ _ hb0 hb1 hb2 hb3
      generalize by8 s.data.toList (4 * k + 0) = b0 at *
      generalize by8 s.data.toList (4 * k + 1) = b1 at *
      generalize by8 s.data.toList (4 * k + 2) = b2 at *
      generalize by8 s.data.toList (4 * k + 3) = b3 at *
      go_region
      go_wp2
      go_roundw
      case rel =>
        refine ⟨k + 1, by omega, by go_num, (hb.setCell (by simp; omega) _).drew, ?_, (H5.out.far (p := ⟨B + 1 + 1, k, none⟩) (by simp) _).drew, ?_, by simpa using hz⟩
        · exact (H4.out.far (p := ⟨B + 1 + 1, k, none⟩) (by simp; omega) _).drew
        · rw [HW.out]
          exact ((CellsF.set HCS.out k _ hlt).congr (fun j _ => words_succ _ _ _)).drew
      case measure => simp [intOf]; omega
    · have hcs : CellsF wr (B + 1 + 1) 16 (wordsUpto s.data.toList 16) := by
        have e : 16 = k := by omega
        exact hcs.congr (fun j _ => by rw [← e])
      have h0 : wr.cell? ⟨B, 0, none⟩ = some (.int .u32 (a : Int)) := (h4 0 (by omega)).1
      have h1 : wr.cell? ⟨B, 1, none⟩ = some (.int .u32 (b : Int)) := (h4 1 (by omega)).1
      have h2 : wr.cell? ⟨B, 2, none⟩ = some (.int .u32 (c : Int)) := (h4 2 (by omega)).1
      have h3 : wr.cell? ⟨B, 3, none⟩ = some (.int .u32 (d : Int)) := (h4 3 (by omega)).1
      have H4 := Lib.hid h4
      have HCS := Lib.hid hcs
      clear h4 hcs
      go_wp2
      go_quiet (fail)
      go_wp2
      go_loopw [8, 9, 10, 11, 51] (fun va vb vc vd vr wq => ∃ (n : Nat) (a1 b1 c1 d1 : Nat), n ≤ 64 ∧ vr = .int .i64 n ∧ va = .int .u32 (a1 : Int) ∧ vb = .int .u32 (b1 : Int) ∧ vc = .int .u32 (c1 : Int) ∧ vd = .int .u32 (d1 : Int) ∧ Hid (rounds s.data.toList n ⟨a, b, c, d⟩ = ⟨a1, b1, c1, d1⟩) ∧ Hid (St.ok ⟨a1, b1, c1, d1⟩) ∧ Below B w wq ∧ Hid (CellsF wq B 4 (f4 ⟨a, b, c, d⟩)) ∧ Hid (CellsF wq (B + 1) 4 (fun _ => .int .u32 0)) ∧ Hid (CellsF wq (B + 1 + 1) 16 (wordsUpto s.data.toList 16)) ∧ B + 1 + 1 < wq.heap.size) (fun _ _ _ _ vr _ => 64 - (intOf vr).toNat)
      case atStart => exact ⟨0, a, b, c, d, by omega, rfl, rfl, rfl, rfl, rfl, rfl, HQ, ⟨hb.os, hb.tape, hb.output, hb.size, hb.block⟩, H4, H5, HCS, by simpa using hz⟩
      case round =>
        clear hb hz h0 h1 h2 h3 H4 H5 HCS
        obtain ⟨n, a1, b1, c1, d1, hn, rfl, rfl, rfl, rfl, rfl, HR, HO, hb, H4, H5, HCS, hz⟩ := hrel
        by_cases hlt2 : n < 64
        · obtain ⟨g1, g2, g3, g4⟩ := HO.out
          simp only at g1 g2 g3 g4
          have hm := mixF_lt n b1 c1 d1 g2 g3 g4
          have hg := mixG_lt n
          have hg1 : (0 : Int) ≤ (mixG n : Int) := by omega
          have hg2 : (mixG n : Int) < 16 := by omega
          have hcg : wr.cell? ⟨B + 1 + 1, mixG n, none⟩ = some (.int .u32 ((xw s.data.toList (mixG n) : Nat) : Int)) := by
            have := (HCS.out (mixG n) hg).1
            unfold wordsUpto at this
            rw [if_pos hg] at this
            exact this
          have hx := xw_lt s.data.toList (mixG n)
          have ht := addT_lt n
          have hsin := shT_in n hlt2
          have hs3 : ∀ x ∈ shs, 1 ≤ x ∧ x < 32 := by decide
          obtain ⟨s1, s2⟩ := hs3 _ hsin
          clear hs3 hsin
          have HST : Hid (step s.data.toList n ⟨a1, b1, c1, d1⟩ = ⟨d1, (b1 + rotl ((mixF n b1 c1 d1 + a1 + addT n + xw s.data.toList (mixG n)) % 4294967296) (shT n)) % 4294967296, b1, c1⟩) := rfl
          have cA := Lib.hid (fun w => addend_any n hlt2 w)
          have cS := Lib.hid (fun w => shift_any n hlt2 w)
          have cM := Lib.hid (fun w => mix_any n b1 c1 d1 hlt2 g2 g3 g4 w)
          generalize xw s.data.toList (mixG n) = X at *
          generalize mixF n b1 c1 d1 = F at *
          generalize mixG n = G at *
          generalize addT n = T at *
          generalize shT n = S at *
          have hE : ((F : Int) + (((a1 : Int) + (T : Int)) % 4294967296 + (X : Int)) % 4294967296) % 4294967296 = (((F + a1 + T + X) % 4294967296 : Nat) : Int) := by omega
          have hML : (F + a1 + T + X) % 4294967296 < 4294967296 := Nat.mod_lt _ (by decide)
          generalize (F + a1 + T + X) % 4294967296 = M at *
          have hRL := rotl_lt M S hML
          have cR := Lib.hid (fun w => rot_any M S hML s1 s2 w)
          rw [← hE] at cR
          clear hE
          generalize rotl M S = R at *
          go_wp2_with (go_at_call 52; refine (cM.out _).mono ?_; rintro e w' ⟨rfl, rfl⟩)
          go_region_held3 (fun w' => w'.cell? ⟨B + 1 + 1, G, none⟩ = some (.int .u32 (X : Int)) ∧ Below (B + 1 + 1 + 1) wr w') ((first | exact keepA _ hcg | exact keepB (by assumption) (by simp) (by omega) hb2 | exact keepB (keepA _ hcg) (by simp) (by omega) hb2)) (first | (go_at_call 53; refine (cA.out _).mono ?_; rintro e w' ⟨rfl, hb2⟩))
          go_wp2_with (go_at_call 55; refine (cS.out _).mono ?_; rintro e w8 ⟨rfl, hb3⟩)
          refine (cR.out _).mono ?_
          rintro e w9 ⟨rfl, rfl⟩
          go_wp2_with fail
          go_roundw
          case rel => 
            have hh : Below (B + 1 + 1 + 1) wr w' := (by assumption : _ ∧ Below (B + 1 + 1 + 1) wr w').2
            have hh8 : Below (B + 1 + 1 + 1) wr w8 := hh.trans (hb3.mono (by have := hh.size; omega))
            refine ⟨n + 1, d1, (b1 + R) % 4294967296, b1, c1, by omega, by go_num, rfl, ?_, rfl, rfl, ?_, ?_, hb.trans (hh8.mono (by omega)), H4.out.below hh8 (by omega), H5.out.below hh8 (by omega), HCS.out.below hh8 (by omega), by have := hh8.size; omega⟩
            · go_num
            · show step _ _ _ = _
              rw [HR.out]; exact HST.out
            · exact ⟨g4, Nat.mod_lt _ (by decide), g2, g3⟩
          case measure => simp [intOf]; omega
        · have h0 : wr.cell? ⟨B, 0, none⟩ = some (.int .u32 (a : Int)) := (H4.out 0 (by omega)).1
          have h1 : wr.cell? ⟨B, 1, none⟩ = some (.int .u32 (b : Int)) := (H4.out 1 (by omega)).1
          have h2 : wr.cell? ⟨B, 2, none⟩ = some (.int .u32 (c : Int)) := (H4.out 2 (by omega)).1
          have h3 : wr.cell? ⟨B, 3, none⟩ = some (.int .u32 (d : Int)) := (H4.out 3 (by omega)).1
          obtain ⟨k0, f0⟩ := H5.out 0 (by omega)
          obtain ⟨k1, f1⟩ := H5.out 1 (by omega)
          obtain ⟨k2, f2⟩ := H5.out 2 (by omega)
          obtain ⟨k3, f3⟩ := H5.out 3 (by omega)
          have HF : Hid (take ⟨a, b, c, d⟩ s.data.toList = ⟨(a + a1) % 4294967296, (b + b1) % 4294967296, (c + c1) % 4294967296, (d + d1) % 4294967296⟩) := by
            have e : n = 64 := by omega
            have e2 := HR.out
            rw [e] at e2
            unfold Hid take
            rw [e2]; rfl
          go_wp2
          have hW : Below w.heap.size w ((((wr.setCell ⟨B + 1, 0, none⟩ (.int .u32 (((a : Int) + (a1 : Int)) % 4294967296))).setCell ⟨B + 1, 1, none⟩ (.int .u32 (((b : Int) + (b1 : Int)) % 4294967296))).setCell ⟨B + 1, 2, none⟩ (.int .u32 (((c : Int) + (c1 : Int)) % 4294967296))).setCell ⟨B + 1, 3, none⟩ (.int .u32 (((d : Int) + (d1 : Int)) % 4294967296))) := by
            have e := HB.out
            subst e
            exact (((hb.setCell (by simp) _).setCell (by simp) _).setCell (by simp) _).setCell (by simp) _
          have hF := (((H5.out.set 0 (.int .u32 (((a : Int) + (a1 : Int)) % 4294967296)) (by omega)).set 1 (.int .u32 (((b : Int) + (b1 : Int)) % 4294967296)) (by omega)).set 2 (.int .u32 (((c : Int) + (c1 : Int)) % 4294967296)) (by omega)).set 3 (.int .u32 (((d : Int) + (d1 : Int)) % 4294967296)) (by omega)
          generalize ((((wr.setCell ⟨B + 1, 0, none⟩ (.int .u32 (((a : Int) + (a1 : Int)) % 4294967296))).setCell ⟨B + 1, 1, none⟩ (.int .u32 (((b : Int) + (b1 : Int)) % 4294967296))).setCell ⟨B + 1, 2, none⟩ (.int .u32 (((c : Int) + (c1 : Int)) % 4294967296))).setCell ⟨B + 1, 3, none⟩ (.int .u32 (((d : Int) + (d1 : Int)) % 4294967296))) = w5 at *
          have g0 : w5.cell? ⟨B + 1, 0, none⟩ = some (.int .u32 (((a : Int) + (a1 : Int)) % 4294967296)) := (hF 0 (by omega)).1
          have g1 : w5.cell? ⟨B + 1, 1, none⟩ = some (.int .u32 (((b : Int) + (b1 : Int)) % 4294967296)) := (hF 1 (by omega)).1
          have g2 : w5.cell? ⟨B + 1, 2, none⟩ = some (.int .u32 (((c : Int) + (c1 : Int)) % 4294967296)) := (hF 2 (by omega)).1
          have g3 : w5.cell? ⟨B + 1, 3, none⟩ = some (.int .u32 (((d : Int) + (d1 : Int)) % 4294967296)) := (hF 3 (by omega)).1
          refine bodyPost_ret (v := .agg #[.int .u32 (((a : Int) + (a1 : Int)) % 4294967296), .int .u32 (((b : Int) + (b1 : Int)) % 4294967296), .int .u32 (((c : Int) + (c1 : Int)) % 4294967296), .int .u32 (((d : Int) + (d1 : Int)) % 4294967296)]) (by simp [results, Try.results39, go_sem, g0, g1, g2, g3]) rfl ⟨?_, hW⟩
          rw [HF.out]; rfl
end Go.Proofs.Yteheibgdjpkeaaa
