/- devinf: forms as elements, the program's. No condition but sizes. -/
import Derived.Test.YtgechifbbhipaaaDoorTrB
import Derived.Test.YtgechifbbhipaaaDoorDvW
import Derived.Test.YtgechifbbhipaaaDoorDvT
import Derived.Deep.RegionHeld3
import Derived.Laws.Concat
set_option linter.unusedVariables false
set_option linter.unusedSimpArgs false
namespace Go.Proofs.YtgechifbbhipaaaDoor
open Go.RowKit

/-- a row that has grown by an element that was made beside it -/
theorem push_end {W X w' : World} {B n c c' : Nat} {a a' : Option Addr} {xs cs : List Value} {ks : List Tr} {k : Tr} {lo hi : Nat}
    (hlen : ks.length = n) (ho : W.ownsRow B 46 5 (.slice a n c) n xs) (hq : KLQ W (fun b => B ≤ b ∧ b < W.heap.size ∧ (.slice a n c : Value).ownBlock ≠ some b) ks xs)
    (hT : Below W.heap.size W X) (hB : B ≤ W.heap.size) (hlo : W.heap.size ≤ lo) (hhi : hi ≤ X.heap.size) (hat : AtQ X (fun b => lo ≤ b ∧ b < hi) k (.agg cs.toArray)) (hc : cs.length = 5)
    (k1 : w'.ownsRow B 46 5 (.slice a' (n + 1) c') (n + 1) (xs ++ cs)) (k2 : X.grownBy w' (.slice a n c : Value).ownBlock) (k3 : (.slice a' (n + 1) c' : Value).ownBlock = (.slice a n c : Value).ownBlock ∨ (.slice a' (n + 1) c' : Value).ownBlock = some X.heap.size) :
    RowQ w' B (.slice a' (n + 1) c') (ks ++ [k]) := by
  subst hlen
  have hown : ∀ b, (.slice a ks.length c : Value).ownBlock = some b → b < W.heap.size := fun b hb => (ho.lt b hb).2
  refine RowQ.push (w := X) (P := fun b => lo ≤ b ∧ b < hi) (owns_keep ho (fun k hk => hT.block k (ho.lt k hk).2)) (hq.keep (fun b hb => ⟨⟨hb.1, Nat.lt_of_lt_of_le hb.2.1 hT.size, hb.2.2⟩, hT.block b hb.2.1⟩)) k1 hc ?_ ?_ k2 ?_
  · exact AtQ.keep (fun b hb => ⟨hb, k2.block b (Nat.lt_of_lt_of_le hb.2 hhi) (fun e => by have := hown b e.symm; omega)⟩) _ _ hat
  · intro b hb
    refine ⟨by omega, Nat.lt_of_lt_of_le (Nat.lt_of_lt_of_le hb.2 hhi) k2.size, fun e => ?_⟩
    rcases k3 with k3 | k3
    · rw [k3] at e; have := hown b e; omega
    · rw [k3] at e; injection e with e; omega
  · rcases k3 with k3 | k3
    · exact .inl k3
    · refine .inr fun b hb => ?_
      rw [k3] at hb; injection hb with hb; omega
theorem leafs2 {w : World} {P : Nat → Prop} {g : Nat} {nm1 t1 nm2 t2 : ByteArray} (hg : P g) (h1 : nm1.size ≤ reachT) (h2 : t1.size ≤ reachT) (h3 : nm2.size ≤ reachT) (h4 : t2.size ≤ reachT)
    (hc : ∀ j u, ([.int .i64 2, .string nm1, .string t1, .bool false, .slice none 0 0, .int .i64 2, .string nm2, .string t2, .bool false, .slice none 0 0] : List Value)[j]? = some u → w.cell? ⟨g, j, none⟩ = some u) :
    AtLQ w P (some ⟨g, 0, none⟩) 0 [.mk 2 nm1 t1 false [], .mk 2 nm2 t2 false []] :=
  KLQ.atL hg (xs := [.int .i64 2, .string nm1, .string t1, .bool false, .slice none 0 0, .int .i64 2, .string nm2, .string t2, .bool false, .slice none 0 0]) (i := 0)
    ⟨[.int .i64 2, .string nm1, .string t1, .bool false, .slice none 0 0], _, rfl, rfl, AtQ.leaf h1 h2, [.int .i64 2, .string nm2, .string t2, .bool false, .slice none 0 0], [], rfl, rfl, AtQ.leaf h3 h4, rfl⟩ (fun j u hu => by have := hc j u hu; simpa using this)
def nCT : ByteArray := { data := #[67, 84, 84, 121, 112, 101] }
def nVer : ByteArray := { data := #[86, 101, 114, 67, 84] }
def nPref : ByteArray := { data := #[80, 114, 101, 102] }
def toldT (nm : ByteArray) (f : Fm) : Tr := .mk 2 nm ByteArray.empty false [.mk 2 nCT f.ty false [], .mk 2 nVer f.ve false []]
def nmI (nm : ByteArray) (i : Nat) : ByteArray := if i = 0 then nm ++ nPref else nm
def toldG (nm : ByteArray) : Nat → List Fm → List Tr
  | _, [] => []
  | i, f :: l => toldT (nmI nm i) f :: toldG nm (i + 1) l
theorem toldG_len (nm : ByteArray) : ∀ (l : List Fm) (i : Nat), (toldG nm i l).length = l.length
  | [], _ => rfl
  | f :: l, i => by rw [toldG, List.length_cons, toldG_len nm l, List.length_cons]
theorem toldG_snoc (nm : ByteArray) (f : Fm) : ∀ (l : List Fm) (i : Nat), toldG nm i (l ++ [f]) = toldG nm i l ++ [toldT (nmI nm (i + l.length)) f]
  | [], i => rfl
  | x :: l, i => by rw [List.cons_append, toldG, toldG_snoc nm f l, toldG, List.cons_append, List.length_cons, show i + 1 + l.length = i + (l.length + 1) from by omega]
theorem toldG_take (nm : ByteArray) (l : List Fm) (i : Nat) (h : i < l.length) : toldG nm 0 (l.take (i + 1)) = toldG nm 0 (l.take i) ++ [toldT (nmI nm i) l[i]] := by
  rw [List.take_succ_eq_append_getElem h, toldG_snoc, List.length_take, Nat.min_eq_left (by omega), Nat.zero_add]
/-- the form's box as it stays -/
abbrev SF (g : Nat) (u v : Value) (X : World) : Prop := X.cell? ⟨g, 0, none⟩ = some u ∧ X.cell? ⟨g, 1, none⟩ = some v ∧ g < X.heap.size
theorem SF.bel {g : Nat} {u v : Value} {X Y : World} (h : SF g u v X) (hb : Below X.heap.size X Y) : SF g u v Y :=
  ⟨(hb.cell (p := ⟨g, 0, none⟩) h.2.2).trans h.1, (hb.cell (p := ⟨g, 1, none⟩) h.2.2).trans h.2.1, Nat.lt_of_lt_of_le h.2.2 hb.size⟩
theorem SF.grown {g : Nat} {u v : Value} {X Y : World} {r : Option Nat} (h : SF g u v X) (hb : X.grownBy Y r) (hr : r ≠ some g) : SF g u v Y :=
  ⟨(World.cell?_of_block (a := ⟨g, 0, none⟩) (hb.block g h.2.2 (fun e => hr e.symm))).trans h.1, (World.cell?_of_block (a := ⟨g, 1, none⟩) (hb.block g h.2.2 (fun e => hr e.symm))).trans h.2.1, Nat.lt_of_lt_of_le h.2.2 hb.size⟩
theorem two_node (w2 : World) (nm n1 t1 n2 t2 : ByteArray) (h0 : nm.size ≤ reachT) (h1 : n1.size ≤ reachT) (h2 : t1.size ≤ reachT) (h3 : n2.size ≤ reachT) (h4 : t2.size ≤ reachT) :
    Calls Tryd.prog 64 #[.int .i64 2, .string nm, .slice (some ⟨w2.heap.size, 0, none⟩) 2 2] (w2.alloc (.cells #[.int .i64 2, .string n1, .string t1, .bool false, .slice none 0 0, .int .i64 2, .string n2, .string t2, .bool false, .slice none 0 0] 46)) fun r w4 =>
      (∃ a6 c6, r = .returned (.agg #[.int .i64 2, .string nm, .string ByteArray.empty, .bool false, .slice a6 2 c6]) ∧ AtQ w4 (fun b => w2.heap.size ≤ b ∧ b < w4.heap.size) (.mk 2 nm ByteArray.empty false [.mk 2 n1 t1 false [], .mk 2 n2 t2 false []]) (.agg #[.int .i64 2, .string nm, .string ByteArray.empty, .bool false, .slice a6 2 c6])) ∧
      Below (w2.alloc (.cells #[.int .i64 2, .string n1, .string t1, .bool false, .slice none 0 0, .int .i64 2, .string n2, .string t2, .bool false, .slice none 0 0] 46)).heap.size (w2.alloc (.cells #[.int .i64 2, .string n1, .string t1, .bool false, .slice none 0 0, .int .i64 2, .string n2, .string t2, .bool false, .slice none 0 0] 46)) w4 ∧ Below w2.heap.size w2 w4 := by
  have hk : AtLQ (w2.alloc (.cells #[.int .i64 2, .string n1, .string t1, .bool false, .slice none 0 0, .int .i64 2, .string n2, .string t2, .bool false, .slice none 0 0] 46)) (fun b => b = w2.heap.size) (some ⟨w2.heap.size, 0, none⟩) 0 [.mk 2 n1 t1 false [], .mk 2 n2 t2 false []] :=
    leafs2 rfl h1 h2 h3 h4 (fun j u hu => by
      have := cells_new w2 _ 46 j u hu
      rw [addr_addN, Nat.zero_add] at this; exact this)
  refine (nodeQ_any (fun b => b = w2.heap.size) 2 nm h0 [.mk 2 n1 t1 false [], .mk 2 n2 t2 false []] (some ⟨w2.heap.size, 0, none⟩) 2 _ (fun b hb => by rw [hb]; simp) hk (by simp) (fun h => by cases h)).mono ?_
  rintro r w4 ⟨⟨v, rfl, hat⟩, hb⟩
  obtain ⟨a6, c6, rfl⟩ := hat.cells5
  have hb0 : Below w2.heap.size w2 (w2.alloc (.cells #[.int .i64 2, .string n1, .string t1, .bool false, .slice none 0 0, .int .i64 2, .string n2, .string t2, .bool false, .slice none 0 0] 46)) := (Below.refl _ _).alloc (Nat.le_refl _) _
  refine ⟨⟨a6, c6, rfl, AtQ.keep (fun b h => ⟨?_, rfl⟩) _ _ hat⟩, hb, hb0.trans (hb.mono hb0.size)⟩
  have h5 := hb.size
  simp only [World.size_alloc] at h h5
  omega
set_option maxRecDepth 100000 in
set_option maxHeartbeats 16000000 in
theorem told_aux (B : Nat) (nm : ByteArray) (hnm : nm.size ≤ 1000) (l : List Fm) (hsz : ∀ f ∈ l, f.ty.size ≤ reachT ∧ f.ve.size ≤ reachT) (a : Option Addr) (cap : Nat) (hs : l.length ≤ 1000) (w : World) (hBw : w.heap.size = B) (hS : AtF w B a l) :
    Calls Tryd.prog 126 #[.string nm, .slice a l.length cap] w fun r w' => (∃ v, r = .returned v ∧ RowQ w' B v (toldG nm 0 l)) ∧ Below B w w' := by
  have HS := Lib.hid hS
  have HSZ0 := Lib.hid hsz
  clear hS hsz
  have hadd : ∀ w, (Op.stringOp .add nm { data := #[80, 114, 101, 102] }).run Tryd.prog w = .ok (.string (nm ++ { data := #[80, 114, 101, 102] })) w := fun w => run_string_add_sum w nm { data := #[80, 114, 101, 102] } (by show nm.size + 4 ≤ _; omega)
  have hnP : Hid (nm.size + 4 ≤ reachT) := by unfold Hid reachT; omega
  have HBw := Lib.hid hBw
  clear hBw
  generalize hnn : l.length = n at hs ⊢
  have HNN := Lib.hid hnn
  clear hnn
  go_enter Tryd.func126, Tryd.ntmps126
  go_wp2_with fail
  go_loopw [5, 6, 7, 8, 11] (fun lv _ _ _ iv wr => ∃ i : Nat, i ≤ n ∧ iv = .int .i64 (i : Int) ∧ Hid (RowQ wr B lv (toldG nm 0 (l.take i))) ∧ Hid (Below B w wr)) (fun _ _ _ _ iv _ => n - (intOf iv).toNat)
  case atStart => exact ⟨0, Nat.zero_le _, rfl, RowQ.nil _ _, Below.refl _ _⟩
  case round =>
    obtain ⟨i, hi, rfl, HR, HB⟩ := hrel
    by_cases hlt : i < n
    · have hil : i < l.length := by rw [HNN.out]; exact hlt
      obtain ⟨b, o, rfl, hbl, hc0⟩ := HS.out i hil
      have k0 : (0 : Int) ≤ (i : Int) := by omega
      have k1 : (i : Int) < (n : Int) := by omega
      have k2 : decide (i < n) = true := by simp; omega
      have hc : wr.rangeAt b (o + i * 2) [.string l[i].ty, .string l[i].ve] := fun j u hu => (HB.out.cell (p := ⟨b, o + i * 2 + j, none⟩) hbl).trans (hc0 j u hu)
      have y0 := hc 0 _ rfl
      have y1 := hc 1 _ rfl
      simp only [Nat.add_zero] at y0
      have HTK := Lib.hid (toldG_take nm l i hil)
      obtain ⟨hs1, hs2⟩ := HSZ0.out _ (List.getElem_mem hil)
      have HLN : Hid ((toldG nm 0 (l.take i)).length = i) := by unfold Hid; rw [toldG_len, List.length_take, Nat.min_eq_left (by omega)]
      clear hc0 hc hbl
      generalize toldG nm 0 (l.take i) = ks at *
      obtain ⟨xs, ho, hq⟩ := HR.out
      obtain ⟨a0, c0, rfl⟩ := own_form ho
      have HLN2 := HLN.out
      generalize hm : ks.length = m at *
      have HML := Lib.hid hm
      have hmi : m = i := HLN2
      clear hm HLN HLN2
      have HOW0 := Lib.hid ho
      have HQ0 := Lib.hid hq
      have HXL := Lib.hid ho.1
      clear ho hq HR
      generalize l[i] = x at *
      obtain ⟨ty, ve⟩ := x
      simp only [] at y0 y1 hs1 hs2
      obtain ⟨i0, hi0, hz0, hz1, hz2⟩ := info24
      have HI := Lib.hid hi0
      have HZ0 := Lib.hid hz0
      have HZ1 := Lib.hid hz1
      have HZ2 := Lib.hid hz2
      clear hi0 hz0 hz1 hz2
      have HBY : Hid ((m + 1) * 72 ≤ 140737488355328) := by unfold Hid; omega
      have H63 : Hid (m + 1 ≤ maxLen) := by unfold Hid maxLen; omega
      have HW1 : Hid (wrap64 ((i : Int) + 1) = (i : Int) + 1) := by unfold Hid wrap64; omega
      have cL1 := Lib.hid (fun X => leaf_any 2 nCT ty X)
      have cL2 := Lib.hid (fun X => leaf_any 2 nVer ve X)
      unfold nCT at cL1
      unfold nVer at cL2
      clear hmi
      by_cases hi0 : i = 0
      · subst hi0
        simp only [Nat.zero_mul, Nat.add_zero] at y0 y1
        obtain ⟨NM, hNM⟩ : ∃ NM, nm ++ { data := #[80, 114, 101, 102] } = NM := ⟨_, rfl⟩
        have HNS : Hid (NM.size ≤ reachT) := by unfold Hid; rw [← hNM]; show (nm ++ nPref).size ≤ _; rw [ByteArray.size_append]; exact hnP.out
        rw [show nmI nm 0 = NM from by rw [← hNM]; unfold nmI; rw [if_pos rfl]; rfl] at HTK
        have cN := Lib.hid (fun w2 => two_node w2 NM nCT ty nVer ve HNS.out (by decide) hs1 (by decide) hs2)
        unfold nCT nVer at cN
        clear hs1 hs2
        go_upto_region 8 with fail
        clear hNM
        obtain ⟨W2, hW2⟩ : ∃ W2, wr.alloc (.cells #[.string ty, .string ve] 100) = W2 := ⟨_, rfl⟩
        rw [hW2]
        have hB2 : Below wr.heap.size wr W2 := by rw [← hW2]; exact (Below.refl _ _).alloc (Nat.le_refl _) _
        have HBS : Hid (B ≤ wr.heap.size) := by have h := HB.out.size; rw [HBw.out] at h; exact h
        have HB2 := Lib.hid (HB.out.trans (hB2.mono HBS.out))
        have hz : W2.heap[wr.heap.size]? = some (.cells #[.string ty, .string ve] 100 (0, 0)) := by rw [← hW2]; exact World.alloc_heap_new _ _
        have z0 := blk_cell hz 0 _ rfl
        have z1 := blk_cell hz 1 _ rfl
        have HG : Hid (wr.heap.size < W2.heap.size) := by unfold Hid; rw [← hW2]; simp
        have HOW : Hid (W2.ownsRow B 46 5 (.slice a0 m c0) m xs) := owns_keep HOW0.out (fun k hk => hB2.block k (HOW0.out.lt k hk).2)
        have HQ : Hid (KLQ W2 (fun b => B ≤ b ∧ b < W2.heap.size ∧ (.slice a0 m c0 : Value).ownBlock ≠ some b) ks xs) := HQ0.out.keep (fun b hb => ⟨⟨hb.1, Nat.lt_of_lt_of_le hb.2.1 hB2.size, hb.2.2⟩, hB2.block b hb.2.1⟩)
        have HNG : Hid ((.slice a0 m c0 : Value).ownBlock ≠ some wr.heap.size) := fun e => Nat.lt_irrefl _ (HOW0.out.lt _ e).2
        have HSF : SF wr.heap.size (.string ty) (.string ve) W2 := ⟨z0, z1, HG.out⟩
        have HO : Hid (∀ X, Below W2.heap.size W2 X → X.ownsRow B 46 5 (.slice a0 m c0) m xs) := fun X hX => owns_keep HOW.out (fun k hk => hX.block k (HOW.out.lt k hk).2)
        have HBW : Hid (B ≤ W2.heap.size) := Nat.le_trans HBS.out hB2.size
        have HD : Hid (Below W2.heap.size W2 W2.drew) := (Below.refl _ W2).drew
        clear hW2 hB2 hz y0 y1
        generalize wr.heap.size = g at *
        go_region_held3 (fun X => X.cell? ⟨g, 0, none⟩ = some (.string ty) ∧ X.cell? ⟨g, 1, none⟩ = some (.string ve) ∧ g < X.heap.size) (first | assumption | exact SF.bel (by assumption) ((Below.refl _ _).drew) | exact SF.bel (by assumption) hb9 | exact SF.bel (by assumption) ((Below.refl _ _).alloc (Nat.le_refl _) _) | exact SF.grown (by assumption) k2 HNG.out) (first | (go_at_call 63; (with_reducible refine (cL1.out _).mono ?_); rintro r w1 ⟨rfl, hb9⟩; have HT1 : Hid (Below W2.heap.size W2 w1) := (by first | exact (HD.out.trans (hb9.mono HD.out.size)) | exact hb9)) | (go_at_call 63; (with_reducible refine (cL2.out _).mono ?_); rintro r w2 ⟨rfl, hb9⟩; have HT2 : Hid (Below W2.heap.size W2 w2) := HT1.out.trans (hb9.mono HT1.out.size)) | (go_at_call 64; (with_reducible refine (cN.out _).mono ?_); rintro r w4 ⟨⟨a6, c6, rfl, hat⟩, hb9, hb8⟩; have HT4 : Hid (Below W2.heap.size W2 w4) := HT2.out.trans (hb8.mono HT2.out.size); have HAT := Lib.hid hat; have HSZ : Hid (W2.heap.size ≤ w2.heap.size) := HT2.out.size; clear hat) | (refine step_appR rfl (.tmp 21) (.tmp 31) 44 rfl B 46 i0 _ 5 72 Tryd.underlying44 HI.out HZ0.out HZ1.out HZ2.out rfl (by decide) _ m xs rfl (HO.out _ (HT4.out.alloc HT4.out.size _)) _ 1 1 [.int .i64 2, .string NM, .string ByteArray.empty, .bool false, .slice a6 2 c6] rfl rfl (fun h => by cases h) (new_cells (Below.refl _ _)) (by simp [Value.oneCell']) H63.out HBY.out (Nat.le_trans HBW.out (Below.size (HT4.out.alloc HT4.out.size _))) (fun a' c' w' k1 k2 k3 => ?_); have HFIN := Lib.hid (push_end HML.out HOW.out HQ.out (HT4.out.alloc HT4.out.size _) HBW.out HSZ.out (by simp) (AtQ.keep (w' := w4.alloc (.cells #[.int .i64 2, .string NM, .string ByteArray.empty, .bool false, .slice a6 2 c6] 46)) (fun b hb => ⟨hb, Below.heap_alloc _ _ _ hb.2⟩) _ _ HAT.out) rfl k1 k2 k3); have HFB := Lib.hid ((HB2.out.trans ((HT4.out.alloc HT4.out.size _).mono HBW.out)).grown k2 (Nat.le_trans HBW.out (Below.size (HT4.out.alloc HT4.out.size _))) (fun k hk => (HOW.out.lt k hk).1))))
        all_goals
          go_wp2_with fail
          go_roundw
          case rel => exact ⟨0 + 1, by omega, by go_num, by rw [HTK.out]; exact HFIN.out, HFB.out⟩
          case measure => simp [intOf]; omega
      · have e0 : ((i : Int) == 0) = false := by simp; omega
        have e1 : ¬ (i : Int) = 0 := by omega
        have HNS : Hid (nm.size ≤ reachT) := by unfold Hid; have := hnP.out; omega
        rw [show nmI nm i = nm from by unfold nmI; rw [if_neg hi0]] at HTK
        have cN := Lib.hid (fun w2 => two_node w2 nm nCT ty nVer ve HNS.out (by decide) hs1 (by decide) hs2)
        unfold nCT nVer at cN
        clear hs1 hs2 hi0
        go_upto_region 8 with fail
        obtain ⟨W2, hW2⟩ : ∃ W2, wr.alloc (.cells #[.string ty, .string ve] 100) = W2 := ⟨_, rfl⟩
        rw [hW2]
        have hB2 : Below wr.heap.size wr W2 := by rw [← hW2]; exact (Below.refl _ _).alloc (Nat.le_refl _) _
        have HBS : Hid (B ≤ wr.heap.size) := by have h := HB.out.size; rw [HBw.out] at h; exact h
        have HB2 := Lib.hid (HB.out.trans (hB2.mono HBS.out))
        have hz : W2.heap[wr.heap.size]? = some (.cells #[.string ty, .string ve] 100 (0, 0)) := by rw [← hW2]; exact World.alloc_heap_new _ _
        have z0 := blk_cell hz 0 _ rfl
        have z1 := blk_cell hz 1 _ rfl
        have HG : Hid (wr.heap.size < W2.heap.size) := by unfold Hid; rw [← hW2]; simp
        have HOW : Hid (W2.ownsRow B 46 5 (.slice a0 m c0) m xs) := owns_keep HOW0.out (fun k hk => hB2.block k (HOW0.out.lt k hk).2)
        have HQ : Hid (KLQ W2 (fun b => B ≤ b ∧ b < W2.heap.size ∧ (.slice a0 m c0 : Value).ownBlock ≠ some b) ks xs) := HQ0.out.keep (fun b hb => ⟨⟨hb.1, Nat.lt_of_lt_of_le hb.2.1 hB2.size, hb.2.2⟩, hB2.block b hb.2.1⟩)
        have HNG : Hid ((.slice a0 m c0 : Value).ownBlock ≠ some wr.heap.size) := fun e => Nat.lt_irrefl _ (HOW0.out.lt _ e).2
        have HSF : SF wr.heap.size (.string ty) (.string ve) W2 := ⟨z0, z1, HG.out⟩
        have HO : Hid (∀ X, Below W2.heap.size W2 X → X.ownsRow B 46 5 (.slice a0 m c0) m xs) := fun X hX => owns_keep HOW.out (fun k hk => hX.block k (HOW.out.lt k hk).2)
        have HBW : Hid (B ≤ W2.heap.size) := Nat.le_trans HBS.out hB2.size
        have HD : Hid (Below W2.heap.size W2 W2.drew) := (Below.refl _ W2).drew
        clear hW2 hB2 hz y0 y1
        generalize wr.heap.size = g at *
        go_region_held3 (fun X => X.cell? ⟨g, 0, none⟩ = some (.string ty) ∧ X.cell? ⟨g, 1, none⟩ = some (.string ve) ∧ g < X.heap.size) (first | assumption | exact SF.bel (by assumption) ((Below.refl _ _).drew) | exact SF.bel (by assumption) hb9 | exact SF.bel (by assumption) ((Below.refl _ _).alloc (Nat.le_refl _) _) | exact SF.grown (by assumption) k2 HNG.out) (first | (go_at_call 63; (with_reducible refine (cL1.out _).mono ?_); rintro r w1 ⟨rfl, hb9⟩; have HT1 : Hid (Below W2.heap.size W2 w1) := (by first | exact (HD.out.trans (hb9.mono HD.out.size)) | exact hb9)) | (go_at_call 63; (with_reducible refine (cL2.out _).mono ?_); rintro r w2 ⟨rfl, hb9⟩; have HT2 : Hid (Below W2.heap.size W2 w2) := HT1.out.trans (hb9.mono HT1.out.size)) | (go_at_call 64; (with_reducible refine (cN.out _).mono ?_); rintro r w4 ⟨⟨a6, c6, rfl, hat⟩, hb9, hb8⟩; have HT4 : Hid (Below W2.heap.size W2 w4) := HT2.out.trans (hb8.mono HT2.out.size); have HAT := Lib.hid hat; have HSZ : Hid (W2.heap.size ≤ w2.heap.size) := HT2.out.size; clear hat) | (refine step_appR rfl (.tmp 21) (.tmp 31) 44 rfl B 46 i0 _ 5 72 Tryd.underlying44 HI.out HZ0.out HZ1.out HZ2.out rfl (by decide) _ m xs rfl (HO.out _ (HT4.out.alloc HT4.out.size _)) _ 1 1 [.int .i64 2, .string nm, .string ByteArray.empty, .bool false, .slice a6 2 c6] rfl rfl (fun h => by cases h) (new_cells (Below.refl _ _)) (by simp [Value.oneCell']) H63.out HBY.out (Nat.le_trans HBW.out (Below.size (HT4.out.alloc HT4.out.size _))) (fun a' c' w' k1 k2 k3 => ?_); have HFIN := Lib.hid (push_end HML.out HOW.out HQ.out (HT4.out.alloc HT4.out.size _) HBW.out HSZ.out (by simp) (AtQ.keep (w' := w4.alloc (.cells #[.int .i64 2, .string nm, .string ByteArray.empty, .bool false, .slice a6 2 c6] 46)) (fun b hb => ⟨hb, Below.heap_alloc _ _ _ hb.2⟩) _ _ HAT.out) rfl k1 k2 k3); have HFB := Lib.hid ((HB2.out.trans ((HT4.out.alloc HT4.out.size _).mono HBW.out)).grown k2 (Nat.le_trans HBW.out (Below.size (HT4.out.alloc HT4.out.size _))) (fun k hk => (HOW.out.lt k hk).1))))
        all_goals
          go_wp2_with fail
          go_roundw
          case rel => exact ⟨i + 1, by omega, by go_num, by rw [HTK.out]; exact HFIN.out, HFB.out⟩
          case measure => simp [intOf]; omega
    · have k1 : ¬ (i : Int) < (n : Int) := by omega
      have k2 : decide (i < n) = false := by simp; omega
      have hti : l.take i = l := List.take_of_length_le (by rw [HNN.out]; omega)
      rw [hti] at HR
      go_wp2_with fail
      go_ret
      exact ⟨⟨_, rfl, HR.out⟩, HB.out⟩
theorem told_any (nm : ByteArray) (hnm : nm.size ≤ 1000) (l : List Fm) (hsz : ∀ f ∈ l, f.ty.size ≤ reachT ∧ f.ve.size ≤ reachT) (a : Option Addr) (cap : Nat) (hs : l.length ≤ 1000) (w : World) (hS : AtF w w.heap.size a l) :
    Calls Tryd.prog 126 #[.string nm, .slice a l.length cap] w fun r w' => (∃ v, r = .returned v ∧ RowQ w' w.heap.size v (toldG nm 0 l)) ∧ Below w.heap.size w w' := told_aux _ nm hnm l hsz a cap hs w rfl hS
end Go.Proofs.YtgechifbbhipaaaDoor
