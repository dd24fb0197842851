/- metinf: the reference's Elem. No condition but sizes. -/
import Derived.Test.YtdaiijkanfjklaaDoorMeK
import Derived.Test.YtdaiijkanfjklaaDoorMeL
namespace Go.Proofs.YtdaiijkanfjklaaDoor
open Go.RowKit

theorem dl_zero {m : Nat} (h : dl 20 m = [48]) : m = 0 := by
  rw [dl] at h
  by_cases hd : m / 10 = 0
  · rw [if_pos hd] at h
    injection h with h
    have hm : m < 10 := by omega
    rw [Nat.mod_eq_of_lt hm, hexd, if_pos hm] at h
    omega
  · rw [if_neg hd] at h
    injection h with _ h
    have := dl_pos 19 (m / 10) (by omega)
    rw [h] at this
    simp at this
theorem hexd_dig (n : Nat) (h : n < 10) : 48 ≤ hexd n ∧ hexd n ≤ 57 := by rw [hexd, if_pos h]; omega
theorem dl_digs (f m : Nat) : ∀ x ∈ dl f m, 48 ≤ x ∧ x ≤ 57 := by
  induction f generalizing m with
  | zero => intro x hx; simp [dl] at hx
  | succ f ih =>
    intro x hx
    rw [dl] at hx
    rcases List.mem_cons.1 hx with rfl | hx
    · exact hexd_dig _ (Nat.mod_lt _ (by decide))
    · split at hx
      · simp at hx
      · exact ih _ x hx
theorem numT_zero : numT 0 = ⟨#[48]⟩ := by decide
theorem numT_not (n : Int) (h : 0 < n) : numT n ≠ ⟨#[48]⟩ := by
  intro e
  unfold numT at e
  have hl : (textL n).length = 1 := by
    have := congrArg ByteArray.size e
    rw [strOfNums_size] at this
    exact this
  have ht : textL n = (dl 20 n.natAbs).reverse := by unfold textL; rw [if_neg (by omega)]
  rw [ht, List.length_reverse] at hl
  obtain ⟨x, hx⟩ := List.length_eq_one_iff.1 hl
  have hd := dl_digs 20 n.natAbs x (by rw [hx]; simp)
  rw [ht, hx] at e
  have e2 : UInt8.ofNat x.toNat = 48 := by
    have := congrArg (fun b : ByteArray => b.data.toList) e
    simpa [strOfNums] using this
  have e3 : x.toNat = 48 := by
    have := congrArg UInt8.toNat e2
    rw [UInt8.toNat_ofNat'] at this
    have h1 : x.toNat < 256 := by omega
    rw [Nat.mod_eq_of_lt h1] at this
    simpa using this
  have e4 : x = 48 := by omega
  rw [e4] at hx
  have := dl_zero hx
  omega
theorem leafL_num (nm : ByteArray) (n : Int) (h : badC n = false) : leafL nm (numT n) = numL nm n := by
  unfold badC at h
  rw [Bool.or_eq_false_iff, decide_eq_false_iff_not, decide_eq_false_iff_not] at h
  unfold leafL numL
  by_cases h0 : n = 0
  · subst h0; rw [if_pos (.inr numT_zero), if_pos rfl]
  · rw [if_neg h0, if_neg]
    rintro (h1 | h1)
    · exact (numT_size n).1 h1
    · exact numT_not n (by omega) h1
theorem chkM_nums (fo ty : ByteArray) (sz ve : Int) (la ne no : ByteArray) (mm mo : Int) (h : chkM fo ty sz ve la ne no mm mo = 0) : badC sz = false ∧ badC ve = false ∧ badC mm = false ∧ badC mo = false := by
  unfold chkM at h
  split at h
  · cases h
  split at h
  · cases h
  split at h
  · cases h
  rename_i h3
  simp only [List.any_cons, List.any_nil, Bool.or_false, Bool.or_eq_true, not_or, Bool.not_eq_true] at h3
  exact ⟨h3.1, h3.2.1, h3.2.2.1, h3.2.2.2⟩

/-- the list under way, in a slot -/
def StR (w W3 : World) (ks : List Tr) (v : Value) (X : World) : Prop := RowQ X (w.heap.size + 1 + 1 + 1) v ks ∧ Below (w.heap.size + 1 + 1 + 1) W3 X
theorem StR.size {w W3 X : World} {ks : List Tr} {v : Value} (h : StR w W3 ks v X) (hz : (w.heap.size + 1 + 1 + 1) ≤ W3.heap.size) : (w.heap.size + 1 + 1 + 1) ≤ X.heap.size := Nat.le_trans hz h.2.size
theorem StR.step {w W3 X X' : World} {ks ks' : List Tr} {v : Value} {r : Ending} (h : StR w W3 ks v X) (hz : (w.heap.size + 1 + 1 + 1) ≤ W3.heap.size) (hp : GrP (w.heap.size + 1 + 1 + 1) v ks' X r X') : ∃ v', r = .returned v' ∧ StR w W3 ks' v' X' := by
  obtain ⟨v', hr, h1, hg, _⟩ := hp
  have hs := h.size hz
  refine ⟨v', hr, h1, h.2.trans ⟨hg.os, hg.tape, hg.output, hg.size, fun k hk => hg.block k (by omega) (fun e => ?_)⟩⟩
  obtain ⟨xs, ho, _⟩ := h.1
  have := (ho.lt k e.symm).1
  omega
theorem StR.below {w W3 X X' : World} {ks : List Tr} {v : Value} (h : StR w W3 ks v X) (hz : (w.heap.size + 1 + 1 + 1) ≤ W3.heap.size) (hb : Below X.heap.size X X') : StR w W3 ks v X' := ⟨h.1.below hb, h.2.trans (hb.mono (h.size hz))⟩
theorem StR.say {w W3 X : World} {ks : List Tr} {v : Value} (h : StR w W3 ks v X) (hz : (w.heap.size + 1 + 1 + 1) ≤ W3.heap.size) (hn : ks.length ≤ 900) (nm tx : ByteArray) (h1 : nm.size ≤ reachT) (h2 : tx.size ≤ reachT) :
    Calls Tryd.prog 40 #[v, .string nm, .string tx] X fun r X' => ∃ v', r = .returned v' ∧ StR w W3 (ks ++ sayL nm tx) v' X' :=
  (rsay_any (w.heap.size + 1 + 1 + 1) nm tx h1 h2 v ks (by omega) X (h.size hz) h.1).mono fun r X' hp => h.step hz hp
theorem StR.leaf {w W3 X : World} {ks : List Tr} {v : Value} (h : StR w W3 ks v X) (hz : (w.heap.size + 1 + 1 + 1) ≤ W3.heap.size) (hn : ks.length ≤ 900) (nm tx : ByteArray) (h1 : nm.size ≤ reachT) (h2 : tx.size ≤ reachT) :
    Calls Tryd.prog 41 #[v, .string nm, .string tx] X fun r X' => ∃ v', r = .returned v' ∧ StR w W3 (ks ++ leafL nm tx) v' X' :=
  (rleaf_any (w.heap.size + 1 + 1 + 1) nm tx h1 h2 v ks (by omega) X (h.size hz) h.1).mono fun r X' hp => h.step hz hp
theorem StR.old {w W3 X : World} {ks : List Tr} {v : Value} (h : StR w W3 ks v X) {b j : Nat} {u : Value} (hb : b < (w.heap.size + 1 + 1 + 1)) (hc : W3.cell? ⟨b, j, none⟩ = some u) : X.cell? ⟨b, j, none⟩ = some u := (h.2.cell (p := ⟨b, j, none⟩) hb).trans hc
theorem StR.sayN {w W3 X : World} {ks L : List Tr} {v : Value} (h : StR w W3 ks v X) (hz : (w.heap.size + 1 + 1 + 1) ≤ W3.heap.size) (hn : ks.length ≤ 900) (nm tx : ByteArray) (h1 : nm.size ≤ reachT) (h2 : tx.size ≤ reachT) (hL : sayL nm tx = L) :
    Calls Tryd.prog 40 #[v, .string nm, .string tx] X fun r X' => ∃ v', r = .returned v' ∧ StR w W3 (ks ++ L) v' X' := by rw [← hL]; exact h.say hz hn nm tx h1 h2
theorem StR.leafN {w W3 X : World} {ks L : List Tr} {v : Value} (h : StR w W3 ks v X) (hz : (w.heap.size + 1 + 1 + 1) ≤ W3.heap.size) (hn : ks.length ≤ 900) (nm tx : ByteArray) (h1 : nm.size ≤ reachT) (h2 : tx.size ≤ reachT) (hL : leafL nm tx = L) :
    Calls Tryd.prog 41 #[v, .string nm, .string tx] X fun r X' => ∃ v', r = .returned v' ∧ StR w W3 (ks ++ L) v' X' := by rw [← hL]; exact h.leaf hz hn nm tx h1 h2
theorem leafL_len (nm tx : ByteArray) : (leafL nm tx).length ≤ 1 := by unfold leafL; split <;> simp

theorem rowQ_len {w : World} {B n c : Nat} {a : Option Addr} {ks : List Tr} (h : RowQ w B (.slice a n c) ks) : ks.length = n := by
  obtain ⟨xs, ho, _⟩ := h
  obtain ⟨a', c', e⟩ := own_form ho
  simp only [Value.slice.injEq] at e
  exact e.2.1.symm
theorem grown_below {X3 Y1 Y2 : World} {v : Value} {ks : List Tr} (h : RowQ Y1 X3.heap.size v ks) (hg : Y1.grownBy Y2 v.ownBlock) (hs : X3.heap.size ≤ Y1.heap.size) : Below X3.heap.size Y1 Y2 := by
  obtain ⟨xs, ho, _⟩ := h
  exact ⟨hg.os, hg.tape, hg.output, hg.size, fun k hk => hg.block k (by omega) (fun e => by have := (ho.lt k e.symm).1; omega)⟩
theorem anchor_push {w W3 X3 Y2 w' : World} {n c c' c2 K : Nat} {a a' a2 : Option Addr} {xs : List Value} {ks kd : List Tr} {AT : Tr} {Z : Obj} (hlen : ks.length = n) (hB : (w.heap.size + 1 + 1 + 1) ≤ X3.heap.size)
    (ho : X3.ownsRow (w.heap.size + 1 + 1 + 1) 24 5 (.slice a n c) n xs) (hq : KLQ X3 (fun b => (w.heap.size + 1 + 1 + 1) ≤ b ∧ b < X3.heap.size ∧ (.slice a n c : Value).ownBlock ≠ some b) ks xs) (hb2 : Below X3.heap.size X3 Y2)
    (k1 : w'.ownsRow (w.heap.size + 1 + 1 + 1) 24 5 (.slice a' (n + 1) c') (n + 1) (xs ++ [.int .i64 1, .string { data := #[65, 110, 99, 104, 111, 114] }, .string ⟨#[]⟩, .bool false, .slice a2 K c2])) (k2 : (Y2.alloc Z).grownBy w' (.slice a n c : Value).ownBlock)
    (k3 : (.slice a' (n + 1) c' : Value).ownBlock = (.slice a n c : Value).ownBlock ∨ (.slice a' (n + 1) c' : Value).ownBlock = some (Y2.alloc Z).heap.size)
    (hkid : AT = .mk 1 nAnchor ByteArray.empty false kd) (hK : kd.length = K) (hK2 : K ≤ reachT) (hkd : AtLQ Y2 (fun b => X3.heap.size ≤ b ∧ b < Y2.heap.size) a2 0 kd) (hbb : Below (w.heap.size + 1 + 1 + 1) W3 X3) :
    StR w W3 (ks ++ [AT]) (.slice a' (n + 1) c') w' := by
  have hX : Below X3.heap.size X3 (Y2.alloc Z) := hb2.alloc hb2.size _
  have hg := push_grown hX k2
  have hm : (.slice a' (n + 1) c' : Value).ownBlock = (.slice a n c : Value).ownBlock ∨ ∀ b, (.slice a' (n + 1) c' : Value).ownBlock = some b → X3.heap.size ≤ b := k3.imp id (fun e b hb => by
    rw [e] at hb; injection hb with hb; have := hX.size; omega)
  have hk : AtQ w' (fun b => X3.heap.size ≤ b ∧ b < Y2.heap.size) AT (.agg ([.int .i64 1, .string { data := #[65, 110, 99, 104, 111, 114] }, .string ⟨#[]⟩, .bool false, .slice a2 K c2] : List Value).toArray) := by
    rw [hkid]
    unfold AtQ
    refine ⟨by decide, by decide, by rw [hK]; exact hK2, a2, c2, by rw [hK]; rfl, AtLQ.keep (fun b hb => ⟨hb, ?_⟩) _ _ _ hkd⟩
    refine (k2.block b (by simp; omega) (fun e => ?_)).trans (Below.heap_alloc _ _ _ hb.2)
    have := (ho.lt b e.symm).2
    omega
  refine ⟨RowQ.push (w := X3) (v := .slice a n c) (by rw [hlen]; exact ho) hq (by rw [hlen]; exact k1) rfl hk (fun b hb => ⟨by omega, Nat.lt_of_lt_of_le hb.2 (Nat.le_trans (by simp) k2.size), fun e => ?_⟩) hg hm, hbb.trans ⟨hg.os, hg.tape, hg.output, hg.size, fun k hk => hg.block k (by omega) (fun e => by have := (ho.lt k e.symm).1; omega)⟩⟩
  rcases k3 with k3 | k3
  · rw [k3] at e; have := (ho.lt b e).2; omega
  · rw [k3] at e; injection e with e; simp at e; omega

set_option maxRecDepth 100000 in
set_option maxHeartbeats 16000000 in
theorem refMetElem_any (fo ty : ByteArray) (sz ve : Int) (la ne no : ByteArray) (mm mo : Int) (h1 : fo.size ≤ 1000000) (h2 : ty.size ≤ 1000000) (h3 : no.size ≤ 1000000) (h4 : la.size ≤ 1000000) (h5 : ne.size ≤ 1000000)
    (g1 : -9223372036854775808 ≤ sz ∧ sz ≤ 9223372036854775807) (g2 : -9223372036854775808 ≤ ve ∧ ve ≤ 9223372036854775807) (g3 : -9223372036854775808 ≤ mm ∧ mm ≤ 9223372036854775807) (g4 : -9223372036854775808 ≤ mo ∧ mo ≤ 9223372036854775807)
    (w : World) :
    Calls Tryd.prog 22 #[.agg #[.string fo, .string ty, .int .i64 sz, .int .i64 ve, .string la, .string ne, .string no, .int .i64 mm, .int .i64 mo]] w fun r w' => (∃ v, r = .returned v ∧ AtT w' w'.heap.size (elemM fo ty sz ve la ne no mm mo) v) ∧ Below w.heap.size w w' := by
  obtain ⟨W3, hW3⟩ : ∃ W3, ((w.alloc (.cells #[.string fo, .string ty, .int .i64 sz, .int .i64 ve, .string la, .string ne, .string no, .int .i64 mm, .int .i64 mo] 37)).alloc (.cells #[.int .i64 0, .string ⟨#[]⟩, .string ⟨#[]⟩, .bool false, .slice none 0 0] 24)).alloc (.cells #[.int .i64 0, .string { data := #[77, 101, 116, 97] }, .string ⟨#[]⟩, .bool false, .slice none 0 0] 24) = W3 := ⟨_, rfl⟩
  have hB3 : Below w.heap.size w W3 := by rw [← hW3]; exact (((Below.refl _ w).alloc (Nat.le_refl _) _).alloc (by simp) _).alloc (by simp only [World.size_alloc]; omega) _
  have hZ3 : W3.heap.size = w.heap.size + 1 + 1 + 1 := by rw [← hW3]; simp
  have hE1 : ((w.alloc (.cells #[.string fo, .string ty, .int .i64 sz, .int .i64 ve, .string la, .string ne, .string no, .int .i64 mm, .int .i64 mo] 37)).alloc (.cells #[.int .i64 0, .string ⟨#[]⟩, .string ⟨#[]⟩, .bool false, .slice none 0 0] 24)).heap[w.heap.size + 1]? = some (.cells #[.int .i64 0, .string ⟨#[]⟩, .string ⟨#[]⟩, .bool false, .slice none 0 0] 24 (0, 0)) := by have := World.alloc_heap_new (w.alloc (.cells #[.string fo, .string ty, .int .i64 sz, .int .i64 ve, .string la, .string ne, .string no, .int .i64 mm, .int .i64 mo] 37)) (.cells #[.int .i64 0, .string ⟨#[]⟩, .string ⟨#[]⟩, .bool false, .slice none 0 0] 24); rwa [World.size_alloc] at this
  have hE2 : W3.heap[w.heap.size + 1 + 1]? = some (.cells #[.int .i64 0, .string { data := #[77, 101, 116, 97] }, .string ⟨#[]⟩, .bool false, .slice none 0 0] 24 (0, 0)) := by rw [← hW3]; have := World.alloc_heap_new ((w.alloc (.cells #[.string fo, .string ty, .int .i64 sz, .int .i64 ve, .string la, .string ne, .string no, .int .i64 mm, .int .i64 mo] 37)).alloc (.cells #[.int .i64 0, .string ⟨#[]⟩, .string ⟨#[]⟩, .bool false, .slice none 0 0] 24)) (.cells #[.int .i64 0, .string { data := #[77, 101, 116, 97] }, .string ⟨#[]⟩, .bool false, .slice none 0 0] 24); rwa [World.size_alloc, World.size_alloc] at this
  have hres : W3.heap[w.heap.size + 1]? = some (.cells #[.int .i64 0, .string ⟨#[]⟩, .string ⟨#[]⟩, .bool false, .slice none 0 0] 24 (0, 0)) := by rw [← hW3, Below.heap_alloc _ _ _ (by simp)]; exact hE1
  have hBx : ∀ j v, (#[.string fo, .string ty, .int .i64 sz, .int .i64 ve, .string la, .string ne, .string no, .int .i64 mm, .int .i64 mo] : Array Value)[j]? = some v → W3.cell? ⟨w.heap.size, j, none⟩ = some v := fun j v hv => by
    rw [← hW3]; exact cell_allocG (cell_allocG ((World.cell?_alloc_at _ _ _ _ rfl).trans hv) _) _
  have cC := Lib.hid (fun X => refMet_any fo ty sz ve la ne no mm mo h1 h2 h3 h4 h5 X)
  have hleaf : chkM fo ty sz ve la ne no mm mo = 0 → saidL fo ty sz ve la ne no mm mo = ((((((sayL nFormat fo ++ sayL nType ty) ++ leafL nSize (numT sz)) ++ (if ne.size = 0 then [] else [anchorT la ne])) ++ leafL nVersion (numT ve)) ++ sayL nNextNonce no) ++ leafL nMaxMsgSize (numT mm)) ++ leafL nMaxObjSize (numT mo) := fun h => by
    obtain ⟨k1, k2, k3, k4⟩ := chkM_nums fo ty sz ve la ne no mm mo h
    unfold saidL
    rw [leafL_num _ _ k1, leafL_num _ _ k2, leafL_num _ _ k3, leafL_num _ _ k4]
  obtain ⟨A1, hA1⟩ : ∃ l, sayL nFormat fo = l := ⟨_, rfl⟩
  have NA1 : A1.length ≤ 1 := by rw [← hA1]; exact sayL_len _ _
  obtain ⟨A2, hA2⟩ : ∃ l, sayL nType ty = l := ⟨_, rfl⟩
  have NA2 : A2.length ≤ 1 := by rw [← hA2]; exact sayL_len _ _
  obtain ⟨A3, hA3⟩ : ∃ l, leafL nSize (numT sz) = l := ⟨_, rfl⟩
  have NA3 : A3.length ≤ 1 := by rw [← hA3]; exact leafL_len _ _
  obtain ⟨A5, hA5⟩ : ∃ l, leafL nVersion (numT ve) = l := ⟨_, rfl⟩
  have NA5 : A5.length ≤ 1 := by rw [← hA5]; exact leafL_len _ _
  obtain ⟨A6, hA6⟩ : ∃ l, sayL nNextNonce no = l := ⟨_, rfl⟩
  have NA6 : A6.length ≤ 1 := by rw [← hA6]; exact sayL_len _ _
  obtain ⟨A7, hA7⟩ : ∃ l, leafL nMaxMsgSize (numT mm) = l := ⟨_, rfl⟩
  have NA7 : A7.length ≤ 1 := by rw [← hA7]; exact leafL_len _ _
  obtain ⟨A8, hA8⟩ : ∃ l, leafL nMaxObjSize (numT mo) = l := ⟨_, rfl⟩
  have NA8 : A8.length ≤ 1 := by rw [← hA8]; exact leafL_len _ _
  obtain ⟨AT, hAT⟩ : ∃ t, anchorT la ne = t := ⟨_, rfl⟩
  rw [hA1, hA2, hA3, hA5, hA6, hA7, hA8, hAT] at hleaf
  have HA1 := Lib.hid hA1
  have HNA1 := Lib.hid NA1
  clear hA1 NA1
  have HA2 := Lib.hid hA2
  have HNA2 := Lib.hid NA2
  clear hA2 NA2
  have HA3 := Lib.hid hA3
  have HNA3 := Lib.hid NA3
  clear hA3 NA3
  have HA5 := Lib.hid hA5
  have HNA5 := Lib.hid NA5
  clear hA5 NA5
  have HA6 := Lib.hid hA6
  have HNA6 := Lib.hid NA6
  clear hA6 NA6
  have HA7 := Lib.hid hA7
  have HNA7 := Lib.hid NA7
  clear hA7 NA7
  have HA8 := Lib.hid hA8
  have HNA8 := Lib.hid NA8
  clear hA8 NA8
  have HAT := Lib.hid hAT
  clear hAT
  have HS := Lib.hid hleaf
  have s1 : fo.size ≤ reachT := by simp only [reachT]; omega
  have s2 : ty.size ≤ reachT := by simp only [reachT]; omega
  have s3 : no.size ≤ reachT := by simp only [reachT]; omega
  have s4 : la.size ≤ reachT := by simp only [reachT]; omega
  have s5 : ne.size ≤ reachT := by simp only [reachT]; omega
  have S1 := Lib.hid s1
  have S2 := Lib.hid s2
  have S3 := Lib.hid s3
  have S4 := Lib.hid s4
  have S5 := Lib.hid s5
  have G1 := Lib.hid g1
  have G2 := Lib.hid g2
  have G3 := Lib.hid g3
  have G4 := Lib.hid g4
  have HW3 := Lib.hid hW3
  have HB3 := Lib.hid hB3
  have HZ3 := Lib.hid hZ3
  have HRes := Lib.hid hres
  have HMe := Lib.hid hE2
  have HBx := Lib.hid hBx
  have HZl : Hid ((w.heap.size + 1 + 1 + 1) ≤ W3.heap.size) := Nat.le_of_eq hZ3.symm
  have HE : Hid (elemM fo ty sz ve la ne no mm mo = .mk 0 nMeta ByteArray.empty false (if chkM fo ty sz ve la ne no mm mo = 0 then saidL fo ty sz ve la ne no mm mo else [])) := rfl
  have hSt0 : StR w W3 [] (.slice none 0 0) W3 := ⟨RowQ.nil _ _, Below.refl _ _⟩
  have HSt0 := Lib.hid hSt0
  have m0 := hBx 0 _ rfl
  have m1 := hBx 1 _ rfl
  have m2 := hBx 2 _ rfl
  have m3 := hBx 3 _ rfl
  have m4 := hBx 4 _ rfl
  have m5 := hBx 5 _ rfl
  have m6 := hBx 6 _ rfl
  have m7 := hBx 7 _ rfl
  have m8 := hBx 8 _ rfl
  clear h1 h2 h3 h4 h5 g1 g2 g3 g4 hW3 hB3 hZ3 hres hBx hE1 hE2 s1 s2 s3 s4 s5 hleaf hSt0
  generalize chkM fo ty sz ve la ne no mm mo = q at *
  generalize saidL fo ty sz ve la ne no mm mo = SL at *
  generalize elemM fo ty sz ve la ne no mm mo = R at *
  by_cases hq : q = 0
  · subst hq
    have HE2 : Hid (R = .mk 0 nMeta ByteArray.empty false SL) := HE.out
    have HS2 := Lib.hid (HS.out rfl)
    clear HE HS
    by_cases hn : ne.size = 0
    · have i1 := emptyB ne hn
      have HSL : Hid (SL = ((((((([] ++ A1) ++ A2) ++ A3)) ++ A5) ++ A6) ++ A7) ++ A8) := by unfold Hid; rw [HS2.out, if_pos hn]; simp
      clear hn HS2
      go_enter Tryd.func22, Tryd.ntmps22
      go_wp2_with fail
      rw [HW3.out]
      refine (cC.out _).mono ?_
      rintro r X0 ⟨rfl, hb0⟩
      have H0 : Hid (StR w W3 [] (.slice none 0 0) X0) := HSt0.out.below HZl.out hb0
      clear hb0 m0 m1 m2 m3 m4 m5 m6 m7 m8
      have fm := H0.out.old (b := w.heap.size) (by omega) (HBx.out 0 _ rfl)
      go_wp2_with fail
      refine (H0.out.sayN HZl.out (Nat.le_trans (Nat.le_refl 0) (by decide)) nFormat fo (by decide) S1.out HA1.out).mono ?_
      rintro r X1 ⟨v1, rfl, hst⟩
      have H1 := Lib.hid hst
      clear hst fm
      have fm := H1.out.old (b := w.heap.size) (by omega) (HBx.out 1 _ rfl)
      go_wp2_with fail
      refine (H1.out.sayN HZl.out (Nat.le_trans (len_app (Nat.le_refl 0) HNA1.out) (by decide)) nType ty (by decide) S2.out HA2.out).mono ?_
      rintro r X2 ⟨v2, rfl, hst⟩
      have H2 := Lib.hid hst
      clear hst fm
      have fm := H2.out.old (b := w.heap.size) (by omega) (HBx.out 2 _ rfl)
      go_wp2_with fail
      refine (refText_any sz _ G1.out.1 G1.out.2).mono ?_
      rintro r Y2 ⟨rfl, hbt⟩
      have HY2 := Lib.hid (H2.out.below HZl.out hbt)
      clear hbt fm
      go_wp2_with fail
      refine (HY2.out.leafN HZl.out (Nat.le_trans (len_app (len_app (Nat.le_refl 0) HNA1.out) HNA2.out) (by decide)) nSize (numT sz) (by decide) (Nat.le_trans (numT_size sz).2 (by decide)) HA3.out).mono ?_
      have fm : True := trivial
      rintro r X3 ⟨v3, rfl, hst⟩
      have H3 := Lib.hid hst
      clear hst fm
      have f5 := H3.out.old (b := w.heap.size) (by omega) (HBx.out 5 _ rfl)
      have fm := H3.out.old (b := w.heap.size) (by omega) (HBx.out 3 _ rfl)
      go_wp2_with fail
      refine (refText_any ve _ G2.out.1 G2.out.2).mono ?_
      rintro r Y3 ⟨rfl, hbt⟩
      have HY3 := Lib.hid (H3.out.below HZl.out hbt)
      clear hbt fm
      go_wp2_with fail
      refine (HY3.out.leafN HZl.out (Nat.le_trans (len_app (len_app (len_app (Nat.le_refl 0) HNA1.out) HNA2.out) HNA3.out) (by decide)) nVersion (numT ve) (by decide) (Nat.le_trans (numT_size ve).2 (by decide)) HA5.out).mono ?_
      have fm : True := trivial
      rintro r X4 ⟨v4, rfl, hst⟩
      have H4 := Lib.hid hst
      clear hst fm
      have fm := H4.out.old (b := w.heap.size) (by omega) (HBx.out 6 _ rfl)
      go_wp2_with fail
      refine (H4.out.sayN HZl.out (Nat.le_trans (len_app (len_app (len_app (len_app (Nat.le_refl 0) HNA1.out) HNA2.out) HNA3.out) HNA5.out) (by decide)) nNextNonce no (by decide) S3.out HA6.out).mono ?_
      rintro r X5 ⟨v5, rfl, hst⟩
      have H5 := Lib.hid hst
      clear hst fm
      have fm := H5.out.old (b := w.heap.size) (by omega) (HBx.out 7 _ rfl)
      go_wp2_with fail
      refine (refText_any mm _ G3.out.1 G3.out.2).mono ?_
      rintro r Y5 ⟨rfl, hbt⟩
      have HY5 := Lib.hid (H5.out.below HZl.out hbt)
      clear hbt fm
      go_wp2_with fail
      refine (HY5.out.leafN HZl.out (Nat.le_trans (len_app (len_app (len_app (len_app (len_app (Nat.le_refl 0) HNA1.out) HNA2.out) HNA3.out) HNA5.out) HNA6.out) (by decide)) nMaxMsgSize (numT mm) (by decide) (Nat.le_trans (numT_size mm).2 (by decide)) HA7.out).mono ?_
      have fm : True := trivial
      rintro r X6 ⟨v6, rfl, hst⟩
      have H6 := Lib.hid hst
      clear hst fm
      have fm := H6.out.old (b := w.heap.size) (by omega) (HBx.out 8 _ rfl)
      go_wp2_with fail
      refine (refText_any mo _ G4.out.1 G4.out.2).mono ?_
      rintro r Y6 ⟨rfl, hbt⟩
      have HY6 := Lib.hid (H6.out.below HZl.out hbt)
      clear hbt fm
      go_wp2_with fail
      refine (HY6.out.leafN HZl.out (Nat.le_trans (len_app (len_app (len_app (len_app (len_app (len_app (Nat.le_refl 0) HNA1.out) HNA2.out) HNA3.out) HNA5.out) HNA6.out) HNA7.out) (by decide)) nMaxObjSize (numT mo) (by decide) (Nat.le_trans (numT_size mo).2 (by decide)) HA8.out).mono ?_
      have fm : True := trivial
      rintro r X7 ⟨v7, rfl, hst⟩
      have H7 := Lib.hid hst
      clear hst fm
      obtain ⟨hr, hbb⟩ := H7.out
      obtain ⟨a, c, rfl, hk, ha⟩ := hr.atLQ
      have hres := (hbb.block (w.heap.size + 1) (by omega)).trans HRes.out
      have hme := (hbb.block (w.heap.size + 1 + 1) (by omega)).trans HMe.out
      have hBz : w.heap.size + 1 + 1 + 1 ≤ X7.heap.size := Nat.le_trans HZl.out hbb.size
      have HBw : Hid (Below w.heap.size w X7) := HB3.out.trans (hbb.mono (by omega))
      have HNl : Hid (((((((([] ++ A1) ++ A2) ++ A3) ++ A5) ++ A6) ++ A7) ++ A8).length ≤ 1000) := Nat.le_trans (len_app (len_app (len_app (len_app (len_app (len_app (len_app (Nat.le_refl 0) HNA1.out) HNA2.out) HNA3.out) HNA5.out) HNA6.out) HNA7.out) HNA8.out) (by decide)
      generalize hLL : ((((((([] ++ A1) ++ A2) ++ A3) ++ A5) ++ A6) ++ A7) ++ A8) = LL at *
      have HLL := Lib.hid hLL
      clear hLL
      generalize hnl : LL.length = nl at *
      have HNL := Lib.hid hnl
      clear hnl
      obtain ⟨hcs, hfz⟩ := cells_of hme
      have e0 := hcs 0 _ rfl
      have e1 := hcs 1 _ rfl
      have e2 := hcs 2 _ rfl
      have e3 := hcs 3 _ rfl
      have e4 := hcs 4 _ rfl
      have hme2 : (X7.setCell ⟨w.heap.size + 1 + 1, 4, none⟩ (.slice a nl c)).heap[w.heap.size + 1 + 1]? = some (.cells #[.int .i64 0, .string { data := #[77, 101, 116, 97] }, .string ⟨#[]⟩, .bool false, .slice a nl c] 24 (0, 0)) := by
        have := heap_setCell_same X7 (w.heap.size + 1 + 1) 4 _ 24 (.slice a nl c) hme
        simpa using this
      have hres2 : (X7.setCell ⟨w.heap.size + 1 + 1, 4, none⟩ (.slice a nl c)).heap[w.heap.size + 1]? = some (.cells #[.int .i64 0, .string ⟨#[]⟩, .string ⟨#[]⟩, .bool false, .slice none 0 0] 24 (0, 0)) := (Below.heap_setCell _ _ _ _ (by simp)).trans hres
      obtain ⟨hcs2, hfz2⟩ := cells_of hme2
      obtain ⟨hcs3, hfz3⟩ := cells_of hres2
      have o0 := hcs2 0 _ rfl
      have o1 := hcs2 1 _ rfl
      have o2 := hcs2 2 _ rfl
      have o3 := hcs2 3 _ rfl
      have o4 := hcs2 4 _ rfl
      have u0 := hcs3 0 _ rfl
      have u1 := hcs3 1 _ rfl
      have u2 := hcs3 2 _ rfl
      have u3 := hcs3 3 _ rfl
      have u4 := hcs3 4 _ rfl
      have hat : AtQ (X7.setCell ⟨w.heap.size + 1 + 1, 4, none⟩ (.slice a nl c)) (fun b => w.heap.size + 1 + 1 + 1 ≤ b ∧ b < X7.heap.size) (.mk 0 nMeta ByteArray.empty false LL) (.agg #[.int .i64 0, .string nMeta, .string ByteArray.empty, .bool false, .slice a nl c]) := by
        unfold AtQ
        refine ⟨by decide, by decide, by rw [HNL.out]; have := HNl.out; simp only [reachT]; omega, a, c, by rw [HNL.out], AtLQ.keep (fun b hb => ⟨hb, Below.heap_setCell _ _ _ _ ?_⟩) _ _ _ hk⟩
        intro e
        have e : b = w.heap.size + 1 + 1 := e
        omega
      have hsx : (X7.setCell ⟨w.heap.size + 1 + 1, 4, none⟩ (.slice a nl c)).heap.size = X7.heap.size := (setCell_os _ _ _).2.2.2
      have HFin := Lib.hid (stored_at (w := w) (w2 := (X7.setCell ⟨w.heap.size + 1 + 1, 4, none⟩ (.slice a nl c))) (g := w.heap.size + 1) (HBw.out.setCell (p := ⟨w.heap.size + 1 + 1, 4, none⟩) (by show w.heap.size ≤ w.heap.size + 1 + 1; omega) _) (Nat.le_succ _) hat (fun b hb => by rw [hsx]; omega))
      have HZz := Lib.hid hres2
      clear hcs hcs2 hcs3 hme hme2 hres hres2 hat hsx hr hbb hk ha hBz
      go_wp2_with fail
      refine bodyPost_ret (results_cell_row rfl _ _ (w.heap.size + 1) 24 #[.int .i64 0, .string nMeta, .string ByteArray.empty, .bool false, .slice a nl c] (0, 0) _ rfl (set5_row HZz.out) Tryd.underlying24 rfl (by kernel_rfl)) rfl ?_
      exact ⟨⟨_, rfl, by rw [HE2.out, HSL.out]; exact AtQ.to (fun b hb => hb.2) _ _ HFin.out.1⟩, HFin.out.2⟩
    · have i1 := not_empty ne hn
      have HSL : Hid (SL = ((((((([] ++ A1) ++ A2) ++ A3) ++ [AT]) ++ A5) ++ A6) ++ A7) ++ A8) := by unfold Hid; rw [HS2.out, if_neg hn]; simp
      have HKid : Hid (AT = .mk 1 nAnchor ByteArray.empty false (([] ++ sayL nLast la) ++ sayL nNext ne)) := by unfold Hid; rw [← HAT.out]; unfold anchorT; rw [List.nil_append, show sayL nNext ne = [.mk 1 nNext ne false []] from by unfold sayL; rw [if_neg hn]]
      clear hn HS2
      go_enter Tryd.func22, Tryd.ntmps22
      go_wp2_with fail
      rw [HW3.out]
      refine (cC.out _).mono ?_
      rintro r X0 ⟨rfl, hb0⟩
      have H0 : Hid (StR w W3 [] (.slice none 0 0) X0) := HSt0.out.below HZl.out hb0
      clear hb0 m0 m1 m2 m3 m4 m5 m6 m7 m8
      have fm := H0.out.old (b := w.heap.size) (by omega) (HBx.out 0 _ rfl)
      go_wp2_with fail
      refine (H0.out.sayN HZl.out (Nat.le_trans (Nat.le_refl 0) (by decide)) nFormat fo (by decide) S1.out HA1.out).mono ?_
      rintro r X1 ⟨v1, rfl, hst⟩
      have H1 := Lib.hid hst
      clear hst fm
      have fm := H1.out.old (b := w.heap.size) (by omega) (HBx.out 1 _ rfl)
      go_wp2_with fail
      refine (H1.out.sayN HZl.out (Nat.le_trans (len_app (Nat.le_refl 0) HNA1.out) (by decide)) nType ty (by decide) S2.out HA2.out).mono ?_
      rintro r X2 ⟨v2, rfl, hst⟩
      have H2 := Lib.hid hst
      clear hst fm
      have fm := H2.out.old (b := w.heap.size) (by omega) (HBx.out 2 _ rfl)
      go_wp2_with fail
      refine (refText_any sz _ G1.out.1 G1.out.2).mono ?_
      rintro r Y2 ⟨rfl, hbt⟩
      have HY2 := Lib.hid (H2.out.below HZl.out hbt)
      clear hbt fm
      go_wp2_with fail
      refine (HY2.out.leafN HZl.out (Nat.le_trans (len_app (len_app (Nat.le_refl 0) HNA1.out) HNA2.out) (by decide)) nSize (numT sz) (by decide) (Nat.le_trans (numT_size sz).2 (by decide)) HA3.out).mono ?_
      have fm : True := trivial
      rintro r X3 ⟨v3, rfl, hst⟩
      have H3 := Lib.hid hst
      clear hst fm
      have f5 := H3.out.old (b := w.heap.size) (by omega) (HBx.out 5 _ rfl)
      obtain ⟨a, n, c, rfl⟩ := H3.out.1.form
      have HNN : Hid ((((([] ++ A1) ++ A2) ++ A3)).length = n) := rowQ_len H3.out.1
      go_upto_region 8 with fail
      go_cut [4] from 25 to 34 (fun s4 wc => StR w W3 (((([] ++ A1) ++ A2) ++ A3) ++ [AT]) s4 wc)
      case first =>
        have q4 := H3.out.old (b := w.heap.size) (by omega) (HBx.out 4 _ rfl)
        obtain ⟨hr, hbb⟩ := H3.out
        obtain ⟨xs, ho, hq⟩ := hr
        rw [HNN.out] at ho
        have hn : (((([] ++ A1) ++ A2) ++ A3)).length ≤ 1000 := Nat.le_trans (len_app (len_app (len_app (Nat.le_refl 0) HNA1.out) HNA2.out) HNA3.out) (by decide)
        have hB : w.heap.size + 1 + 1 + 1 ≤ X3.heap.size := Nat.le_trans HZl.out hbb.size
        have HBB := Lib.hid hbb
        have HQ := Lib.hid hq
        have HOw := Lib.hid ho
        have HOL := Lib.hid ho.lt
        clear hbb hq ho
        clear HSL H3
        generalize hks : ((([] ++ A1) ++ A2) ++ A3) = ks at HQ HNN hn
        have HKS := Lib.hid hks
        clear hks
        rw [HNN.out] at hn
        obtain ⟨i0, hi, hz0, hz1, hz2⟩ := info24
        have HI := Lib.hid hi
        have HZ0 := Lib.hid hz0
        have HZ1 := Lib.hid hz1
        have HZ2 := Lib.hid hz2
        clear hi hz0 hz1 hz2
        have HBY : Hid ((n + 1) * 72 ≤ 140737488355328) := by unfold Hid; omega
        have H63 : Hid (n + 1 ≤ maxLen) := by unfold Hid maxLen; omega
        have HD : Hid (Below X3.heap.size X3 X3.drew) := (Below.refl _ X3).drew
        have cA := Lib.hid (rsay_any X3.heap.size nLast la (by decide) S4.out (.slice none 0 0) [] (by simp) X3.drew HD.out.size (RowQ.nil _ _))
        obtain ⟨K, hK⟩ : ∃ K, (([] ++ sayL nLast la) ++ sayL nNext ne : List Tr).length = K := ⟨_, rfl⟩
        have HK := Lib.hid hK
        have HKl : Hid (([] ++ sayL nLast la : List Tr).length ≤ 1000) := Nat.le_trans (len_app (Nat.le_refl 0) (sayL_len _ _)) (by decide)
        have HK2 : Hid (K ≤ reachT) := by unfold Hid; rw [← hK]; exact Nat.le_trans (len_app (len_app (Nat.le_refl 0) (sayL_len _ _)) (sayL_len _ _)) (by decide)
        clear hK
        go_region_law (first | (go_simp; go_at_call 40; refine (rsay_any X3.heap.size nNext ne (by decide) S5.out v1 _ HKl.out Y1 HB1.out.size HR1.out).mono ?_; rintro r Y2 ⟨v2, rfl, hr2, hg2, _⟩; obtain ⟨a2, c2, rfl, hk2, _⟩ := hr2.atLQ; rw [HK.out]; have HB2 : Hid (Below X3.heap.size X3 Y2) := HB1.out.trans (grown_below HR1.out hg2 HB1.out.size); have HKd := Lib.hid hk2; clear hr2 hg2 hk2) | (go_simp; go_at_call 40; refine cA.out.mono ?_; rintro r Y1 ⟨v1, rfl, hr1, hg1, _⟩; have HB1 : Hid (Below X3.heap.size X3 Y1) := HD.out.trans ⟨hg1.os, hg1.tape, hg1.output, hg1.size, fun k hk => hg1.block k hk (fun e => by simp [Value.ownBlock] at e)⟩; have p4 := (HB1.out.cell (p := ⟨w.heap.size, 4, none⟩) (World.block_lt_of_cell? _ _ q4)).trans q4; have p5 := (HB1.out.cell (p := ⟨w.heap.size, 5, none⟩) (World.block_lt_of_cell? _ _ f5)).trans f5; have HR1 := Lib.hid hr1; clear hr1 hg1) | (refine step_appR rfl (.tmp 25) (.tmp 33) 22 rfl (w.heap.size + 1 + 1 + 1) 24 i0 _ 5 72 Tryd.underlying22 HI.out HZ0.out HZ1.out HZ2.out rfl (by decide) _ n xs rfl (owns_keep HOw.out (fun k hk => ((HB2.out.alloc HB2.out.size _).block k (HOL.out k hk).2))) _ 1 1 [.int .i64 1, .string { data := #[65, 110, 99, 104, 111, 114] }, .string ⟨#[]⟩, .bool false, .slice a2 K c2] rfl rfl (fun h => by cases h) (new_cells (Below.refl _ _)) (by simp [Value.oneCell']) H63.out HBY.out (Nat.le_trans hB (Below.size (HB2.out.alloc HB2.out.size _))) (fun a' c' w' k1 k2 k3 => ?_); have HF := Lib.hid (anchor_push HNN.out hB HOw.out HQ.out HB2.out k1 k2 k3 HKid.out HK.out HK2.out HKd.out HBB.out); clear k1 k2 k3) | fail)
        all_goals
          go_simp
          go_wp2_with fail
          go_meet
          rw [HKS.out]
          exact HF.out
      case rest =>
        have H4 : Hid (StR w W3 (((([] ++ A1) ++ A2) ++ A3) ++ [AT]) _ wc) := hcut
        clear hcut f5 HKid
        obtain ⟨X4, hX4⟩ : ∃ X4, wc = X4 := ⟨_, rfl⟩
        subst hX4
        have fm := H4.out.old (b := w.heap.size) (by omega) (HBx.out 3 _ rfl)
        go_wp2_with fail
        refine (refText_any ve _ G2.out.1 G2.out.2).mono ?_
        rintro r Y4 ⟨rfl, hbt⟩
        have HY4 := Lib.hid (H4.out.below HZl.out hbt)
        clear hbt fm
        go_wp2_with fail
        refine (HY4.out.leafN HZl.out (Nat.le_trans (len_app (len_app (len_app (len_app (Nat.le_refl 0) HNA1.out) HNA2.out) HNA3.out) (Nat.le_refl 1)) (by decide)) nVersion (numT ve) (by decide) (Nat.le_trans (numT_size ve).2 (by decide)) HA5.out).mono ?_
        have fm : True := trivial
        rintro r X5 ⟨v5, rfl, hst⟩
        have H5 := Lib.hid hst
        clear hst fm
        have fm := H5.out.old (b := w.heap.size) (by omega) (HBx.out 6 _ rfl)
        go_wp2_with fail
        refine (H5.out.sayN HZl.out (Nat.le_trans (len_app (len_app (len_app (len_app (len_app (Nat.le_refl 0) HNA1.out) HNA2.out) HNA3.out) (Nat.le_refl 1)) HNA5.out) (by decide)) nNextNonce no (by decide) S3.out HA6.out).mono ?_
        rintro r X6 ⟨v6, rfl, hst⟩
        have H6 := Lib.hid hst
        clear hst fm
        have fm := H6.out.old (b := w.heap.size) (by omega) (HBx.out 7 _ rfl)
        go_wp2_with fail
        refine (refText_any mm _ G3.out.1 G3.out.2).mono ?_
        rintro r Y6 ⟨rfl, hbt⟩
        have HY6 := Lib.hid (H6.out.below HZl.out hbt)
        clear hbt fm
        go_wp2_with fail
        refine (HY6.out.leafN HZl.out (Nat.le_trans (len_app (len_app (len_app (len_app (len_app (len_app (Nat.le_refl 0) HNA1.out) HNA2.out) HNA3.out) (Nat.le_refl 1)) HNA5.out) HNA6.out) (by decide)) nMaxMsgSize (numT mm) (by decide) (Nat.le_trans (numT_size mm).2 (by decide)) HA7.out).mono ?_
        have fm : True := trivial
        rintro r X7 ⟨v7, rfl, hst⟩
        have H7 := Lib.hid hst
        clear hst fm
        have fm := H7.out.old (b := w.heap.size) (by omega) (HBx.out 8 _ rfl)
        go_wp2_with fail
        refine (refText_any mo _ G4.out.1 G4.out.2).mono ?_
        rintro r Y7 ⟨rfl, hbt⟩
        have HY7 := Lib.hid (H7.out.below HZl.out hbt)
        clear hbt fm
        go_wp2_with fail
        refine (HY7.out.leafN HZl.out (Nat.le_trans (len_app (len_app (len_app (len_app (len_app (len_app (len_app (Nat.le_refl 0) HNA1.out) HNA2.out) HNA3.out) (Nat.le_refl 1)) HNA5.out) HNA6.out) HNA7.out) (by decide)) nMaxObjSize (numT mo) (by decide) (Nat.le_trans (numT_size mo).2 (by decide)) HA8.out).mono ?_
        have fm : True := trivial
        rintro r X8 ⟨v8, rfl, hst⟩
        have H8 := Lib.hid hst
        clear hst fm
        obtain ⟨hr, hbb⟩ := H8.out
        obtain ⟨a, c, rfl, hk, ha⟩ := hr.atLQ
        have hres := (hbb.block (w.heap.size + 1) (by omega)).trans HRes.out
        have hme := (hbb.block (w.heap.size + 1 + 1) (by omega)).trans HMe.out
        have hBz : w.heap.size + 1 + 1 + 1 ≤ X8.heap.size := Nat.le_trans HZl.out hbb.size
        have HBw : Hid (Below w.heap.size w X8) := HB3.out.trans (hbb.mono (by omega))
        have HNl : Hid ((((((((([] ++ A1) ++ A2) ++ A3) ++ [AT]) ++ A5) ++ A6) ++ A7) ++ A8).length ≤ 1000) := Nat.le_trans (len_app (len_app (len_app (len_app (len_app (len_app (len_app (len_app (Nat.le_refl 0) HNA1.out) HNA2.out) HNA3.out) (Nat.le_refl 1)) HNA5.out) HNA6.out) HNA7.out) HNA8.out) (by decide)
        generalize hLL : (((((((([] ++ A1) ++ A2) ++ A3) ++ [AT]) ++ A5) ++ A6) ++ A7) ++ A8) = LL at *
        have HLL := Lib.hid hLL
        clear hLL
        generalize hnl : LL.length = nl at *
        have HNL := Lib.hid hnl
        clear hnl
        obtain ⟨hcs, hfz⟩ := cells_of hme
        have e0 := hcs 0 _ rfl
        have e1 := hcs 1 _ rfl
        have e2 := hcs 2 _ rfl
        have e3 := hcs 3 _ rfl
        have e4 := hcs 4 _ rfl
        have hme2 : (X8.setCell ⟨w.heap.size + 1 + 1, 4, none⟩ (.slice a nl c)).heap[w.heap.size + 1 + 1]? = some (.cells #[.int .i64 0, .string { data := #[77, 101, 116, 97] }, .string ⟨#[]⟩, .bool false, .slice a nl c] 24 (0, 0)) := by
          have := heap_setCell_same X8 (w.heap.size + 1 + 1) 4 _ 24 (.slice a nl c) hme
          simpa using this
        have hres2 : (X8.setCell ⟨w.heap.size + 1 + 1, 4, none⟩ (.slice a nl c)).heap[w.heap.size + 1]? = some (.cells #[.int .i64 0, .string ⟨#[]⟩, .string ⟨#[]⟩, .bool false, .slice none 0 0] 24 (0, 0)) := (Below.heap_setCell _ _ _ _ (by simp)).trans hres
        obtain ⟨hcs2, hfz2⟩ := cells_of hme2
        obtain ⟨hcs3, hfz3⟩ := cells_of hres2
        have o0 := hcs2 0 _ rfl
        have o1 := hcs2 1 _ rfl
        have o2 := hcs2 2 _ rfl
        have o3 := hcs2 3 _ rfl
        have o4 := hcs2 4 _ rfl
        have u0 := hcs3 0 _ rfl
        have u1 := hcs3 1 _ rfl
        have u2 := hcs3 2 _ rfl
        have u3 := hcs3 3 _ rfl
        have u4 := hcs3 4 _ rfl
        have hat : AtQ (X8.setCell ⟨w.heap.size + 1 + 1, 4, none⟩ (.slice a nl c)) (fun b => w.heap.size + 1 + 1 + 1 ≤ b ∧ b < X8.heap.size) (.mk 0 nMeta ByteArray.empty false LL) (.agg #[.int .i64 0, .string nMeta, .string ByteArray.empty, .bool false, .slice a nl c]) := by
          unfold AtQ
          refine ⟨by decide, by decide, by rw [HNL.out]; have := HNl.out; simp only [reachT]; omega, a, c, by rw [HNL.out], AtLQ.keep (fun b hb => ⟨hb, Below.heap_setCell _ _ _ _ ?_⟩) _ _ _ hk⟩
          intro e
          have e : b = w.heap.size + 1 + 1 := e
          omega
        have hsx : (X8.setCell ⟨w.heap.size + 1 + 1, 4, none⟩ (.slice a nl c)).heap.size = X8.heap.size := (setCell_os _ _ _).2.2.2
        have HFin := Lib.hid (stored_at (w := w) (w2 := (X8.setCell ⟨w.heap.size + 1 + 1, 4, none⟩ (.slice a nl c))) (g := w.heap.size + 1) (HBw.out.setCell (p := ⟨w.heap.size + 1 + 1, 4, none⟩) (by show w.heap.size ≤ w.heap.size + 1 + 1; omega) _) (Nat.le_succ _) hat (fun b hb => by rw [hsx]; omega))
        have HZz := Lib.hid hres2
        clear hcs hcs2 hcs3 hme hme2 hres hres2 hat hsx hr hbb hk ha hBz
        go_wp2_with fail
        refine bodyPost_ret (results_cell_row rfl _ _ (w.heap.size + 1) 24 #[.int .i64 0, .string nMeta, .string ByteArray.empty, .bool false, .slice a nl c] (0, 0) _ rfl (set5_row HZz.out) Tryd.underlying24 rfl (by kernel_rfl)) rfl ?_
        exact ⟨⟨_, rfl, by rw [HE2.out, HSL.out]; exact AtQ.to (fun b hb => hb.2) _ _ HFin.out.1⟩, HFin.out.2⟩
  · have hqb : (q != 0) = true := by simpa using hq
    have HE2 : Hid (R = .mk 0 nMeta ByteArray.empty false []) := by unfold Hid; rw [HE.out, if_neg hq]
    clear HE HS hq
    go_enter Tryd.func22, Tryd.ntmps22
    go_wp2_with fail
    rw [HW3.out]
    refine (cC.out _).mono ?_
    rintro r X0 ⟨rfl, hb0⟩
    have hme := (hb0.block (w.heap.size + 1 + 1) (by have := HZ3.out; omega)).trans HMe.out
    have hres := (hb0.block (w.heap.size + 1) (by have := HZ3.out; omega)).trans HRes.out
    obtain ⟨hcs, hfz⟩ := cells_of hme
    obtain ⟨hcs3, hfz3⟩ := cells_of hres
    have e0 := hcs 0 _ rfl
    have e1 := hcs 1 _ rfl
    have e2 := hcs 2 _ rfl
    have e3 := hcs 3 _ rfl
    have e4 := hcs 4 _ rfl
    have u0 := hcs3 0 _ rfl
    have u1 := hcs3 1 _ rfl
    have u2 := hcs3 2 _ rfl
    have u3 := hcs3 3 _ rfl
    have u4 := hcs3 4 _ rfl
    have HBw : Hid (Below w.heap.size w X0) := HB3.out.trans (hb0.mono HB3.out.size)
    have hat : AtQ X0 (fun _ => False) (.mk 0 nMeta ByteArray.empty false []) (.agg #[.int .i64 0, .string nMeta, .string ByteArray.empty, .bool false, .slice none 0 0]) := AtQ.leaf (by decide) (by decide)
    have HFin := Lib.hid (stored_at (w := w) (w2 := X0) (g := w.heap.size + 1) HBw.out (Nat.le_succ _) hat (fun b hb => hb.elim))
    have HZz := Lib.hid hres
    clear hcs hcs3 hme hres hat hb0 m0 m1 m2 m3 m4 m5 m6 m7 m8
    go_wp2_with fail
    refine bodyPost_ret (results_cell_row rfl _ _ (w.heap.size + 1) 24 #[.int .i64 0, .string nMeta, .string ByteArray.empty, .bool false, .slice none 0 0] (0, 0) _ rfl (set5_row HZz.out) Tryd.underlying24 rfl (by kernel_rfl)) rfl ?_
    exact ⟨⟨_, rfl, by rw [HE2.out]; exact AtQ.to (fun b hb => hb.2) _ _ HFin.out.1⟩, HFin.out.2⟩
end Go.Proofs.YtdaiijkanfjklaaDoor
