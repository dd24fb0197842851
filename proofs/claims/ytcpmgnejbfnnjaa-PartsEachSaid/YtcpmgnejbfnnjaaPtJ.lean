/- parts: Join, the program's. No condition but sizes. -/
import Derived.Test.YtcpmgnejbfnnjaaPtS
import Derived.Test.YtcpmgnejbfnnjaaBv
namespace Go.Proofs.Ytcpmgnejbfnnjaa
open Go.RowKit

/-- a slice that reads as texts -/
def Txts (w : World) (a : Option Addr) (l : List ByteArray) : Prop :=
  ∀ i (h : i < l.length), ∃ (b o : Nat), a = some ⟨b, o, none⟩ ∧ b < w.heap.size ∧ w.cell? ⟨b, o + i, none⟩ = some (.string l[i])
theorem Txts.below {w w' : World} {a : Option Addr} {l : List ByteArray} {m : Nat} (h : Txts w a l) (hb : Below m w w') (hm : w.heap.size ≤ m) : Txts w' a l := fun i hi => by
  obtain ⟨b, o, rfl, hl, hc⟩ := h i hi
  exact ⟨b, o, rfl, Nat.lt_of_lt_of_le hl hb.size, (hb.cell (p := ⟨b, o + i, none⟩) (Nat.lt_of_lt_of_le hl hm)).trans hc⟩
theorem Txts.own {w : World} {B : Nat} {a : Option Addr} {c : Nat} {l : List ByteArray} (h : w.ownsRow B 9 1 (.slice a l.length c) l.length (l.map Value.string)) : Txts w a l := fun i hi => by
  rcases h.2 with ⟨_, h0⟩ | ⟨g, cap, cur, hv, hB, hg, _⟩
  · omega
  · simp only [Value.slice.injEq] at hv
    refine ⟨g, 0, hv.1, (Array.getElem?_eq_some_iff.1 hg).1, ?_⟩
    have := h.cells (g := g) (by rw [hv.1]; rfl) i (.string l[i]) (by rw [List.getElem?_map, List.getElem?_eq_getElem hi]; rfl)
    rwa [show (⟨g, 0, none⟩ : Addr).add i = ⟨g, 0 + i, none⟩ from by unfold Addr.add; split <;> simp_all] at this

def lts (l : List ByteArray) : List (List UInt8) := l.map (·.data.toList)
/-- the sizes of the first k -/
def szs (l : List ByteArray) (k : Nat) : Nat := ((l.take k).map (·.size)).sum
theorem szs_succ (l : List ByteArray) (k : Nat) (h : k < l.length) : szs l (k + 1) = szs l k + l[k].size := by
  unfold szs; rw [List.take_succ_eq_append_getElem h, List.map_append, List.sum_append, List.map_cons, List.map_nil, List.sum_cons, List.sum_nil, Nat.add_zero]
theorem szs_le (l : List ByteArray) (k : Nat) : szs l k ≤ (l.map (·.size)).sum := by
  unfold szs
  induction l generalizing k with
  | nil => simp
  | cons a l ih =>
    cases k with
    | zero => simp
    | succ k => have := ih k; simp at this ⊢; omega
theorem escL_len (s : List UInt8) : (escL s).length ≤ 2 * s.length := by
  induction s with
  | nil => simp [escL]
  | cons c s ih =>
    have e : escL (c :: s) = escC c ++ escL s := rfl
    have : (escC c).length ≤ 2 := by unfold escC; split <;> simp
    rw [e]; simp; omega
/-- what has been joined of the first k, and the text before the next -/
def jnK (l : List ByteArray) (k : Nat) : List UInt8 := jnL (lts (l.take k))
theorem jnK_succ (l : List ByteArray) (k : Nat) (h : k < l.length) : jnK l (k + 1) = (if k = 0 then [] else jnK l k ++ [59]) ++ escL l[k].data.toList := by
  unfold jnK lts
  rw [List.take_succ_eq_append_getElem h, List.map_append, List.map_cons, List.map_nil, jnL_snoc]
  congr 1
  by_cases hk : k = 0
  · subst hk; simp
  · rw [if_neg hk, if_neg (by
      intro e
      have := congrArg List.length e
      rw [List.length_map, List.length_take, List.length_nil] at this; omega)]
theorem jnK_len (l : List ByteArray) (k : Nat) (h : k ≤ l.length) : (jnK l k).length ≤ 2 * szs l k + k := by
  induction k with
  | zero => simp [jnK, lts, jnL]
  | succ k ih =>
    have h1 := escL_len l[k].data.toList
    rw [len_toList] at h1
    have h2 := ih (by omega)
    rw [jnK_succ l k (by omega), szs_succ l k (by omega), List.length_append]
    split
    · rw [List.length_nil]; omega
    · rw [List.length_append, List.length_cons, List.length_nil]; omega

theorem own_lt_ne {w : World} {C : Nat} {v : Value} {b : Nat} {bs : List Value} (h : Bv C b v bs w) {g : Nat} (hg : w.heap.size ≤ g) : v.ownBlock ≠ some g := fun e => by
  obtain ⟨p, _, _, ho, _⟩ := h
  have := (ho.lt g e).2; omega

set_option maxRecDepth 100000 in
set_option maxHeartbeats 8000000 in
theorem join_any (a : Option Addr) (c : Nat) (l : List ByteArray) (w : World) (hT : Txts w a l) (hl : l.length ≤ 100000) (hs : (l.map (·.size)).sum ≤ 1000000) :
    Calls Try.prog 29 #[.slice a l.length c] w fun e w' => e = .returned (.string (mkT (jnL (lts l)))) ∧ Below w.heap.size w w' := by
  have HT := Lib.hid hT
  obtain ⟨n, hn⟩ : ∃ n, l.length = n := ⟨_, rfl⟩
  have HJ : Hid (mkT (jnL (lts l)) = mkT (jnK l n)) := by unfold Hid jnK; rw [← hn, List.take_length]
  have HN := Lib.hid hn
  rw [hn]
  have hn1 : n ≤ 100000 := by omega
  clear hT hn hl
  go_enter Try.func29, Try.ntmps29
  go_wp2_with fail
  go_loopw [10] (fun iv wr => ∃ (k : Nat) (v : Value), k ≤ n ∧ iv = .int .i64 (k : Int) ∧ Hid (Bv (w.heap.size + 1) w.heap.size v (Lib.byteCells (jnK l k)) wr) ∧ Hid (Below w.heap.size w wr) ∧ w.heap.size + 1 ≤ wr.heap.size) (fun iv _ => n - (intOf iv).toNat)
  case atStart => exact ⟨0, _, Nat.zero_le _, rfl, Bv.new w _, (Below.refl _ _).alloc (Nat.le_refl _) _, by simp⟩
  case round =>
    obtain ⟨k, v, hk, rfl, HBv, HB, hsz⟩ := hrel
    by_cases hlt : k < n
    · have hkl : k < l.length := by rw [HN.out]; exact hlt
      obtain ⟨tb, to, rfl, htl, htc⟩ := (HT.out.below HB.out (Nat.le_refl _)) k hkl
      obtain ⟨wo, rfl⟩ : ∃ wo : World, wo = wr := ⟨_, rfl⟩
      have hJs := jnK_succ l k hkl
      have hJl := jnK_len l k (by omega)
      have hz1 := szs_le l (k + 1)
      rw [szs_succ l k hkl] at hz1
      generalize l[k] = x at *
      generalize szs l k = zk at *
      have k0 : (0 : Int) ≤ (k : Int) := by omega
      have k1 : (k : Int) < (n : Int) := by omega
      by_cases hk0 : k = 0
      · have hP0 : jnK l k = [] := by subst hk0; simp [jnK, lts, jnL]
        rw [hP0] at HBv hJl
        rw [if_pos hk0, List.nil_append] at hJs
        have HJs : Hid (jnK l (k + 1) = ([] : List UInt8) ++ escL x.data.toList) := by unfold Hid; rw [hJs]; rfl
        have hP2l : ([] : List UInt8).length = 0 := rfl
        have hk0' : ¬ (0 : Int) < (k : Int) := by omega
        clear hk0 hP0 hJs
        go_wp2_with (with_reducible refine wpList_bytes _ rfl _ 9 76 5 rfl Try.underlying9 Try.underlying76 Try.underlying5 x rfl ?_; intro cap w3 hcap hc1 hb3 hz3 hf3)
        have HS0 : Hid (Src w3 wo.heap.size x) := hc1
        have HN0 : Hid (v.ownBlock ≠ some wo.heap.size) := own_lt_ne HBv.out (Nat.le_refl _)
        have HBv3 : Hid (Bv (w.heap.size + 1) w.heap.size v (Lib.byteCells (([] : List UInt8) ++ escL (x.data.toList.take 0))) w3) := by
          have e : ([] : List UInt8) ++ escL (x.data.toList.take 0) = ([] : List UInt8) := by simp [escL]
          unfold Hid; rw [e]; exact HBv.out.below hb3
        have HB3 := Lib.hid (HB.out.trans (hb3.mono (by omega)))
        have hsz3 : w.heap.size + 1 ≤ w3.heap.size := by omega
        obtain ⟨g, hg⟩ : ∃ g, wo.heap.size = g := ⟨_, rfl⟩
        rw [hg] at HS0 HN0 hz3
        have HG : Hid (w.heap.size + 1 ≤ g) := by unfold Hid; omega
        rw [hg]
        clear hcap hc1 hb3 hf3 hg
        go_loopw [21] (fun jv wx => ∃ (j : Nat) (v3 : Value), j ≤ x.size ∧ jv = .int .i64 (j : Int) ∧ Hid (Bv (w.heap.size + 1) w.heap.size v3 (Lib.byteCells (([] : List UInt8) ++ escL (x.data.toList.take j))) wx) ∧ Hid (Below w.heap.size w wx) ∧ w.heap.size + 1 ≤ wx.heap.size ∧ Hid (Src wx g x) ∧ g < wx.heap.size ∧ Hid (v3.ownBlock ≠ some g)) (fun jv _ => x.size - (intOf jv).toNat)
        case atStart => exact ⟨0, v, Nat.zero_le _, rfl, HBv3, HB3, hsz3, HS0, hz3, HN0⟩
        case round =>
          clear HBv3 HB3 hsz3 HS0 hz3 HN0
          obtain ⟨j, v3, hj, rfl, HBv3, HB3, hsz3, HS, hgl, HNE⟩ := hrel
          by_cases hjl : j < x.size
          · have hcell := HS.out j hjl
            have htk : Hid (x.data.toList.take (j + 1) = x.data.toList.take j ++ [x[j]]) := by
              have h' : j < x.data.toList.length := by simpa using hjl
              unfold Hid; rw [List.take_succ_eq_append_getElem h']; congr 1
            have hel := escL_len (x.data.toList.take j)
            rw [List.length_take, len_toList] at hel
            have hel2 : (escL (x.data.toList.take j)).length ≤ 2 * x.size := by omega
            have HQ0 : Hid (([] : List UInt8) ++ escL (x.data.toList.take (j + 1)) = (([] : List UInt8) ++ escL (x.data.toList.take j)) ++ escC x[j]) := by unfold Hid; rw [htk.out, escL_snoc, List.append_assoc]
            have hQl : (([] : List UInt8) ++ escL (x.data.toList.take j)).length = ([] : List UInt8).length + (escL (x.data.toList.take j)).length := List.length_append
            generalize ([] : List UInt8) ++ escL (x.data.toList.take j) = Q at *
            have cS := Lib.hid (fun w => special_any x[j] w)
            generalize x[j] = ch at *
            clear htk hel
            cases hsp : spc ch with
            | true =>
              rw [hsp] at cS
              have HQ : Hid (([] : List UInt8) ++ escL (x.data.toList.take (j + 1)) = Q ++ [92] ++ [ch]) := by unfold Hid; rw [HQ0.out]; unfold escC; rw [if_pos hsp]; simp
              have cW := Lib.hid (bv_write (w.heap.size + 1) w.heap.size v3 (Lib.byteCells Q) 92 wr HBv3.out (by rw [byteCells_len]; omega) hsz3)
              have e92 : Lib.byteCells Q ++ [Value.int .u8 92] = Lib.byteCells (Q ++ [92]) := by simp [Lib.byteCells]
              rw [e92] at cW
              have hQ2 : (Q ++ [92]).length = Q.length + 1 := by simp
              generalize Q ++ [92] = Q2 at *
              clear e92 HQ0 hsp
              go_wp2_with fail
              refine (cS.out _).mono ?_
              rintro e w5 ⟨rfl, rfl⟩
              go_wp2_with fail
              refine cW.out.mono ?_
              rintro e w6 ⟨rfl, v6, hbv6, hw6⟩
              have HS6 := Lib.hid (hw6.src HS.out (by have := HG.out; omega) HNE.out)
              have HNE6 := Lib.hid (hw6.ne hgl HNE.out)
              have HBv6 := Lib.hid hbv6
              have HB6 := Lib.hid (HB3.out.trans (hw6.below HBv3.out (by omega) (Nat.le_refl _) (by omega)))
              have hsz6 := hw6.size
              have cW2 := Lib.hid (bv_write (w.heap.size + 1) w.heap.size v6 (Lib.byteCells Q2) (ch.toNat : Int) w6 hbv6 (by rw [byteCells_len]; omega) (by omega))
              rw [byteCells_snoc] at cW2
              clear hbv6 hw6 HS HNE HBv3 HB3 cW
              go_wp2_with fail
              refine cW2.out.mono ?_
              rintro e w7 ⟨rfl, v7, hbv7, hw7⟩
              have HS7 := Lib.hid (hw7.src HS6.out (by have := HG.out; omega) HNE6.out)
              have HNE7 := Lib.hid (hw7.ne (by omega) HNE6.out)
              have HBv7 := Lib.hid hbv7
              have HB7 := Lib.hid (HB6.out.trans (hw7.below HBv6.out (by omega) (Nat.le_refl _) (by omega)))
              have hsz7 := hw7.size
              clear hbv7 hw7
              go_wp2_with fail
              go_roundw
              case rel => exact ⟨j + 1, v7, by omega, by go_num, by rw [HQ.out]; exact HBv7, HB7, by omega, HS7, by omega, HNE7⟩
              case measure => simp [intOf]; omega
            | false =>
              rw [hsp] at cS
              have HQ : Hid (([] : List UInt8) ++ escL (x.data.toList.take (j + 1)) = Q ++ [ch]) := by unfold Hid; rw [HQ0.out]; unfold escC; rw [if_neg (by simp [hsp])]
              have cW2 := Lib.hid (bv_write (w.heap.size + 1) w.heap.size v3 (Lib.byteCells Q) (ch.toNat : Int) wr HBv3.out (by rw [byteCells_len]; omega) hsz3)
              rw [byteCells_snoc] at cW2
              clear HQ0 hsp
              go_wp2_with fail
              refine (cS.out _).mono ?_
              rintro e w5 ⟨rfl, rfl⟩
              go_wp2_with fail
              refine cW2.out.mono ?_
              rintro e w7 ⟨rfl, v7, hbv7, hw7⟩
              have HS7 := Lib.hid (hw7.src HS.out (by have := HG.out; omega) HNE.out)
              have HNE7 := Lib.hid (hw7.ne (by omega) HNE.out)
              have HBv7 := Lib.hid hbv7
              have HB7 := Lib.hid (HB3.out.trans (hw7.below HBv3.out (by omega) (Nat.le_refl _) (by omega)))
              have hsz7 := hw7.size
              clear hbv7 hw7
              go_wp2_with fail
              go_roundw
              case rel => exact ⟨j + 1, v7, by omega, by go_num, by rw [HQ.out]; exact HBv7, HB7, by omega, HS7, by omega, HNE7⟩
              case measure => simp [intOf]; omega
          · have e : x.data.toList.take j = x.data.toList := List.take_of_length_le (by rw [len_toList]; omega)
            rw [e, ← HJs.out] at HBv3
            clear e
            go_wp2_with fail
            go_roundw
            case rel => exact ⟨k + 1, v3, by omega, by go_num, HBv3, HB3, hsz3⟩
            case measure => simp [intOf]; omega
      · have hk0' : (0 : Int) < (k : Int) := by omega
        rw [if_neg hk0] at hJs
        generalize jnK l k = P at *
        have cW := Lib.hid (bv_write (w.heap.size + 1) w.heap.size v (Lib.byteCells P) 59 wo HBv.out (by rw [byteCells_len]; omega) hsz)
        have e59 : Lib.byteCells P ++ [Value.int .u8 59] = Lib.byteCells (P ++ [59]) := by simp [Lib.byteCells]
        rw [e59] at cW
        have hP2 : (P ++ [59]).length = P.length + 1 := by simp
        generalize P ++ [59] = P2 at *
        have HJs := Lib.hid hJs
        clear hk0 e59 hJs
        go_wp2_with fail
        refine cW.out.mono ?_
        rintro e w2 ⟨rfl, v2, hbv2, hw2⟩
        have HBv2 := Lib.hid hbv2
        have HB2 := Lib.hid (HB.out.trans (hw2.below HBv.out (by omega) (Nat.le_refl _) (by omega)))
        have hsz2 := hw2.size
        clear hbv2 hw2 cW
        go_wp2_with (with_reducible refine wpList_bytes _ rfl _ 9 76 5 rfl Try.underlying9 Try.underlying76 Try.underlying5 x rfl ?_; intro cap w3 hcap hc1 hb3 hz3 hf3)
        have HS0 : Hid (Src w3 w2.heap.size x) := hc1
        have HN0 : Hid (v2.ownBlock ≠ some w2.heap.size) := own_lt_ne HBv2.out (Nat.le_refl _)
        have HBv3 : Hid (Bv (w.heap.size + 1) w.heap.size v2 (Lib.byteCells (P2 ++ escL (x.data.toList.take 0))) w3) := by
          have e : P2 ++ escL (x.data.toList.take 0) = P2 := by simp [escL]
          unfold Hid; rw [e]; exact HBv2.out.below hb3
        have HB3 := Lib.hid (HB2.out.trans (hb3.mono (by omega)))
        have hsz3 : w.heap.size + 1 ≤ w3.heap.size := by omega
        obtain ⟨g, hg⟩ : ∃ g, w2.heap.size = g := ⟨_, rfl⟩
        rw [hg] at HS0 HN0 hz3
        have HG : Hid (w.heap.size + 1 ≤ g) := by unfold Hid; omega
        rw [hg]
        clear hcap hc1 hb3 hf3 hg
        go_loopw [21] (fun jv wx => ∃ (j : Nat) (v3 : Value), j ≤ x.size ∧ jv = .int .i64 (j : Int) ∧ Hid (Bv (w.heap.size + 1) w.heap.size v3 (Lib.byteCells (P2 ++ escL (x.data.toList.take j))) wx) ∧ Hid (Below w.heap.size w wx) ∧ w.heap.size + 1 ≤ wx.heap.size ∧ Hid (Src wx g x) ∧ g < wx.heap.size ∧ Hid (v3.ownBlock ≠ some g)) (fun jv _ => x.size - (intOf jv).toNat)
        case atStart => exact ⟨0, v2, Nat.zero_le _, rfl, HBv3, HB3, hsz3, HS0, hz3, HN0⟩
        case round =>
          clear HBv3 HB3 hsz3 HS0 hz3 HN0
          obtain ⟨j, v3, hj, rfl, HBv3, HB3, hsz3, HS, hgl, HNE⟩ := hrel
          by_cases hjl : j < x.size
          · have hcell := HS.out j hjl
            have htk : Hid (x.data.toList.take (j + 1) = x.data.toList.take j ++ [x[j]]) := by
              have h' : j < x.data.toList.length := by simpa using hjl
              unfold Hid; rw [List.take_succ_eq_append_getElem h']; congr 1
            have hel := escL_len (x.data.toList.take j)
            rw [List.length_take, len_toList] at hel
            have hel2 : (escL (x.data.toList.take j)).length ≤ 2 * x.size := by omega
            have HQ0 : Hid (P2 ++ escL (x.data.toList.take (j + 1)) = (P2 ++ escL (x.data.toList.take j)) ++ escC x[j]) := by unfold Hid; rw [htk.out, escL_snoc, List.append_assoc]
            have hQl : (P2 ++ escL (x.data.toList.take j)).length = P2.length + (escL (x.data.toList.take j)).length := List.length_append
            generalize P2 ++ escL (x.data.toList.take j) = Q at *
            have cS := Lib.hid (fun w => special_any x[j] w)
            generalize x[j] = ch at *
            clear htk hel
            cases hsp : spc ch with
            | true =>
              rw [hsp] at cS
              have HQ : Hid (P2 ++ escL (x.data.toList.take (j + 1)) = Q ++ [92] ++ [ch]) := by unfold Hid; rw [HQ0.out]; unfold escC; rw [if_pos hsp]; simp
              have cW := Lib.hid (bv_write (w.heap.size + 1) w.heap.size v3 (Lib.byteCells Q) 92 wr HBv3.out (by rw [byteCells_len]; omega) hsz3)
              have e92 : Lib.byteCells Q ++ [Value.int .u8 92] = Lib.byteCells (Q ++ [92]) := by simp [Lib.byteCells]
              rw [e92] at cW
              have hQ2 : (Q ++ [92]).length = Q.length + 1 := by simp
              generalize Q ++ [92] = Q2 at *
              clear e92 HQ0 hsp
              go_wp2_with fail
              refine (cS.out _).mono ?_
              rintro e w5 ⟨rfl, rfl⟩
              go_wp2_with fail
              refine cW.out.mono ?_
              rintro e w6 ⟨rfl, v6, hbv6, hw6⟩
              have HS6 := Lib.hid (hw6.src HS.out (by have := HG.out; omega) HNE.out)
              have HNE6 := Lib.hid (hw6.ne hgl HNE.out)
              have HBv6 := Lib.hid hbv6
              have HB6 := Lib.hid (HB3.out.trans (hw6.below HBv3.out (by omega) (Nat.le_refl _) (by omega)))
              have hsz6 := hw6.size
              have cW2 := Lib.hid (bv_write (w.heap.size + 1) w.heap.size v6 (Lib.byteCells Q2) (ch.toNat : Int) w6 hbv6 (by rw [byteCells_len]; omega) (by omega))
              rw [byteCells_snoc] at cW2
              clear hbv6 hw6 HS HNE HBv3 HB3 cW
              go_wp2_with fail
              refine cW2.out.mono ?_
              rintro e w7 ⟨rfl, v7, hbv7, hw7⟩
              have HS7 := Lib.hid (hw7.src HS6.out (by have := HG.out; omega) HNE6.out)
              have HNE7 := Lib.hid (hw7.ne (by omega) HNE6.out)
              have HBv7 := Lib.hid hbv7
              have HB7 := Lib.hid (HB6.out.trans (hw7.below HBv6.out (by omega) (Nat.le_refl _) (by omega)))
              have hsz7 := hw7.size
              clear hbv7 hw7
              go_wp2_with fail
              go_roundw
              case rel => exact ⟨j + 1, v7, by omega, by go_num, by rw [HQ.out]; exact HBv7, HB7, by omega, HS7, by omega, HNE7⟩
              case measure => simp [intOf]; omega
            | false =>
              rw [hsp] at cS
              have HQ : Hid (P2 ++ escL (x.data.toList.take (j + 1)) = Q ++ [ch]) := by unfold Hid; rw [HQ0.out]; unfold escC; rw [if_neg (by simp [hsp])]
              have cW2 := Lib.hid (bv_write (w.heap.size + 1) w.heap.size v3 (Lib.byteCells Q) (ch.toNat : Int) wr HBv3.out (by rw [byteCells_len]; omega) hsz3)
              rw [byteCells_snoc] at cW2
              clear HQ0 hsp
              go_wp2_with fail
              refine (cS.out _).mono ?_
              rintro e w5 ⟨rfl, rfl⟩
              go_wp2_with fail
              refine cW2.out.mono ?_
              rintro e w7 ⟨rfl, v7, hbv7, hw7⟩
              have HS7 := Lib.hid (hw7.src HS.out (by have := HG.out; omega) HNE.out)
              have HNE7 := Lib.hid (hw7.ne (by omega) HNE.out)
              have HBv7 := Lib.hid hbv7
              have HB7 := Lib.hid (HB3.out.trans (hw7.below HBv3.out (by omega) (Nat.le_refl _) (by omega)))
              have hsz7 := hw7.size
              clear hbv7 hw7
              go_wp2_with fail
              go_roundw
              case rel => exact ⟨j + 1, v7, by omega, by go_num, by rw [HQ.out]; exact HBv7, HB7, by omega, HS7, by omega, HNE7⟩
              case measure => simp [intOf]; omega
          · have e : x.data.toList.take j = x.data.toList := List.take_of_length_le (by rw [len_toList]; omega)
            rw [e, ← HJs.out] at HBv3
            clear e
            go_wp2_with fail
            go_roundw
            case rel => exact ⟨k + 1, v3, by omega, by go_num, HBv3, HB3, hsz3⟩
            case measure => simp [intOf]; omega
    · obtain rfl : k = n := by omega
      go_wp2_with fail
      refine (bd_string (w.heap.size + 1) w.heap.size (jnK l k) wr w.heap.size HBv.out.bd (by omega) (Nat.le_refl _) (by omega)).mono ?_
      rintro e w5 ⟨rfl, hb5, _⟩
      go_wp2_with fail
      go_ret
      exact ⟨ret_bytes' HJ.out.symm, HB.out.trans hb5⟩
end Go.Proofs.Ytcpmgnejbfnnjaa
