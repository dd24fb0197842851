/- tree: TreeMakes, the walk. No condition but the tables. -/
import Derived.Test.YtdaiijkanfjklaaDoorTrU
import Derived.Test.YtdaiijkanfjklaaDoorTrI
import Derived.Test.YtdaiijkanfjklaaDoorTrE
import Derived.Test.YtdaiijkanfjklaaDoorTrR
import Derived.BigQuiet
import Derived.Outline
namespace Go.Proofs.YtdaiijkanfjklaaDoor
open Go.RowKit

theorem preT_pos {m d : Nat} {e : Tr} (h : ¬ m < d) : 1 ≤ (preT m d e).length := by rw [preT_in h, List.length_cons]; omega
theorem preL_ge {m d : Nat} (h : ¬ m < d) : ∀ ks : List Tr, ks.length ≤ (preL m d ks).length
  | [] => by simp
  | k :: ks => by rw [preL, List.length_append, List.length_cons]; have := preT_pos (e := k) h; have := preL_ge h ks; omega
theorem great_kids {p : Int} {nm tx : ByteArray} {o : Bool} {ks : List Tr} (h : greatV (.mk p nm tx o ks) = false) : ks.length ≤ 3000 := by
  unfold greatV at h
  rw [Bool.or_eq_false_iff, decide_eq_false_iff_not] at h
  have h2 := h.2
  rw [List.length_take, preT_in (by omega), List.length_cons] at h2
  have := preL_ge (m := 60) (d := 2) (by omega) ks
  have h3 : (Tr.mk p nm tx o ks).kids = ks := rfl
  rw [h3] at h2
  have h4 : (preL 60 (1 + 1) ks).length = (preL 60 2 ks).length := rfl
  omega

theorem cell_alloc {w : World} {ad : Addr} {u : Value} (h : w.cell? ad = some u) (o : Obj) : (w.alloc o).cell? ad = some u := by
  rw [← h]; exact World.cell?_of_block (Below.heap_alloc _ _ _ (World.block_lt_of_cell? _ _ h))
/-- what the append of the kids to an empty row wants -/
theorem app_src {W : World} {M : Nat} {a : Option Addr} {ks : List Tr} (hk : AtL W M a 0 ks) (X : Obj) : ∃ xs, KL W M ks xs ∧ xs.length = ks.length * 5 ∧ (∀ u ∈ xs, u.oneCell' = true) ∧
    (∀ q, a = some q → ∀ j u, xs[j]? = some u → ((W.alloc X).alloc (.cells #[] 24)).cell? (q.add j) = some u) ∧
    ((W.alloc X).alloc (.cells #[] 24)).ownsRow (W.heap.size + 1) 24 5 (.slice (some ⟨W.heap.size + 1, 0, none⟩) 0 0) 0 [] := by
  obtain ⟨xs, h1, h2⟩ := hk.src
  refine ⟨xs, h1, h1.len, h1.one, fun q hq j u hu => cell_alloc (cell_alloc (h2 q hq j u hu) _) _, ?_⟩
  have := World.ownsRow_lit (base := W.heap.size + 1) (e := 24) (size := 5) (W.alloc X) #[] 0 (by simp) (by decide) (by simp)
  simpa using this

set_option maxRecDepth 100000 in
set_option maxHeartbeats 8000000 in
theorem treeMakes_walk (p : Int) (nm tx : ByteArray) (ks : List Tr) (a : Option Addr) (c : Nat) (w : World) (s1 : nm.size ≤ reachT) (s2 : tx.size ≤ reachT) (s3 : ks.length ≤ reachT)
    (hk : AtL w w.heap.size a 0 ks) (ha : a = none → ks.length = 0 ∧ c = 0) (hT : Lib.Utf8Tabs 0 1 w) :
    Calls Tryd.prog 4 #[.agg #[.int .i64 p, .string nm, .string tx, .slice a ks.length c]] w fun r w' => r = .returned (.bool true) ∧ Below w.heap.size w w' := by
  have hE : ∀ X, Below w.heap.size w X → AtT X X.heap.size (.mk 0 ⟨#[]⟩ ⟨#[]⟩ false ks) (.agg #[.int .i64 0, .string ⟨#[]⟩, .string ⟨#[]⟩, .bool false, .slice a ks.length c]) := fun X hX => by
    unfold AtT; exact ⟨by decide, by decide, s3, a, c, rfl, AtL.mono hX.size a ks 0 (AtL.below hX a ks 0 hk)⟩
  have c6 := Lib.hid (fun X (hX : Below w.heap.size w X) => great_any _ _ X (hE X hX))
  have HN := Lib.hid (fun (h : greatV (.mk 0 ⟨#[]⟩ ⟨#[]⟩ false ks) = false) => great_kids h)
  generalize greatV (.mk 0 ⟨#[]⟩ ⟨#[]⟩ false ks) = g at *
  have hs1 : nm.size ≤ 140737488355328 := s1
  have hs2 : tx.size ≤ 140737488355328 := s2
  cases g with
  | true =>
    clear hE hk ha HN s1 s2 s3
    have HB : ∀ k, Hid (Below w.heap.size w (((w.alloc (.cells #[.int .i64 p, .string nm, .string tx, .slice a ks.length c] 30)).drewN k).alloc (.cells #[.int .i64 0, .string ⟨#[]⟩, .string ⟨#[]⟩, .bool false, .slice a ks.length c] 24))) := fun k =>
      (((Below.refl _ w).alloc (Nat.le_refl _) _).trans (below_dr0 _ _ k)).alloc (by simp) _
    generalize ks.length = n at *
    go_enter Tryd.func4, Tryd.ntmps4
    go_wp2_with fail
    go_quiet (fail)
    go_wp2_with (go_at_call 6; refine (c6.out _ (HB _).out).mono ?_; rintro r w1 ⟨rfl, hb1⟩)
    go_ret
    exact ⟨rfl, (HB _).out.trans (hb1.mono (HB _).out.size)⟩
  | false =>
    have hn := HN.out rfl
    have hn63 : ks.length ≤ maxLen := by simp [maxLen]; omega
    have HBE : ∀ k, Hid (Below w.heap.size w (((w.alloc (.cells #[.int .i64 p, .string nm, .string tx, .slice a ks.length c] 30)).drewN k).alloc (.cells #[.int .i64 0, .string ⟨#[]⟩, .string ⟨#[]⟩, .bool false, .slice a ks.length c] 24))) := fun k =>
      (((Below.refl _ w).alloc (Nat.le_refl _) _).trans (below_dr0 _ _ k)).alloc (by simp) _
    by_cases h1 : tx.size ≤ 10000
    · by_cases h2 : nm.size ≤ 1000
      · have i1 : ¬ (10000 : Int) < (tx.size : Int) := by omega
        have i2 : ¬ (1000 : Int) < (nm.size : Int) := by omega
        have HKs := Lib.hid hk
        have HA := Lib.hid ha
        have HT := Lib.hid hT
        have HS1 := Lib.hid s1
        have HS2 := Lib.hid s2
        have hnl := hn
        have HN2 := Lib.hid hn
        have HN63 := Lib.hid hn63
        have HEE := Lib.hid hE
        clear hE hk ha HN s1 s2 s3 h1 h2 hs1 hs2 hT hn hn63
        have HKL : ∀ X, Hid (Below w.heap.size w X → AtL X w.heap.size a 0 ks) := fun X hX => AtL.below hX a ks 0 HKs.out
        generalize hnn : ks.length = n at *
        have HNN := Lib.hid hnn
        clear hnn
        obtain ⟨i0, hi, hz0, hz1, hz2⟩ := info24
        have HI := Lib.hid hi
        have HZ0 := Lib.hid hz0
        have HZ1 := Lib.hid hz1
        have HZ2 := Lib.hid hz2
        clear hi hz0 hz1 hz2
        go_enter Tryd.func4, Tryd.ntmps4
        go_wp2_with fail
        go_quiet (fail)
        go_wp2_with (go_at_call 6; refine (c6.out _ (HBE _).out).mono ?_; rintro r w1 ⟨rfl, hb1⟩; have HB1 := Lib.hid ((HBE _).out.trans (hb1.mono (HBE _).out.size)); clear hb1)
        refine (leaf_any p nm tx _).mono ?_
        rintro r w3 ⟨rfl, hb3⟩
        have HB3 := Lib.hid (HB1.out.trans (hb3.mono HB1.out.size))
        clear hb3
        obtain ⟨xs, k1, k2, k3, k4, k5⟩ := app_src ((HKL w3).out HB3.out) (.cells #[.int .i64 p, .string nm, .string tx, .bool false, .slice none 0 0] 24)
        rw [HNN.out] at k2
        have K1 := Lib.hid k1
        have K2 := Lib.hid k2
        have K3 := Lib.hid k3
        have K4 := Lib.hid k4
        have K5 := Lib.hid k5
        have HBY : Hid ((0 + n) * 72 ≤ 140737488355328) := by unfold Hid; omega
        have H63 : Hid (0 + n ≤ maxLen) := by unfold Hid; rw [Nat.zero_add]; exact HN63.out
        clear k1 k2 k3 k4 k5
        go_wp2_with (at_builtin; go_must (refine wpList_appR rfl _ _ 22 rfl (w3.heap.size + 1) 24 i0 _ 5 72 Tryd.underlying22 HI.out HZ0.out HZ1.out HZ2.out rfl (by decide) _ 0 [] rfl K5.out a n c xs rfl K2.out HA.out K4.out K3.out H63.out HBY.out (by simp) ?_); intro a5 c5 w5 ho5 hb5 _; have HO5 := Lib.hid ho5; have HB5 := Lib.hid hb5; clear ho5 hb5; rw [Nat.zero_add])
        have hAt5 : AtL w5 w5.heap.size a5 0 ks := own_atL (ks := ks) (a := a5) (c := c5) (xs := xs) (by have h := HO5.out; rw [Nat.zero_add, List.nil_append] at h; rw [HNN.out]; exact h)
          ((K1.out.below (w' := w5) ((((Below.refl _ w3).alloc (Nat.le_refl _) _).alloc (by simp) _).mono HB3.out.size |>.trans (HB5.out.mono (Nat.le_succ_of_le HB3.out.size)))).mono (N := w5.heap.size) (Nat.le_trans HB3.out.size (Nat.le_trans (by simp; omega) HB5.out.size)))
        have ha5 : a5 = none → ks.length = 0 ∧ c5 = 0 := fun h => by
          have := own_nil HO5.out h
          rw [HNN.out]; exact ⟨by omega, this.2⟩
        have cN := node_any w5.heap.size p nm HS1.out ks a5 c5 w5 (Nat.le_refl _) hAt5 (by rw [HNN.out]; exact Nat.le_trans HN2.out (by decide)) ha5
        rw [HNN.out] at cN
        clear hAt5 ha5
        refine cN.mono ?_
        rintro r w6 ⟨⟨v6, rfl, hat6⟩, hb6⟩
        clear cN
        obtain ⟨_, _, _, a6, cy, hv7, hk6⟩ := hat6.parts
        have hv6 : v6 = .agg #[.int .i64 p, .string nm, .string ByteArray.empty, .bool false, .slice a6 n cy] := by rw [hv7]; show Value.agg #[.int .i64 p, .string nm, .string ByteArray.empty, .bool false, .slice a6 ks.length cy] = _; rw [HNN.out]
        clear hv7
        subst hv6
        have HAT := Lib.hid hat6
        have hx3 : ∀ k v, (#[.int .i64 p, .string nm, .string tx, .bool false, .slice none 0 0] : Array Value)[k]? = some v → w6.cell? ⟨w3.heap.size, k, none⟩ = some v := fun k v h => by
          have h0 : ((w3.alloc (.cells #[.int .i64 p, .string nm, .string tx, .bool false, .slice none 0 0] 24)).alloc (.cells #[] 24)).cell? ⟨w3.heap.size, k, none⟩ = some v := cell_alloc ((World.cell?_alloc_at _ _ _ _ rfl).trans h) _
          have h1 := (HB5.out.cell (p := ⟨w3.heap.size, k, none⟩) (Nat.lt_succ_self _)).trans h0
          have h2 : w3.heap.size < w5.heap.size := Nat.lt_of_lt_of_le (by simp; omega) HB5.out.size
          exact (hb6.cell (p := ⟨w3.heap.size, k, none⟩) h2).trans h1
        have HZ : Hid (w3.heap.size < w6.heap.size) := Nat.lt_of_lt_of_le (by simp; omega) (Nat.le_trans HB5.out.size hb6.size)
        have HB6 : Hid (Below w.heap.size w w6) := HB3.out.trans ((((Below.refl _ w3).alloc (Nat.le_refl _) _).alloc (by simp) _).mono HB3.out.size |>.trans ((HB5.out.mono (Nat.le_succ_of_le HB3.out.size)).trans (hb6.mono (Nat.le_trans HB3.out.size (Nat.le_trans (by simp; omega) HB5.out.size)))))
        have hKC0 : KC w6 w6.heap.size [(w3.heap.size, 0, .int .i64 p), (w3.heap.size, 1, .string nm), (w3.heap.size, 2, .string tx), (w3.heap.size, 3, .bool false), (w3.heap.size, 4, .slice none 0 0)] w6 := ⟨hx3 0 _ rfl, hx3 1 _ rfl, hx3 2 _ rfl, hx3 3 _ rfl, hx3 4 _ rfl, Nat.le_refl _, Below.refl _ _⟩
        obtain ⟨k1, k2⟩ := KC.add (vs := [.int .i64 p, .string nm, .string ByteArray.empty, .bool false, .slice a6 n cy]) (t := 24) (show LtA [(w3.heap.size, 0, .int .i64 p), (w3.heap.size, 1, .string nm), (w3.heap.size, 2, .string tx), (w3.heap.size, 3, .bool false), (w3.heap.size, 4, .slice none 0 0)] w6.heap.size from ⟨HZ.out, HZ.out, HZ.out, HZ.out, HZ.out, trivial⟩) hKC0
        clear hx3 hKC0 hb6 hat6 hk6
        obtain ⟨W, hW⟩ : ∃ W, w6.alloc (.cells #[.int .i64 p, .string nm, .string ByteArray.empty, .bool false, .slice a6 n cy] 24) = W := ⟨_, rfl⟩
        rw [show ([.int .i64 p, .string nm, .string ByteArray.empty, .bool false, .slice a6 n cy] : List Value).toArray = #[.int .i64 p, .string nm, .string ByteArray.empty, .bool false, .slice a6 n cy] from rfl, hW] at k1
        have HF : Hid (KC w6 (w6.heap.size + 1) [(w3.heap.size, 0, .int .i64 p), (w3.heap.size, 1, .string nm), (w3.heap.size, 2, .string tx), (w3.heap.size, 3, .bool false), (w3.heap.size, 4, .slice none 0 0), (w6.heap.size, 0, .int .i64 p), (w6.heap.size, 1, .string nm), (w6.heap.size, 2, .string ByteArray.empty), (w6.heap.size, 3, .bool false), (w6.heap.size, 4, .slice a6 n cy)] W) := k1
        have HL : Hid (LtA [(w3.heap.size, 0, .int .i64 p), (w3.heap.size, 1, .string nm), (w3.heap.size, 2, .string tx), (w3.heap.size, 3, .bool false), (w3.heap.size, 4, .slice none 0 0), (w6.heap.size, 0, .int .i64 p), (w6.heap.size, 1, .string nm), (w6.heap.size, 2, .string ByteArray.empty), (w6.heap.size, 3, .bool false), (w6.heap.size, 4, .slice a6 n cy)] (w6.heap.size + 1)) := k2
        have k1' : (fun w' => w'.cell? ⟨w3.heap.size, 0, none⟩ = some (.int .i64 p) ∧ w'.cell? ⟨w3.heap.size, 1, none⟩ = some (.string nm) ∧ w'.cell? ⟨w3.heap.size, 2, none⟩ = some (.string tx) ∧ w'.cell? ⟨w3.heap.size, 3, none⟩ = some (.bool false) ∧ w'.cell? ⟨w3.heap.size, 4, none⟩ = some (.slice none 0 0) ∧ w'.cell? ⟨w6.heap.size, 0, none⟩ = some (.int .i64 p) ∧ w'.cell? ⟨w6.heap.size, 1, none⟩ = some (.string nm) ∧ w'.cell? ⟨w6.heap.size, 2, none⟩ = some (.string ByteArray.empty) ∧ w'.cell? ⟨w6.heap.size, 3, none⟩ = some (.bool false) ∧ w'.cell? ⟨w6.heap.size, 4, none⟩ = some (.slice a6 n cy) ∧ (w6.heap.size + 1 ≤ w'.heap.size ∧ Below w6.heap.size w6 w')) W := k1
        obtain ⟨d0, d1, d2, d3, d4, e0, e1, e2, e3, e4, d5⟩ := k1'
        clear k1 k2
        have HW := Lib.hid hW
        clear hW
        have hLx : ∀ X, AtT X X.heap.size (.mk p nm tx false []) (.agg #[.int .i64 p, .string nm, .string tx, .bool false, .slice none 0 0]) := fun X => by
          unfold AtT; exact ⟨HS1.out, HS2.out, by decide, none, 0, rfl, by unfold AtL; trivial⟩
        have hLy : ∀ X, Below w6.heap.size w6 X → AtT X X.heap.size (.mk p nm ByteArray.empty false ks) (.agg #[.int .i64 p, .string nm, .string ByteArray.empty, .bool false, .slice a6 n cy]) := fun X hX => AtT.mono hX.size _ _ (AtT.below hX _ _ HAT.out)
        have hLz : ∀ X, Below w6.heap.size w6 X → AtT X X.heap.size (.mk p nm ByteArray.empty false ks) (.agg #[.int .i64 p, .string nm, .string ByteArray.empty, .bool false, .slice a n c]) := fun X hX => by
          have hwX := HB6.out.trans (hX.mono HB6.out.size)
          unfold AtT; exact ⟨HS1.out, by decide, by rw [HNN.out]; exact Nat.le_trans HN2.out (by decide), a, c, by rw [HNN.out], AtL.mono hwX.size _ _ _ ((HKL X).out hwX)⟩
        have c14 := Lib.hid (fun X (_ : Below w6.heap.size w6 X) => refLeaf_any p nm tx X)
        have c15 := Lib.hid (fun X (_ : Below w6.heap.size w6 X) => refNode_any p nm a n c X)
        have c13x := Lib.hid (fun X (_ : Below w6.heap.size w6 X) => same_any _ _ _ _ X (hLx X) (hLx X))
        have c13y := Lib.hid (fun X (hX : Below w6.heap.size w6 X) => same_any _ _ _ _ X (hLy X hX) (hLz X hX))
        have c7x := Lib.hid (fun X (hX : Below w6.heap.size w6 X) => checkA_any _ _ X (hLx X) (Utf8Tabs_below HT.out (HB6.out.trans (hX.mono HB6.out.size))))
        have c8x := Lib.hid (fun X (_ : Below w6.heap.size w6 X) => refCheck_any _ _ X (hLx X))
        have c7y := Lib.hid (fun X (hX : Below w6.heap.size w6 X) => checkA_any _ _ X (hLy X hX) (Utf8Tabs_below HT.out (HB6.out.trans (hX.mono HB6.out.size))))
        rw [sameT_refl] at c13x c13y
        clear hLx hLy hLz
        generalize chkA (.mk p nm tx false []) = q1 at *
        go_wp2_with fail
        rw [HW.out]
        go_region_held3 (fun w' => w'.cell? ⟨w3.heap.size, 0, none⟩ = some (.int .i64 p) ∧ w'.cell? ⟨w3.heap.size, 1, none⟩ = some (.string nm) ∧ w'.cell? ⟨w3.heap.size, 2, none⟩ = some (.string tx) ∧ w'.cell? ⟨w3.heap.size, 3, none⟩ = some (.bool false) ∧ w'.cell? ⟨w3.heap.size, 4, none⟩ = some (.slice none 0 0) ∧ w'.cell? ⟨w6.heap.size, 0, none⟩ = some (.int .i64 p) ∧ w'.cell? ⟨w6.heap.size, 1, none⟩ = some (.string nm) ∧ w'.cell? ⟨w6.heap.size, 2, none⟩ = some (.string ByteArray.empty) ∧ w'.cell? ⟨w6.heap.size, 3, none⟩ = some (.bool false) ∧ w'.cell? ⟨w6.heap.size, 4, none⟩ = some (.slice a6 n cy) ∧ (w6.heap.size + 1 ≤ w'.heap.size ∧ Below w6.heap.size w6 w')) (first | assumption | exact KC.drew HL.out HF.out | exact KC.call HL.out (by assumption) hb9 | exact KC.call HL.out (KC.drew HL.out HF.out) hb9) (first | (go_at_call 14; (with_reducible refine (c14.out _ ?_).mono ?_); exact (KC.below (w0 := w6) (m := w6.heap.size + 1) (l := [(w3.heap.size, 0, .int .i64 p), (w3.heap.size, 1, .string nm), (w3.heap.size, 2, .string tx), (w3.heap.size, 3, .bool false), (w3.heap.size, 4, .slice none 0 0), (w6.heap.size, 0, .int .i64 p), (w6.heap.size, 1, .string nm), (w6.heap.size, 2, .string ByteArray.empty), (w6.heap.size, 3, .bool false), (w6.heap.size, 4, .slice a6 n cy)]) (by first | assumption | exact KC.drew HL.out HF.out)); rintro r w9 ⟨rfl, hb9⟩) | (go_at_call 13; (with_reducible refine (c13x.out _ ?_).mono ?_); exact (KC.below (w0 := w6) (m := w6.heap.size + 1) (l := [(w3.heap.size, 0, .int .i64 p), (w3.heap.size, 1, .string nm), (w3.heap.size, 2, .string tx), (w3.heap.size, 3, .bool false), (w3.heap.size, 4, .slice none 0 0), (w6.heap.size, 0, .int .i64 p), (w6.heap.size, 1, .string nm), (w6.heap.size, 2, .string ByteArray.empty), (w6.heap.size, 3, .bool false), (w6.heap.size, 4, .slice a6 n cy)]) (by first | assumption | exact KC.drew HL.out HF.out)); rintro r w9 ⟨rfl, hb9⟩) | (go_at_call 13; (with_reducible refine (c13y.out _ ?_).mono ?_); exact (KC.below (w0 := w6) (m := w6.heap.size + 1) (l := [(w3.heap.size, 0, .int .i64 p), (w3.heap.size, 1, .string nm), (w3.heap.size, 2, .string tx), (w3.heap.size, 3, .bool false), (w3.heap.size, 4, .slice none 0 0), (w6.heap.size, 0, .int .i64 p), (w6.heap.size, 1, .string nm), (w6.heap.size, 2, .string ByteArray.empty), (w6.heap.size, 3, .bool false), (w6.heap.size, 4, .slice a6 n cy)]) (by first | assumption | exact KC.drew HL.out HF.out)); rintro r w9 ⟨rfl, hb9⟩) | (go_at_call 15; (with_reducible refine (c15.out _ ?_).mono ?_); exact (KC.below (w0 := w6) (m := w6.heap.size + 1) (l := [(w3.heap.size, 0, .int .i64 p), (w3.heap.size, 1, .string nm), (w3.heap.size, 2, .string tx), (w3.heap.size, 3, .bool false), (w3.heap.size, 4, .slice none 0 0), (w6.heap.size, 0, .int .i64 p), (w6.heap.size, 1, .string nm), (w6.heap.size, 2, .string ByteArray.empty), (w6.heap.size, 3, .bool false), (w6.heap.size, 4, .slice a6 n cy)]) (by first | assumption | exact KC.drew HL.out HF.out)); rintro r w9 ⟨rfl, hb9⟩) | (go_at_call 7; (with_reducible refine (c7x.out _ ?_).mono ?_); exact (KC.below (w0 := w6) (m := w6.heap.size + 1) (l := [(w3.heap.size, 0, .int .i64 p), (w3.heap.size, 1, .string nm), (w3.heap.size, 2, .string tx), (w3.heap.size, 3, .bool false), (w3.heap.size, 4, .slice none 0 0), (w6.heap.size, 0, .int .i64 p), (w6.heap.size, 1, .string nm), (w6.heap.size, 2, .string ByteArray.empty), (w6.heap.size, 3, .bool false), (w6.heap.size, 4, .slice a6 n cy)]) (by first | assumption | exact KC.drew HL.out HF.out)); rintro r w9 ⟨rfl, hb9⟩) | (go_at_call 8; (with_reducible refine (c8x.out _ ?_).mono ?_); exact (KC.below (w0 := w6) (m := w6.heap.size + 1) (l := [(w3.heap.size, 0, .int .i64 p), (w3.heap.size, 1, .string nm), (w3.heap.size, 2, .string tx), (w3.heap.size, 3, .bool false), (w3.heap.size, 4, .slice none 0 0), (w6.heap.size, 0, .int .i64 p), (w6.heap.size, 1, .string nm), (w6.heap.size, 2, .string ByteArray.empty), (w6.heap.size, 3, .bool false), (w6.heap.size, 4, .slice a6 n cy)]) (by first | assumption | exact KC.drew HL.out HF.out)); rintro r w9 ⟨rfl, hb9⟩))
        have hq : KC w6 (w6.heap.size + 1) [(w3.heap.size, 0, .int .i64 p), (w3.heap.size, 1, .string nm), (w3.heap.size, 2, .string tx), (w3.heap.size, 3, .bool false), (w3.heap.size, 4, .slice none 0 0), (w6.heap.size, 0, .int .i64 p), (w6.heap.size, 1, .string nm), (w6.heap.size, 2, .string ByteArray.empty), (w6.heap.size, 3, .bool false), (w6.heap.size, 4, .slice a6 n cy)] w9 := by assumption
        have hS := hq
        obtain ⟨_, _, _, _, _, y0, y1, y2, y3, y4, hsz, hbw⟩ := hS
        have HB9 : Hid (Below w6.heap.size w6 w9) := hbw
        have HS9 : Hid (w6.heap.size + 1 ≤ w9.heap.size) := hsz
        have HY : Hid (∀ k ∈ ks, chkA k ≠ 0 → chkA (.mk p nm ByteArray.empty false ks) ≠ 0) := fun k hk h => chkA_kid (e := .mk p nm ByteArray.empty false ks) hk h
        have HZ5 : Hid ((∀ k ∈ ks, chkA k = 0) → chkA (.mk p nm ByteArray.empty false ks) = 0 ∨ chkA (.mk p nm ByteArray.empty false ks) = 9 ∨ chkA (.mk p nm ByteArray.empty false ks) = 4 ∨ chkA (.mk p nm ByteArray.empty false ks) = 5 ∨ chkA (.mk p nm ByteArray.empty false ks) = 14) := fun h => chkA_node h
        generalize chkA (.mk p nm ByteArray.empty false ks) = q2 at *
        clear hq hsz hbw d0 d1 d2 d3 d4 e0 e1 e2 e3 e4 d5 HF HL HW c14 c15 c13x c13y c7x c8x HAT K1 K2 K3 K4 K5 HO5 HB5
        have hnl : n ≤ 140737488355328 := Nat.le_trans HN2.out (by decide)
        go_wp2_with fail
        go_loopw [10] (fun iv wr => ∃ i : Nat, i ≤ n ∧ iv = .int .i64 (i : Int) ∧ Hid (∀ j (h : j < ks.length), j < i → chkA ks[j] = 0) ∧ wr.cell? ⟨w6.heap.size, 0, none⟩ = some (.int .i64 p) ∧ wr.cell? ⟨w6.heap.size, 1, none⟩ = some (.string nm) ∧ wr.cell? ⟨w6.heap.size, 2, none⟩ = some (.string ByteArray.empty) ∧ wr.cell? ⟨w6.heap.size, 3, none⟩ = some (.bool false) ∧ wr.cell? ⟨w6.heap.size, 4, none⟩ = some (.slice a6 n cy) ∧ Hid (Below w6.heap.size w6 wr) ∧ Hid (w6.heap.size + 1 ≤ wr.heap.size)) (fun iv _ => n - (intOf iv).toNat)
        case atStart => exact ⟨0, Nat.zero_le _, rfl, fun _ _ h => absurd h (Nat.not_lt_zero _), y0, y1, y2, y3, y4, HB9.out, HS9.out⟩
        case round =>
          obtain ⟨i, hi, rfl, HJ, z0, z1, z2, z3, z4, HBr, HSr⟩ := hrel
          clear y0 y1 y2 y3 y4
          by_cases hlt : i < n
          · have j3 : (i : Int) < (n : Int) := by omega
            have d3 : decide (i < n) = true := by simp; omega
            have HW1 : Hid (wrap64 ((i : Int) + 1) = (i : Int) + 1) := by unfold Hid wrap64; omega
            have HLt1 : Hid (i + 1 ≤ n) := hlt
            have HMs : Hid (n - (intOf (.int .i64 ((i : Int) + 1))).toNat < n - (intOf (.int .i64 (i : Int))).toNat) := by unfold Hid; simp [intOf]; omega
            have hik : i < ks.length := by rw [HNN.out]; exact hlt
            have HBwr : Hid (Below w.heap.size w wr) := HB6.out.trans (HBr.out.mono HB6.out.size)
            obtain ⟨b, o, a', c', rfl, hbM, hrg, hat⟩ := HKs.out.kid i hik
            obtain ⟨x0, x1, x2, x3, x4⟩ := elem_cells (range_below hrg HBwr.out hbM)
            have cK := Lib.hid (checkA_any _ _ wr (AtT.mono HBwr.out.size _ _ (AtT.below HBwr.out _ _ hat)) (Utf8Tabs_below HT.out HBwr.out))
            have HJ2 : Hid (chkA ks[i] = 0 → ∀ j (h : j < ks.length), j < i + 1 → chkA ks[j] = 0) := fun h j hj hji => by
              by_cases e : j = i
              · subst e; exact h
              · exact HJ.out j hj (by omega)
            have HY2 : Hid (chkA ks[i] ≠ 0 → q2 ≠ 0) := fun h => HY.out _ (List.getElem_mem hik) h
            generalize chkA ks[i] = v at *
            generalize ks[i] = k at *
            clear hrg hat hbM HJ
            by_cases hv : v = 0
            · subst hv
              have HJ3 := Lib.hid (HJ2.out rfl)
              clear HJ2 HY2
              have i5 : ((0 : Int) != 0) = false := by decide
              have hw1 := HW1.out
              go_wp2_with (go_at_call 7; (with_reducible refine cK.out.mono ?_); rintro r w4 ⟨rfl, hb4⟩)
              have hc : ∀ j u, wr.cell? ⟨w6.heap.size, j, none⟩ = some u → w4.cell? ⟨w6.heap.size, j, none⟩ = some u := fun j u h => (hb4.cell (p := ⟨w6.heap.size, j, none⟩) HSr.out).trans h
              go_roundw
              case rel => exact ⟨i + 1, HLt1.out, by go_num, HJ3, hc 0 _ z0, hc 1 _ z1, hc 2 _ z2, hc 3 _ z3, hc 4 _ z4, HBr.out.trans (hb4.mono HBr.out.size), Nat.le_trans HSr.out hb4.size⟩
              case measure => (rw [hw1]; exact HMs.out)
            · have i5 : (v != 0) = true := by rw [bne_iff_ne]; exact hv
              have i6 : (q2 != 0) = true := by rw [bne_iff_ne]; exact HY2.out hv
              clear HJ2 HY2 hv
              go_wp2_with (first | (go_at_call 7; (with_reducible refine cK.out.mono ?_); rintro r w4 ⟨rfl, hb4⟩; have hc0 := (hb4.cell (p := ⟨w6.heap.size, 0, none⟩) HSr.out).trans z0; have hc1 := (hb4.cell (p := ⟨w6.heap.size, 1, none⟩) HSr.out).trans z1; have hc2 := (hb4.cell (p := ⟨w6.heap.size, 2, none⟩) HSr.out).trans z2; have hc3 := (hb4.cell (p := ⟨w6.heap.size, 3, none⟩) HSr.out).trans z3; have hc4 := (hb4.cell (p := ⟨w6.heap.size, 4, none⟩) HSr.out).trans z4; have HB4 := Lib.hid (HBr.out.trans (hb4.mono HBr.out.size)); clear hb4) | (go_at_call 7; refine (c7y.out _ HB4.out).mono ?_; rintro r w5' ⟨rfl, hb5'⟩))
              go_ret
              exact ⟨rfl, HB6.out.trans ((HB4.out.trans (hb5'.mono HB4.out.size)).mono HB6.out.size)⟩
          · have j3 : ¬ (i : Int) < (n : Int) := by omega
            have d3 : decide (i < n) = false := by simp; omega
            have hv := HZ5.out (fun k hk => by
              obtain ⟨j, hj, rfl⟩ := List.getElem_of_mem hk
              exact HJ.out j hj (by rw [HNN.out] at hj; omega))
            clear HZ5 HY HJ
            rcases hv with rfl | rfl | rfl | rfl | rfl
            all_goals
              go_wp2_with (go_at_call 7; refine (c7y.out _ HBr.out).mono ?_; rintro r w5' ⟨rfl, hb5'⟩)
              go_ret
              exact ⟨rfl, HB6.out.trans ((HBr.out.trans (hb5'.mono HBr.out.size)).mono HB6.out.size)⟩
      · have i1 : ¬ (10000 : Int) < (tx.size : Int) := by omega
        have i2 : (1000 : Int) < (nm.size : Int) := by omega
        clear hE hk ha HN s1 s2 s3 h1 h2 hs1 hs2 hT hn hn63
        generalize ks.length = n at *
        go_enter Tryd.func4, Tryd.ntmps4
        go_wp2_with fail
        go_quiet (fail)
        go_wp2_with (go_at_call 6; refine (c6.out _ (HBE _).out).mono ?_; rintro r w1 ⟨rfl, hb1⟩; have HB1 := Lib.hid ((HBE _).out.trans (hb1.mono (HBE _).out.size)); clear hb1)
        go_ret
        exact ⟨rfl, HB1.out⟩
    · have i1 : (10000 : Int) < (tx.size : Int) := by omega
      clear hE hk ha HN s1 s2 s3 h1 hs1 hs2 hT hn hn63
      generalize ks.length = n at *
      go_enter Tryd.func4, Tryd.ntmps4
      go_wp2_with fail
      go_quiet (fail)
      go_wp2_with (go_at_call 6; refine (c6.out _ (HBE _).out).mono ?_; rintro r w1 ⟨rfl, hb1⟩; have HB1 := Lib.hid ((HBE _).out.trans (hb1.mono (HBE _).out.size)); clear hb1)
      go_ret
      exact ⟨rfl, HB1.out⟩
end Go.Proofs.YtdaiijkanfjklaaDoor
