/- devinf.Speak and the reference's. No condition. -/
import Derived.Test.YtcpmgnejbfnnjaaFrm
namespace Go.Proofs.Ytcpmgnejbfnnjaa
open Go.RowKit

def Has (n : Nat) (F : Nat → Fm) (p : Fm) : Prop := ∃ j, j < n ∧ F j = p
theorem first_has {n : Nat} {F : Nat → Fm} {p : Fm} {r : Int} (h : First n (fun j => F j = p) r) : (r = -1 ∧ ¬ Has n F p) ∨ (∃ k : Nat, r = (k : Int) ∧ Has n F p) := by
  rcases h with ⟨h1, h2⟩ | ⟨k, hk, h1, h2, _⟩
  · exact .inl ⟨h1, fun ⟨j, hj, e⟩ => h2 j hj e⟩
  · exact .inr ⟨k, h1, k, hk, h2⟩

theorem fContains_any (ad : Option Addr) (n c : Nat) (F : Nat → Fm) (p : Fm) (w : World) (hF : Row2 w ad n F) (hn : n ≤ maxLen) :
    Calls Try.prog 36 #[.slice ad n c, .agg #[.string p.1, .string p.2]] w fun e w' => (∃ r : Bool, e = .returned (.bool r) ∧ (r = true ↔ Has n F p)) ∧ Below w.heap.size w w' := by
  have c1 := Lib.hid (fun w (h : Row2 w ad n F) => fIndex_any ad n c F p w h hn)
  have HF := Lib.hid hF
  clear hF
  obtain ⟨p1, p2⟩ := p
  show Calls Try.prog 36 #[.slice ad n c, .agg #[.string p1, .string p2]] w _
  go_enter Try.func36, Try.ntmps36
  go_wp2_with (go_at_call 44; refine (c1.out _ (HF.out.below ((Below.refl _ _).alloc (Nat.le_refl _) _))).mono ?_; rintro e w1 ⟨⟨r, rfl, hr⟩, b1⟩; rcases first_has hr with ⟨rfl, h⟩ | ⟨k, rfl, h⟩)
  all_goals
    go_ret
    refine ⟨⟨_, rfl, ?_⟩, ((Below.refl _ w).alloc (Nat.le_refl _) _).trans (b1.mono (by simp))⟩
    simp [h]

theorem speak1_any (b : Nat) (ad : Option Addr) (n c : Nat) (F : Nat → Fm) (p : Fm) (w : World) (hF : Row2 w ad n F) (hn : n ≤ maxLen) (hc : w.cell? ⟨b, 3, none⟩ = some (.slice ad n c)) (hb : b < w.heap.size) :
    Calls Try.prog 35 #[.agg #[.string p.1, .string p.2], .pointer (some ⟨b, 0, none⟩)] w fun e w' => (∃ r : Bool, e = .returned (.bool r) ∧ (r = true ↔ Has n F p)) ∧ Below w.heap.size w w' := by
  have c1 := Lib.hid (fun w (h : Row2 w ad n F) => fContains_any ad n c F p w h hn)
  have HF := Lib.hid hF
  clear hF
  obtain ⟨p1, p2⟩ := p
  show Calls Try.prog 35 #[.agg #[.string p1, .string p2], .pointer (some ⟨b, 0, none⟩)] w _
  go_enter Try.func35, Try.ntmps35
  go_wp2_with (go_at_call 36; refine (c1.out _ (HF.out.below ((Below.refl _ _).alloc (Nat.le_refl _) _))).mono ?_; rintro e w1 ⟨⟨r, rfl, hr⟩, b1⟩)
  go_ret
  exact ⟨⟨_, rfl, hr⟩, ((Below.refl _ w).alloc (Nat.le_refl _) _).trans (b1.mono (by simp))⟩

set_option maxHeartbeats 1000000 in
theorem fIndexFunc_any (b : Nat) (ga : Option Addr) (gn gc : Nat) (G : Nat → Fm) (ad : Option Addr) (n c : Nat) (F : Nat → Fm) (w : World) (hG : Row2 w ga gn G) (hgn : gn ≤ maxLen) (hF : Row2 w ad n F) (hn : n ≤ maxLen)
    (hc : w.cell? ⟨b, 3, none⟩ = some (.slice ad n c)) (hb : b < w.heap.size) :
    Calls Try.prog 34 #[.slice ga gn gc, .func (.func 35) #[] #[.pointer (some ⟨b, 0, none⟩)]] w fun e w' => (∃ r, e = .returned (.int .i64 r) ∧ First gn (fun j => Has n F (G j)) r) ∧ Below w.heap.size w w' := by
  have c1 := Lib.hid (fun p w (h : Row2 w ad n F) => speak1_any b ad n c F p w h hn)
  have HF := Lib.hid hF
  have HG := Lib.hid hG
  have HC := Lib.hid hc
  clear hF hG hc
  simp only [maxLen] at hgn
  go_enter Try.func34, Try.ntmps34
  go_wp2
  go_loopw [5, 8] (fun _ i wr => ∃ k : Nat, k ≤ gn ∧ i = .int .i64 (k : Int) ∧ Below w.heap.size w wr ∧ Hid (∀ j, j < k → ¬ Has n F (G j))) (fun _ i _ => gn - (intOf i).toNat)
  case atStart => exact ⟨0, Nat.zero_le _, rfl, Below.refl _ _, fun j hj => by omega⟩
  case round =>
    obtain ⟨k, hk, rfl, hbl, HJ⟩ := hrel
    have HB := Lib.hid hbl
    by_cases hlt : k < gn
    · obtain ⟨b2, o, rfl, hl, h0, h1⟩ := (HG.out.below hbl) k hlt
      have c2 := Lib.hid (c1.out (G k) wr (HF.out.below hbl) ((hbl.cell (p := ⟨b, 3, none⟩) hb).trans HC.out) (by have := hbl.size; omega))
      obtain ⟨⟨f1, f2⟩, hf⟩ : ∃ f, G k = f := ⟨_, rfl⟩
      rw [hf] at h0 h1 c2
      have HFk := Lib.hid hf
      clear hbl hf
      go_wp2_with (go_at_call 35; refine c2.out.mono ?_; rintro e w1 ⟨⟨r, rfl, hr⟩, b1⟩; have HR := Lib.hid hr; clear hr; cases r)
      · go_roundw
        case rel => exact ⟨k + 1, by omega, by go_num, HB.out.trans (b1.mono HB.out.size), fun j hj => if h : j = k then by subst h; rw [HFk.out]; exact fun e => by simpa using HR.out.2 e else HJ.out j (by omega)⟩
        case measure => simp [intOf]; omega
      · go_ret
        exact ⟨⟨_, rfl, .inr ⟨k, hlt, rfl, by show Has n F (G k); rw [HFk.out]; exact HR.out.1 trivial, HJ.out⟩⟩, HB.out.trans (b1.mono HB.out.size)⟩
    · obtain rfl : k = gn := by omega
      clear hbl
      go_wp2
      go_ret
      exact ⟨⟨_, rfl, .inl ⟨rfl, HJ.out⟩⟩, HB.out⟩
/-- what both speak -/
def SpkR (gn : Nat) (G : Nat → Fm) (n : Nat) (F : Nat → Fm) (x : Fm) (ok : Bool) : Prop :=
  (ok = false ∧ x = (ByteArray.empty, ByteArray.empty) ∧ ∀ j, j < gn → ¬ Has n F (G j)) ∨ (ok = true ∧ ∃ k, k < gn ∧ x = G k ∧ Has n F (G k) ∧ ∀ j, j < k → ¬ Has n F (G j))
theorem SpkR.same {gn : Nat} {G : Nat → Fm} {n : Nat} {F : Nat → Fm} {x y : Fm} {a b : Bool} (h : SpkR gn G n F x a) (k : SpkR gn G n F y b) : x = y ∧ a = b := by
  rcases h with ⟨rfl, rfl, h⟩ | ⟨rfl, i, hi, rfl, h1, h2⟩
  · rcases k with ⟨rfl, rfl, k⟩ | ⟨rfl, j, hj, rfl, k1, k2⟩
    · exact ⟨rfl, rfl⟩
    · exact absurd k1 (h j hj)
  · rcases k with ⟨rfl, rfl, k⟩ | ⟨rfl, j, hj, rfl, k1, k2⟩
    · exact absurd h1 (k i hi)
    · have : i = j := by
        rcases Nat.lt_trichotomy i j with h | h | h
        · exact absurd h1 (k2 i h)
        · exact h
        · exact absurd k1 (h2 j h)
      subst this; exact ⟨rfl, rfl⟩

theorem cell_box (w : World) (xs : Array Value) (t : TypeId) (i : Nat) (v : Value) (h : xs[i]? = some v) : (w.alloc (.cells xs t)).cell? ⟨w.heap.size, i, none⟩ = some v := by
  unfold World.cell?; rw [block_new]; exact h

theorem put2 (w : World) (b : Nat) (u v x y : Value) (h0 : w.cell? ⟨b, 0, none⟩ = some u) (h1 : w.cell? ⟨b, 1, none⟩ = some v) :
    ((w.setCell ⟨b, 0, none⟩ x).setCell ⟨b, 1, none⟩ y).cell? ⟨b, 0, none⟩ = some x ∧ ((w.setCell ⟨b, 0, none⟩ x).setCell ⟨b, 1, none⟩ y).cell? ⟨b, 1, none⟩ = some y := by
  have e1 : (w.setCell ⟨b, 0, none⟩ x).cell? ⟨b, 0, none⟩ = some x := World.cell?_setCell_same _ _ _ h0
  have e2 : (w.setCell ⟨b, 0, none⟩ x).cell? ⟨b, 1, none⟩ = some v := by rw [World.cell?_setCell_other _ _ _ _ (by intro h; injection h; omega)]; exact h1
  exact ⟨by rw [World.cell?_setCell_other _ _ _ _ (by intro h; injection h; omega)]; exact e1, World.cell?_setCell_same _ _ _ e2⟩

set_option maxHeartbeats 1000000 in
theorem speak_any (a0 a1 b0 b1 : ByteArray) (a2 b2 : Int) (ta ga pa tb gb pb : Option Addr) (tan tac gan gac pan pac tbn tbc gbn gbc pbn pbc : Nat) (G F : Nat → Fm) (w : World)
    (hG : Row2 w ga gan G) (hgn : gan ≤ maxLen) (hF : Row2 w tb tbn F) (hn : tbn ≤ maxLen) :
    Calls Try.prog 13 #[.agg #[.string a0, .string a1, .int .i64 a2, .slice ta tan tac, .slice ga gan gac, .slice pa pan pac], .agg #[.string b0, .string b1, .int .i64 b2, .slice tb tbn tbc, .slice gb gbn gbc, .slice pb pbn pbc]] w
      fun e w' => (∃ (x : Fm) (ok : Bool), e = .returned (.tuple #[.agg #[.string x.1, .string x.2], .bool ok]) ∧ SpkR gan G tbn F x ok) ∧ Below w.heap.size w w' := by
  have HF := Lib.hid hF
  have HG := Lib.hid hG
  have c1 := Lib.hid (fun (b : Nat) (w : World) hG hF hc hb => fIndexFunc_any b ga gan gac G tb tbn tbc F w hG hgn hF hn hc hb)
  clear hF hG
  simp only [maxLen] at hgn hn
  go_enter Try.func13, Try.ntmps13
  go_wp2_with fail
  obtain ⟨W, hW⟩ : ∃ W, W = (((w.alloc (.cells #[.string a0, .string a1, .int .i64 a2, .slice ta tan tac, .slice ga gan gac, .slice pa pan pac] 32)).alloc (.cells #[.string b0, .string b1, .int .i64 b2, .slice tb tbn tbc, .slice gb gbn gbc, .slice pb pbn pbc] 32)).alloc (.cells #[.string { data := #[] }, .string { data := #[] }] 35)) := ⟨_, rfl⟩
  rw [← hW]
  have hWb : Below w.heap.size w W := by rw [hW]; exact (((Below.refl _ w).alloc (Nat.le_refl _) _).alloc (by simp) _).alloc (by simp; omega) _
  have hWs : W.heap.size = w.heap.size + 3 := by rw [hW]; simp
  have e4 : W.cell? ⟨w.heap.size, 4, none⟩ = some (.slice ga gan gac) := by
    rw [hW, World.cell?_alloc_past _ _ _ (by simp; omega), World.cell?_alloc_past _ _ _ (by simp)]; exact cell_box w _ _ 4 _ rfl
  have e3 : W.cell? ⟨w.heap.size + 1, 3, none⟩ = some (.slice tb tbn tbc) := by
    rw [hW, World.cell?_alloc_past _ _ _ (by simp)]
    simp
  have e5 : W.heap[w.heap.size + 1 + 1]? = some (.cells #[.string { data := #[] }, .string { data := #[] }] 35) := by
    rw [hW]; have := block_new ((w.alloc (.cells #[.string a0, .string a1, .int .i64 a2, .slice ta tan tac, .slice ga gan gac, .slice pa pan pac] 32)).alloc (.cells #[.string b0, .string b1, .int .i64 b2, .slice tb tbn tbc, .slice gb gbn gbc, .slice pb pbn pbc] 32)) (.cells #[.string { data := #[] }, .string { data := #[] }] 35)
    simpa using this
  refine (c1.out (w.heap.size + 1) W (HG.out.below hWb) (HF.out.below hWb) e3 (by omega)).mono ?_
  rintro e w1 ⟨⟨r, rfl, hr⟩, b1⟩
  have f4 : w1.cell? ⟨w.heap.size, 4, none⟩ = some (.slice ga gan gac) := (b1.cell (p := ⟨w.heap.size, 4, none⟩) (by simp; omega)).trans e4
  have f5 : w1.heap[w.heap.size + 1 + 1]? = some (.cells #[.string { data := #[] }, .string { data := #[] }] 35) := (b1.block _ (by omega)).trans e5
  have g0 : w1.cell? ⟨w.heap.size + 1 + 1, 0, none⟩ = some (.string { data := #[] }) := by unfold World.cell?; rw [f5]; rfl
  have g1 : w1.cell? ⟨w.heap.size + 1 + 1, 1, none⟩ = some (.string { data := #[] }) := by unfold World.cell?; rw [f5]; rfl
  have z0 : w1.frozen? ⟨w.heap.size + 1 + 1, 0, none⟩ = false := by unfold World.frozen?; rw [f5]; rfl
  have z1 : w1.frozen? ⟨w.heap.size + 1 + 1, 1, none⟩ = false := by unfold World.frozen?; rw [f5]; rfl
  have hB := Lib.hid (hWb.trans (b1.mono (by omega)))
  have hG1 := Lib.hid (HG.out.below hB.out)
  have hs1 := b1.size
  have HP := Lib.hid (fun x y => put2 w1 (w.heap.size + 1 + 1) _ _ x y g0 g1)
  clear e3 e4 e5 f5 b1 hWb hW HF HG c1
  rcases hr with ⟨rfl, hn⟩ | ⟨k, hk, rfl, h1, h2⟩
  · have HN := Lib.hid hn
    clear hn
    go_wp2_with fail
    have hp := HP.out (.string { data := #[] }) (.string { data := #[] })
    refine bodyPost_ret (v := .tuple #[.agg #[.string { data := #[] }, .string { data := #[] }], .bool false]) (by simp [results, Try.results13, go_sem, hp.1, hp.2]) rfl ⟨⟨(_, _), _, rfl, .inl ⟨rfl, rfl, HN.out⟩⟩, (hB.out.setCell (by simp; omega) _).setCell (by simp; omega) _⟩
  · obtain ⟨b, o, rfl, hl, x0, x1⟩ := hG1.out k hk
    obtain ⟨⟨y0, y1⟩, hy⟩ : ∃ f, G k = f := ⟨_, rfl⟩
    rw [hy] at x0 x1
    have HY := Lib.hid (⟨h1, h2⟩ : Has tbn F (G k) ∧ ∀ j, j < k → ¬ Has tbn F (G j))
    have HG2 := Lib.hid hy
    clear h1 h2 hy
    go_wp2_with fail
    have hp := HP.out (.string y0) (.string y1)
    refine bodyPost_ret (v := .tuple #[.agg #[.string y0, .string y1], .bool true]) (by simp [results, Try.results13, go_sem, hp.1, hp.2]) rfl ⟨⟨(y0, y1), _, rfl, .inr ⟨rfl, k, hk, HG2.out.symm, HY.out.1, HY.out.2⟩⟩, (hB.out.setCell (by simp; omega) _).setCell (by simp; omega) _⟩
set_option maxHeartbeats 2000000 in
theorem refSpeak_any (a0 a1 b0 b1 : ByteArray) (a2 b2 : Int) (ta ga pa tb gb pb : Option Addr) (tan tac gan gac pan pac tbn tbc gbn gbc pbn pbc : Nat) (G F : Nat → Fm) (w : World)
    (hG : Row2 w ga gan G) (hgn : gan ≤ maxLen) (hF : Row2 w tb tbn F) (hn : tbn ≤ maxLen) :
    Calls Try.prog 14 #[.agg #[.string a0, .string a1, .int .i64 a2, .slice ta tan tac, .slice ga gan gac, .slice pa pan pac], .agg #[.string b0, .string b1, .int .i64 b2, .slice tb tbn tbc, .slice gb gbn gbc, .slice pb pbn pbc]] w
      fun e w' => (∃ (x : Fm) (ok : Bool), e = .returned (.tuple #[.agg #[.string x.1, .string x.2], .bool ok]) ∧ SpkR gan G tbn F x ok) ∧ Below w.heap.size w w' := by
  have HF := Lib.hid hF
  have HG := Lib.hid hG
  clear hF hG
  simp only [maxLen] at hgn hn
  go_enter Try.func14, Try.ntmps14
  go_wp2
  obtain ⟨W, hW⟩ : ∃ W, W = (((w.alloc (.cells #[.string a0, .string a1, .int .i64 a2, .slice ta tan tac, .slice ga gan gac, .slice pa pan pac] 32)).alloc (.cells #[.string b0, .string b1, .int .i64 b2, .slice tb tbn tbc, .slice gb gbn gbc, .slice pb pbn pbc] 32)).alloc (.cells #[.string { data := #[] }, .string { data := #[] }] 35)) := ⟨_, rfl⟩
  rw [← hW]
  have hWb : Below w.heap.size w W := by rw [hW]; exact (((Below.refl _ w).alloc (Nat.le_refl _) _).alloc (by simp) _).alloc (by simp; omega) _
  have hWs : W.heap.size = w.heap.size + 3 := by rw [hW]; simp
  have e4 : W.cell? ⟨w.heap.size, 4, none⟩ = some (.slice ga gan gac) := by
    rw [hW, World.cell?_alloc_past _ _ _ (by simp; omega), World.cell?_alloc_past _ _ _ (by simp)]; exact cell_box w _ _ 4 _ rfl
  have e3 : W.cell? ⟨w.heap.size + 1, 3, none⟩ = some (.slice tb tbn tbc) := by
    rw [hW, World.cell?_alloc_past _ _ _ (by simp)]
    simp
  have f5 : W.heap[w.heap.size + 1 + 1]? = some (.cells #[.string { data := #[] }, .string { data := #[] }] 35) := by
    rw [hW]; have := block_new ((w.alloc (.cells #[.string a0, .string a1, .int .i64 a2, .slice ta tan tac, .slice ga gan gac, .slice pa pan pac] 32)).alloc (.cells #[.string b0, .string b1, .int .i64 b2, .slice tb tbn tbc, .slice gb gbn gbc, .slice pb pbn pbc] 32)) (.cells #[.string { data := #[] }, .string { data := #[] }] 35)
    simpa using this
  have g0 : W.cell? ⟨w.heap.size + 1 + 1, 0, none⟩ = some (.string { data := #[] }) := by unfold World.cell?; rw [f5]; rfl
  have g1 : W.cell? ⟨w.heap.size + 1 + 1, 1, none⟩ = some (.string { data := #[] }) := by unfold World.cell?; rw [f5]; rfl
  have z0 : W.frozen? ⟨w.heap.size + 1 + 1, 0, none⟩ = false := by unfold World.frozen?; rw [f5]; rfl
  have z1 : W.frozen? ⟨w.heap.size + 1 + 1, 1, none⟩ = false := by unfold World.frozen?; rw [f5]; rfl
  have HK : Hid (∀ wr : World, (∃ q, wr = W.drewN q) → wr.cell? ⟨w.heap.size, 4, none⟩ = some (.slice ga gan gac) ∧ wr.cell? ⟨w.heap.size + 1, 3, none⟩ = some (.slice tb tbn tbc) ∧ wr.cell? ⟨w.heap.size + 1 + 1, 0, none⟩ = some (.string { data := #[] }) ∧ wr.cell? ⟨w.heap.size + 1 + 1, 1, none⟩ = some (.string { data := #[] }) ∧
      wr.frozen? ⟨w.heap.size + 1 + 1, 0, none⟩ = false ∧ wr.frozen? ⟨w.heap.size + 1 + 1, 1, none⟩ = false ∧ Row2 wr ga gan G ∧ Row2 wr tb tbn F ∧ Below w.heap.size w wr ∧
      ∀ x y, ((wr.setCell ⟨w.heap.size + 1 + 1, 0, none⟩ x).setCell ⟨w.heap.size + 1 + 1, 1, none⟩ y).cell? ⟨w.heap.size + 1 + 1, 0, none⟩ = some x ∧ ((wr.setCell ⟨w.heap.size + 1 + 1, 0, none⟩ x).setCell ⟨w.heap.size + 1 + 1, 1, none⟩ y).cell? ⟨w.heap.size + 1 + 1, 1, none⟩ = some y) := by
    rintro wr ⟨q, rfl⟩
    exact ⟨e4, e3, g0, g1, z0, z1, (HG.out.below hWb).below (below_drewN _ _ q), (HF.out.below hWb).below (below_drewN _ _ q), hWb.trans (below_drewN _ _ q), fun x y => put2 (W.drewN q) _ _ _ x y g0 g1⟩
  clear e3 e4 f5 g0 g1 z0 z1 hWb hW HF HG hWs
  go_loopw [6, 7] (fun i _ wr => ∃ k : Nat, k ≤ gan ∧ i = .int .i64 (k : Int) ∧ Hid (∃ q, wr = W.drewN q) ∧ Hid (∀ j, j < k → ¬ Has tbn F (G j))) (fun i _ _ => gan - (intOf i).toNat)
  case atStart => exact ⟨0, Nat.zero_le _, rfl, ⟨0, rfl⟩, fun j hj => by omega⟩
  case round =>
    obtain ⟨k, hk, rfl, HQ, HJ⟩ := hrel
    by_cases hlt : k < gan
    · obtain ⟨e4, e3, g0, g1, z0, z1, hG1, hF1, hB, HP⟩ := HK.out _ HQ.out
      clear e3 g0 g1 z0 z1 hG1 hF1 hB HP
      go_wp2
      go_loopw [7] (fun i wr => ∃ m : Nat, m ≤ tbn ∧ i = .int .i64 (m : Int) ∧ Hid (∃ q, wr = W.drewN q) ∧ Hid (∀ j, j < m → ¬ F j = G k)) (fun i _ => tbn - (intOf i).toNat)
      case atStart => exact ⟨0, Nat.zero_le _, rfl, HQ, fun j hj => by omega⟩
      clear e4
      case round =>
        obtain ⟨m, hm, rfl, HQ2, HM⟩ := hrel
        obtain ⟨e4, e3, g0, g1, z0, z1, hG1, hF1, hB, HP⟩ := HK.out _ HQ2.out
        by_cases hltm : m < tbn
        · obtain ⟨b, o, rfl, hl, x0, x1⟩ := hG1 k hlt
          obtain ⟨b', o', rfl, hl', x0', x1'⟩ := hF1 m hltm
          obtain ⟨⟨y0, y1⟩, hy⟩ : ∃ f, G k = f := ⟨_, rfl⟩
          obtain ⟨⟨y0', y1'⟩, hy'⟩ : ∃ f, F m = f := ⟨_, rfl⟩
          rw [hy] at x0 x1
          rw [hy'] at x0' x1'
          have HY := Lib.hid hy
          have HY' := Lib.hid hy'
          have HB := Lib.hid hB
          clear hy hy' hB HP hG1 hF1
          by_cases he : (y0, y1) = (y0', y1')
          · have heq : ∀ w, (binOp .eql 35 (.agg #[.string y0, .string y1]) (.agg #[.string y0', .string y1'])).run Try.prog w = .ok (.bool true) w := fun w => by rw [run_eq35, decide_eq_true he]
            have HE := Lib.hid he
            clear he
            go_wp2
            go_quiet (fail)
            obtain ⟨q2, hq2⟩ := HQ2.out
            have HQ3 : Hid (∃ q, wr.drewN nq = W.drewN q) := ⟨q2 + nq, by rw [hq2, World.drewN_drewN]⟩
            clear hq2
            obtain ⟨wz, hwz⟩ : ∃ x, x = wr.drewN nq := ⟨_, rfl⟩
            rw [← hwz] at HQ3 ⊢
            clear e4 e3 g0 g1 z0 z1 x0 x1 x0' x1' hwz
            obtain ⟨e4, e3, g0, g1, z0, z1, hG1, hF1, hB, HP⟩ := HK.out _ HQ3.out
            obtain ⟨b2, o2, hbo, hl2, x0, x1⟩ := hG1 k hlt
            simp only [Option.some.injEq, Addr.mk.injEq, and_true] at hbo
            obtain ⟨rfl, rfl⟩ := hbo
            rw [HY.out] at x0 x1
            have HP2 := Lib.hid (HP (.string y0) (.string y1))
            have HB2 := Lib.hid hB
            clear HP hB hG1 hF1
            go_wp2
            refine bodyPost_ret (v := .tuple #[.agg #[.string y0, .string y1], .bool true]) (by simp [results, Try.results14, go_sem, HP2.out.1, HP2.out.2]) rfl ⟨⟨y0, y1, .inr ⟨rfl, .inr ⟨rfl, k, hlt, HY.out.symm, ⟨m, hltm, by rw [HY'.out, HY.out]; exact HE.out.symm⟩, HJ.out⟩⟩⟩, (HB2.out.setCell (by simp; omega) _).setCell (by simp; omega) _⟩
          · have heq : ∀ w, (binOp .eql 35 (.agg #[.string y0, .string y1]) (.agg #[.string y0', .string y1'])).run Try.prog w = .ok (.bool false) w := fun w => by rw [run_eq35, decide_eq_false he]
            have HE := Lib.hid he
            clear he
            go_wp2
            go_quiet (fail)
            obtain ⟨q2, hq2⟩ := HQ2.out
            have HQ3 : Hid (∃ q, wr.drewN nq = W.drewN q) := ⟨q2 + nq, by rw [hq2, World.drewN_drewN]⟩
            clear hq2
            go_wp2
            go_roundw
            case rel => exact ⟨m + 1, by omega, by go_num, HQ3, fun j hj => if h : j = m then by subst h; rw [HY'.out, HY.out]; exact fun e => HE.out e.symm else HM.out j (by omega)⟩
            case measure => simp [intOf]; omega
        · obtain rfl : m = tbn := by omega
          clear g0 g1 z0 z1 hG1 hF1 hB HP
          go_wp2
          go_roundw
          case rel => exact ⟨k + 1, by omega, by go_num, HQ2, fun j hj => if h : j = k then by subst h; exact fun ⟨i, hi, e⟩ => HM.out i hi e else HJ.out j (by omega)⟩
          case measure => simp [intOf]; omega
    · obtain rfl : k = gan := by omega
      obtain ⟨e4, e3, g0, g1, z0, z1, hG1, hF1, hB, HP⟩ := HK.out _ HQ.out
      have HB := Lib.hid hB
      have HP2 := Lib.hid (HP (.string { data := #[] }) (.string { data := #[] }))
      clear hB HP hG1 hF1
      go_wp2
      refine bodyPost_ret (v := .tuple #[.agg #[.string { data := #[] }, .string { data := #[] }], .bool false]) (by simp [results, Try.results14, go_sem, HP2.out.1, HP2.out.2]) rfl ⟨⟨(_, _), _, rfl, .inl ⟨rfl, rfl, HJ.out⟩⟩, (HB.out.setCell (by simp; omega) _).setCell (by simp; omega) _⟩
end Go.Proofs.Ytcpmgnejbfnnjaa
