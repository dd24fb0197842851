/- Laws of my own, over any program: a slice of the call's own that came of a conversion, or of appends to it. No condition. -/
import Derived.Test.YteheibgdjpkeaaaKit2
import Derived.ArgAppend
import Derived.Laws.OwnMore
namespace Go.Proofs.Yteheibgdjpkeaaa
open Go.RowKit

/-- slice v of n cells is the call's own: a block from B on, its cells to the capacity may be written, the first n are xs. -/
def OwnG (w : World) (B : Nat) (v : Value) (n : Nat) (xs : List Value) : Prop :=
  xs.length = n ∧ ∃ g cap, v = .slice (some ⟨g, 0, none⟩) n cap ∧ B ≤ g ∧ g < w.heap.size ∧ n ≤ cap ∧ cap ≤ maxLen ∧
    (∀ j u, xs[j]? = some u → w.cell? ⟨g, j, none⟩ = some u) ∧ (∀ j, j < cap → (w.cell? ⟨g, j, none⟩).isSome = true ∧ w.frozen? ⟨g, j, none⟩ = false)

theorem OwnG.below {w w' : World} {B : Nat} {v : Value} {n : Nat} {xs : List Value} (h : OwnG w B v n xs) (hb : Below w.heap.size w w') : OwnG w' B v n xs := by
  obtain ⟨hl, g, cap, hv, hB, hg, hn, hc, hx, hf⟩ := h
  exact ⟨hl, g, cap, hv, hB, Nat.lt_of_lt_of_le hg hb.size, hn, hc, fun j u hu => (hb.cell (p := ⟨g, j, none⟩) hg).trans (hx j u hu),
    fun j hj => ⟨by rw [hb.cell (p := ⟨g, j, none⟩) hg]; exact (hf j hj).1, (hb.frozen (p := ⟨g, j, none⟩) hg).trans (hf j hj).2⟩⟩
theorem OwnG.more {w : World} {B B' : Nat} {v : Value} {n : Nat} {xs : List Value} (h : OwnG w B v n xs) (hb : B' ≤ B) : OwnG w B' v n xs := by
  obtain ⟨hl, g, cap, hv, hB, r⟩ := h
  exact ⟨hl, g, cap, hv, Nat.le_trans hb hB, r⟩
theorem OwnG.drew {w : World} {B : Nat} {v : Value} {n : Nat} {xs : List Value} (h : OwnG w B v n xs) : OwnG w.drew B v n xs := h
theorem OwnG.alloc {w : World} {B : Nat} {v : Value} {n : Nat} {xs : List Value} (h : OwnG w B v n xs) (o : Obj) : OwnG (w.alloc o) B v n xs := h.below ((Below.refl _ _).alloc (Nat.le_refl _) _)

theorem OwnG.of_own {w : World} {B : Nat} {e : TypeId} {v : Value} {n : Nat} {xs : List Value} (h : w.ownsRow B e 1 v n xs) (hn : v ≠ .slice none 0 0) : OwnG w B v n xs := by
  have hl : xs.length = n := by have := h.1; omega
  rcases h.2 with ⟨rfl, _⟩ | ⟨g, cap, cur, hv, hB, hgg, hnc, hcm, hsz, ht⟩
  · exact absurd rfl hn
  · have hg : g < w.heap.size := by
      rcases Nat.lt_or_ge g w.heap.size with h | h
      · exact h
      · rw [Array.getElem?_eq_none h] at hgg; cases hgg
    refine ⟨hl, g, cap, hv, hB, hg, hnc, hcm, fun j u hu => ?_, fun j hj => ⟨?_, frozen_of_row w g j cur e hgg⟩⟩
    · have := h.cells (g := g) (by rw [hv]; rfl) j u hu
      rwa [show (⟨g, 0, none⟩ : Addr).add j = ⟨g, j, none⟩ from by unfold Addr.add; split <;> simp_all] at this
    · rw [cell_of_row w g j cur e (0, 0) hgg]
      simp; omega

def chs (t : List UInt8) : List Value := t.map (fun c : UInt8 => Value.int .u8 (c.toNat : Int))
theorem chs_len (t : List UInt8) : (chs t).length = t.length := by simp [chs]
theorem chs_snoc (t : List UInt8) (c : UInt8) : chs (t ++ [c]) = chs t ++ [.int .u8 (c.toNat : Int)] := by simp [chs]
theorem chs_append (t u : List UInt8) : chs (t ++ u) = chs t ++ chs u := by simp [chs]

/-- what a conversion of a string to bytes has made is the call's own. -/
theorem OwnG.of_bytes (s : ByteArray) (e : TypeId) (w : World) (B : Nat) (hB : B ≤ w.heap.size) (hm : s.size ≤ maxLen) :
    OwnG (bytesW s e w) B (.slice (some ⟨w.heap.size, 0, none⟩) s.size (bytesC s e w)) s.size (chs s.data.toList) := by
  refine ⟨by simp [chs], w.heap.size, bytesC s e w, rfl, hB, bytesW_size s e w, grownCap_ge _ _ _ _, grownCap_le_maxLen _ _ _ _ hm, fun j u hu => ?_, fun j hj => ?_⟩
  · have hj : j < s.size := by
      have := (List.getElem?_eq_some_iff.1 hu).1
      simpa [chs] using this
    rw [bytesW_src s e w j hj]
    rw [chs, List.getElem?_map, bat_get s j hj] at hu
    exact hu
  · unfold bytesW
    have hsz : j < (bytesRow s (grownCap w s.size 0 e)).size := by
      have h := grownCap_ge w s.size 0 e
      unfold bytesC at hj
      simp only [bytesRow, Array.size_append, Array.size_map, Array.size_replicate]
      have e2 : s.data.size = s.size := rfl
      omega
    constructor
    · have h := World.cell?_alloc_mark w.drew (bytesRow s (grownCap w s.size 0 e)) e ((bytesRow s (grownCap w s.size 0 e)).size, (bytesRow s (grownCap w s.size 0 e)).size + 1) j
      have h2 : w.drew.heap.size = w.heap.size := rfl
      rw [h2] at h
      rw [h]
      simpa using hsz
    · refine (World.frozen?_alloc_mark w.drew _ e _ _ j).trans ?_
      simp; omega

/-- append of one cell that a literal has just laid onto such a slice. -/
theorem wpList_appG1 {P : Program} (w0 : World) (x : Value) {ops : Array Oper} {rest : List Oper} {o : Oper} {a : Act} {Q : Exit → Act → World → Prop}
    (hg : o.guard = none) (s y : Operand) (t e : TypeId) (z : Value) (b : Nat) (S : Sl1 P t e z b)
    (hop : o.op = Op.call { callee := Callee.builtin Builtin.append, args := #[s, y], argTypes := #[t, t] })
    (B : Nat) (v : Value) (n : Nat) (xs : List Value) (hs : a.eval s = v) (hy : a.eval y = .slice (some ⟨w0.heap.size, 0, none⟩) 1 1) (hx : x.oneCell' = true)
    (own : OwnG w0 B v n xs) (h63 : n + 1 ≤ maxLen) (hb : (n + 1) * b ≤ 140737488355328) (hB : B ≤ w0.heap.size)
    (hK : ∀ g' cap' w', OwnG w' B (.slice (some ⟨g', 0, none⟩) (n + 1) cap') (n + 1) (xs ++ [x]) → Below B w0 w' →
      wpList P ops Q rest (a.put o.dst (.slice (some ⟨g', 0, none⟩) (n + 1) cap')) w') :
    wpList P ops Q (o :: rest) a (w0.alloc (.cells #[x] e)) := by
  obtain ⟨i0, hi, hz0, hz1, hz2⟩ := info_parts S.info
  obtain ⟨hl, g, cap, hv, hgB, hgs, hnc, hcm, hxs, hfr⟩ := own.alloc (.cells #[x] e)
  have hgs0 : g < w0.heap.size := by
    obtain ⟨_, g2, _, hv2, _, hg2, _⟩ := own
    rw [hv] at hv2
    simp only [Value.slice.injEq, Option.some.injEq, Addr.mk.injEq] at hv2
    obtain ⟨⟨e1, _⟩, _⟩ := hv2
    omega
  refine wpList_append_arg (w0.alloc (.cells #[x] e)) hg s y t hop e i0 z 1 b S.ht hi hz0 hz1 hz2 S.hz (by decide) g 0 n cap xs (hs.trans hv) (by omega) (fun j u hu => by rw [Nat.zero_add]; exact hxs j u hu)
    ⟨w0.heap.size, 0, none⟩ 1 1 [x] hy rfl (fun j u hu => ?_) (by simpa using hx) (fun hle j hj => ?_) h63 hb (fun hle => ?_) (fun hgt v' w' h1 h2 => ?_)
  · rw [show (⟨w0.heap.size, 0, none⟩ : Addr).add j = ⟨w0.heap.size, j, none⟩ from by unfold Addr.add; split <;> simp_all]
    rw [World.cell?_alloc_at _ _ _ _ rfl]
    simpa using hu
  · have hj0 : j = 0 := by simpa using hj
    subst hj0
    have := hfr n (by omega)
    simpa using this
  · have e1 : (w0.alloc (.cells #[x] e)).setCells g (0 + n * 1) [x] = (w0.alloc (.cells #[x] e)).setCell ⟨g, n, none⟩ x := by
      simp [World.setCells]
    rw [e1]
    refine hK g cap _ ⟨by simp; omega, g, cap, rfl, hgB, by simpa using hgs, hle, hcm, fun j u hu => ?_, fun j hj => ?_⟩ (((Below.refl B w0).alloc hB _).setCell hgB _)
    · by_cases e2 : j = n
      · subst e2
        obtain ⟨c0, hc0⟩ := Option.isSome_iff_exists.1 (hfr j (by omega)).1
        rw [World.cell?_setCell_same _ _ _ hc0]
        rw [List.getElem?_append_right (by omega), hl] at hu
        simpa using hu
      · rw [World.cell?_setCell_other _ _ _ _ (fun h => e2 (by injection h with _ h2; exact h2.symm))]
        have hlt : j < xs.length := by
          have := (List.getElem?_eq_some_iff.1 hu).1
          simp at this; omega
        rw [List.getElem?_append_left hlt] at hu
        exact hxs j u hu
    · refine ⟨?_, by rw [World.frozen?_setCell]; exact (hfr j hj).2⟩
      by_cases e2 : j = n
      · subst e2
        obtain ⟨c0, hc0⟩ := Option.isSome_iff_exists.1 (hfr j (by omega)).1
        rw [World.cell?_setCell_same _ _ _ hc0]; rfl
      · rw [World.cell?_setCell_other _ _ _ _ (fun h => e2 (by injection h with _ h2; exact h2.symm))]
        exact (hfr j hj).1
  · have hne : v' ≠ .slice none 0 0 := by
      intro e2
      rw [e2] at h1
      have := h1.1
      simp at this
      rcases h1.2 with ⟨_, h0⟩ | ⟨_, _, _, hh, _⟩
      · omega
      · cases hh
    have hG := (OwnG.of_own h1 hne).more (B' := B) (by simp; omega)
    obtain ⟨hl2, g', cap', hv', r⟩ := hG
    subst hv'
    refine hK g' cap' w' ⟨hl2, g', cap', rfl, r⟩ ?_
    have hb1 : Below B w0 (w0.alloc (.cells #[x] e)) := (Below.refl B w0).alloc hB _
    exact hb1.grown h2 (by simp; omega) (fun k hk => by cases hk)

/-- 'string(b)' of such a slice. -/
theorem run_strG {P : Program} (w : World) (src dst e : TypeId)
    (hs : P.underlying src = some (.slice e)) (hd : P.underlying dst = some .string) (he : P.underlying e = some (.int .u8)) (B : Nat) (v : Value) (n : Nat) (l : List UInt8)
    (own : OwnG w B v n (chs l)) : (convert src dst v).run P w = .ok (.string ⟨l.toArray⟩) w := by
  obtain ⟨hl, g, cap, rfl, hB, hg, hnc, hcm, hx, hf⟩ := own
  have hr := run_convert_bytes_arg (P := P) w src e hs he g 0 n cap (l.map fun c => (c.toNat : Int)) (by simpa [chs] using hl) (fun i hi => by
    rw [Nat.zero_add]
    have hi2 : i < l.length := by rw [← hl] at hi; simpa [chs] using hi
    rw [hx i (.int .u8 (l[i].toNat : Int)) (by rw [chs, List.getElem?_map, List.getElem?_eq_getElem hi2]; rfl)]
    rw [List.getD_eq_getElem?_getD, List.getElem?_map, List.getElem?_eq_getElem hi2]; rfl) dst hd
  rw [hr]
  have e1 : strOfNums (l.map fun c => (c.toNat : Int)) = ⟨l.toArray⟩ := by
    simp [strOfNums, Function.comp_def]
  rw [e1]
end Go.Proofs.Yteheibgdjpkeaaa
