/- devinf: a device as an element, in plain Lean. No condition. -/
import Derived.Test.YtgechifbbhipaaaDoorDvZ
set_option linter.unusedVariables false
set_option linter.unusedSimpArgs false
namespace Go.Proofs.YtgechifbbhipaaaDoor
open Go.RowKit

theorem dv_results_row_tmp {fn : Func} {p q : Tmp} {ty : TypeId} {P : Program} (h : fn.results = #[.cell p ty, .tmp q]) {tmps : Array Value} {w : World} {g : Nat} {v u : Value}
    (hp : tmps.getD p undef = .pointer (some ⟨g, 0, none⟩)) (hq : tmps.getD q undef = u) (hl : (loadVar ty ⟨g, 0, none⟩).run P w = .ok v w) :
    (results fn tmps).run P w = .ok (.tuple #[v, u]) w := by
  have hp' : tmps[p]?.getD undef = .pointer (some ⟨g, 0, none⟩) := by simpa using hp
  have hq' : tmps[q]?.getD undef = u := by simpa using hq
  simp [results, h, hp', hq', asAddr, hl]
theorem dv_kid_keep {w0 w1 X w' : World} {v : Value} {B g n c : Nat} {k : Tr} {u : Value} (hat : AtQ w1 (fun b => w0.heap.size ≤ b ∧ b < w1.heap.size) k u) (hB : B ≤ w0.heap.size) (hX : Below w1.heap.size w1 X) (hg : X.grownBy w' v.ownBlock)
    (hown : ∀ b, v.ownBlock = some b → b < w0.heap.size) (hm : (.slice (some ⟨g, 0, none⟩) n c : Value).ownBlock = v.ownBlock ∨ (.slice (some ⟨g, 0, none⟩) n c : Value).ownBlock = some X.heap.size) :
    AtQ w' (fun b => w0.heap.size ≤ b ∧ b < w1.heap.size) k u ∧ ∀ b, (w0.heap.size ≤ b ∧ b < w1.heap.size) → B ≤ b ∧ b < w'.heap.size ∧ b ≠ g := by
  refine ⟨AtQ.keep (fun b hb => ⟨hb, (hg.block b (Nat.lt_of_lt_of_le hb.2 hX.size) (fun e => ?_)).trans (hX.block b hb.2)⟩) _ _ hat, fun b hb => ⟨by omega, Nat.lt_of_lt_of_le hb.2 (Nat.le_trans hX.size hg.size), ?_⟩⟩
  · have := hown b e.symm; omega
  · rintro rfl
    rcases hm with hm | hm
    · have := hown b hm.symm; omega
    · have hm : some b = some X.heap.size := hm
      injection hm with hm
      have := hX.size; omega
def nVerDTD : ByteArray := { data := #[86, 101, 114, 68, 84, 68] }
def nMan2 : ByteArray := { data := #[77, 97, 110] }
def nMod : ByteArray := { data := #[77, 111, 100] }
def nSwV : ByteArray := { data := #[83, 119, 86] }
def nDevID : ByteArray := { data := #[68, 101, 118, 73, 68] }
def nDevTyp : ByteArray := { data := #[68, 101, 118, 84, 121, 112] }
def nSupp : ByteArray := { data := #[83, 117, 112, 112, 111, 114, 116, 76, 97, 114, 103, 101, 79, 98, 106, 115] }
def nDevInf : ByteArray := { data := #[68, 101, 118, 73, 110, 102] }
def v12 : ByteArray := { data := #[49, 46, 50] }
def lgL (b : Bool) : List Tr := if b then [.mk 2 nSupp ByteArray.empty false []] else []
def devL (h : Dh) (ps : List Pl) : List Tr := ((((((([] ++ sayF nVerDTD v12) ++ sayF nMan2 h.man) ++ sayF nMod h.mod) ++ sayF nSwV h.soft) ++ sayF nDevID h.id) ++ sayF nDevTyp h.ty) ++ lgL h.lg) ++ ps.map storeT
/-- a device as an element -/
def elemD (h : Dh) (ps : List Pl) : Tr := if devV h ps = 0 then .mk 2 nDevInf ByteArray.empty false (devL h ps) else .mk 0 ⟨#[]⟩ ⟨#[]⟩ false []
theorem word_small {s : ByteArray} (h : wordB s = true) : s.size ≤ 60 ∧ s.size ≠ 0 := by
  unfold wordB at h
  simp only [Bool.and_eq_true, Bool.not_eq_true', decide_eq_true_eq] at h
  refine ⟨by omega, fun e => ?_⟩
  rw [emptyB s e] at h
  exact absurd h.1 (by decide)
theorem mayW_small {s : ByteArray} (h : mayW s = true) : s.size ≤ 60 := by
  unfold mayW at h
  simp only [Bool.or_eq_true] at h
  rcases h with h | h
  · by_cases hs : s.size = 0
    · omega
    · rw [not_empty s hs] at h; cases h
  · exact (word_small h).1
theorem forms_small {l : List Fm} (h : formsB l = true) : l.length ≤ 6 ∧ ∀ f ∈ l, (f.ty.size ≤ 60 ∧ f.ty.size ≠ 0) ∧ (f.ve.size ≤ 60 ∧ f.ve.size ≠ 0) := by
  unfold formsB at h
  simp only [Bool.and_eq_true, Bool.not_eq_true', decide_eq_true_eq] at h
  refine ⟨by omega, fun f hf => ?_⟩
  have h2 : formB f = true := by
    cases h3 : formB f with
    | true => rfl
    | false =>
      have h4 : (l.any fun f => !formB f) = true := List.any_eq_true.2 ⟨f, hf, by rw [h3]; rfl⟩
      rw [h.2.2] at h4; cases h4
  unfold formB at h2
  simp only [Bool.and_eq_true] at h2
  exact ⟨word_small h2.1, word_small h2.2⟩
theorem place_small {p : Pl} (h : placeB p = true) : (p.rf.size ≤ 60 ∧ p.rf.size ≠ 0) ∧ p.nm.size ≤ 60 ∧ (p.tk.length ≤ 6 ∧ ∀ f ∈ p.tk, (f.ty.size ≤ 60 ∧ f.ty.size ≠ 0) ∧ (f.ve.size ≤ 60 ∧ f.ve.size ≠ 0)) ∧ (p.gv.length ≤ 6 ∧ ∀ f ∈ p.gv, (f.ty.size ≤ 60 ∧ f.ty.size ≠ 0) ∧ (f.ve.size ≤ 60 ∧ f.ve.size ≠ 0)) ∧ p.kd.length ≤ 8 := by
  unfold placeB at h
  simp only [Bool.and_eq_true, Bool.not_eq_true', decide_eq_true_eq] at h
  obtain ⟨h1, h2, _, _, h5, h6, _, h8, _⟩ := h
  exact ⟨word_small h1, mayW_small h2, forms_small h5, forms_small h6, by omega⟩
theorem dev_small {h : Dh} {ps : List Pl} (hv : devV h ps = 0) : ps.length ≤ 6 ∧ (∀ p ∈ ps, placeB p = true) ∧ h.man.size ≤ 60 ∧ h.mod.size ≤ 60 ∧ h.soft.size ≤ 60 ∧ h.id.size ≤ 60 ∧ h.ty.size ≤ 60 := by
  unfold devV at hv
  split at hv
  · cases hv
  · rename_i hn
    split at hv
    · cases hv
    · rename_i ha
      split at hv
      · rename_i hh
        unfold headD at hh
        simp only [Bool.and_eq_true] at hh
        obtain ⟨g1, g2, g3, g4, g5⟩ := hh
        refine ⟨by omega, fun p hp => ?_, mayW_small g1, mayW_small g2, mayW_small g3, (word_small g4).1, (word_small g5).1⟩
        cases h3 : placeB p with
        | true => rfl
        | false => exact absurd (List.any_eq_true.2 ⟨p, hp, by rw [h3]; rfl⟩) ha
      · cases hv
end Go.Proofs.YtgechifbbhipaaaDoor
