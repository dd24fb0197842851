/- vocab: single tokens and names by reckoning. No condition. -/
import Derived.Test.YtcpmgnejbfnnjaaDoorVcR
namespace Go.Proofs.YtcpmgnejbfnnjaaDoor
open Go.RowKit Go.Shelf

theorem mkB_inj {a b : List UInt8} (h : mkB a = mkB b) : a = b := by
  have := congrArg (fun x : ByteArray => x.data.toList) h
  simpa [mkB] using this
theorem wdsE_of {k : Int} (h : (txt k).size ≠ 0) : wdsE (txt k) = (spW (txt k).data.toList).map mkB := by unfold wdsE; rw [if_neg h]; rfl
theorem tok_calc {k : Int} {i : Nat} {l : List UInt8} (hz : (txt k).size ≠ 0) (h1 : (spW (txt k).data.toList)[i]? = some l) (h2 : ((spW (txt k).data.toList).take i).all (fun x => x != l) = true) (h3 : (l == [45]) = false) : tokV k (mkB l) = 5 + i := by
  obtain ⟨hi, he⟩ := List.getElem?_eq_some_iff.1 h1
  have hw := wdsE_of hz
  have hl : i < (wdsE (txt k)).length := by rw [hw, List.length_map]; exact hi
  refine tokV_at hl ?_ ?_ ?_
  · simp only [hw, List.getElem_map, he]
  · intro e
    have : l = [45] := mkB_inj (e.trans (show gapB = mkB [45] from rfl))
    rw [this] at h3; simp at h3
  · intro j hj hji e
    have hj' : j < (spW (txt k).data.toList).length := by rw [hw, List.length_map] at hj; exact hj
    have e2 : mkB (spW (txt k).data.toList)[j] = mkB l := by
      rw [← e]; simp only [hw, List.getElem_map]
    have e3 := mkB_inj e2
    have hm : (spW (txt k).data.toList)[j] ∈ (spW (txt k).data.toList).take i := by
      rw [List.mem_take_iff_getElem]
      exact ⟨j, by omega, rfl⟩
    have := List.all_eq_true.1 h2 _ hm
    rw [e3] at this; simp at this
theorem tok_calc0 {k : Int} {l : List UInt8} (hz : (txt k).size ≠ 0) (h2 : (spW (txt k).data.toList).all (fun x => x != l) = true) : tokV k (mkB l) = 0 := by
  have hw := wdsE_of hz
  refine tokV_no (fun j hj => .inl fun e => ?_)
  have hj' : j < (spW (txt k).data.toList).length := by rw [hw, List.length_map] at hj; exact hj
  have e2 : mkB (spW (txt k).data.toList)[j] = mkB l := by
    rw [← e]; simp only [hw, List.getElem_map]
  have := List.all_eq_true.1 h2 _ (List.getElem_mem hj')
  rw [mkB_inj e2] at this; simp at this
theorem name_calc {k : Int} {i : Nat} {l : List UInt8} (hz : (txt k).size ≠ 0) (h1 : (spW (txt k).data.toList)[i]? = some l) (h3 : (l == [45]) = false) : nameV k (5 + i) = mkB l := by
  obtain ⟨hi, he⟩ := List.getElem?_eq_some_iff.1 h1
  have hw := wdsE_of hz
  have hl : i < (wdsE (txt k)).length := by rw [hw, List.length_map]; exact hi
  have h4 : (wdsE (txt k))[i] = mkB l := by simp only [hw, List.getElem_map, he]
  have h5 : (wdsE (txt k))[i] ≠ gapB := by
    rw [h4]; intro e
    have : l = [45] := mkB_inj (e.trans (show gapB = mkB [45] from rfl))
    rw [this] at h3; simp at h3
  rw [nameV_at hl h5, h4]

theorem tok_sync : tokV 0 { data := #[83, 121, 110, 99] } = 42 := tok_calc (i := 37) (txt_pos (.inl rfl)) (by kernel_rfl) (by kernel_rfl) (by kernel_rfl)
theorem tok_devinf : tokV 2 { data := #[68, 101, 118, 73, 110, 102] } = 10 := tok_calc (i := 5) (txt_pos (.inr (.inr rfl))) (by kernel_rfl) (by kernel_rfl) (by kernel_rfl)
theorem tok_anchor : tokV 0 { data := #[65, 110, 99, 104, 111, 114] } = 0 := tok_calc0 (l := [65, 110, 99, 104, 111, 114]) (txt_pos (.inl rfl)) (by kernel_rfl)
theorem name_anchor : nameV 1 5 = { data := #[65, 110, 99, 104, 111, 114] } := name_calc (i := 0) (txt_pos (.inr (.inl rfl))) (by kernel_rfl) (by kernel_rfl)
end Go.Proofs.YtcpmgnejbfnnjaaDoor
