/- TreeTells over an element that came in. No condition. -/
import Derived.Test.YtdaiijkanfjklaaDoorTrU
import Derived.Test.YtdaiijkanfjklaaDoorTrO
namespace Go.Proofs.YtdaiijkanfjklaaDoor
open Go.RowKit Go.ChangeShapes Go.WideShapes

theorem elem_of {H : Type} {enc : TypeId × Value → H} {W : World} {v : Value} {d : DataW H} {p : List MemPlace} (k : DataW.Trod enc Tryd.prog W 0 (fun _ => true) true 24 v d p) {base : Nat} (ok : Value.okWide Tryd.prog W .any base 24 v)
    (hz : ∀ q ∈ d.weights Tryd.prog 24, q ≤ reachBytes) : ∃ e : Tr, AtT W W.heap.size e v := by
  obtain ⟨cs, rfl, hsz⟩ := okWide_struct Tryd.underlying24 ok
  obtain ⟨fuel, hf⟩ := k
  exact open_tr fuel _ _ hf hz

theorem treeTells_law {H : Type} {enc : TypeId × Value → H} {W : World} (v : Value) (d : DataW H) (p : List MemPlace) (k : DataW.Trod enc Tryd.prog W 0 (fun _ => true) true 24 v d p) {base : Nat} (ok : Value.okWide Tryd.prog W .any base 24 v)
    (hz : ∀ q ∈ d.weights Tryd.prog 24, q ≤ reachBytes) (hT : Lib.Utf8Tabs 0 1 W) : Calls Tryd.prog 3 #[v] W fun e w' => e = .returned (.bool true) ∧ Below W.heap.size W w' := by
  obtain ⟨e, he⟩ := elem_of k ok hz
  exact treeTells_walk e v W he hT
end Go.Proofs.YtdaiijkanfjklaaDoor
