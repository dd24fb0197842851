/- parts: a slice of texts that came in; PartsTells' law. No condition. -/
import Derived.Test.YtcpmgnejbfnnjaaPtU
import Derived.ProofKit
import Derived.OpenShut
import Derived.Deep.Strs
import Derived.SizedLaws
namespace Go.Proofs.Ytcpmgnejbfnnjaa
open Go.RowKit Go.ChangeShapes Go.WideShapes Go.Deep

/-- what is read of the datum is within the form's reach -/
def SizedAt {H : Type} (P : Program) (t : TypeId) (d : DataW H) : Prop := ∃ (ts : List TypeId) (ds : List (DataW H)) (j : Nat), (DataW.weightsEach P ts ds).all (· ≤ reachBytes) = true ∧ ts[j]? = some t ∧ ds[j]? = some d
theorem SizedAt.le {H : Type} {P : Program} {t : TypeId} {d : DataW H} (h : SizedAt P t d) : ∀ n ∈ d.weights P t, n ≤ reachBytes := fun n hn => by
  obtain ⟨ts, ds, j, ha, ht, hd⟩ := h
  have := List.all_eq_true.1 ha n (DataW.weights_mem_each ht hd n hn)
  simpa using this
theorem weightsAll_mem {H : Type} {P : Program} {e : TypeId} {l : List (DataW H)} {d : DataW H} (h : d ∈ l) : ∀ n ∈ d.weights P e, n ∈ DataW.weightsAll P e l := by
  induction l with
  | nil => cases h
  | cons x l ih =>
    intro n hn
    rw [DataW.weightsAll, List.mem_append]
    rcases List.mem_cons.1 h with rfl | h
    · exact .inl hn
    · exact .inr (ih h n hn)

theorem addr_add_none (b o k : Nat) : (⟨b, o, none⟩ : Addr).add k = ⟨b, o + k, none⟩ := by
  unfold Addr.add; split <;> simp_all

set_option maxRecDepth 100000 in
theorem open_list {H : Type} {enc : TypeId × Value → H} {W : World} {v : Value} {d : DataW H} {p : List MemPlace}
    (k : DataW.Trod enc Try.prog W 0 (fun _ => true) true 52 v d p) {base : Nat} (ok0 : Value.okWide Try.prog W .any base 52 v) (hz : SizedAt Try.prog 52 d) :
    ∃ (a : Option Addr) (c : Nat) (l : List ByteArray), v = .slice a l.length c ∧ Txts W a l ∧ l.length ≤ 140737488355328 ∧ (∀ x ∈ l, x.size ≤ 140737488355328) ∧ (a = none → l = [] ∧ c = 0) := by
  obtain ⟨fuel, hf⟩ := k
  obtain ⟨a0, len0, cap0, rfl⟩ := Go.WideShapes.okWide_slice Try.underlying52 ok0
  rcases open_strs Try.underlying52 Try.underlying9 (by kernel_rfl) hf with ⟨h0, _⟩ | ⟨a, len, cap, m, Sx, hcs, _, hl, hm, hmm, hx, hi⟩
  · refine ⟨none, 0, [], ?_, fun i hi => by simp at hi, by decide, fun x hx => by simp at hx, fun _ => ⟨rfl, rfl⟩⟩
    simpa [Value.cells] using h0
  · have hv : Value.slice a0 len0 cap0 = .slice (some a) len cap := by
      simpa [Value.cells] using hcs
    have hlen : ((List.range len).map Sx).length = len := by simp
    have hmc : m = cap := by rw [hmm]; simp
    subst hmc
    have hw := hz.le
    simp only [Prod.mk.injEq] at hx
    rw [hx.1] at hw
    have hb : Try.prog.bytesOf 9 = 16 := by kernel_rfl
    have hwt : ∀ n, n ∈ DataW.weights Try.prog 52 (.slice ((List.range len).map fun i => (.lit (.string (Sx i).data.toList) : DataW H)) ((List.range (m - len)).map fun j => .lit (.string (Sx (len + j)).data.toList))) → n ≤ reachBytes := hw
    simp only [DataW.weights, Try.underlying52, hb] at hwt
    have h1 := hwt _ (List.mem_cons_self ..)
    refine ⟨some a, m, (List.range len).map Sx, by rw [hv, hlen], fun i hi' => ?_, ?_, fun x hx' => ?_, fun h => by cases h⟩
    · have hil : i < len := by simpa using hi'
      obtain ⟨b, o, sp⟩ := a
      obtain ⟨hc, _⟩ := hi i (by omega)
      have c0 := (hi 0 (by omega)).1
      obtain rfl : sp = none := by simpa [Addr.add] using World.cell?_spot c0
      rw [addr_add_none] at hc
      exact ⟨b, o, rfl, World.block_lt_of_cell? _ _ hc, by rw [hc]; simp⟩
    · rw [hlen]
      simp only [List.length_map, List.length_range, reachBytes] at h1
      omega
    · obtain ⟨i, hi', rfl⟩ := List.mem_map.1 hx'
      have h2 := hwt (Sx i).data.toList.length (List.mem_cons_of_mem _ (List.mem_append.2 (.inl (weightsAll_mem (List.mem_map.2 ⟨i, hi', rfl⟩) _ (by simp [DataW.weights])))))
      rw [len_toList] at h2
      simp only [reachBytes] at h2
      omega

theorem tellsP_law {H : Type} {enc : TypeId × Value → H} {W : World} (s : ByteArray) (_ : s.size ≤ 140737488351232) (v1 : Value) (d1 : DataW H) (p1 : List MemPlace) (k1 : DataW.Trod enc Try.prog W 0 (fun _ => true) true 52 v1 d1 p1) {base : Nat} (ok1 : Value.okWide Try.prog W .any base 52 v1) (_ : ∀ x ∈ p1, x.block < W.heap.size) (z1 : SizedAt Try.prog 52 d1) (_ : World) :
    Calls Try.prog 7 #[.string s, v1] W fun e w' => e = .returned (.bool true) ∧ Below W.heap.size W w' := by
  obtain ⟨a, c, l, rfl, h1, h2, h3, h4⟩ := open_list k1 ok1 z1
  exact tellsP_walk s a c l W h1 h2 h3 h4
end Go.Proofs.Ytcpmgnejbfnnjaa
