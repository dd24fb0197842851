/- tree: append of a list of elements that may be nil. No condition but how many. -/
import Derived.Test.YtgechifbbhipaaaDoorTrN
import Derived.Laws.AppendOwnNone
set_option linter.unusedVariables false
set_option linter.unusedSimpArgs false
namespace Go.Proofs.YtgechifbbhipaaaDoor
open Go.RowKit

theorem wpList_appR {P : Program} {w : World} {ops : Array Oper} {rest : List Oper} {o : Oper} {a : Act} {Q : Exit → Act → World → Prop} (hgd : o.guard = none) (s x : Operand) (t : TypeId)
    (ho : o.op = .call { callee := .builtin .append, args := #[s, x], argTypes := #[t, t] })
    (base : Nat) (e : TypeId) (i : TypeInfo) (z : Value) (size bytes : Nat) (ht : P.underlying t = some (.slice e)) (hi : P.info? e = some i) (hz : i.zero = some z)
    (hsize : i.size = size) (hby : i.bytes = bytes) (hzs : z.cells.size = size) (hsz : 0 < size)
    (v : Value) (n : Nat) (xs : List Value) (hs : a.eval s = v) (hown : w.ownsRow base e size v n xs)
    (ad : Option Addr) (m c : Nat) (news : List Value) (hx : a.eval x = .slice ad m c) (hl : news.length = m * size) (hnone : ad = none → m = 0 ∧ c = 0) (hnews : ∀ q, ad = some q → ∀ j u, news[j]? = some u → w.cell? (q.add j) = some u) (h1 : ∀ u ∈ news, u.oneCell' = true)
    (h63 : n + m ≤ maxLen) (hbytes : (n + m) * bytes ≤ 140737488355328) (hbase : base ≤ w.heap.size)
    (h : ∀ a' c' w', w'.ownsRow base e size (.slice a' (n + m) c') (n + m) (xs ++ news) → Below base w w' → w.grownBy w' v.ownBlock → wpList P ops Q rest (a.put o.dst (.slice a' (n + m) c')) w') :
    wpList P ops Q (o :: rest) a w := by
  have form : ∀ {W : World} {v : Value} {n : Nat} {xs : List Value}, W.ownsRow base e size v n xs → ∃ a' c', v = .slice a' n c' := by
    intro W v n xs h
    rcases h.2 with ⟨rfl, rfl⟩ | ⟨g, cap, _, rfl, _⟩
    · exact ⟨none, 0, rfl⟩
    · exact ⟨_, cap, rfl⟩
  cases ad with
  | none =>
    obtain ⟨rfl, rfl⟩ := hnone rfl
    obtain rfl : news = [] := List.eq_nil_of_length_eq_zero (by omega)
    refine wpList_append_own_none hgd s x t ho base e i size ht hi v n xs hs hown hx ?_
    obtain ⟨a', c', rfl⟩ := form hown
    exact h a' c' w (by rw [List.append_nil]; exact hown) (Below.refl _ _) (World.grownBy.refl w _)
  | some ad =>
    refine wpList_append_own_at _ hgd s x t ho base e i z size bytes ht hi hz hsize hby hzs hsz v n xs hs hown ad m c news hx hl (hnews ad rfl) h1 h63 hbytes hbase ?_
    intro v' w' hown' hgr _ _
    obtain ⟨a', c', rfl⟩ := form hown'
    exact h a' c' w' hown' ((Below.refl _ w).grown hgr hbase (fun k hk => (hown.lt k hk).1)) hgr

/-- the cells of kids, whether there are any or not -/
theorem AtL.src {w : World} {M : Nat} {a : Option Addr} {ks : List Tr} (h : AtL w M a 0 ks) : ∃ xs, KL w M ks xs ∧ (∀ q, a = some q → ∀ j u, xs[j]? = some u → w.cell? (q.add j) = some u) := by
  cases ks with
  | nil => exact ⟨[], rfl, fun q _ j u h => by simp at h⟩
  | cons k l =>
    have h2 := h
    unfold AtL at h2
    obtain ⟨⟨b, o, v, h1, _⟩, _⟩ := h2
    subst h1
    obtain ⟨xs, k1, k2⟩ := AtL.kl h
    refine ⟨xs, k1, fun q hq j u hu => ?_⟩
    simp only [Option.some.injEq] at hq
    subst hq
    rw [addr_addN]; simpa using k2 j u hu
theorem own_nil {w : World} {B : Nat} {e : TypeId} {sz n c : Nat} {a : Option Addr} {xs : List Value} (h : w.ownsRow B e sz (.slice a n c) n xs) (ha : a = none) : n = 0 ∧ c = 0 := by
  subst ha
  rcases h.2 with ⟨hv, h0⟩ | ⟨g, cap, cur, hv, _⟩
  · simp only [Value.slice.injEq] at hv; exact ⟨h0, hv.2.2⟩
  · simp at hv
end Go.Proofs.YtgechifbbhipaaaDoor
