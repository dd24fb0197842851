/- Laws and small words of my own, over any program: bytes of a string, plain facts on lists. No condition. -/
import Derived.WalkKit
import Derived.WalkSpells
import Derived.WalkLawsBesides
import Derived.Lib.Hide
import Derived.Deep.AppendLies
import Derived.ArgAppend
import Derived.Laws.AppendOwnNone
import Derived.Deep.RegionLaw
import Derived.Deep.QuietTactic
import Derived.BigQuiet
import Derived.RegionTactic
import Derived.Outline
import Derived.Deep.RegionHeld3
import Derived.RangeFuncBox
import Derived.RangeFuncLeaves
import Derived.RangeFuncNested
import Derived.RangeFuncBound
import Derived.RangeFuncCalls
import Derived.Shelf.Abstract
import Derived.OwnWalkIn
import Derived.TacticsInMore
import Derived.LoopNIn
import Derived.LoopIn
import Derived.Maps.AppendAt
set_option linter.unusedVariables false
set_option linter.unusedSimpArgs false
namespace Go.Proofs.YtgechifbbhipaaaDoor
open Go.RowKit

theorem bat_get (s : ByteArray) (k : Nat) (h : k < s.size) : s.data.toList[k]? = some s[k] := by
  have h' : k < s.data.size := h
  rw [Array.getElem?_toList, Array.getElem?_eq_getElem h']; rfl

theorem drop_cons_at (s : ByteArray) (k : Nat) (h : k < s.size) : s.data.toList.drop k = s[k] :: s.data.toList.drop (k + 1) := by
  have h' : k < s.data.toList.length := by simpa using h
  rw [List.drop_eq_getElem_cons h']
  congr 1

theorem drop_all (s : ByteArray) (k : Nat) (h : ¬ k < s.size) : s.data.toList.drop k = [] := by
  have h2 : s.data.toList.length = s.size := by simp
  exact List.drop_of_length_le (by omega)

theorem len_toList (s : ByteArray) : s.data.toList.length = s.size := by simp

theorem empty_of_size (s : ByteArray) (h : s.size = 0) : s = ByteArray.empty := by
  cases s with
  | mk d =>
    have h' : d.size = 0 := h
    have : d = #[] := by simpa using h'
    subst this; rfl

/-- the conversion of a string to bytes: a new block, whose first cells are the bytes. -/
theorem wpList_bytes {P : Program} (w : World) {ops : Array Oper} {rest : List Oper} {o : Oper} {a : Act} {Q : Exit → Act → World → Prop}
    (hg : o.guard = none) (x : Operand) (src dst e : TypeId) (hop : o.op = Op.convert src dst x)
    (hs : P.underlying src = some .string) (hd : P.underlying dst = some (.slice e)) (he : P.underlying e = some (.int .u8)) (s : ByteArray) (hx : a.eval x = .string s)
    (hK : ∀ cap w', s.size ≤ cap → (∀ j (_ : j < s.size), w'.cell? ⟨w.heap.size, j, none⟩ = some (.int .u8 (s[j].toNat : Int))) → Below w.heap.size w w' → w.heap.size < w'.heap.size →
      (∀ j, j < s.size → w'.frozen? ⟨w.heap.size, j, none⟩ = false) →
      wpList P ops Q rest (a.put o.dst (.slice (some ⟨w.heap.size, 0, none⟩) s.size cap)) w') :
    wpList P ops Q (o :: rest) a w := by
  refine wpList_plain hg fun K hK' => ?_
  have hrun := run_bytes_of_string (P := P) w src dst e s hs hd he
  unfold Oper.wp
  have hb : Below w.heap.size w (w.drew.alloc (.cells (bytesRow s (grownCap w s.size 0 e)) e ((bytesRow s (grownCap w s.size 0 e)).size, (bytesRow s (grownCap w s.size 0 e)).size + 1))) :=
    ((Below.refl _ w).drew).alloc (Nat.le_refl _) _
  have hcell : ∀ j (h : j < s.size), (w.drew.alloc (.cells (bytesRow s (grownCap w s.size 0 e)) e ((bytesRow s (grownCap w s.size 0 e)).size, (bytesRow s (grownCap w s.size 0 e)).size + 1))).cell? ⟨w.heap.size, j, none⟩ = some (.int .u8 (s[j].toNat : Int)) := fun j h => by
    have := World.cell?_alloc_mark w.drew (bytesRow s (grownCap w s.size 0 e)) e ((bytesRow s (grownCap w s.size 0 e)).size, (bytesRow s (grownCap w s.size 0 e)).size + 1) j
    rw [bytesRow_at s _ j h] at this
    exact this
  have hfr : ∀ j, j < s.size → (w.drew.alloc (.cells (bytesRow s (grownCap w s.size 0 e)) e ((bytesRow s (grownCap w s.size 0 e)).size, (bytesRow s (grownCap w s.size 0 e)).size + 1))).frozen? ⟨w.heap.size, j, none⟩ = false := fun j h => by
    have := World.frozen?_alloc_mark w.drew (bytesRow s (grownCap w s.size 0 e)) e (bytesRow s (grownCap w s.size 0 e)).size ((bytesRow s (grownCap w s.size 0 e)).size + 1) j
    have h3 : s.size ≤ (bytesRow s (grownCap w s.size 0 e)).size := by
      simp [bytesRow]
    refine Eq.trans this ?_
    simp; omega
  have hk := hK (grownCap w s.size 0 e) _ (grownCap_ge _ _ _ _) hcell hb (by simp) hfr
  simp [execOp, hop, hx, hrun, Result.andThen]
  exact hK' _ _ hk

/-- A slice type t of one-cell elements of type e. -/
structure Sl1 (P : Program) (t e : TypeId) (z : Value) (by_ : Nat) : Prop where
  ht : P.underlying t = some (.slice e)
  info : (P.info? e).map (fun i => (i.zero, i.size, i.bytes)) = some (some z, 1, by_)
  hz : z.cells.size = 1

/-- Where a slice's row lies behind an append: where it lay, or in new memory. -/
def Moved (w0 : World) (v v' : Value) : Prop := ∀ k, v'.ownBlock = some k → v.ownBlock = some k ∨ w0.heap.size ≤ k

theorem Moved.ne {w0 : World} {v v' : Value} (h : Moved w0 v v') {b : Nat} (hb : b < w0.heap.size) (hv : v.ownBlock ≠ some b) : v'.ownBlock ≠ some b := by
  intro e; rcases h b e with h | h
  · exact hv h
  · omega

theorem owns_below {w w' : World} {B : Nat} {e : TypeId} {sz : Nat} {v : Value} {n : Nat} {xs : List Value} (h : w.ownsRow B e sz v n xs) {C : Nat} (hb : Below C w w') (hC : ∀ k, v.ownBlock = some k → k < C) : w'.ownsRow B e sz v n xs := by
  refine ⟨h.1, ?_⟩
  rcases h.2 with h2 | ⟨g, cap, cur, hv, hg, hh, r⟩
  · exact .inl h2
  · exact .inr ⟨g, cap, cur, hv, hg, by rw [hb.block g (hC g (by rw [hv]; rfl))]; exact hh, r⟩

theorem owns_after {w w' : World} {B : Nat} {e : TypeId} {sz : Nat} {v : Value} {n : Nat} {xs : List Value} (h : w.ownsRow B e sz v n xs) (hb : Below w.heap.size w w') : w'.ownsRow B e sz v n xs :=
  owns_below h hb (fun k hk => (h.lt k hk).2)

/-- append, the core: the new cells lie at 'ad'. -/
theorem wpList_appCore {P : Program} (w : World) {ops : Array Oper} {rest : List Oper} {o : Oper} {a : Act} {Q : Exit → Act → World → Prop}
    (hg : o.guard = none) (s y : Operand) (t e : TypeId) (z : Value) (b : Nat) (S : Sl1 P t e z b)
    (hop : o.op = Op.call { callee := Callee.builtin Builtin.append, args := #[s, y], argTypes := #[t, t] })
    (B : Nat) (v : Value) (xs news : List Value) (hs : a.eval s = v) (ad : Addr) (m c : Nat) (hy : a.eval y = .slice (some ad) m c) (hm : news.length = m) (h1 : ∀ u ∈ news, u.oneCell' = true)
    (hc : ∀ j u, news[j]? = some u → w.cell? (ad.add j) = some u)
    (own : w.ownsRow B e 1 v xs.length xs) (h63 : xs.length + m ≤ maxLen) (hb : (xs.length + m) * b ≤ 140737488355328) (hB : B ≤ w.heap.size)
    (hK : ∀ a' cap' w', w'.ownsRow B e 1 (.slice a' (xs.length + m) cap') (xs.length + m) (xs ++ news) → w.grownBy w' v.ownBlock → Moved w v (.slice a' (xs.length + m) cap') →
      wpList P ops Q rest (a.put o.dst (.slice a' (xs.length + m) cap')) w') :
    wpList P ops Q (o :: rest) a w := by
  obtain ⟨i0, hi, hz0, hz1, hz2⟩ := info_parts S.info
  have fin : ∀ (ao : Option Addr) (cap : Nat) (_ : v = .slice ao xs.length cap) (_ : ao = none → xs.length = 0 ∧ cap = 0) (_ : ∀ b, ao = some b → ∀ j u, xs[j]? = some u → w.cell? (b.add j) = some u), cap < xs.length + m → wpList P ops Q (o :: rest) a w := by
    intro ao cap hv hnone hcells hfull
    refine wpList_append_grows w hg s y t hop e i0 z 1 b S.ht hi hz0 hz1 hz2 S.hz (by decide) ao xs.length cap xs (hs.trans hv) hnone (by omega) hcells ad m c news hy (by omega) hc h1 hfull h63 hb ?_
    intro v' w' hown hgr
    have hgr' : w.grownBy w' v.ownBlock := ⟨hgr.os, hgr.tape, hgr.output, hgr.size, fun k hk _ => hgr.block k hk (by simp)⟩
    have hown' : w'.ownsRow B e 1 v' (xs.length + m) (xs ++ news) := by
      refine ⟨hown.1, ?_⟩
      rcases hown.2 with h | ⟨g, cap, cur, h1, h2, h3⟩
      · exact .inl h
      · exact .inr ⟨g, cap, cur, h1, Nat.le_trans hB h2, h3⟩
    have hmv : Moved w v v' := fun k hk => .inr (hown.lt k hk).1
    rcases hown.2 with ⟨rfl, hn⟩ | ⟨g, cap, cur, rfl, hrest⟩
    · have hk := hK none 0 w' (by rw [hn] at hown' ⊢; exact hown') hgr' (by rw [hn]; exact hmv)
      rw [hn] at hk
      exact hk
    · exact hK (some ⟨g, 0, none⟩) cap w' hown' hgr' hmv
  rcases own.2 with ⟨hv, hn⟩ | ⟨g, cap, cur, hv, hgB, hgg, hnc, hcm, hcs, htake⟩
  · by_cases hm0 : m = 0
    · subst hm0
      obtain rfl : news = [] := List.eq_nil_of_length_eq_zero hm
      subst hv
      refine wpList_append_own w hg s y t hop B e i0 z 1 b S.ht hi hz0 hz1 hz2 S.hz (by decide) (.slice none 0 0) xs.length xs hs own ad 0 c [] hy rfl (fun j u hu => by simp at hu) (fun u hu => by simp at hu) h63 hb hB ?_
      intro v' w' hown hgr hnil
      obtain rfl := hnil.2 ⟨rfl, rfl⟩
      have hk := hK none 0 w' (by rw [hn]; rw [hn] at hown; exact hown) hgr (by intro k hk; simp [Value.ownBlock] at hk)
      rw [hn] at hk
      exact hk
    · exact fin none 0 (by rw [hv, hn]) (fun _ => ⟨hn, rfl⟩) (fun b hb => by cases hb) (by omega)
  · by_cases hfit : xs.length + m ≤ cap
    · subst hv
      refine wpList_append_fits w hg s y t hop B e i0 1 S.ht hi hz1 g xs.length cap xs hs own ad m c news hy (by omega) hc h1 hfit ?_
      intro w' hown hgr
      exact hK (some ⟨g, 0, none⟩) cap w' hown hgr (fun k hk => .inl hk)
    · exact fin (some ⟨g, 0, none⟩) cap hv (fun h => by cases h) (fun b hb j u hu => by cases hb; exact own.cells (g := g) (by rw [hv]; rfl) j u hu) (by omega)

/-- append of new cells that a literal has just laid, onto a slice of the call's own. -/
theorem wpList_app {P : Program} (w0 : World) {ops : Array Oper} {rest : List Oper} {o : Oper} {a : Act} {Q : Exit → Act → World → Prop}
    (hg : o.guard = none) (s y : Operand) (t e : TypeId) (z : Value) (b : Nat) (S : Sl1 P t e z b)
    (hop : o.op = Op.call { callee := Callee.builtin Builtin.append, args := #[s, y], argTypes := #[t, t] })
    (B : Nat) (v : Value) (xs news : List Value) (hs : a.eval s = v) (m c : Nat) (hy : a.eval y = .slice (some ⟨w0.heap.size, 0, none⟩) m c) (hm : news.length = m) (h1 : ∀ u ∈ news, u.oneCell' = true)
    (own : w0.ownsRow B e 1 v xs.length xs) (h63 : xs.length + m ≤ maxLen) (hb : (xs.length + m) * b ≤ 140737488355328) (hB : B ≤ w0.heap.size)
    (hK : ∀ a' cap' w', w'.ownsRow B e 1 (.slice a' (xs.length + m) cap') (xs.length + m) (xs ++ news) → w0.grownBy w' v.ownBlock → Moved w0 v (.slice a' (xs.length + m) cap') → Below B w0 w' →
      wpList P ops Q rest (a.put o.dst (.slice a' (xs.length + m) cap')) w') :
    wpList P ops Q (o :: rest) a (w0.alloc (.cells news.toArray e)) := by
  refine wpList_appCore _ hg s y t e z b S hop B v xs news hs ⟨w0.heap.size, 0, none⟩ m c hy hm h1 (fun j u hu => ?_) (own.alloc _) h63 hb (by simp; omega) ?_
  · rw [show (⟨w0.heap.size, 0, none⟩ : Addr).add j = ⟨w0.heap.size, j, none⟩ from by unfold Addr.add; split <;> simp_all]
    rw [World.cell?_alloc_at _ _ _ _ rfl]
    simpa using hu
  · intro a' cap' w' hown hgr hmv
    exact hK a' cap' w' hown
      ⟨hgr.os, hgr.tape, hgr.output, Nat.le_trans (by simp) hgr.size, fun k hk hne => (hgr.block k (by simp; omega) hne).trans (Below.heap_alloc _ _ _ hk)⟩
      (fun k hk => (hmv k hk).imp id (fun h => by simp at h; omega))
      (((Below.refl B w0).alloc hB _).grown hgr (by simp; omega) (fun k hk => (own.lt k hk).1))

/-- the same at one new cell. -/
theorem wpList_app1 {P : Program} (w0 : World) (x : Value) {ops : Array Oper} {rest : List Oper} {o : Oper} {a : Act} {Q : Exit → Act → World → Prop}
    (hg : o.guard = none) (s y : Operand) (t e : TypeId) (z : Value) (b : Nat) (S : Sl1 P t e z b)
    (hop : o.op = Op.call { callee := Callee.builtin Builtin.append, args := #[s, y], argTypes := #[t, t] })
    (B : Nat) (v : Value) (n : Nat) (xs : List Value) (hs : a.eval s = v) (hy : a.eval y = .slice (some ⟨w0.heap.size, 0, none⟩) 1 1) (hx : x.oneCell' = true)
    (own : w0.ownsRow B e 1 v n xs) (h63 : n + 1 ≤ maxLen) (hb : (n + 1) * b ≤ 140737488355328) (hB : B ≤ w0.heap.size)
    (hK : ∀ a' cap' w', w'.ownsRow B e 1 (.slice a' (n + 1) cap') (n + 1) (xs ++ [x]) → w0.grownBy w' v.ownBlock → Moved w0 v (.slice a' (n + 1) cap') → Below B w0 w' →
      wpList P ops Q rest (a.put o.dst (.slice a' (n + 1) cap')) w') :
    wpList P ops Q (o :: rest) a (w0.alloc (.cells #[x] e)) := by
  have hn : xs.length = n := by have := own.1; omega
  subst hn
  exact wpList_app w0 hg s y t e z b S hop B v xs [x] hs 1 1 hy rfl (by simpa using hx) own h63 hb hB hK

/-- the same at two new cells. -/
theorem wpList_app2 {P : Program} (w0 : World) (x x2 : Value) {ops : Array Oper} {rest : List Oper} {o : Oper} {a : Act} {Q : Exit → Act → World → Prop}
    (hg : o.guard = none) (s y : Operand) (t e : TypeId) (z : Value) (b : Nat) (S : Sl1 P t e z b)
    (hop : o.op = Op.call { callee := Callee.builtin Builtin.append, args := #[s, y], argTypes := #[t, t] })
    (B : Nat) (v : Value) (n : Nat) (xs : List Value) (hs : a.eval s = v) (hy : a.eval y = .slice (some ⟨w0.heap.size, 0, none⟩) 2 2) (hx : x.oneCell' = true) (hx2 : x2.oneCell' = true)
    (own : w0.ownsRow B e 1 v n xs) (h63 : n + 2 ≤ maxLen) (hb : (n + 2) * b ≤ 140737488355328) (hB : B ≤ w0.heap.size)
    (hK : ∀ a' cap' w', w'.ownsRow B e 1 (.slice a' (n + 2) cap') (n + 2) (xs ++ [x, x2]) → w0.grownBy w' v.ownBlock → Moved w0 v (.slice a' (n + 2) cap') → Below B w0 w' →
      wpList P ops Q rest (a.put o.dst (.slice a' (n + 2) cap')) w') :
    wpList P ops Q (o :: rest) a (w0.alloc (.cells #[x, x2] e)) := by
  have hn : xs.length = n := by have := own.1; omega
  subst hn
  exact wpList_app w0 hg s y t e z b S hop B v xs [x, x2] hs 2 2 hy rfl (by simp [hx, hx2]) own h63 hb hB hK

/-- append of another owned row onto a slice of the call's own (or a fresh literal). -/
theorem wpList_appRow {P : Program} (w0 : World) {ops : Array Oper} {rest : List Oper} {o : Oper} {a : Act} {Q : Exit → Act → World → Prop}
    (hg : o.guard = none) (s y : Operand) (t e : TypeId) (z : Value) (b : Nat) (S : Sl1 P t e z b)
    (hop : o.op = Op.call { callee := Callee.builtin Builtin.append, args := #[s, y], argTypes := #[t, t] })
    (B : Nat) (v : Value) (xs : List Value) (B2 : Nat) (a2 : Option Addr) (m c : Nat) (ys : List Value) (hs : a.eval s = v) (hy : a.eval y = .slice a2 m c) (hm : ys.length = m) (h1 : ∀ u ∈ ys, u.oneCell' = true)
    (own : w0.ownsRow B e 1 v xs.length xs) (own2 : w0.ownsRow B2 e 1 (.slice a2 m c) m ys) (h63 : xs.length + m ≤ maxLen) (hb : (xs.length + m) * b ≤ 140737488355328) (hB : B ≤ w0.heap.size)
    (hK : ∀ a' cap' w', w'.ownsRow B e 1 (.slice a' (xs.length + m) cap') (xs.length + m) (xs ++ ys) → w0.grownBy w' v.ownBlock → Moved w0 v (.slice a' (xs.length + m) cap') → Below B w0 w' →
      wpList P ops Q rest (a.put o.dst (.slice a' (xs.length + m) cap')) w') :
    wpList P ops Q (o :: rest) a w0 := by
  obtain ⟨i0, hi, hz0, hz1, hz2⟩ := info_parts S.info
  rcases own2.2 with ⟨h, h0⟩ | ⟨g2, cap2, cur2, h, hb2, hg2, hn2, hc2, hsz2, ht2⟩
  · simp only [Value.slice.injEq] at h
    obtain ⟨rfl, rfl, rfl⟩ := h
    obtain rfl : ys = [] := List.eq_nil_of_length_eq_zero hm
    refine wpList_append_own_none hg s y t hop B e i0 1 S.ht hi v xs.length xs hs own hy ?_
    rcases own.2 with ⟨rfl, hn⟩ | ⟨g, cap, cur, rfl, hrest⟩
    · have hk := hK none 0 w0 (by rw [List.append_nil, Nat.add_zero]; rw [hn] at own ⊢; exact own) (World.grownBy.refl _ _) (by intro k hk; simp [Value.ownBlock] at hk) (Below.refl _ _)
      rw [Nat.add_zero, hn] at hk
      exact hk
    · exact hK (some ⟨g, 0, none⟩) cap w0 (by rw [List.append_nil]; exact own) (World.grownBy.refl _ _) (fun k hk => .inl hk) (Below.refl _ _)
  · simp only [Value.slice.injEq] at h
    obtain ⟨rfl, _, rfl⟩ := h
    refine wpList_appCore w0 hg s y t e z b S hop B v xs ys hs ⟨g2, 0, none⟩ m c hy hm h1 (fun j u hu => own2.cells (g := g2) rfl j u hu) own h63 hb hB ?_
    intro a' cap' w' hown hgr hmv
    exact hK a' cap' w' hown hgr hmv ((Below.refl B w0).grown hgr hB (fun k hk => (own.lt k hk).1))

/-- A literal of one-cell elements is owned. -/
theorem owns_lit (w : World) (B : Nat) (e : TypeId) (xs : List Value) (hB : B ≤ w.heap.size) (hm : xs.length ≤ maxLen) :
    (w.alloc (.cells xs.toArray e)).ownsRow B e 1 (.slice (some ⟨w.heap.size, 0, none⟩) xs.length xs.length) xs.length xs := by
  have := World.ownsRow_lit (base := B) (e := e) (size := 1) w xs.toArray xs.length hB hm (by simp)
  simpa using this

/-- 'string(b)', b a slice of the call's own: the run. -/
theorem run_str {P : Program} (w : World) (src dst e : TypeId)
    (hs : P.underlying src = some (.slice e)) (hd : P.underlying dst = some .string) (he : P.underlying e = some (.int .u8)) (B : Nat) (v : Value) (n : Nat) (l : List Int)
    (own : w.ownsRow B e 1 v n (l.map (Value.int .u8))) : (convert src dst v).run P w = .ok (.string (strOfNums l)) w := by
  have hlen : l.length = n := by have := own.1; simpa using this
  rcases own.2 with ⟨rfl, h0⟩ | ⟨g, cap, cur, rfl, hb, hgg, hn, hc, hsz, ht⟩
  · obtain rfl : l = [] := List.eq_nil_of_length_eq_zero (by omega)
    exact run_convert_bytes_nil (P := P) w src e hs he 0 0 dst hd
  · exact run_convert_bytes_arg (P := P) w src e hs he g 0 n cap l hlen (fun i hi => by
      rw [Nat.zero_add, own.cellAt i (by omega)]
      rw [List.getElem?_map, List.getD_eq_getElem?_getD, List.getElem?_eq_getElem (by omega)]
      rfl) dst hd

/-- 'append([]T{x}, b...)', b a slice of the call's own. -/
theorem wpList_prep {P : Program} (w0 : World) (x : Value) {ops : Array Oper} {rest : List Oper} {o : Oper} {a : Act} {Q : Exit → Act → World → Prop}
    (hg : o.guard = none) (s y : Operand) (t e : TypeId) (z : Value) (b : Nat) (S : Sl1 P t e z b)
    (hop : o.op = Op.call { callee := Callee.builtin Builtin.append, args := #[s, y], argTypes := #[t, t] })
    (B : Nat) (a2 : Option Addr) (m c : Nat) (ys : List Value) (hs : a.eval s = .slice (some ⟨w0.heap.size, 0, none⟩) 1 1) (hy : a.eval y = .slice a2 m c) (h1 : ∀ u ∈ ys, u.oneCell' = true)
    (own2 : w0.ownsRow B e 1 (.slice a2 m c) m ys) (h63 : 1 + m ≤ maxLen) (hb : (1 + m) * b ≤ 140737488355328) (hB : B ≤ w0.heap.size)
    (hK : ∀ a' cap' w', w'.ownsRow B e 1 (.slice a' (m + 1) cap') (m + 1) (x :: ys) → Below w0.heap.size w0 w' →
      wpList P ops Q rest (a.put o.dst (.slice a' (m + 1) cap')) w') :
    wpList P ops Q (o :: rest) a (w0.alloc (.cells #[x] e)) := by
  have hm : ys.length = m := by have := own2.1; omega
  refine wpList_appRow (w0.alloc (.cells #[x] e)) hg s y t e z b S hop B (.slice (some ⟨w0.heap.size, 0, none⟩) 1 1) [x] B a2 m c ys hs hy hm h1
    (owns_lit w0 B e [x] hB (by simp [maxLen])) (own2.alloc _) h63 hb (by simp; omega) (fun a' cap' w' h2 h3 _ h4 => ?_)
  have h5 := hK a' cap' w' (by
    have e1 : [x].length + m = m + 1 := by simp; omega
    rw [e1] at h2
    simpa using h2) ?_
  · have e1 : [x].length + m = m + 1 := by simp; omega
    rw [e1]; exact h5
  · exact ((Below.refl _ w0).alloc (Nat.le_refl _) _).grown h3 (by simp) (fun k hk => by simp [Value.ownBlock] at hk; omega)

/-- 'string(b)', b a slice of the call's own. -/
theorem wpList_str {P : Program} (w : World) {ops : Array Oper} {rest : List Oper} {o : Oper} {a : Act} {Q : Exit → Act → World → Prop}
    (hg : o.guard = none) (x : Operand) (src dst e : TypeId) (hop : o.op = Op.convert src dst x)
    (hs : P.underlying src = some (.slice e)) (hd : P.underlying dst = some .string) (he : P.underlying e = some (.int .u8)) (B : Nat) (ad : Option Addr) (n c : Nat) (l : List Int) (hx : a.eval x = .slice ad n c)
    (own : w.ownsRow B e 1 (.slice ad n c) n (l.map (Value.int .u8)))
    (hK : wpList P ops Q rest (a.put o.dst (.string (strOfNums l))) w) :
    wpList P ops Q (o :: rest) a w := by
  refine wpList_plain hg fun K hK' => ?_
  unfold Oper.wp
  have hlen : l.length = n := by have := own.1; simpa using this
  rcases own.2 with ⟨h, h0⟩ | ⟨g, cap, cur, h, hb, hgg, hn, hc, hsz, ht⟩
  · simp only [Value.slice.injEq] at h
    obtain ⟨rfl, rfl, rfl⟩ := h
    obtain rfl : l = [] := List.eq_nil_of_length_eq_zero hlen
    have hrun := run_convert_bytes_nil (P := P) w src e hs he 0 0 dst hd
    simp [execOp, hop, hx, hrun, Result.andThen]
    exact hK' _ _ hK
  · simp only [Value.slice.injEq] at h
    obtain ⟨rfl, _, rfl⟩ := h
    have hrun := run_convert_bytes_arg (P := P) w src e hs he g 0 n c l hlen (fun i hi => by
      rw [Nat.zero_add, own.cellAt i (by omega)]
      rw [List.getElem?_map, List.getD_eq_getElem?_getD, List.getElem?_eq_getElem (by omega)]
      rfl) dst hd
    simp [execOp, hop, hx, hrun, Result.andThen]
    exact hK' _ _ hK

/-- append as a step of a region that draws: the new cells are a block that is known whole. -/
theorem step_app {P : Program} {w : World} {ops : Array Oper} {o : Oper} {a : Act} {K : Act → World → Prop} {Q : Exit → Act → World → Prop} {E : Prop}
    (hg : o.guard = none) (s y : Operand) (t e : TypeId) (z : Value) (b : Nat) (S : Sl1 P t e z b)
    (hop : o.op = Op.call { callee := Callee.builtin Builtin.append, args := #[s, y], argTypes := #[t, t] })
    (B : Nat) (v : Value) (n : Nat) (xs news : List Value) (hs : a.eval s = v) (H0 m c : Nat) (hy : a.eval y = .slice (some ⟨H0, 0, none⟩) m c) (hm : news.length = m) (hm0 : 0 < m) (h1 : ∀ u ∈ news, u.oneCell' = true)
    (hblk : w.heap[H0]? = some (.cells news.toArray e (0, 0)))
    (own : w.ownsRow B e 1 v n xs) (h63 : n + m ≤ maxLen) (hb : (n + m) * b ≤ 140737488355328) (hB : B ≤ w.heap.size)
    (hK : ∀ a' cap' w', w'.ownsRow B e 1 (.slice a' (n + m) cap') (n + m) (xs ++ news) → w.grownBy w' v.ownBlock → Moved w v (.slice a' (n + m) cap') → Below B w w' →
      K (a.put o.dst (.slice a' (n + m) cap')) w') :
    if Region.wanted o (yielded ops a.tmps) = true then Oper.wp P o a w K Q else E := by
  obtain ⟨i0, hi, hz0, hz1, hz2⟩ := info_parts S.info
  refine step_append_lies w hg s y t hop B e i0 z 1 b S.ht hi hz0 hz1 hz2 S.hz (by decide) v n xs hs own ⟨H0, 0, none⟩ m c news hy (by omega) (fun j u hu => ?_) h1 hm0 h63 hb hB w.heap.size rfl ?_
  · exact World.news_of_block hblk j u (by simpa using hu)
  · intro g cap w' hown hgr hat hlt
    exact hK (some ⟨g, 0, none⟩) cap w' hown hgr (fun k hk => by
      simp [Value.ownBlock] at hk; subst hk
      exact hat.imp id (fun h => by omega)) ((Below.refl B w).grown hgr hB (fun k hk => (own.lt k hk).1))

theorem block_new (w : World) (o : Obj) : (w.alloc o).heap[w.heap.size]? = some o := heap_alloc_new w o

/-- 'make([]T, 0, n)'. -/
theorem wpList_make1 {P : Program} (w : World) {ops : Array Oper} {rest : List Oper} {o : Oper} {a : Act} {Q : Exit → Act → World → Prop}
    (hg : o.guard = none) (l c : Operand) (t e : TypeId) (z : Value) (b : Nat) (S : Sl1 P t e z b) (hop : o.op = Op.makeSlice t l c)
    (B : Nat) (kl kc : IntKind) (C : Int) (n : Nat) (hl : a.eval l = .int kl 0) (hc : a.eval c = .int kc C) (hC : C = (n : Int)) (b2 : b * n ≤ 281474976710656) (b3 : n ≤ maxLen) (b4 : B ≤ w.heap.size)
    (hK : ∀ w', w'.ownsRow B e 1 (.slice (some ⟨w.heap.size, 0, none⟩) 0 n) 0 [] → Below w.heap.size w w' → wpList P ops Q rest (a.put o.dst (.slice (some ⟨w.heap.size, 0, none⟩) 0 n)) w') :
    wpList P ops Q (o :: rest) a w := by
  obtain ⟨i0, hi, hz0, hz1, hz2⟩ := info_parts S.info
  subst hz2
  exact wpList_make_own w hg l c t hop B e i0 z 1 S.ht hi hz0 hz1 kl kc C n hl hc hC b2 b3 b4 fun w' h1 h2 => hK w' h1 ((Below.refl _ w).grown h2 (Nat.le_refl _) (fun k hk => by cases hk))

/-- the bytes of s lie in block b from its head on. -/
def Src (w : World) (b : Nat) (s : ByteArray) : Prop := ∀ j (_ : j < s.size), w.cell? ⟨b, j, none⟩ = some (.int .u8 (s[j].toNat : Int))

theorem Src.grown {w w' : World} {b : Nat} {s : ByteArray} {row : Option Nat} (h : Src w b s) (hg : w.grownBy w' row) (hr : row ≠ some b) : Src w' b s :=
  fun j hj => hg.cell (h j hj) (fun e => hr e.symm)
theorem Src.below {w w' : World} {b : Nat} {s : ByteArray} {C : Nat} (h : Src w b s) (hb : Below C w w') (hC : b < C) : Src w' b s :=
  fun j hj => (hb.cell (p := ⟨b, j, none⟩) hC).trans (h j hj)
theorem Src.drew {w : World} {b : Nat} {s : ByteArray} (h : Src w b s) : Src w.drew b s := h

theorem wf_i64 {n : Int} (h : (Lit.int .i64 n).wf = true) : -9223372036854775808 ≤ n ∧ n ≤ 9223372036854775807 := by
  have h1 : IntKind.i64.min = -9223372036854775808 := rfl
  have h2 : IntKind.i64.max = 9223372036854775807 := rfl
  simp only [Lit.wf, Bool.and_eq_true, decide_eq_true_eq] at h
  omega

/-- numbers in the cells of block b from its head on, that may be written. -/
def Cells8 (w : World) (b : Nat) (l : List Int) : Prop := ∀ j, j < l.length → w.cell? ⟨b, j, none⟩ = some (.int .u8 (l[j]?.getD 0)) ∧ w.frozen? ⟨b, j, none⟩ = false

theorem Cells8.set {w : World} {b : Nat} {l : List Int} (h : Cells8 w b l) (k : Nat) (v : Int) (hk : k < l.length) : Cells8 (w.setCell ⟨b, k, none⟩ (.int .u8 v)) b (l.set k v) := by
  intro j hj
  have hj' : j < l.length := by simpa using hj
  refine ⟨?_, by rw [World.frozen?_setCell]; exact (h j hj').2⟩
  by_cases e : k = j
  · subst e
    rw [World.cell?_setCell_same _ _ _ (h k hk).1, List.getElem?_set_self hk]; rfl
  · rw [World.cell?_setCell_other _ _ _ _ (fun h => e (by injection h)), List.getElem?_set_ne e]
    exact (h j hj').1

theorem Cells8.below {w w' : World} {b : Nat} {l : List Int} {C : Nat} (h : Cells8 w b l) (hb : Below C w w') (hC : b < C) : Cells8 w' b l :=
  fun j hj => ⟨(hb.cell (p := ⟨b, j, none⟩) hC).trans (h j hj).1, (hb.frozen (p := ⟨b, j, none⟩) hC).trans (h j hj).2⟩

/-- 'string(b)', b's cells known. -/
theorem wpList_strC {P : Program} (w : World) {ops : Array Oper} {rest : List Oper} {o : Oper} {a : Act} {Q : Exit → Act → World → Prop}
    (hg : o.guard = none) (x : Operand) (src dst e : TypeId) (hop : o.op = Op.convert src dst x)
    (hs : P.underlying src = some (.slice e)) (hd : P.underlying dst = some .string) (he : P.underlying e = some (.int .u8)) (b n c : Nat) (l : List Int) (hx : a.eval x = .slice (some ⟨b, 0, none⟩) n c) (hl : l.length = n)
    (hc : Cells8 w b l)
    (hK : wpList P ops Q rest (a.put o.dst (.string (strOfNums l))) w) :
    wpList P ops Q (o :: rest) a w := by
  refine wpList_plain hg fun K hK' => ?_
  unfold Oper.wp
  have hrun := run_convert_bytes_arg (P := P) w src e hs he b 0 n c l hl (fun i hi => by
    rw [Nat.zero_add, (hc i (by omega)).1, List.getD_eq_getElem?_getD]) dst hd
  simp [execOp, hop, hx, hrun, Result.andThen]
  exact hK' _ _ hK

/-- the bytes of a string as numbers -/
def nums (s : ByteArray) : List Int := s.data.toList.map fun c => (c.toNat : Int)
theorem nums_len (s : ByteArray) : (nums s).length = s.size := by simp [nums]
theorem nums_get (s : ByteArray) (k : Nat) (h : k < s.size) : (nums s)[k]?.getD 0 = (s[k].toNat : Int) := by
  simp [nums, bat_get s k h]
theorem cells_of_src {w : World} {b : Nat} {s : ByteArray} (h : Src w b s) (hf : ∀ j, j < s.size → w.frozen? ⟨b, j, none⟩ = false) : Cells8 w b (nums s) := by
  intro j hj
  rw [nums_len] at hj
  rw [nums_get s j hj]
  exact ⟨h j hj, hf j hj⟩
theorem strOfNums_nums (s : ByteArray) : strOfNums (nums s) = s := by
  cases s with
  | mk d => simp [strOfNums, nums, Function.comp_def]

theorem ret_bytes' {a b : ByteArray} (h : a = b) : Ending.returned (.string a) = Ending.returned (.string b) := by rw [h]

theorem ret_str {l m : List Int} (h : l = m) : Ending.returned (.string (strOfNums l)) = Ending.returned (.string (strOfNums m)) := by rw [h]

theorem nums_one (k : IntKind) (l : List Int) : ∀ u ∈ l.map (Value.int k), u.oneCell' = true := ints_oneCell k l

end Go.Proofs.YtgechifbbhipaaaDoor

/- More laws of my own, over any program: a conversion to bytes at a step of a region that draws. No condition. -/
set_option linter.unusedVariables false
set_option linter.unusedSimpArgs false
namespace Go.Proofs.YtgechifbbhipaaaDoor
open Go.RowKit

/-- the conversion of a string to bytes, one operation. -/
theorem wp_bytes {P : Program} {w : World} {o : Oper} {a : Act} {K : Act → World → Prop} {Q : Exit → Act → World → Prop}
    (x : Operand) (src dst e : TypeId) (hop : o.op = Op.convert src dst x)
    (hs : P.underlying src = some .string) (hd : P.underlying dst = some (.slice e)) (he : P.underlying e = some (.int .u8)) (s : ByteArray) (hx : a.eval x = .string s)
    (hK : ∀ cap w', s.size ≤ cap → Src w' w.heap.size s → Below w.heap.size w w' → w.heap.size < w'.heap.size →
      (∀ j, j < s.size → w'.frozen? ⟨w.heap.size, j, none⟩ = false) →
      K (a.put o.dst (.slice (some ⟨w.heap.size, 0, none⟩) s.size cap)) w') :
    Oper.wp P o a w K Q := by
  have hrun := run_bytes_of_string (P := P) w src dst e s hs hd he
  unfold Oper.wp
  have hb : Below w.heap.size w (w.drew.alloc (.cells (bytesRow s (grownCap w s.size 0 e)) e ((bytesRow s (grownCap w s.size 0 e)).size, (bytesRow s (grownCap w s.size 0 e)).size + 1))) :=
    ((Below.refl _ w).drew).alloc (Nat.le_refl _) _
  have hcell : ∀ j (h : j < s.size), (w.drew.alloc (.cells (bytesRow s (grownCap w s.size 0 e)) e ((bytesRow s (grownCap w s.size 0 e)).size, (bytesRow s (grownCap w s.size 0 e)).size + 1))).cell? ⟨w.heap.size, j, none⟩ = some (.int .u8 (s[j].toNat : Int)) := fun j h => by
    have := World.cell?_alloc_mark w.drew (bytesRow s (grownCap w s.size 0 e)) e ((bytesRow s (grownCap w s.size 0 e)).size, (bytesRow s (grownCap w s.size 0 e)).size + 1) j
    rw [bytesRow_at s _ j h] at this
    exact this
  have hfr : ∀ j, j < s.size → (w.drew.alloc (.cells (bytesRow s (grownCap w s.size 0 e)) e ((bytesRow s (grownCap w s.size 0 e)).size, (bytesRow s (grownCap w s.size 0 e)).size + 1))).frozen? ⟨w.heap.size, j, none⟩ = false := fun j h => by
    have := World.frozen?_alloc_mark w.drew (bytesRow s (grownCap w s.size 0 e)) e (bytesRow s (grownCap w s.size 0 e)).size ((bytesRow s (grownCap w s.size 0 e)).size + 1) j
    have h3 : s.size ≤ (bytesRow s (grownCap w s.size 0 e)).size := by
      simp [bytesRow]
    refine Eq.trans this ?_
    simp; omega
  have hk := hK (grownCap w s.size 0 e) _ (grownCap_ge _ _ _ _) hcell hb (by simp) hfr
  simp [execOp, hop, hx, hrun, Result.andThen]
  exact hk

theorem step_bytes {P : Program} {w : World} {ops : Array Oper} {o : Oper} {a : Act} {K : Act → World → Prop} {Q : Exit → Act → World → Prop} {E : Prop}
    (hg : o.guard = none) (x : Operand) (src dst e : TypeId) (hop : o.op = Op.convert src dst x)
    (hs : P.underlying src = some .string) (hd : P.underlying dst = some (.slice e)) (he : P.underlying e = some (.int .u8)) (s : ByteArray) (hx : a.eval x = .string s)
    (hK : ∀ cap w', s.size ≤ cap → Src w' w.heap.size s → Below w.heap.size w w' → w.heap.size < w'.heap.size →
      (∀ j, j < s.size → w'.frozen? ⟨w.heap.size, j, none⟩ = false) →
      K (a.put o.dst (.slice (some ⟨w.heap.size, 0, none⟩) s.size cap)) w') :
    if Region.wanted o (yielded ops a.tmps) = true then Oper.wp P o a w K Q else E := by
  have hw : Region.wanted o (yielded ops a.tmps) = true := by simp [Region.wanted, hg]
  rw [if_pos hw]
  exact wp_bytes x src dst e hop hs hd he s hx hK

/-- the world behind a conversion of a string to bytes -/
def bytesW (s : ByteArray) (e : TypeId) (w : World) : World := w.drew.alloc (.cells (bytesRow s (grownCap w s.size 0 e)) e ((bytesRow s (grownCap w s.size 0 e)).size, (bytesRow s (grownCap w s.size 0 e)).size + 1))
def bytesC (s : ByteArray) (e : TypeId) (w : World) : Nat := grownCap w s.size 0 e

theorem run_bytesW {P : Program} (src dst e : TypeId) (hs : P.underlying src = some .string) (hd : P.underlying dst = some (.slice e)) (he : P.underlying e = some (.int .u8)) (s : ByteArray) (w : World) :
    (convert src dst (.string s)).run P w = .ok (.slice (some ⟨w.heap.size, 0, none⟩) s.size (bytesC s e w)) (bytesW s e w) := run_bytes_of_string (P := P) w src dst e s hs hd he

theorem bytesW_below (s : ByteArray) (e : TypeId) (w : World) : Below w.heap.size w (bytesW s e w) := ((Below.refl _ w).drew).alloc (Nat.le_refl _) _
theorem bytesW_size (s : ByteArray) (e : TypeId) (w : World) : w.heap.size < (bytesW s e w).heap.size := by unfold bytesW; simp
theorem bytesW_src (s : ByteArray) (e : TypeId) (w : World) : Src (bytesW s e w) w.heap.size s := fun j h => by
  have := World.cell?_alloc_mark w.drew (bytesRow s (grownCap w s.size 0 e)) e ((bytesRow s (grownCap w s.size 0 e)).size, (bytesRow s (grownCap w s.size 0 e)).size + 1) j
  rw [bytesRow_at s _ j h] at this
  exact this
theorem bytesW_free (s : ByteArray) (e : TypeId) (w : World) : ∀ j, j < s.size → (bytesW s e w).frozen? ⟨w.heap.size, j, none⟩ = false := fun j h => by
  have := World.frozen?_alloc_mark w.drew (bytesRow s (grownCap w s.size 0 e)) e (bytesRow s (grownCap w s.size 0 e)).size ((bytesRow s (grownCap w s.size 0 e)).size + 1) j
  have h3 : s.size ≤ (bytesRow s (grownCap w s.size 0 e)).size := by
    simp [bytesRow]
  refine Eq.trans this ?_
  simp; omega
end Go.Proofs.YtgechifbbhipaaaDoor

/- A list of cells that stay as they are over calls that only make memory: for regions that draw their order. No condition. -/
namespace Go.Proofs.YtgechifbbhipaaaDoor
open Go.RowKit

/-- these cells hold these values, and t holds. -/
def Cs : List (Nat × Nat × Value) → Prop → World → Prop
  | [], t, _ => t
  | (b, o, v) :: l, t, w => w.cell? ⟨b, o, none⟩ = some v ∧ Cs l t w
/-- all blocks lie below m. -/
def LtA : List (Nat × Nat × Value) → Nat → Prop
  | [], _ => True
  | (b, _, _) :: l, m => b < m ∧ LtA l m

theorem Cs.tail {l : List (Nat × Nat × Value)} {t : Prop} {w : World} (h : Cs l t w) : t := by
  induction l with
  | nil => exact h
  | cons x l ih => obtain ⟨b, o, v⟩ := x; exact ih h.2
theorem Cs.move {l : List (Nat × Nat × Value)} {t t' : Prop} {w w' : World} {m : Nat} (hm : LtA l m) (h : Cs l t w) (hw : m ≤ w.heap.size) (hb : Below w.heap.size w w') (ht : t') : Cs l t' w' := by
  induction l with
  | nil => exact ht
  | cons x l ih =>
    obtain ⟨b, o, v⟩ := x
    exact ⟨(hb.cell (p := ⟨b, o, none⟩) (Nat.lt_of_lt_of_le hm.1 hw)).trans h.1, ih hm.2 h.2⟩
/-- the cells, and what lay below w0. -/
def KC (w0 : World) (m : Nat) (l : List (Nat × Nat × Value)) (w : World) : Prop := Cs l (m ≤ w.heap.size ∧ Below w0.heap.size w0 w) w
theorem KC.below {w0 : World} {m : Nat} {l : List (Nat × Nat × Value)} {w : World} (h : KC w0 m l w) : Below w0.heap.size w0 w := (Cs.tail h).2
theorem KC.size {w0 : World} {m : Nat} {l : List (Nat × Nat × Value)} {w : World} (h : KC w0 m l w) : m ≤ w.heap.size := (Cs.tail h).1
theorem KC.call {w0 : World} {m : Nat} {l : List (Nat × Nat × Value)} {w w' : World} (hm : LtA l m) (h : KC w0 m l w) (hb : Below w.heap.size w w') : KC w0 m l w' :=
  Cs.move hm h h.size hb ⟨Nat.le_trans h.size hb.size, h.below.trans (hb.mono h.below.size)⟩
theorem KC.drew {w0 : World} {m : Nat} {l : List (Nat × Nat × Value)} {w : World} (hm : LtA l m) (h : KC w0 m l w) : KC w0 m l w.drew := h.call hm ((Below.refl _ _).drew)
theorem KC.alloc {w0 : World} {m : Nat} {l : List (Nat × Nat × Value)} {w : World} (hm : LtA l m) (h : KC w0 m l w) (o : Obj) : KC w0 m l (w.alloc o) := h.call hm ((Below.refl _ _).alloc (Nat.le_refl _) _)
/-- a new block's cells are added. -/
theorem Cs.append {l k : List (Nat × Nat × Value)} {t : Prop} {w : World} (h : Cs l (Cs k t w) w) : Cs (l ++ k) t w := by
  induction l with
  | nil => exact h
  | cons x l ih => obtain ⟨b, o, v⟩ := x; exact ⟨h.1, ih h.2⟩
theorem Cs.to {l : List (Nat × Nat × Value)} {t t' : Prop} {w : World} (h : Cs l t w) (ht : t') : Cs l t' w := by
  induction l with
  | nil => exact ht
  | cons x l ih => obtain ⟨b, o, v⟩ := x; exact ⟨h.1, ih h.2⟩
theorem LtA.mono {l : List (Nat × Nat × Value)} {m n : Nat} (h : LtA l m) (hn : m ≤ n) : LtA l n := by
  induction l with
  | nil => trivial
  | cons x l ih => obtain ⟨b, o, v⟩ := x; exact ⟨Nat.lt_of_lt_of_le h.1 hn, ih h.2⟩
theorem LtA.append {l k : List (Nat × Nat × Value)} {m : Nat} (h : LtA l m) (hk : LtA k m) : LtA (l ++ k) m := by
  induction l with
  | nil => exact hk
  | cons x l ih => obtain ⟨b, o, v⟩ := x; exact ⟨h.1, ih h.2⟩
/-- the cells of a block that was laid as a row. -/
def rowCs (b : Nat) : Nat → List Value → List (Nat × Nat × Value)
  | _, [] => []
  | o, v :: vs => (b, o, v) :: rowCs b (o + 1) vs
theorem rowCs_new (w : World) (vs : List Value) (t : TypeId) (p : Prop) (hp : p) (pre : List Value) : Cs (rowCs w.heap.size pre.length vs) p (w.alloc (.cells (pre ++ vs).toArray t)) := by
  induction vs generalizing pre with
  | nil => exact hp
  | cons v vs ih =>
    refine ⟨?_, ?_⟩
    · rw [World.cell?_alloc_at _ _ _ _ rfl]; simp
    · have := ih (pre ++ [v])
      simp only [List.length_append, List.length_cons, List.length_nil, Nat.zero_add, List.append_assoc, List.cons_append, List.nil_append] at this
      exact this
theorem rowCs_lt (b m o : Nat) (vs : List Value) (h : b < m) : LtA (rowCs b o vs) m := by
  induction vs generalizing o with
  | nil => trivial
  | cons v vs ih => exact ⟨h, ih _⟩
/-- known cells, and a new block. -/
theorem KC.add {w0 : World} {m : Nat} {l : List (Nat × Nat × Value)} {w : World} (hm : LtA l m) (h : KC w0 m l w) (vs : List Value) (t : TypeId) :
    KC w0 (w.heap.size + 1) (l ++ rowCs w.heap.size 0 vs) (w.alloc (.cells vs.toArray t)) ∧ LtA (l ++ rowCs w.heap.size 0 vs) (w.heap.size + 1) := by
  refine ⟨?_, (hm.mono (by have := h.size; omega)).append (rowCs_lt _ _ _ _ (by omega))⟩
  have hb : Below w.heap.size w (w.alloc (.cells vs.toArray t)) := (Below.refl _ _).alloc (Nat.le_refl _) _
  exact Cs.append ((Cs.move hm h h.size hb (rowCs_new w vs t _ ⟨by simp, h.below.alloc h.below.size _⟩ [])))
theorem KC.first (w : World) (vs : List Value) (t : TypeId) : KC w (w.heap.size + 1) (rowCs w.heap.size 0 vs) (w.alloc (.cells vs.toArray t)) ∧ LtA (rowCs w.heap.size 0 vs) (w.heap.size + 1) :=
  ⟨rowCs_new w vs t _ ⟨by simp, (Below.refl _ _).alloc (Nat.le_refl _) _⟩ [], rowCs_lt _ _ _ _ (by omega)⟩
end Go.Proofs.YtgechifbbhipaaaDoor

/- Small words for loops over iterators: a box that is written while all else below a bound stays. No condition. -/
set_option linter.unusedVariables false
set_option linter.unusedSimpArgs false
namespace Go.Proofs.YtgechifbbhipaaaDoor
open Go.RowKit

/-- Below block n the world is as it was, but for block B. -/
structure BelowBut (n B : Nat) (w w' : World) : Prop where
  os : w'.os = w.os
  tape : w'.tape = w.tape
  output : w'.output = w.output
  size : w.heap.size ≤ w'.heap.size
  block : ∀ k, k < n → k ≠ B → w'.heap[k]? = w.heap[k]?

theorem BelowBut.refl (n B : Nat) (w : World) : BelowBut n B w w := ⟨rfl, rfl, rfl, Nat.le_refl _, fun _ _ _ => rfl⟩
theorem BelowBut.trans {n B : Nat} {a b c : World} (h : BelowBut n B a b) (k : BelowBut n B b c) : BelowBut n B a c :=
  ⟨k.os.trans h.os, k.tape.trans h.tape, k.output.trans h.output, Nat.le_trans h.size k.size, fun i hi hB => (k.block i hi hB).trans (h.block i hi hB)⟩
theorem BelowBut.below {n B m : Nat} {w w' : World} (h : BelowBut n B w w') (h1 : m ≤ n) (h2 : m ≤ B) : Below m w w' :=
  ⟨h.os, h.tape, h.output, h.size, fun k hk => h.block k (by omega) (by omega)⟩
theorem BelowBut.of_below {n B : Nat} {w w' : World} (h : Below n w w') : BelowBut n B w w' := ⟨h.os, h.tape, h.output, h.size, fun k hk _ => h.block k hk⟩
theorem BelowBut.cell {n B : Nat} {w w' : World} (h : BelowBut n B w w') {b o : Nat} (hb : b < n) (hB : b ≠ B) : w'.cell? ⟨b, o, none⟩ = w.cell? ⟨b, o, none⟩ :=
  World.cell?_of_block (a := ⟨b, o, none⟩) (h.block b hb hB)
theorem BelowBut.boxed {n B : Nat} {w w' : World} (h : BelowBut n B w w') {b t : Nat} {v : Value} (hx : Boxed w b t v) (hb : b < n) (hB : b ≠ B) : Boxed w' b t v :=
  (h.block b hb hB).trans hx
theorem BelowBut.put {n B : Nat} {w : World} (hn : n ≤ w.heap.size) (W : World) (l : Nat) (o o' : Obj) (hl : w.heap.size ≤ l) (_ : W.heap[l]? = some o) (_ : o.isCells = false) (_ : o.isWalk = false) : BelowBut n B W (W.putObj l o') :=
  .of_below (belowK_b (n₀ := n) hn W l o o' hl ‹_› ‹_› ‹_›)

theorem boxed_app {W w1 : World} {n₀ B : Nat} {t e : TypeId} {size : Nat} {v v' : Value} {k m : Nat} {xs ys : List Value} {tmp : Obj}
    (hv : Boxed W B t v) (hte : t ≠ e) (hrow : W.ownsRow n₀ e size v k xs) (hn₀ : n₀ ≤ W.heap.size) (hB : B < n₀)
    (hown' : w1.ownsRow n₀ e size v' m ys) (hgrow : (W.alloc tmp).grownBy w1 v.ownBlock) :
    Boxed w1 B t v ∧ Boxed (w1.setCell ⟨B, 0, none⟩ v') B t v' ∧ (w1.setCell ⟨B, 0, none⟩ v').ownsRow n₀ e size v' m ys ∧ KeepsOthers W (w1.setCell ⟨B, 0, none⟩ v') ∧ BelowBut n₀ B W (w1.setCell ⟨B, 0, none⟩ v') := by
  have weak : ∀ {X : World} {u : Value} {q : Nat} {zs : List Value}, X.ownsRow n₀ e size u q zs → X.ownsRow 0 e size u q zs := by
    rintro X u q zs ⟨h1, h2⟩
    refine ⟨h1, ?_⟩
    rcases h2 with h2 | ⟨g, cap, cur, a, _, c⟩
    · exact .inl h2
    · exact .inr ⟨g, cap, cur, a, Nat.zero_le _, c⟩
  obtain ⟨p1, p2, _, p4, _⟩ := hv.appended hte (weak hrow) (Nat.zero_le _) (Nat.zero_le _) (weak hown') hgrow
  refine ⟨p1, p2, ownsRow_setCell_below hown' hB _, p4, hgrow.os, hgrow.tape, hgrow.output, ?_, fun i hi hne => ?_⟩
  · have := hgrow.size; simp [World.setCell] at this ⊢; omega
  · rw [Below.heap_setCell _ _ _ _ (by simpa using hne), hgrow.block i (by simp; omega) (fun e' => by have := (hrow.lt i e'.symm).1; omega)]
    exact Below.heap_alloc _ _ _ (by omega)

theorem ownFrom_but {β : Type} {n B C : Nat} {w₀ : World} (hn : n ≤ w₀.heap.size) (hC : n ≤ C) : OwnFrom C (fun (_ : β) (W : World) => BelowBut n B w₀ W) :=
  fun _ W W' row hs hg hr => hs.trans ⟨hg.os, hg.tape, hg.output, hg.size, fun k hk _ => hg.block k (by have := hs.size; omega) (fun e => by have := (hr k e.symm).1; omega)⟩

theorem ownFrom_size {β : Type} {B m : Nat} : OwnFrom B (fun (_ : β) (W : World) => m ≤ W.heap.size) := fun _ _ _ _ hs hg _ => Nat.le_trans hs hg.size

theorem own_form {w : World} {B : Nat} {e : TypeId} {sz : Nat} {v : Value} {n : Nat} {xs : List Value} (h : w.ownsRow B e sz v n xs) : ∃ a c, v = .slice a n c := by
  rcases h.2 with ⟨rfl, rfl⟩ | ⟨g, cap, cur, rfl, _⟩
  · exact ⟨_, _, rfl⟩
  · exact ⟨_, _, rfl⟩
end Go.Proofs.YtgechifbbhipaaaDoor
