/- auth: an Ask and a Cred that came in. No condition. -/
import Derived.Test.YteheibgdjpkeaaaAuM
import Derived.ProofKit
import Derived.OpenShut
import Derived.Deep.Slices
namespace Go.Proofs.Yteheibgdjpkeaaa
open Go.RowKit Go.ChangeShapes Go.WideShapes Go.Deep

theorem trodS {H : Type} {enc : TypeId × Value → H} {w : World} {base : Nat} {n : Nat} {v : Value} {y : DataW H × List MemPlace} (h : DataW.trod enc Try.prog w base (fun _ => true) true n 9 [v] = some y) : ∃ s : ByteArray, v = .string s := by
  obtain ⟨s, e, _⟩ := DataW.trod_string Try.underlying9 h
  simp at e; exact ⟨s, e⟩
theorem trodI {H : Type} {enc : TypeId × Value → H} {w : World} {base : Nat} {n : Nat} {v : Value} {y : DataW H × List MemPlace} (h : DataW.trod enc Try.prog w base (fun _ => true) true n 3 [v] = some y) : ∃ i : Int, v = .int .i64 i := by
  obtain ⟨s, e, _⟩ := DataW.trod_int Try.underlying3 h
  simp at e; exact ⟨s, e⟩
theorem array5 {α : Type} {cs : Array α} (h : cs.size = 5) : ∃ c0 c1 c2 c3 c4, cs = #[c0, c1, c2, c3, c4] := by
  obtain ⟨l⟩ := cs
  match l, h with
  | [c0, c1, c2, c3, c4], _ => exact ⟨c0, c1, c2, c3, c4, rfl⟩
theorem array2 {α : Type} {cs : Array α} (h : cs.size = 2) : ∃ c0 c1, cs = #[c0, c1] := by
  obtain ⟨l⟩ := cs
  match l, h with
  | [c0, c1], _ => exact ⟨c0, c1, rfl⟩

set_option maxRecDepth 100000 in
theorem open_ask {H : Type} {enc : TypeId × Value → H} {W : World} {v : Value} {d : DataW H} {p : List MemPlace}
    (k : DataW.Trod enc Try.prog W 0 (fun _ => true) true 37 v d p) {base : Nat} (ok : Value.okWide Try.prog W .any base 37 v) :
    ∃ (kd : Int) (u p n b : ByteArray), v = ask kd u p n b := by
  obtain ⟨cs, rfl, hsz⟩ := okWide_struct Try.underlying37 ok
  obtain ⟨c0, c1, c2, c3, c4, rfl⟩ := array5 (hsz.trans (by kernel_rfl))
  obtain ⟨fuel, hf⟩ := k
  obtain ⟨xs, n, _, _, _, hlen, hy⟩ := DataW.trod_struct Try.underlying37 hf
  have g0 : DataW.trod enc Try.prog W 0 (fun _ => true) true n 3 [c0] = xs[0]? := hy 0 _ rfl
  have g1 : DataW.trod enc Try.prog W 0 (fun _ => true) true n 9 [c1] = xs[1]? := hy 1 _ rfl
  have g2 : DataW.trod enc Try.prog W 0 (fun _ => true) true n 9 [c2] = xs[2]? := hy 2 _ rfl
  have g3 : DataW.trod enc Try.prog W 0 (fun _ => true) true n 9 [c3] = xs[3]? := hy 3 _ rfl
  have g4 : DataW.trod enc Try.prog W 0 (fun _ => true) true n 9 [c4] = xs[4]? := hy 4 _ rfl
  have h6 : xs.length = 5 := hlen
  rw [List.getElem?_eq_getElem (by omega)] at g0 g1 g2 g3 g4
  obtain ⟨a0, rfl⟩ := trodI g0
  obtain ⟨a1, rfl⟩ := trodS g1
  obtain ⟨a2, rfl⟩ := trodS g2
  obtain ⟨a3, rfl⟩ := trodS g3
  obtain ⟨a4, rfl⟩ := trodS g4
  exact ⟨a0, a1, a2, a3, a4, rfl⟩

set_option maxRecDepth 100000 in
theorem open_cred {H : Type} {enc : TypeId × Value → H} {W : World} {v : Value} {d : DataW H} {p : List MemPlace}
    (k : DataW.Trod enc Try.prog W 0 (fun _ => true) true 42 v d p) {base : Nat} (ok : Value.okWide Try.prog W .any base 42 v) :
    ∃ (t d : ByteArray), v = .agg #[.string t, .string d] := by
  obtain ⟨cs, rfl, hsz⟩ := okWide_struct Try.underlying42 ok
  obtain ⟨c0, c1, rfl⟩ := array2 (hsz.trans (by kernel_rfl))
  obtain ⟨fuel, hf⟩ := k
  obtain ⟨xs, n, _, _, _, hlen, hy⟩ := DataW.trod_struct Try.underlying42 hf
  have g0 : DataW.trod enc Try.prog W 0 (fun _ => true) true n 9 [c0] = xs[0]? := hy 0 _ rfl
  have g1 : DataW.trod enc Try.prog W 0 (fun _ => true) true n 9 [c1] = xs[1]? := hy 1 _ rfl
  have h6 : xs.length = 2 := hlen
  rw [List.getElem?_eq_getElem (by omega)] at g0 g1
  obtain ⟨a0, rfl⟩ := trodS g0
  obtain ⟨a1, rfl⟩ := trodS g1
  exact ⟨a0, a1, rfl⟩

set_option maxRecDepth 100000 in
theorem wf_u64 {n : Int} (h : (Lit.int .u64 n).wf = true) : 0 ≤ n ∧ n < 18446744073709551616 := by
  have h1 : IntKind.u64.min = 0 := rfl
  have h2 : IntKind.u64.max = 18446744073709551615 := rfl
  simp only [Lit.wf, Bool.and_eq_true, decide_eq_true_eq] at h
  omega

set_option maxRecDepth 100000 in
theorem makes_law {H : Type} {enc : TypeId × Value → H} {W : World} (v0 : Value) (d0 : DataW H) (p0 : List MemPlace) (k0 : DataW.Trod enc Try.prog W 0 (fun _ => true) true 37 v0 d0 p0) {base : Nat} (ok0 : Value.okWide Try.prog W .any base 37 v0) (_ : ∀ x ∈ p0, x.block < W.heap.size)
    (nm : ByteArray) (_ : nm.size ≤ 140737488351232) (a : Int) (ha : (Lit.int .u64 a).wf = true) (_ : World) :
    Calls Try.prog 7 #[v0, .string nm, .int .u64 a] W fun e w' => e = .returned (.bool true) ∧ Below W.heap.size W w' := by
  obtain ⟨k, u, p, n, b, rfl⟩ := open_ask k0 ok0
  obtain ⟨h0, h1⟩ := wf_u64 ha
  obtain ⟨m, rfl⟩ := Int.eq_ofNat_of_zero_le h0
  exact makes_walk k u p n b nm m (by omega) W
end Go.Proofs.Yteheibgdjpkeaaa
