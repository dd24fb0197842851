/- Sides: rows of structs that came in, as their cells; Great and the two Items. No condition. -/
import Derived.Test.YtcpmgnejbfnnjaaProg
import Derived.Test.YtcpmgnejbfnnjaaKit
namespace Go.Proofs.Ytcpmgnejbfnnjaa
open Go.RowKit

/-- n elements of 4 cells, the last one a text -/
def Row4 (w : World) (ad : Option Addr) (n : Nat) (T : Nat → ByteArray) : Prop :=
  ∀ i, i < n → ∃ (b o : Nat) (x0 x1 x2 : Int), ad = some ⟨b, o, none⟩ ∧ b < w.heap.size ∧ w.cell? ⟨b, o + i * 4, none⟩ = some (.int .i64 x0) ∧ w.cell? ⟨b, o + i * 4 + 1, none⟩ = some (.int .i64 x1) ∧ w.cell? ⟨b, o + i * 4 + 2, none⟩ = some (.int .i64 x2) ∧ w.cell? ⟨b, o + i * 4 + 3, none⟩ = some (.string (T i))

/-- n elements of 9 cells, texts at 3, 6, 8 -/
def Row9 (w : World) (ad : Option Addr) (n : Nat) (T U V : Nat → ByteArray) : Prop :=
  ∀ i, i < n → ∃ (b o : Nat) (x0 : Int) (x1 : Bool) (x2 x4 x5 x7 : Int), ad = some ⟨b, o, none⟩ ∧ b < w.heap.size ∧ w.cell? ⟨b, o + i * 9, none⟩ = some (.int .i64 x0) ∧ w.cell? ⟨b, o + i * 9 + 1, none⟩ = some (.bool x1) ∧ w.cell? ⟨b, o + i * 9 + 2, none⟩ = some (.int .i64 x2) ∧ w.cell? ⟨b, o + i * 9 + 3, none⟩ = some (.string (T i)) ∧
    w.cell? ⟨b, o + i * 9 + 4, none⟩ = some (.int .i64 x4) ∧ w.cell? ⟨b, o + i * 9 + 5, none⟩ = some (.int .i64 x5) ∧ w.cell? ⟨b, o + i * 9 + 6, none⟩ = some (.string (U i)) ∧ w.cell? ⟨b, o + i * 9 + 7, none⟩ = some (.int .i64 x7) ∧ w.cell? ⟨b, o + i * 9 + 8, none⟩ = some (.string (V i))

theorem Row4.below {w w' : World} {ad : Option Addr} {n : Nat} {T : Nat → ByteArray} (h : Row4 w ad n T) (hb : Below w.heap.size w w') : Row4 w' ad n T := fun i hi => by
  obtain ⟨b, o, x0, x1, x2, rfl, hl, h0, h1, h2, h3⟩ := h i hi
  have := hb.size
  exact ⟨b, o, x0, x1, x2, rfl, by omega, (hb.cell (p := ⟨b, _, none⟩) hl).trans h0, (hb.cell (p := ⟨b, _, none⟩) hl).trans h1, (hb.cell (p := ⟨b, _, none⟩) hl).trans h2, (hb.cell (p := ⟨b, _, none⟩) hl).trans h3⟩

theorem Row9.below {w w' : World} {ad : Option Addr} {n : Nat} {T U V : Nat → ByteArray} (h : Row9 w ad n T U V) (hb : Below w.heap.size w w') : Row9 w' ad n T U V := fun i hi => by
  obtain ⟨b, o, x0, x1, x2, x4, x5, x7, rfl, hl, h0, h1, h2, h3, h4, h5, h6, h7, h8⟩ := h i hi
  have := hb.size
  exact ⟨b, o, x0, x1, x2, x4, x5, x7, rfl, by omega, (hb.cell (p := ⟨b, _, none⟩) hl).trans h0, (hb.cell (p := ⟨b, _, none⟩) hl).trans h1, (hb.cell (p := ⟨b, _, none⟩) hl).trans h2, (hb.cell (p := ⟨b, _, none⟩) hl).trans h3, (hb.cell (p := ⟨b, _, none⟩) hl).trans h4, (hb.cell (p := ⟨b, _, none⟩) hl).trans h5, (hb.cell (p := ⟨b, _, none⟩) hl).trans h6, (hb.cell (p := ⟨b, _, none⟩) hl).trans h7, (hb.cell (p := ⟨b, _, none⟩) hl).trans h8⟩

def sumT (T : Nat → ByteArray) (s : Int) : Nat → Int
  | 0 => s
  | k + 1 => wrap64 (sumT T s k + ((T k).size : Int))

theorem ret_pr {a b c : Int} (h : b = c) : Ending.returned (.tuple #[.int .i64 a, .int .i64 b]) = Ending.returned (.tuple #[.int .i64 a, .int .i64 c]) := by rw [h]

set_option maxRecDepth 100000 in
theorem refItems_any (e g p r : Option Addr) (en gn pn rn ec gc pc rc : Nat) (T U X Y : Nat → ByteArray) (w : World) (hE : Row4 w e en T) (hR : Row9 w r rn U X Y) (ne : en ≤ maxLen) (nr : rn ≤ maxLen) :
    Calls Try.prog 21 #[.agg #[.slice e en ec, .slice g gn gc, .slice p pn pc, .slice r rn rc]] w fun x w' => x = .returned (.tuple #[.int .i64 (wrap64 (wrap64 (wrap64 (en + gn) + pn) + rn)), .int .i64 (sumT U (sumT T 0 en) rn)]) ∧ Below w.heap.size w w' := by
  have HE := Lib.hid hE
  have HR := Lib.hid hR
  clear hE hR
  simp only [maxLen] at ne nr
  go_enter Try.func21, Try.ntmps21
  go_wp2
  go_loopw [5, 6] (fun b i wr => ∃ k : Nat, k ≤ en ∧ i = .int .i64 k ∧ b = .int .i64 (sumT T 0 k) ∧ wr = w.alloc (.cells #[.slice e en ec, .slice g gn gc, .slice p pn pc, .slice r rn rc] 46)) (fun _ i _ => en - (intOf i).toNat)
  case atStart => exact ⟨0, Nat.zero_le _, rfl, rfl, rfl⟩
  case round =>
    obtain ⟨k, hk, rfl, rfl, rfl⟩ := hrel
    by_cases hlt : k < en
    · obtain ⟨b, o, x0, x1, x2, rfl, hl, h0, h1, h2, h3⟩ := HE.out k hlt
      have hS : Hid (sumT T 0 (k + 1) = wrap64 (sumT T 0 k + ((T k).size : Int))) := rfl
      generalize T k = t at *
      generalize sumT T 0 k = s at *
      go_wp2
      go_roundw
      case rel => exact ⟨k + 1, by omega, by go_num, by rw [hS.out], trivial⟩
      case measure => simp [intOf]; omega
    · obtain rfl : k = en := by omega
      obtain ⟨s0, h0⟩ : ∃ s0, s0 = sumT T 0 k := ⟨_, rfl⟩
      rw [← h0]
      have H0 := Lib.hid h0
      clear h0
      go_wp2
      go_loopw [5, 7] (fun b i wr => ∃ m : Nat, m ≤ rn ∧ i = .int .i64 m ∧ b = .int .i64 (sumT U s0 m) ∧ wr = w.alloc (.cells #[.slice e k ec, .slice g gn gc, .slice p pn pc, .slice r rn rc] 46)) (fun _ i _ => rn - (intOf i).toNat)
      case atStart => exact ⟨0, Nat.zero_le _, rfl, rfl, rfl⟩
      case round =>
        obtain ⟨m, hm, rfl, rfl, rfl⟩ := hrel
        by_cases hlt : m < rn
        · obtain ⟨b, o, x0, x1, x2, x4, x5, x7, rfl, hl, h0, h1, h2, h3, _⟩ := HR.out m hlt
          have hS : Hid (sumT U s0 (m + 1) = wrap64 (sumT U s0 m + ((U m).size : Int))) := rfl
          generalize U m = t at *
          generalize sumT U s0 m = s at *
          go_wp2
          go_roundw
          case rel => exact ⟨m + 1, by omega, by go_num, by rw [hS.out], trivial⟩
          case measure => simp [intOf]; omega
        · obtain rfl : m = rn := by omega
          obtain ⟨s, h1⟩ : ∃ s, s = sumT U s0 m := ⟨_, rfl⟩
          rw [← h1]
          have H1 := Lib.hid h1
          clear h1
          go_wp2
          go_ret2
          exact ⟨ret_pr (by rw [H1.out, H0.out]), (Below.refl _ _).alloc (Nat.le_refl _) _⟩

/-- the box of four -/
def Box4 (w : World) (b : Nat) (x0 x1 x2 x3 : Value) : Prop :=
  w.cell? ⟨b, 0, none⟩ = some x0 ∧ w.cell? ⟨b, 1, none⟩ = some x1 ∧ w.cell? ⟨b, 2, none⟩ = some x2 ∧ w.cell? ⟨b, 3, none⟩ = some x3
theorem Box4.new (w : World) (x0 x1 x2 x3 : Value) (t : TypeId) : Box4 (w.alloc (.cells #[x0, x1, x2, x3] t)) w.heap.size x0 x1 x2 x3 := by
  refine ⟨?_, ?_, ?_, ?_⟩ <;> (unfold World.cell?; rw [block_new]; rfl)
theorem Box4.below {w w' : World} {b C : Nat} {x0 x1 x2 x3 : Value} (h : Box4 w b x0 x1 x2 x3) (hb : Below C w w') (hC : b < C) : Box4 w' b x0 x1 x2 x3 :=
  ⟨(hb.cell (p := ⟨b, _, none⟩) hC).trans h.1, (hb.cell (p := ⟨b, _, none⟩) hC).trans h.2.1, (hb.cell (p := ⟨b, _, none⟩) hC).trans h.2.2.1, (hb.cell (p := ⟨b, _, none⟩) hC).trans h.2.2.2⟩

set_option maxRecDepth 100000 in
theorem items_any (e g p r : Option Addr) (en gn pn rn ec gc pc rc : Nat) (T U X Y : Nat → ByteArray) (w : World) (hE : Row4 w e en T) (hR : Row9 w r rn U X Y) (ne : en ≤ maxLen) (nr : rn ≤ maxLen) :
    Calls Try.prog 20 #[.agg #[.slice e en ec, .slice g gn gc, .slice p pn pc, .slice r rn rc]] w fun x w' => x = .returned (.tuple #[.int .i64 (wrap64 (wrap64 (wrap64 (en + gn) + pn) + rn)), .int .i64 (sumT U (sumT T 0 en) rn)]) ∧ Below w.heap.size w w' := by
  have HE := Lib.hid hE
  have HR := Lib.hid hR
  clear hE hR
  simp only [maxLen] at ne nr
  go_enter Try.func20, Try.ntmps20
  go_wp2
  go_loopw [4, 6, 12] (fun b _ i wr => ∃ k : Nat, k ≤ en ∧ i = .int .i64 k ∧ b = .int .i64 (sumT T 0 k) ∧ Below w.heap.size w wr ∧ w.heap.size < wr.heap.size ∧ Box4 wr w.heap.size (.slice e en ec) (.slice g gn gc) (.slice p pn pc) (.slice r rn rc)) (fun _ _ i _ => en - (intOf i).toNat)
  case atStart => exact ⟨0, Nat.zero_le _, rfl, rfl, (Below.refl _ _).alloc (Nat.le_refl _) _, by simp, Box4.new w _ _ _ _ _⟩
  case round =>
    obtain ⟨k, hk, rfl, rfl, hb, hz, c0, c1, c2, c3⟩ := hrel
    by_cases hlt : k < en
    · obtain ⟨b, o, x0, x1, x2, rfl, hl, h0, h1, h2, h3⟩ := (HE.out.below hb) k hlt
      have hS : Hid (sumT T 0 (k + 1) = wrap64 (sumT T 0 k + ((T k).size : Int))) := rfl
      generalize T k = t at *
      generalize sumT T 0 k = s at *
      go_wp2
      go_roundw
      case rel => exact ⟨k + 1, by omega, by go_num, by rw [hS.out], hb.alloc (by omega) _, by simp; omega, Box4.below ⟨c0, c1, c2, c3⟩ ((Below.refl (w.heap.size + 1) wr).alloc (by omega) _) (by omega)⟩
      case measure => simp [intOf]; omega
    · obtain rfl : k = en := by omega
      obtain ⟨s0, h0⟩ : ∃ s0, s0 = sumT T 0 k := ⟨_, rfl⟩
      rw [← h0]
      have H0 := Lib.hid h0
      clear h0
      go_wp2
      go_loopw [4, 8, 25] (fun b _ i wr => ∃ m : Nat, m ≤ rn ∧ i = .int .i64 m ∧ b = .int .i64 (sumT U s0 m) ∧ Below w.heap.size w wr ∧ w.heap.size < wr.heap.size ∧ Box4 wr w.heap.size (.slice e k ec) (.slice g gn gc) (.slice p pn pc) (.slice r rn rc)) (fun _ _ i _ => rn - (intOf i).toNat)
      case atStart => exact ⟨0, Nat.zero_le _, rfl, rfl, hb, hz, c0, c1, c2, c3⟩
      clear hb hz c0 c1 c2 c3
      case round =>
        obtain ⟨m, hm, rfl, rfl, hb, hz, c0, c1, c2, c3⟩ := hrel
        by_cases hlt : m < rn
        · obtain ⟨b, o, x0, x1, x2, x4, x5, x7, rfl, hl, h0, h1, h2, h3, h4, h5, h6, h7, h8⟩ := (HR.out.below hb) m hlt
          have hS : Hid (sumT U s0 (m + 1) = wrap64 (sumT U s0 m + ((U m).size : Int))) := rfl
          generalize U m = t at *
          generalize X m = t2 at *
          generalize Y m = t3 at *
          generalize sumT U s0 m = s at *
          go_wp2
          go_roundw
          case rel => exact ⟨m + 1, by omega, by go_num, by rw [hS.out], hb.alloc (by omega) _, by simp; omega, Box4.below ⟨c0, c1, c2, c3⟩ ((Below.refl (w.heap.size + 1) wr).alloc (by omega) _) (by omega)⟩
          case measure => simp [intOf]; omega
        · obtain rfl : m = rn := by omega
          obtain ⟨s, h1⟩ : ∃ s, s = sumT U s0 m := ⟨_, rfl⟩
          rw [← h1]
          have H1 := Lib.hid h1
          clear h1
          go_wp2
          go_ret2
          exact ⟨ret_pr (by rw [H1.out, H0.out]), hb⟩
end Go.Proofs.Ytcpmgnejbfnnjaa
