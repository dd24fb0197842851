/- strings.ContainsAny of a blank and a newline, at a text of any bytes. No condition but the text's size. -/
import Derived.Test.YtgechifbbhipaaaDoorGrA
import Derived.Lib.OthersKept
import Derived.Laws.RangeAny
set_option linter.unusedVariables false
set_option linter.unusedSimpArgs false
namespace Go.Proofs.YtgechifbbhipaaaDoor
open Go.RowKit Go.Shelf

theorem noAny_run {s : ByteArray} {i n : Nat} (h : Lib.NoAny s.data.toList [32, 10] i) (hb : ∀ j (hj : j < s.size), i ≤ j → j < i + n → 128 ≤ (s[j]'hj).toNat) (hn : i + n ≤ s.size) : Lib.NoAny s.data.toList [32, 10] (i + n) := by
  intro j b hj hjb
  by_cases hji : j < i
  · exact h j b hji hjb
  · have hjs : j < s.size := by omega
    have h1 := hb j hjs (by omega) hj
    have h2 := Lib.data_getElem? s j hjs
    rw [h2] at hjb
    obtain rfl := Option.some.inj hjb
    cases e : ([32, 10] : List UInt8).contains s[j] with
    | false => rfl
    | true =>
      have := List.contains_iff_mem.1 e
      simp only [List.mem_cons, List.not_mem_nil, or_false] at this
      rcases this with h3 | h3 <;> (rw [h3] at h1; exact absurd h1 (by decide))

set_option maxRecDepth 100000 in
set_option maxHeartbeats 1000000 in
theorem ixa_short (s : ByteArray) (h8 : s.size ≤ 8) (w : World) :
    Calls Tryd.prog 136 #[.string s, .string { data := #[32, 10] }] w fun e w' => e = .returned (.int .i64 (Lib.indexAny s.data.toList [32, 10])) ∧ Below w.heap.size w w' := by
  have h8z : decide ((8 : Int) < (s.size : Int)) = false := decide_eq_false (by omega)
  have c1 := Lib.hid (fun (r : Int) (h : 128 ≤ r) (h2 : r ≤ 2147483647) (w : World) => ixr_high r h h2 w)
  have c2 := Lib.hid (fun (c : UInt8) (h : c.toNat < 128) (w : World) => ixr_low c h w)
  have c3 := Lib.hid (fun w => Any.strings_shouldUseASCIISet { Tryd.lays150 with } (s.size : Int) w)
  obtain ⟨C, hC⟩ : ∃ C : ByteArray, { data := #[32, 10] } = C := ⟨_, rfl⟩
  have hemp : C.toList.isEmpty = false := by rw [← hC]; first | rfl | (rw [ByteArray.toList_eq]; rfl)
  have hn1 : ((C.size : Int) == 1) = false := by rw [← hC]; first | rfl | (rw [ByteArray.toList_eq]; rfl)
  rw [hC] at c1 c2 ⊢
  clear hC
  go_enter Tryd.func136, Tryd.ntmps136
  go_wp2_with (go_at_call 167; refine (c3.out _).mono ?_; rintro e w' ⟨rfl, hw⟩; rw [hw, h8z])
  go_loopg [9, 10] s.size (fun g _ _ wx => ∃ i : Nat, i ≤ s.size ∧ s.size ≤ i + g ∧ wx.heap[w.heap.size]? = some (.stringIter s i) ∧ Hid (Below w.heap.size w wx) ∧ Hid (Lib.NoAny s.data.toList [32, 10] i))
  case atStart => exact ⟨0, Nat.zero_le _, by omega, World.iter_heap w s 0, (Below.refl _ _).alloc (Nat.le_refl _) _, Lib.NoAny.zero _ _⟩
  case round =>
    obtain ⟨i, hi1, hi2, hit, HB, HN⟩ := hrel
    by_cases hp : i < s.size
    · obtain ⟨g, rfl⟩ : ∃ g, gk = g + 1 := ⟨gk - 1, by omega⟩
      obtain ⟨x, hx⟩ : ∃ x : UInt8, s[i]'hp = x := ⟨_, rfl⟩
      have hxl : s.data.toList[i]? = some x := by rw [← hx]; exact Lib.data_getElem? s i hp
      by_cases hlo : x.toNat < 128
      · have hnx := fun ty => Lib.run_next_ascii_at (P := Tryd.prog) wr w.heap.size s i ty hit hp (by rw [hx]; exact hlo)
        rw [hx] at hnx
        have hit2 := Lib.iterAt_heap wr w.heap.size s i (i + 1) hit
        have HB2 : Hid (Below w.heap.size w (wr.iterAt w.heap.size s (i + 1))) := Lib.below_iterAt HB.out (k := w.heap.size) (Nat.le_refl _) s _
        have HX := Lib.hid hxl
        have cX := Lib.hid (c2.out x hlo)
        have hcon := Lib.contains_iff_indexByte [32, 10] x
        clear hxl hx hlo
        generalize wr.iterAt w.heap.size s (i + 1) = wy at *
        have hit3 := Lib.hid hit2
        clear hit2 c1 c2
        cases hin : ([32, 10] : List UInt8).contains x
        · rw [hin] at hcon
          have hlt : ¬ ((0 : Int) ≤ Lib.indexByte [32, 10] x) := of_decide_eq_false hcon.symm
          have HI := Lib.hid hin
          clear hcon hin
          generalize Lib.indexByte [32, 10] x = q at *
          go_wp2_with (go_at_call 166; refine (cX.out _).mono ?_; rintro e w' ⟨rfl, hw⟩; rw [hw])
          go_roundg g
          case measure => omega
          case rel => exact ⟨i + 1, by omega, by omega, hit3.out, HB2.out, HN.out.succ HX.out HI.out⟩
        · rw [hin] at hcon
          have hge : (0 : Int) ≤ Lib.indexByte [32, 10] x := of_decide_eq_true hcon.symm
          have HI := Lib.hid hin
          clear hcon hin
          generalize Lib.indexByte [32, 10] x = q at *
          go_wp2_with (go_at_call 166; refine (cX.out _).mono ?_; rintro e w' ⟨rfl, hw⟩; rw [hw])
          go_ret
          exact ⟨by rw [Lib.indexAny_hit HN.out HX.out HI.out]; rfl, HB2.out⟩
      · have hd := decode_high s i hp (by rw [hx]; omega)
        have hd2 := decode_le s i
        obtain ⟨hd3, hd4⟩ := dec_bytes s i hp (by rw [hx]; omega)
        have hnx := fun ty => Lib.run_next_any_at (P := Tryd.prog) wr w.heap.size s i ty hit hp
        have HN2 := Lib.hid (noAny_run HN.out hd4 hd3)
        clear hd4
        generalize Utf8.decode s i = dd at *
        obtain ⟨r, n⟩ := dd
        have cX := Lib.hid (c1.out (r : Int) (by have := hd.1; exact Int.ofNat_le.2 this) (by exact Int.ofNat_le.2 hd2))
        have hn0 : 1 ≤ n := hd.2
        have hn1 : i + n ≤ s.size := hd3
        simp only [] at hnx
        have hit2 := Lib.iterAt_heap wr w.heap.size s i (i + n) hit
        have HB2 : Hid (Below w.heap.size w (wr.iterAt w.heap.size s (i + n))) := Lib.below_iterAt HB.out (k := w.heap.size) (Nat.le_refl _) s _
        clear hd hd2 hd3 hxl hx hlo
        generalize wr.iterAt w.heap.size s (i + n) = wy at *
        have hit3 := Lib.hid hit2
        clear hit2 c1 c2
        go_wp2_with (go_at_call 166; refine (cX.out _).mono ?_; rintro e w' ⟨rfl, hw⟩; have hw2 := Lib.hid hw)
        go_roundg g
        case measure => omega
        case rel => exact ⟨i + n, by omega, by omega, (hw2.out.block _ (Array.getElem?_eq_some_iff.1 hit3.out).1).trans hit3.out, HB2.out.trans (hw2.out.mono HB2.out.size), HN2.out⟩
    · have hnx := fun ty => Lib.run_next_end_at (P := Tryd.prog) wr w.heap.size s i ty hit hp
      obtain rfl : i = s.size := by omega
      clear hit hi1 hi2 hp
      go_wp2
      go_ret
      exact ⟨by rw [Lib.indexAny_none (by rw [← Lib.size_eq]; exact HN.out)]; rfl, HB.out⟩

theorem conAny_any (s : ByteArray) (hs : s.size < 4294967281) (w : World) :
    Calls Tryd.prog 85 #[.string s, .string { data := #[32, 10] }] w fun e w' => e = .returned (.bool (Lib.containsAny s.data.toList [32, 10])) ∧ Below w.heap.size w w' := by
  have c : Calls Tryd.prog 136 #[.string s, .string { data := #[32, 10] }] w fun e w' => e = .returned (.int .i64 (Lib.indexAny s.data.toList [32, 10])) ∧ Below w.heap.size w w' := by
    by_cases h8 : s.size ≤ 8
    · exact ixa_short s h8 w
    · have h116 : (Tryd.prog.info? (Tryd.lays150_ren.t 116)).map (fun i => (i.zero, i.size)) = some (some (.agg (Array.replicate 256 (.bool false))), 256) := by kernel_rfl
      refine (Any.strings_IndexAny_long { Tryd.lays150 with } (zero_of_info h116).1 (zero_of_info h116).2 s ⟨#[32, 10]⟩ w (by decide) (by omega) hs (by decide) (fun j b hb => by
        have h1 : b ∈ ([32, 10] : List UInt8) := List.mem_of_getElem? hb
        simp only [List.mem_cons, List.not_mem_nil, or_false] at h1
        rcases h1 with rfl | rfl <;> decide)).mono fun e w' ⟨h1, h2⟩ => ⟨h1, ?_⟩
      rw [h2]
      exact ((Below.refl _ _).alloc (Nat.le_refl _) _).alloc (by simp) _
  have C := Lib.hid c
  clear c hs
  go_enter Tryd.func85, Tryd.ntmps85
  go_wp2_with (go_at_call 136; refine C.out.mono ?_; rintro e w' ⟨rfl, hw⟩)
  go_ret
  exact ⟨rfl, hw⟩
end Go.Proofs.YtgechifbbhipaaaDoor
