/- strings.ContainsAny of a blank and a newline, at a text of any bytes. No condition but the text's size. -/
import Derived.Test.YtgechifbbhipaaaDoorMkS
import Derived.Test.YtgechifbbhipaaaDoorShelf
import Derived.Laws.RangeAny
import Derived.Laws.Runes
import Derived.Lib.MapLaws
import Derived.WalkMore
import Derived.Shelf.Strings.IndexAnyAll
import Derived.Lib.OthersKept
import Derived.Test.YtgechifbbhipaaaDoorGrT
set_option linter.unusedVariables false
set_option linter.unusedSimpArgs false
namespace Go.Proofs.YtgechifbbhipaaaDoor
open Go.RowKit Go.Shelf

theorem get_bang (s : ByteArray) (p : Nat) (h : p < s.size) : s.get! p = s[p]'h := by
  have := Go.get_at s p h
  simpa using this
theorem dec_bytes (s : ByteArray) (pos : Nat) (h : pos < s.size) (ha : 128 ≤ (s[pos]'h).toNat) : pos + (Utf8.decode s pos).2 ≤ s.size ∧ ∀ j (hj : j < s.size), pos ≤ j → j < pos + (Utf8.decode s pos).2 → 128 ≤ (s[j]'hj).toNat := by
  have hb : 128 ≤ (s.get! pos).toNat := by rw [get_bang s pos h]; exact ha
  rw [Lib.decode_at]
  rcases Lib.decodeN_shape (s.size - pos) (s.get! pos).toNat (s.get! (pos + 1)).toNat (s.get! (pos + 2)).toNat (s.get! (pos + 3)).toNat with ⟨h1, e⟩ | ⟨_, h2, h3, _, e⟩ | ⟨_, h2, h3, h4, _, _, e⟩ | ⟨_, h2, h3, h4, h5, _, _, e⟩ | e
  · omega
  · rw [e]
    refine ⟨by show pos + 2 ≤ _; omega, fun j hj h6 h7 => ?_⟩
    have h7 : j < pos + 2 := h7
    rw [← get_bang s j hj]
    rcases (by omega : j = pos ∨ j = pos + 1) with rfl | rfl <;> omega
  · rw [e]
    refine ⟨by show pos + 3 ≤ _; omega, fun j hj h6 h7 => ?_⟩
    have h7 : j < pos + 3 := h7
    rw [← get_bang s j hj]
    rcases (by omega : j = pos ∨ j = pos + 1 ∨ j = pos + 2) with rfl | rfl | rfl <;> omega
  · rw [e]
    refine ⟨by show pos + 4 ≤ _; omega, fun j hj h6 h7 => ?_⟩
    have h7 : j < pos + 4 := h7
    rw [← get_bang s j hj]
    rcases (by omega : j = pos ∨ j = pos + 1 ∨ j = pos + 2 ∨ j = pos + 3) with rfl | rfl | rfl | rfl <;> omega
  · rw [e]
    refine ⟨by show pos + 1 ≤ _; omega, fun j hj h6 h7 => ?_⟩
    have h7 : j < pos + 1 := h7
    obtain rfl : j = pos := by omega
    exact ha

theorem validRune_any (r : Int) (w : World) : Calls Tryd.prog 194 #[.int .i32 r] w fun e w' => e = .returned (.bool (Go.validRune r)) ∧ w = w' := by
  by_cases h0 : 0 ≤ r
  · by_cases h1 : r < 55296
    · have hv : Go.validRune r = true := decide_eq_true (.inl ⟨h0, h1⟩)
      rw [hv]
      go_enter Tryd.func194, Tryd.ntmps194
      go_wp2
      go_ret
      exact ⟨rfl, rfl⟩
    · by_cases h2 : 57343 < r
      · by_cases h3 : r ≤ 1114111
        · have hv : Go.validRune r = true := decide_eq_true (.inr ⟨h2, h3⟩)
          rw [hv]
          go_enter Tryd.func194, Tryd.ntmps194
          go_wp2
          go_ret
          exact ⟨rfl, rfl⟩
        · have hv : Go.validRune r = false := decide_eq_false (by omega)
          rw [hv]
          go_enter Tryd.func194, Tryd.ntmps194
          go_wp2
          go_ret
          exact ⟨rfl, rfl⟩
      · have hv : Go.validRune r = false := decide_eq_false (by omega)
        rw [hv]
        go_enter Tryd.func194, Tryd.ntmps194
        go_wp2
        go_ret
        exact ⟨rfl, rfl⟩
  · have hv : Go.validRune r = false := decide_eq_false (by omega)
    have h2 : ¬ 57343 < r := by omega
    rw [hv]
    go_enter Tryd.func194, Tryd.ntmps194
    go_wp2
    go_ret
    exact ⟨rfl, rfl⟩

theorem ixr_low (c : UInt8) (hc : c.toNat < 128) (w : World) : Calls Tryd.prog 166 #[.string { data := #[32, 10] }, .int .i32 (c.toNat : Int)] w fun e w' => e = .returned (.int .i64 (Lib.indexByte [32, 10] c)) ∧ w' = w := by
  have h := Any.strings_IndexRune_ascii { Tryd.lays150 with } ⟨#[32, 10]⟩ (c.toNat : Int) w (by omega) (by omega)
  have e : ((c.toNat : Int)).toNat.toUInt8 = c := by simp
  rw [e] at h
  exact h
theorem ixb_none (c : UInt8) (w : World) : Calls Tryd.prog 193 #[.string ⟨#[]⟩, .int .u8 (c.toNat : Int)] w fun e w' => e = .returned (.int .i64 (-1)) ∧ w' = w := by
  have h := Any.strings_IndexByte { Tryd.lays150 with } ⟨#[]⟩ (c.toNat : Int) w
  exact h

set_option maxRecDepth 100000 in
set_option maxHeartbeats 1000000 in
theorem ixr_high (r : Int) (h : 128 ≤ r) (h2 : r ≤ 2147483647) (w : World) : Calls Tryd.prog 166 #[.string { data := #[32, 10] }, .int .i32 r] w fun e w' => e = .returned (.int .i64 (-1)) ∧ Below w.heap.size w w' := by
  have a0 : (0 : Int) ≤ r := by omega
  have a1 : ¬ r < 128 := by omega
  by_cases h3 : r = 65533
  · subst h3
    clear h h2 a0 a1
    go_enter Tryd.func166, Tryd.ntmps166
    go_wp2
    go_loopg [5, 6] 2 (fun g _ _ wx => ∃ i : Nat, i + g = 2 ∧ wx = w.iter { data := #[32, 10] } i)
    case atStart => exact ⟨0, by omega, rfl⟩
    case round =>
      obtain ⟨i, hig, rfl⟩ := hrel
      cases gk with
      | zero =>
        obtain rfl : i = 2 := by omega
        have hnx := fun ty => run_next_end (P := Tryd.prog) w { data := #[32, 10] } 2 ty (by decide)
        go_wp2
        go_ret
        exact ⟨rfl, (Below.refl _ _).alloc (Nat.le_refl _) _⟩
      | succ g =>
        rcases (by omega : i = 0 ∨ i = 1) with rfl | rfl
        · have hnx : ∀ ty, _ := fun ty => run_next_ascii (P := Tryd.prog) w { data := #[32, 10] } 0 ty (by decide) (by decide)
          go_wp2
          go_roundg g
          case measure => omega
          case rel => exact ⟨1, by omega, rfl⟩
        · have hnx : ∀ ty, _ := fun ty => run_next_ascii (P := Tryd.prog) w { data := #[32, 10] } 1 ty (by decide) (by decide)
          go_wp2
          go_roundg g
          case measure => omega
          case rel => exact ⟨2, by omega, rfl⟩
  · have a3 : (r == 65533) = false := by rw [beq_eq_false_iff_ne]; exact h3
    cases hv : Go.validRune r with
    | false =>
      have cV := Lib.hid (validRune_any r w)
      rw [hv] at cV
      clear hv
      go_enter Tryd.func166, Tryd.ntmps166
      go_wp2_with (go_at_call 194; refine cV.out.mono ?_; rintro e w' ⟨rfl, rfl⟩)
      go_ret
      exact ⟨rfl, Below.refl _ _⟩
    | true =>
      have cV := Lib.hid (validRune_any r w)
      rw [hv] at cV
      obtain ⟨e1, e2, e3⟩ := encode_facts r (by rw [validRune_eq]; exact hv) h
      have hcv : ∀ w, (convert 21 9 (.int .i32 r)).run Tryd.prog w = .ok (.string (Utf8.encode r)) w := fun w => run_convert_int_string w 21 9 .i32 r rfl Tryd.underlying9
      clear hv
      generalize Utf8.encode r = T at *
      have e3 := e3 (by omega)
      rcases (by omega : T.size = 2 ∨ T.size = 3 ∨ T.size = 4) with hz | hz | hz
      · obtain ⟨a, b, rfl⟩ : ∃ a b : UInt8, T = ⟨#[a, b]⟩ := by
          obtain ⟨⟨l⟩⟩ := T
          match l, hz with
          | [a, b], _ => exact ⟨a, b, rfl⟩
        have hb : 128 ≤ b.toNat := e3
        clear e3 e2 e1 hz
        have hat : ∀ w, (Instr.index 9 (.string ⟨#[a, b]⟩) (.int .i64 1)).run Tryd.prog w = .ok (.int .u8 (b.toNat : Int)) w := run_at9 ⟨#[a, b]⟩ 1 (by show 1 < 2; omega)
        have hq1 : ((10 : Int) == (b.toNat : Int)) = false := by rw [beq_eq_false_iff_ne]; omega
        have cX := Lib.hid (fun w => ixb_none b w)
        clear hb
        have hs1 : ∀ w, (Instr.index 9 (.string ⟨#[32, 10]⟩) (.int .i64 1)).run Tryd.prog w = .ok (.int .u8 10) w := run_at9 ⟨#[32, 10]⟩ 1 (by decide)
        have hq2 : ((10 : Int) != (b.toNat : Int)) = true := by rw [bne, hq1]; rfl
        have hsl : ∀ w, (Instr.slice 9 (.string ⟨#[32, 10]⟩) (some (.int .i64 2)) none none).run Tryd.prog w = .ok (.string ⟨#[]⟩) w := fun w => by rw [run_slice_string_from_if w 9 _ .i64 2 Tryd.underlying9, if_pos (by decide)]; rfl
        generalize b.toNat = bn at *
        go_enter Tryd.func166, Tryd.ntmps166
        go_wp2_with (first | (go_at_call 194; refine cV.out.mono ?_; rintro e w' ⟨rfl, rfl⟩) | fail)
        go_step3
        go_wp2
        go_loopw [9, 10, 11, 12] (fun iv fv _ _ wr => iv = .int .i64 1 ∧ fv = .int .i64 0 ∧ wr = w) (fun _ _ _ _ _ => 0)
        case atStart => exact ⟨rfl, rfl, rfl⟩
        case round =>
          obtain ⟨rfl, rfl, rfl⟩ := hrel
          go_wp2
          go_step3
          go_wp2
          go_region
          go_wp2
          go_region_with (go_at_call 193; refine (cX.out _).mono ?_; rintro e w' ⟨rfl, rfl⟩)
          all_goals go_wp2
          all_goals
            rw [Exit.noGoto_ret]
            simp only [Exit.inBlock]
            show Exit.noGoto _ Exit.ret _ _
            rw [Exit.noGoto_ret]
            simp only [Exit.inBlock, Exit.then]
            rw [Exit.noGoto_ret]
            simp only [Exit.inBlock]
            go_ret
            exact ⟨rfl, ⟨rfl, rfl, rfl, Nat.le_refl _, fun _ _ => rfl⟩⟩
      · obtain ⟨a, b, c, rfl⟩ : ∃ a b c : UInt8, T = ⟨#[a, b, c]⟩ := by
          obtain ⟨⟨l⟩⟩ := T
          match l, hz with
          | [a, b, c], _ => exact ⟨a, b, c, rfl⟩
        clear e3 e2 e1 hz
        go_enter Tryd.func166, Tryd.ntmps166
        go_wp2_with (first | (go_at_call 194; refine cV.out.mono ?_; rintro e w' ⟨rfl, rfl⟩) | fail)
        go_step3
        go_wp2
        go_loopw [9, 10, 11, 12] (fun iv fv _ _ wr => iv = .int .i64 2 ∧ fv = .int .i64 0 ∧ wr = w) (fun _ _ _ _ _ => 0)
        case atStart => exact ⟨rfl, rfl, rfl⟩
        case round =>
          obtain ⟨rfl, rfl, rfl⟩ := hrel
          go_wp2
          rw [Exit.noGoto_ret]
          go_ret
          exact ⟨rfl, Below.refl _ _⟩
      · obtain ⟨a, b, c, d, rfl⟩ : ∃ a b c d : UInt8, T = ⟨#[a, b, c, d]⟩ := by
          obtain ⟨⟨l⟩⟩ := T
          match l, hz with
          | [a, b, c, d], _ => exact ⟨a, b, c, d, rfl⟩
        clear e3 e2 e1 hz
        go_enter Tryd.func166, Tryd.ntmps166
        go_wp2_with (first | (go_at_call 194; refine cV.out.mono ?_; rintro e w' ⟨rfl, rfl⟩) | fail)
        go_step3
        go_wp2
        go_loopw [9, 10, 11, 12] (fun iv fv _ _ wr => iv = .int .i64 3 ∧ fv = .int .i64 0 ∧ wr = w) (fun _ _ _ _ _ => 0)
        case atStart => exact ⟨rfl, rfl, rfl⟩
        case round =>
          obtain ⟨rfl, rfl, rfl⟩ := hrel
          go_wp2
          rw [Exit.noGoto_ret]
          go_ret
          exact ⟨rfl, Below.refl _ _⟩
end Go.Proofs.YtgechifbbhipaaaDoor

/- strings.ContainsAny of a blank and a newline, at a text of any bytes. No condition but the text's size. -/
set_option linter.unusedVariables false
set_option linter.unusedSimpArgs false
namespace Go.Proofs.YtgechifbbhipaaaDoor
open Go.RowKit Go.Shelf

theorem noAny_run {s : ByteArray} {i n : Nat} (h : Lib.NoAny s.data.toList [32, 10] i) (hb : ∀ j (hj : j < s.size), i ≤ j → j < i + n → 128 ≤ (s[j]'hj).toNat) (hn : i + n ≤ s.size) : Lib.NoAny s.data.toList [32, 10] (i + n) := by
  intro j b hj hjb
  by_cases hji : j < i
  · exact h j b hji hjb
  · have hjs : j < s.size := by omega
    have h1 := hb j hjs (by omega) hj
    have h2 := Lib.data_getElem? s j hjs
    rw [h2] at hjb
    obtain rfl := Option.some.inj hjb
    cases e : ([32, 10] : List UInt8).contains s[j] with
    | false => rfl
    | true =>
      have := List.contains_iff_mem.1 e
      simp only [List.mem_cons, List.not_mem_nil, or_false] at this
      rcases this with h3 | h3 <;> (rw [h3] at h1; exact absurd h1 (by decide))

set_option maxRecDepth 100000 in
set_option maxHeartbeats 1000000 in
theorem ixa_short (s : ByteArray) (h8 : s.size ≤ 8) (w : World) :
    Calls Tryd.prog 136 #[.string s, .string { data := #[32, 10] }] w fun e w' => e = .returned (.int .i64 (Lib.indexAny s.data.toList [32, 10])) ∧ Below w.heap.size w w' := by
  have h8z : decide ((8 : Int) < (s.size : Int)) = false := decide_eq_false (by omega)
  have c1 := Lib.hid (fun (r : Int) (h : 128 ≤ r) (h2 : r ≤ 2147483647) (w : World) => ixr_high r h h2 w)
  have c2 := Lib.hid (fun (c : UInt8) (h : c.toNat < 128) (w : World) => ixr_low c h w)
  have c3 := Lib.hid (fun w => Any.strings_shouldUseASCIISet { Tryd.lays150 with } (s.size : Int) w)
  obtain ⟨C, hC⟩ : ∃ C : ByteArray, { data := #[32, 10] } = C := ⟨_, rfl⟩
  have hemp : C.toList.isEmpty = false := by rw [← hC]; first | rfl | (rw [ByteArray.toList_eq]; rfl)
  have hn1 : ((C.size : Int) == 1) = false := by rw [← hC]; first | rfl | (rw [ByteArray.toList_eq]; rfl)
  rw [hC] at c1 c2 ⊢
  clear hC
  go_enter Tryd.func136, Tryd.ntmps136
  go_wp2_with (go_at_call 167; refine (c3.out _).mono ?_; rintro e w' ⟨rfl, hw⟩; rw [hw, h8z])
  go_loopg [9, 10] s.size (fun g _ _ wx => ∃ i : Nat, i ≤ s.size ∧ s.size ≤ i + g ∧ wx.heap[w.heap.size]? = some (.stringIter s i) ∧ Hid (Below w.heap.size w wx) ∧ Hid (Lib.NoAny s.data.toList [32, 10] i))
  case atStart => exact ⟨0, Nat.zero_le _, by omega, World.iter_heap w s 0, (Below.refl _ _).alloc (Nat.le_refl _) _, Lib.NoAny.zero _ _⟩
  case round =>
    obtain ⟨i, hi1, hi2, hit, HB, HN⟩ := hrel
    by_cases hp : i < s.size
    · obtain ⟨g, rfl⟩ : ∃ g, gk = g + 1 := ⟨gk - 1, by omega⟩
      obtain ⟨x, hx⟩ : ∃ x : UInt8, s[i]'hp = x := ⟨_, rfl⟩
      have hxl : s.data.toList[i]? = some x := by rw [← hx]; exact Lib.data_getElem? s i hp
      by_cases hlo : x.toNat < 128
      · have hnx := fun ty => Lib.run_next_ascii_at (P := Tryd.prog) wr w.heap.size s i ty hit hp (by rw [hx]; exact hlo)
        rw [hx] at hnx
        have hit2 := Lib.iterAt_heap wr w.heap.size s i (i + 1) hit
        have HB2 : Hid (Below w.heap.size w (wr.iterAt w.heap.size s (i + 1))) := Lib.below_iterAt HB.out (k := w.heap.size) (Nat.le_refl _) s _
        have HX := Lib.hid hxl
        have cX := Lib.hid (c2.out x hlo)
        have hcon := Lib.contains_iff_indexByte [32, 10] x
        clear hxl hx hlo
        generalize wr.iterAt w.heap.size s (i + 1) = wy at *
        have hit3 := Lib.hid hit2
        clear hit2 c1 c2
        cases hin : ([32, 10] : List UInt8).contains x
        · rw [hin] at hcon
          have hlt : ¬ ((0 : Int) ≤ Lib.indexByte [32, 10] x) := of_decide_eq_false hcon.symm
          have HI := Lib.hid hin
          clear hcon hin
          generalize Lib.indexByte [32, 10] x = q at *
          go_wp2_with (go_at_call 166; refine (cX.out _).mono ?_; rintro e w' ⟨rfl, hw⟩; rw [hw])
          go_roundg g
          case measure => omega
          case rel => exact ⟨i + 1, by omega, by omega, hit3.out, HB2.out, HN.out.succ HX.out HI.out⟩
        · rw [hin] at hcon
          have hge : (0 : Int) ≤ Lib.indexByte [32, 10] x := of_decide_eq_true hcon.symm
          have HI := Lib.hid hin
          clear hcon hin
          generalize Lib.indexByte [32, 10] x = q at *
          go_wp2_with (go_at_call 166; refine (cX.out _).mono ?_; rintro e w' ⟨rfl, hw⟩; rw [hw])
          go_ret
          exact ⟨by rw [Lib.indexAny_hit HN.out HX.out HI.out]; rfl, HB2.out⟩
      · have hd := decode_high s i hp (by rw [hx]; omega)
        have hd2 := decode_le s i
        obtain ⟨hd3, hd4⟩ := dec_bytes s i hp (by rw [hx]; omega)
        have hnx := fun ty => Lib.run_next_any_at (P := Tryd.prog) wr w.heap.size s i ty hit hp
        have HN2 := Lib.hid (noAny_run HN.out hd4 hd3)
        clear hd4
        generalize Utf8.decode s i = dd at *
        obtain ⟨r, n⟩ := dd
        have cX := Lib.hid (c1.out (r : Int) (by have := hd.1; exact Int.ofNat_le.2 this) (by exact Int.ofNat_le.2 hd2))
        have hn0 : 1 ≤ n := hd.2
        have hn1 : i + n ≤ s.size := hd3
        simp only [] at hnx
        have hit2 := Lib.iterAt_heap wr w.heap.size s i (i + n) hit
        have HB2 : Hid (Below w.heap.size w (wr.iterAt w.heap.size s (i + n))) := Lib.below_iterAt HB.out (k := w.heap.size) (Nat.le_refl _) s _
        clear hd hd2 hd3 hxl hx hlo
        generalize wr.iterAt w.heap.size s (i + n) = wy at *
        have hit3 := Lib.hid hit2
        clear hit2 c1 c2
        go_wp2_with (go_at_call 166; refine (cX.out _).mono ?_; rintro e w' ⟨rfl, hw⟩; have hw2 := Lib.hid hw)
        go_roundg g
        case measure => omega
        case rel => exact ⟨i + n, by omega, by omega, (hw2.out.block _ (Array.getElem?_eq_some_iff.1 hit3.out).1).trans hit3.out, HB2.out.trans (hw2.out.mono HB2.out.size), HN2.out⟩
    · have hnx := fun ty => Lib.run_next_end_at (P := Tryd.prog) wr w.heap.size s i ty hit hp
      obtain rfl : i = s.size := by omega
      clear hit hi1 hi2 hp
      go_wp2
      go_ret
      exact ⟨by rw [Lib.indexAny_none (by rw [← Lib.size_eq]; exact HN.out)]; rfl, HB.out⟩

set_option maxRecDepth 100000 in
set_option maxHeartbeats 1000000 in
theorem ixa_long (s : ByteArray) (h8 : 8 < s.size) (hs : s.size ≤ 140737488355328) (w : World) :
    Calls Tryd.prog 136 #[.string s, .string { data := #[32, 10] }] w fun e w' => e = .returned (.int .i64 (Lib.indexAny s.data.toList [32, 10])) ∧ Below w.heap.size w w' := by
  have h116 : (Tryd.prog.info? (Tryd.lays150_ren.t 116)).map (fun i => (i.zero, i.size)) = some (some (.agg (Array.replicate 256 (.bool false))), 256) := by kernel_rfl
  have hin2 := (zero_of_info h116).2
  have h8z : decide ((8 : Int) < (s.size : Int)) = true := decide_eq_true (by omega)
  have c3 := Lib.hid (fun w => Any.strings_shouldUseASCIISet { Tryd.lays150 with } (s.size : Int) w)
  have cM : Hid (Calls Tryd.prog 168 #[.string { data := #[32, 10] }] w fun e w' => e = .returned (.tuple #[.agg (Lib.setCells [32, 10]), .bool true]) ∧ w' = w.alloc (.cells (Lib.setCells [32, 10]) 170)) := Any.strings_makeASCIISet { Tryd.lays150 with } (zero_of_info h116).1 hin2 ⟨#[32, 10]⟩ w (by decide) (fun j b hb => by
    have h1 : b ∈ ([32, 10] : List UInt8) := List.mem_of_getElem? hb
    simp only [List.mem_cons, List.not_mem_nil, or_false] at h1
    rcases h1 with rfl | rfl <;> decide)
  have cC := Lib.hid (fun (b : Nat) (x : UInt8) (v : Bool) (W : World) (hc : W.cell? ⟨b, x.toNat, none⟩ = some (.bool v)) => Any.asciiSet_contains { Tryd.lays150 with } b x v W hc)
  have HCell : Hid (∀ x : UInt8, ((w.alloc (.cells (Lib.setCells [32, 10]) 170)).alloc (.cells (Lib.setCells [32, 10]) 170)).cell? ⟨w.heap.size + 1, x.toNat, none⟩ = some (.bool (([32, 10] : List UInt8).contains x))) := fun x => by
    rw [World.cell?_alloc_at _ _ _ _ (by simp), Lib.setCells_at]
  have hsc : (storeCells ⟨w.heap.size + 1, 0, none⟩ (Lib.setCells [32, 10]).toList 0).run Tryd.prog ((w.alloc (.cells (Lib.setCells [32, 10]) 170)).alloc (.cells (Array.replicate 256 (.bool false)) 170)) = .ok () ((w.alloc (.cells (Lib.setCells [32, 10]) 170)).alloc (.cells (Lib.setCells [32, 10]) 170)) := by
    have := run_storeCells_new (P := Tryd.prog) (w.alloc (.cells (Lib.setCells [32, 10]) 170)) 170 (Array.replicate 256 (.bool false)) (Lib.setCells [32, 10]) (by rw [Lib.setCells_size]; exact hin2) (by rw [Lib.setCells_size, Array.size_replicate]) (Lib.setCells_one _)
    simpa using this
  have hsz := Lib.setCells_size [32, 10]
  have HBl : Hid (Below w.heap.size w ((w.alloc (.cells (Lib.setCells [32, 10]) 170)).alloc (.cells (Lib.setCells [32, 10]) 170))) := ((Below.refl _ _).alloc (Nat.le_refl _) _).alloc (by simp) _
  obtain ⟨C, hC⟩ : ∃ C : ByteArray, { data := #[32, 10] } = C := ⟨_, rfl⟩
  have hemp : C.toList.isEmpty = false := by rw [← hC, ByteArray.toList_eq]; rfl
  have hn1 : ((C.size : Int) == 1) = false := by rw [← hC]; rfl
  rw [hC] at cM ⊢
  clear hC h116 hin2
  generalize hSS : (Lib.setCells [32, 10]) = S at *
  clear hSS
  go_enter Tryd.func136, Tryd.ntmps136
  go_wp2_with (first | (go_at_call 167; refine (c3.out _).mono ?_; rintro e w' ⟨rfl, hw⟩; rw [hw, h8z]) | (go_at_call 168; refine cM.out.mono ?_; rintro e w' ⟨rfl, hw⟩; rw [hw]))
  have hzc : Tryd.zeroCells170 = Array.replicate 256 (.bool false) := by kernel_rfl
  simp only [hzc, Tryd.sizeOf170, Result.andThen, ↓reduceIte, hsc]
  rw [Oper.upon_skip]
  go_wp2
  clear hsc cM c3
  generalize (w.alloc (.cells S 170)).alloc (.cells S 170) = wx at *
  go_loopg [8] s.size (fun g s8 wr => ∃ i : Nat, i + g = s.size ∧ s8 = .int .i64 (i : Int) ∧ wr = wx ∧ Hid (Lib.NoAny s.data.toList [32, 10] i))
  case atStart => exact ⟨0, by omega, rfl, rfl, Lib.NoAny.zero _ _⟩
  case round =>
    obtain ⟨i, hig, rfl, rfl, HN⟩ := hrel
    cases gk with
    | zero =>
      obtain rfl : i = s.size := by omega
      have hiz : ¬ ((s.size : Int) < (s.size : Int)) := by omega
      go_wp2
      go_ret
      exact ⟨by rw [Lib.indexAny_none (by rw [← Lib.size_eq]; exact HN.out)]; rfl, HBl.out⟩
    | succ g =>
      have hi : i < s.size := by omega
      have hiz : (i : Int) < (s.size : Int) := by omega
      obtain ⟨x, hx⟩ : ∃ x : UInt8, s[i]'hi = x := ⟨_, rfl⟩
      have hxl : s.data.toList[i]? = some x := by rw [← hx]; exact Lib.data_getElem? s i hi
      have HX := Lib.hid hxl
      have hat : ∀ w, (Instr.index 9 (.string s) (.int .i64 (i : Int))).run Tryd.prog w = .ok (.int .u8 (x.toNat : Int)) w := by rw [← hx]; exact run_at9 s i hi
      have hw1 : wrap64 ((i : Int) + 1) = ((i + 1 : Nat) : Int) := by unfold wrap64; omega
      have cX := cC.out (w.heap.size + 1) x _ wr (HCell.out x)
      clear hxl hx
      cases hin : ([32, 10] : List UInt8).contains x
      · rw [hin] at cX
        have CX := Lib.hid cX
        have HI := Lib.hid hin
        clear cX hin
        generalize hxn : x.toNat = xn at *
        go_wp2_with (go_at_call 169; refine CX.out.mono ?_; rintro e w' ⟨rfl, hw⟩; rw [hw])
        go_roundg g
        case measure => omega
        case rel => exact ⟨i + 1, by omega, by first | rfl | simp, rfl, HN.out.succ HX.out HI.out⟩
      · rw [hin] at cX
        have CX := Lib.hid cX
        have HI := Lib.hid hin
        clear cX hin
        generalize hxn : x.toNat = xn at *
        go_wp2_with (go_at_call 169; refine CX.out.mono ?_; rintro e w' ⟨rfl, hw⟩; rw [hw])
        go_ret
        exact ⟨by rw [Lib.indexAny_hit HN.out HX.out HI.out]; rfl, HBl.out⟩

theorem conAny_any (s : ByteArray) (hs : s.size ≤ 140737488355328) (w : World) :
    Calls Tryd.prog 85 #[.string s, .string { data := #[32, 10] }] w fun e w' => e = .returned (.bool (Lib.containsAny s.data.toList [32, 10])) ∧ Below w.heap.size w w' := by
  have c : Calls Tryd.prog 136 #[.string s, .string { data := #[32, 10] }] w fun e w' => e = .returned (.int .i64 (Lib.indexAny s.data.toList [32, 10])) ∧ Below w.heap.size w w' := by
    by_cases h8 : s.size ≤ 8
    · exact ixa_short s h8 w
    · exact ixa_long s (by omega) hs w
  have C := Lib.hid c
  clear c hs
  go_enter Tryd.func85, Tryd.ntmps85
  go_wp2_with (go_at_call 136; refine C.out.mono ?_; rintro e w' ⟨rfl, hw⟩)
  go_ret
  exact ⟨rfl, hw⟩
end Go.Proofs.YtgechifbbhipaaaDoor

/- grammar: the program's Rule of any text as a name. No condition but the text's size and the library's variable. -/
set_option linter.unusedVariables false
set_option linter.unusedSimpArgs false
namespace Go.Proofs.YtgechifbbhipaaaDoor
open Go.RowKit

theorem conAny_free {l chars : List UInt8} (h : Lib.containsAny l chars = false) (c : UInt8) (hc : c ∈ chars) : c ∉ l := by
  unfold Lib.containsAny at h
  replace h : Lib.indexAny l chars < 0 := by simpa using h
  induction l with
  | nil => simp
  | cons b l ih =>
    have hg := Lib.indexAny_ge chars l
    rw [Lib.indexAny] at h
    by_cases hb : chars.contains b = true
    · rw [if_pos hb] at h; omega
    · rw [if_neg hb] at h
      have h2 : Lib.indexAny l chars < 0 := by
        by_cases e : Lib.indexAny l chars = -1
        · omega
        · rw [if_neg (by simpa using e)] at h; omega
      intro hm
      rcases List.mem_cons.1 hm with rfl | hm
      · exact hb (List.contains_iff_mem.2 hc)
      · exact ih h2 hm
set_option maxRecDepth 100000 in
set_option maxHeartbeats 4000000 in
theorem rule_some (pg : Int) (nm : ByteArray) (hca : Lib.containsAny nm.data.toList [32, 10] = false) (hnz : nm.size ≠ 0) (hs : nm.size ≤ 140737488355328) (m : Int) (w : World) (hm : w.cell? ⟨0, 0, none⟩ = some (.int .i64 m)) :
    Calls Tryd.prog 28 #[.int .i64 pg, .string nm] w fun e w' => e = .returned (.tuple #[.string (ruleVal (ruleF pg nm.data.toList)).1, .bool (ruleVal (ruleF pg nm.data.toList)).2]) ∧ ∃ n w1, Below w.heap.size w w1 ∧ w' = w1.drewN n := by
  have cA := fun w => conAny_any nm (by omega) w
  rw [hca] at cA
  have CA := Lib.hid cA
  have i1 := not_empty nm hnz
  have cD := Lib.hid (fun w => digit_any pg w)
  have hds : (digS pg).size = 1 := by unfold digS; rw [mkB_size]; unfold digL; (repeat' split) <;> rfl
  have hn10 : 10 ∉ hdL pg nm.data.toList := by
    unfold hdL
    simp only [List.mem_append, List.mem_cons, not_or]
    exact ⟨digL_free pg 10 (.inl rfl), by decide, conAny_free hca 10 (by simp)⟩
  have HHd : Hid (((({ data := #[10] } ++ digS pg) ++ { data := #[32] }) ++ nm : ByteArray).data.toList = 10 :: hdL pg nm.data.toList) := by
    unfold Hid hdL; simp [ByteArray.data_append, digS, mkB]
  have hhs : ((({ data := #[10] } ++ digS pg) ++ { data := #[32] }) ++ nm : ByteArray).size ≤ 140737488355331 ∧ 1 ≤ ((({ data := #[10] } ++ digS pg) ++ { data := #[32] }) ++ nm : ByteArray).size := by
    rw [ByteArray.size_append, ByteArray.size_append, ByteArray.size_append, hds]
    constructor
    · show 1 + 1 + 1 + nm.size ≤ 140737488355331; omega
    · show 1 ≤ 1 + 1 + 1 + nm.size; omega
  obtain ⟨R, hR⟩ : ∃ R, ruleF pg nm.data.toList = R := ⟨_, rfl⟩
  rw [hR]
  have HR0 : Hid (searchR 2000 rulesP.data.toList ((({ data := #[10] } ++ digS pg) ++ { data := #[32] }) ++ nm : ByteArray).data.toList = R) := by
    unfold Hid
    rw [HHd.out, ← hR, rulesP_text]
    have := search_eq hn10 ruleLs [] 2000 (by have := ruleLs_len; omega) (by simp) ruleLs_free
    rw [List.nil_append] at this
    exact this
  clear hR HHd hn10 hca cA hnz
  generalize digS pg = D at *
  have hcat1 : ∀ w, (Op.stringOp .add { data := #[10] } D).run Tryd.prog w = .ok (.string ({ data := #[10] } ++ D)) w := fun w => Go.run_string_add_sum w _ _ (by rw [hds]; show 1 + 1 ≤ _; omega)
  have hcat2 : ∀ w, (Op.stringOp .add ({ data := #[10] } ++ D) { data := #[32] }).run Tryd.prog w = .ok (.string (({ data := #[10] } ++ D) ++ { data := #[32] })) w := fun w => Go.run_string_add_sum w _ _ (by rw [ByteArray.size_append, hds]; show 1 + 1 + 1 ≤ _; omega)
  have hcat3 : ∀ w, (Op.stringOp .add (({ data := #[10] } ++ D) ++ { data := #[32] }) nm).run Tryd.prog w = .ok (.string ((({ data := #[10] } ++ D) ++ { data := #[32] }) ++ nm)) w := fun w => Go.run_string_add_sum w _ _ (by rw [ByteArray.size_append, ByteArray.size_append, hds]; show 1 + 1 + 1 + nm.size ≤ _; omega)
  generalize hH : (({ data := #[10] } ++ D) ++ { data := #[32] } ++ nm : ByteArray) = H at *
  clear hds hH
  have hps := rulesP_size
  have HPS := Lib.hid hps
  clear hps
  have HM := Lib.hid hm
  have hm0 := World.block_lt_of_cell? _ _ hm
  clear hm
  go_enter Tryd.func28, Tryd.ntmps28
  rw [lit_p]
  rotate_left
  · kernel_rfl
  generalize rulesP = Q at *
  go_wp2_with (first | (go_at_call 85; refine (CA.out _).mono ?_; rintro e w1 ⟨rfl, hb1⟩) | (go_at_call 86; refine (cD.out _).mono ?_; rintro e w2 ⟨rfl, hb2⟩) | fail)
  have HB2 : Hid (Below w.heap.size w w2) := hb1.trans (hb2.mono hb1.size)
  have HM2 : Hid (w2.cell? ⟨0, 0, none⟩ = some (.int .i64 m)) := (HB2.out.cell (p := ⟨0, 0, none⟩) hm0).trans HM.out
  clear hcat1 hcat2 hcat3 CA cD hb1 hb2 HM
  go_loop [7] (fun tv => ∃ (n : Nat) (T : ByteArray), tv = .string T ∧ T.size ≤ 1607 ∧ Hid (T.size < n) ∧ Hid (searchR n T.data.toList H.data.toList = R)) (fun tv => szOf tv)
  case atStart => exact ⟨2000, Q, rfl, by rw [HPS.out]; omega, by unfold Hid; rw [HPS.out]; omega, HR0.out⟩
  case round =>
    obtain ⟨n, T, rfl, hT, HN, HS⟩ := hrel
    clear HR0
    obtain ⟨n, rfl⟩ : ∃ k, n = k + 1 := ⟨n - 1, by have := HN.out; omega⟩
    have cI := fun w hw => Tryd.strings_Index T H m w (by omega) hw
    have hic := Lib.indexB_cases T H
    rw [show Lib.indexB T H = Lib.index T.data.toList H.data.toList from rfl] at hic
    have hsr := HS.out
    rw [searchR] at hsr
    rcases hic with hi | ⟨k, hi, hk⟩
    · rw [hi] at cI hsr
      have HR : Hid ((⟨#[]⟩, false) = ruleVal R) := by
        unfold Hid; rw [if_pos (by omega)] at hsr; rw [← hsr]; rfl
      have CI := Lib.hid (cI w2 HM2.out)
      clear cI hsr hi
      go_wp2_with (go_at_call 87; refine CI.out.mono ?_; rintro e w3 ⟨rfl, rfl⟩)
      go_ret2
      exact ⟨ret_sb HR.out, 0, _, HB2.out, rfl⟩
    · rw [hi] at cI hsr
      rw [if_neg (by omega)] at hsr
      have CI := Lib.hid (cI w2 HM2.out)
      have k0 : (0 : Int) ≤ (k : Int) := by omega
      have k1 : ¬ (k : Int) < 0 := by omega
      have k2 : (k : Int) + (H.size : Int) ≤ (T.size : Int) := by omega
      have k3 : (0 : Int) ≤ (k : Int) + (H.size : Int) := by omega
      have k4 : wrap64 ((k : Int) + (H.size : Int)) = (k : Int) + (H.size : Int) := by unfold wrap64; omega
      have k5 : ((k : Int) + (H.size : Int)).toNat = k + H.size := by omega
      obtain ⟨T2, hT2⟩ : ∃ T2, T.extract (k + H.size) T.size = T2 := ⟨_, rfl⟩
      have hT2l : T2.data.toList = T.data.toList.drop (k + H.size) := by
        rw [← hT2, ByteArray.data_extract, Array.toList_extract, List.extract]
        exact List.take_of_length_le (by rw [List.length_drop, len_toList]; exact Nat.le_refl _)
      have hT2s : T2.size < T.size := by
        rw [← hT2, ByteArray.size_extract]; omega
      rw [show ((k : Int)).toNat + H.data.toList.length = k + H.size from by rw [len_toList]; omega, ← hT2l] at hsr
      have HSr := Lib.hid hsr
      clear cI hsr hi hT2l
      by_cases hz : T2.size = 0
      · have hT2e : T2.data.toList = [] := List.eq_nil_of_length_eq_zero (by rw [len_toList]; exact hz)
        have HR : Hid ((⟨#[]⟩, true) = ruleVal R) := by
          have := HSr.out
          rw [hT2e] at this
          unfold Hid; rw [← this]; rfl
        have i2 := emptyB T2 hz
        clear HSr hT2e hz
        go_wp2_with (go_at_call 87; refine CI.out.mono ?_; rintro e w3 ⟨rfl, rfl⟩)
        go_ret2
        exact ⟨ret_sb HR.out, 0, _, HB2.out, rfl⟩
      · have i2 := not_empty T2 hz
        have h0 : 0 < T2.size := by omega
        have k6 : (1 : Int) ≤ (T2.size : Int) := by omega
        have hat : ∀ w, (Instr.index 9 (.string T2) (.int .i64 0)).run Tryd.prog w = .ok (.int .u8 (T2[0].toNat : Int)) w := run_at9 T2 0 h0
        have hdr : T2.data.toList = T2[0] :: T2.data.toList.drop 1 := by
          have := drop_cons_at T2 0 h0
          simpa using this
        have hsr := HSr.out
        rw [hdr] at hsr
        simp only [] at hsr
        have HNx := Lib.hid (fun (h10 : ¬ T2[0] = 10) (h32 : ¬ T2[0] = 32) => (show searchR n T2.data.toList H.data.toList = R by rw [hdr]; rw [if_neg h10, if_neg h32] at hsr; exact hsr))
        by_cases h10 : T2[0] = 10
        · have HR : Hid ((⟨#[]⟩, true) = ruleVal R) := by
            rw [if_pos h10] at hsr
            unfold Hid; rw [← hsr]; rfl
          have j4 : ((T2[0].toNat : Int) == 10) = true := by rw [h10]; rfl
          clear HSr hsr hdr HNx h10
          generalize T2[0] = ch at *
          go_wp2_with (go_at_call 87; refine CI.out.mono ?_; rintro e w3 ⟨rfl, rfl⟩)
          go_ret2
          exact ⟨ret_sb HR.out, 0, _, HB2.out, rfl⟩
        · have j4 : ((T2[0].toNat : Int) == 10) = false := by rw [beq_eq_false_iff_ne]; intro e; exact h10 (byte_eq 10 rfl e)
          by_cases h32 : T2[0] = 32
          · have j5 : ((T2[0].toNat : Int) == 32) = true := by rw [h32]; rfl
            obtain ⟨T3, hT3⟩ : ∃ T3, T2.extract 1 T2.size = T3 := ⟨_, rfl⟩
            have hT3l : T3.data.toList = T2.data.toList.drop 1 := by
              rw [← hT3, ByteArray.data_extract, Array.toList_extract, List.extract]
              exact List.take_of_length_le (by rw [List.length_drop, len_toList]; exact Nat.le_refl _)
            have hT3s : T3.size ≤ 1607 := by rw [← hT3, ByteArray.size_extract]; omega
            have HR : Hid ((mkB (Lib.cut T3.data.toList [10]).1, true) = ruleVal R) := by
              rw [if_neg h10, if_pos h32, ← hT3l] at hsr
              unfold Hid; rw [← hsr]; rfl
            have cC := Lib.hid (Tryd.strings_Cut T3 ⟨#[10]⟩ m w2 (by omega) HM2.out)
            rw [show (⟨#[10]⟩ : ByteArray).data.toList = [10] from rfl] at cC
            clear HSr hsr hdr HNx h10 h32 hT3l
            generalize T2[0] = ch at *
            generalize Lib.cut T3.data.toList [10] = ct at *
            obtain ⟨ca, cb, cc⟩ := ct
            go_wp2_with (first | (go_at_call 87; refine CI.out.mono ?_; rintro e w3 ⟨rfl, rfl⟩) | (go_at_call 88; refine cC.out.mono ?_; rintro e w4 ⟨rfl, nq, rfl⟩))
            go_ret2
            exact ⟨ret_sb HR.out, nq, _, HB2.out, rfl⟩
          · have j5 : ((T2[0].toNat : Int) == 32) = false := by rw [beq_eq_false_iff_ne]; intro e; exact h32 (byte_eq 32 rfl e)
            have HS2 := Lib.hid (HNx.out h10 h32)
            have HN2 : Hid (T2.size < n) := by have := HN.out; unfold Hid; omega
            clear HSr hsr hdr HNx h10 h32
            generalize T2[0] = ch at *
            go_wp2_with (go_at_call 87; refine CI.out.mono ?_; rintro e w3 ⟨rfl, rfl⟩)
            go_round
            case rel => exact ⟨n, T2, rfl, by omega, HN2.out, HS2.out⟩
            case measure => simp [szOf]; omega


/-- a name's rule, of any text as a name -/
noncomputable def ruleN (pg : Int) (nm : List UInt8) : Option (List UInt8) := if Lib.containsAny nm [32, 10] = true ∨ nm = [] then none else ruleF pg nm
set_option maxRecDepth 100000 in
set_option maxHeartbeats 1000000 in
theorem ruleN_any (pg : Int) (nm : ByteArray) (hs : nm.size ≤ 140737488355328) (m : Int) (w : World) (hm : w.cell? ⟨0, 0, none⟩ = some (.int .i64 m)) :
    Calls Tryd.prog 28 #[.int .i64 pg, .string nm] w fun e w' => e = .returned (.tuple #[.string (ruleVal (ruleN pg nm.data.toList)).1, .bool (ruleVal (ruleN pg nm.data.toList)).2]) ∧ Below w.heap.size w w' := by
  cases hca : Lib.containsAny nm.data.toList [32, 10] with
  | true =>
    have hR : ruleN pg nm.data.toList = none := by unfold ruleN; rw [if_pos (.inl hca)]
    have cA := Lib.hid (conAny_any nm (by omega) w)
    rw [hca] at cA
    rw [hR]
    clear hR hca hm
    go_enter Tryd.func28, Tryd.ntmps28
    go_wp2_with (first | (go_at_call 85; refine cA.out.mono ?_; rintro e w1 ⟨rfl, hb1⟩) | fail)
    go_ret2
    exact ⟨rfl, hb1⟩
  | false =>
    by_cases hz : nm.size = 0
    · have hl : nm.data.toList = [] := List.eq_nil_of_length_eq_zero (by rw [len_toList]; exact hz)
      have hR : ruleN pg nm.data.toList = none := by unfold ruleN; rw [if_pos (.inr hl)]
      have cA := Lib.hid (conAny_any nm (by omega) w)
      rw [hca] at cA
      rw [hR]
      have i1 := emptyB nm hz
      clear hR hca hm hl hz
      go_enter Tryd.func28, Tryd.ntmps28
      go_wp2_with (first | (go_at_call 85; refine cA.out.mono ?_; rintro e w1 ⟨rfl, hb1⟩) | fail)
      go_ret2
      exact ⟨rfl, hb1⟩
    · have hR : ruleN pg nm.data.toList = ruleF pg nm.data.toList := by
        unfold ruleN
        rw [if_neg]
        rintro (h | h)
        · rw [hca] at h; cases h
        · exact hz (by rw [← len_toList, h]; rfl)
      rw [hR]
      refine (rule_some pg nm hca hz hs m w hm).mono ?_
      rintro e w' ⟨h1, n, w1, h2, rfl⟩
      exact ⟨h1, ⟨h2.os, h2.tape, h2.output, h2.size, h2.block⟩⟩
end Go.Proofs.YtgechifbbhipaaaDoor
