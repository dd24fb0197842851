/- strings.ContainsAny of a blank and a newline, at a text of any bytes. No condition but the text's size. -/
import Derived.Test.YtgechifbbhipaaaDoorMkU
import Derived.Test.YtgechifbbhipaaaDoorShelfG
import Derived.Laws.RangeAny
import Derived.Laws.Runes
import Derived.Lib.MapLaws
import Derived.WalkMore
import Derived.Shelf.Strings.IndexAnyAll
set_option linter.unusedVariables false
set_option linter.unusedSimpArgs false
namespace Go.Proofs.YtgechifbbhipaaaDoor
open Go.RowKit Go.Shelf

theorem get_bang (s : ByteArray) (p : Nat) (h : p < s.size) : s.get! p = s[p]'h := by
  have := Go.get_at s p h
  simpa using this
theorem dec_bytes (s : ByteArray) (pos : Nat) (h : pos < s.size) (ha : 128 ≤ (s[pos]'h).toNat) : pos + (Utf8.decode s pos).2 ≤ s.size ∧ ∀ j (hj : j < s.size), pos ≤ j → j < pos + (Utf8.decode s pos).2 → 128 ≤ (s[j]'hj).toNat := by
  have hb : 128 ≤ (s.get! pos).toNat := by rw [get_bang s pos h]; exact ha
  rw [Lib.decode_at]
  rcases Lib.decodeN_shape (s.size - pos) (s.get! pos).toNat (s.get! (pos + 1)).toNat (s.get! (pos + 2)).toNat (s.get! (pos + 3)).toNat with ⟨h1, e⟩ | ⟨_, h2, h3, _, e⟩ | ⟨_, h2, h3, h4, _, _, e⟩ | ⟨_, h2, h3, h4, h5, _, _, e⟩ | e
  · omega
  · rw [e]
    refine ⟨by show pos + 2 ≤ _; omega, fun j hj h6 h7 => ?_⟩
    have h7 : j < pos + 2 := h7
    rw [← get_bang s j hj]
    rcases (by omega : j = pos ∨ j = pos + 1) with rfl | rfl <;> omega
  · rw [e]
    refine ⟨by show pos + 3 ≤ _; omega, fun j hj h6 h7 => ?_⟩
    have h7 : j < pos + 3 := h7
    rw [← get_bang s j hj]
    rcases (by omega : j = pos ∨ j = pos + 1 ∨ j = pos + 2) with rfl | rfl | rfl <;> omega
  · rw [e]
    refine ⟨by show pos + 4 ≤ _; omega, fun j hj h6 h7 => ?_⟩
    have h7 : j < pos + 4 := h7
    rw [← get_bang s j hj]
    rcases (by omega : j = pos ∨ j = pos + 1 ∨ j = pos + 2 ∨ j = pos + 3) with rfl | rfl | rfl | rfl <;> omega
  · rw [e]
    refine ⟨by show pos + 1 ≤ _; omega, fun j hj h6 h7 => ?_⟩
    have h7 : j < pos + 1 := h7
    obtain rfl : j = pos := by omega
    exact ha

theorem validRune_any (r : Int) (w : World) : Calls Tryd.prog 194 #[.int .i32 r] w fun e w' => e = .returned (.bool (Go.validRune r)) ∧ w = w' := by
  by_cases h0 : 0 ≤ r
  · by_cases h1 : r < 55296
    · have hv : Go.validRune r = true := decide_eq_true (.inl ⟨h0, h1⟩)
      rw [hv]
      go_enter Tryd.func194, Tryd.ntmps194
      go_wp2
      go_ret
      exact ⟨rfl, rfl⟩
    · by_cases h2 : 57343 < r
      · by_cases h3 : r ≤ 1114111
        · have hv : Go.validRune r = true := decide_eq_true (.inr ⟨h2, h3⟩)
          rw [hv]
          go_enter Tryd.func194, Tryd.ntmps194
          go_wp2
          go_ret
          exact ⟨rfl, rfl⟩
        · have hv : Go.validRune r = false := decide_eq_false (by omega)
          rw [hv]
          go_enter Tryd.func194, Tryd.ntmps194
          go_wp2
          go_ret
          exact ⟨rfl, rfl⟩
      · have hv : Go.validRune r = false := decide_eq_false (by omega)
        rw [hv]
        go_enter Tryd.func194, Tryd.ntmps194
        go_wp2
        go_ret
        exact ⟨rfl, rfl⟩
  · have hv : Go.validRune r = false := decide_eq_false (by omega)
    have h2 : ¬ 57343 < r := by omega
    rw [hv]
    go_enter Tryd.func194, Tryd.ntmps194
    go_wp2
    go_ret
    exact ⟨rfl, rfl⟩

theorem ixr_low (c : UInt8) (hc : c.toNat < 128) (w : World) : Calls Tryd.prog 166 #[.string { data := #[32, 10] }, .int .i32 (c.toNat : Int)] w fun e w' => e = .returned (.int .i64 (Lib.indexByte [32, 10] c)) ∧ w' = w := by
  have h := Any.strings_IndexRune_ascii { Tryd.lays150 with } ⟨#[32, 10]⟩ (c.toNat : Int) w (by omega) (by omega)
  have e : ((c.toNat : Int)).toNat.toUInt8 = c := by simp
  rw [e] at h
  exact h
theorem ixb_none (c : UInt8) (w : World) : Calls Tryd.prog 193 #[.string ⟨#[]⟩, .int .u8 (c.toNat : Int)] w fun e w' => e = .returned (.int .i64 (-1)) ∧ w' = w := by
  have h := Any.strings_IndexByte { Tryd.lays150 with } ⟨#[]⟩ (c.toNat : Int) w
  exact h

set_option maxRecDepth 100000 in
set_option maxHeartbeats 1000000 in
theorem ixr_high (r : Int) (h : 128 ≤ r) (h2 : r ≤ 2147483647) (w : World) : Calls Tryd.prog 166 #[.string { data := #[32, 10] }, .int .i32 r] w fun e w' => e = .returned (.int .i64 (-1)) ∧ Below w.heap.size w w' := by
  have a0 : (0 : Int) ≤ r := by omega
  have a1 : ¬ r < 128 := by omega
  by_cases h3 : r = 65533
  · subst h3
    clear h h2 a0 a1
    go_enter Tryd.func166, Tryd.ntmps166
    go_wp2
    go_loopg [5, 6] 2 (fun g _ _ wx => ∃ i : Nat, i + g = 2 ∧ wx = w.iter { data := #[32, 10] } i)
    case atStart => exact ⟨0, by omega, rfl⟩
    case round =>
      obtain ⟨i, hig, rfl⟩ := hrel
      cases gk with
      | zero =>
        obtain rfl : i = 2 := by omega
        have hnx := fun ty => run_next_end (P := Tryd.prog) w { data := #[32, 10] } 2 ty (by decide)
        go_wp2
        go_ret
        exact ⟨rfl, (Below.refl _ _).alloc (Nat.le_refl _) _⟩
      | succ g =>
        rcases (by omega : i = 0 ∨ i = 1) with rfl | rfl
        · have hnx : ∀ ty, _ := fun ty => run_next_ascii (P := Tryd.prog) w { data := #[32, 10] } 0 ty (by decide) (by decide)
          go_wp2
          go_roundg g
          case measure => omega
          case rel => exact ⟨1, by omega, rfl⟩
        · have hnx : ∀ ty, _ := fun ty => run_next_ascii (P := Tryd.prog) w { data := #[32, 10] } 1 ty (by decide) (by decide)
          go_wp2
          go_roundg g
          case measure => omega
          case rel => exact ⟨2, by omega, rfl⟩
  · have a3 : (r == 65533) = false := by rw [beq_eq_false_iff_ne]; exact h3
    cases hv : Go.validRune r with
    | false =>
      have cV := Lib.hid (validRune_any r w)
      rw [hv] at cV
      clear hv
      go_enter Tryd.func166, Tryd.ntmps166
      go_wp2_with (go_at_call 194; refine cV.out.mono ?_; rintro e w' ⟨rfl, rfl⟩)
      go_ret
      exact ⟨rfl, Below.refl _ _⟩
    | true =>
      have cV := Lib.hid (validRune_any r w)
      rw [hv] at cV
      obtain ⟨e1, e2, e3⟩ := encode_facts r (by rw [validRune_eq]; exact hv) h
      have hcv : ∀ w, (convert 21 9 (.int .i32 r)).run Tryd.prog w = .ok (.string (Utf8.encode r)) w := fun w => run_convert_int_string w 21 9 .i32 r rfl Tryd.underlying9
      clear hv
      generalize Utf8.encode r = T at *
      have e3 := e3 (by omega)
      rcases (by omega : T.size = 2 ∨ T.size = 3 ∨ T.size = 4) with hz | hz | hz
      · obtain ⟨a, b, rfl⟩ : ∃ a b : UInt8, T = ⟨#[a, b]⟩ := by
          obtain ⟨⟨l⟩⟩ := T
          match l, hz with
          | [a, b], _ => exact ⟨a, b, rfl⟩
        have hb : 128 ≤ b.toNat := e3
        clear e3 e2 e1 hz
        have hat : ∀ w, (Instr.index 9 (.string ⟨#[a, b]⟩) (.int .i64 1)).run Tryd.prog w = .ok (.int .u8 (b.toNat : Int)) w := run_at9 ⟨#[a, b]⟩ 1 (by show 1 < 2; omega)
        have hq1 : ((10 : Int) == (b.toNat : Int)) = false := by rw [beq_eq_false_iff_ne]; omega
        have cX := Lib.hid (fun w => ixb_none b w)
        clear hb
        have hs1 : ∀ w, (Instr.index 9 (.string ⟨#[32, 10]⟩) (.int .i64 1)).run Tryd.prog w = .ok (.int .u8 10) w := run_at9 ⟨#[32, 10]⟩ 1 (by decide)
        have hq2 : ((10 : Int) != (b.toNat : Int)) = true := by rw [bne, hq1]; rfl
        have hsl : ∀ w, (Instr.slice 9 (.string ⟨#[32, 10]⟩) (some (.int .i64 2)) none none).run Tryd.prog w = .ok (.string ⟨#[]⟩) w := fun w => by rw [run_slice_string_from_if w 9 _ .i64 2 Tryd.underlying9, if_pos (by decide)]; rfl
        generalize b.toNat = bn at *
        go_enter Tryd.func166, Tryd.ntmps166
        go_wp2_with (first | (go_at_call 194; refine cV.out.mono ?_; rintro e w' ⟨rfl, rfl⟩) | fail)
        go_step3
        go_wp2
        go_loopw [9, 10, 11, 12] (fun iv fv _ _ wr => iv = .int .i64 1 ∧ fv = .int .i64 0 ∧ wr = w) (fun _ _ _ _ _ => 0)
        case atStart => exact ⟨rfl, rfl, rfl⟩
        case round =>
          obtain ⟨rfl, rfl, rfl⟩ := hrel
          go_wp2
          go_step3
          go_wp2
          go_region
          go_wp2
          go_region_with (go_at_call 193; refine (cX.out _).mono ?_; rintro e w' ⟨rfl, rfl⟩)
          all_goals go_wp2
          all_goals
            rw [Exit.noGoto_ret]
            simp only [Exit.inBlock]
            show Exit.noGoto _ Exit.ret _ _
            rw [Exit.noGoto_ret]
            simp only [Exit.inBlock, Exit.then]
            rw [Exit.noGoto_ret]
            simp only [Exit.inBlock]
            go_ret
            exact ⟨rfl, ⟨rfl, rfl, rfl, Nat.le_refl _, fun _ _ => rfl⟩⟩
      · obtain ⟨a, b, c, rfl⟩ : ∃ a b c : UInt8, T = ⟨#[a, b, c]⟩ := by
          obtain ⟨⟨l⟩⟩ := T
          match l, hz with
          | [a, b, c], _ => exact ⟨a, b, c, rfl⟩
        clear e3 e2 e1 hz
        go_enter Tryd.func166, Tryd.ntmps166
        go_wp2_with (first | (go_at_call 194; refine cV.out.mono ?_; rintro e w' ⟨rfl, rfl⟩) | fail)
        go_step3
        go_wp2
        go_loopw [9, 10, 11, 12] (fun iv fv _ _ wr => iv = .int .i64 2 ∧ fv = .int .i64 0 ∧ wr = w) (fun _ _ _ _ _ => 0)
        case atStart => exact ⟨rfl, rfl, rfl⟩
        case round =>
          obtain ⟨rfl, rfl, rfl⟩ := hrel
          go_wp2
          rw [Exit.noGoto_ret]
          go_ret
          exact ⟨rfl, Below.refl _ _⟩
      · obtain ⟨a, b, c, d, rfl⟩ : ∃ a b c d : UInt8, T = ⟨#[a, b, c, d]⟩ := by
          obtain ⟨⟨l⟩⟩ := T
          match l, hz with
          | [a, b, c, d], _ => exact ⟨a, b, c, d, rfl⟩
        clear e3 e2 e1 hz
        go_enter Tryd.func166, Tryd.ntmps166
        go_wp2_with (first | (go_at_call 194; refine cV.out.mono ?_; rintro e w' ⟨rfl, rfl⟩) | fail)
        go_step3
        go_wp2
        go_loopw [9, 10, 11, 12] (fun iv fv _ _ wr => iv = .int .i64 3 ∧ fv = .int .i64 0 ∧ wr = w) (fun _ _ _ _ _ => 0)
        case atStart => exact ⟨rfl, rfl, rfl⟩
        case round =>
          obtain ⟨rfl, rfl, rfl⟩ := hrel
          go_wp2
          rw [Exit.noGoto_ret]
          go_ret
          exact ⟨rfl, Below.refl _ _⟩
end Go.Proofs.YtgechifbbhipaaaDoor
