/- MbintReads: the walk. No condition. -/
import Derived.Test.YtiakmaleiholnaaMbO
import Derived.Test.YtiakmaleiholnaaRdrS
import Derived.Deep.Slices
import Derived.Deep.Fields
import Derived.ChangeSame
import Derived.Deep.RegionWith
namespace Go.Proofs.Ytiakmaleiholnaa
open Go.RowKit

/-- n elements of two numbers -/
def Row2 (w : World) (ad : Option Addr) (n : Nat) : Prop :=
  ∀ i, i < n → ∃ (b o : Nat) (x0 x1 : Int), ad = some ⟨b, o, none⟩ ∧ b < w.heap.size ∧ w.cell? ⟨b, o + i * 2, none⟩ = some (.int .i64 x0) ∧ w.cell? ⟨b, o + i * 2 + 1, none⟩ = some (.int .i64 x1)

theorem Row2.below {w w' : World} {ad : Option Addr} {n : Nat} (h : Row2 w ad n) (hb : Below w.heap.size w w') : Row2 w' ad n := fun i hi => by
  obtain ⟨b, o, x0, x1, rfl, hl, h0, h1⟩ := h i hi
  have := hb.size
  exact ⟨b, o, x0, x1, rfl, by omega, (hb.cell (p := ⟨b, _, none⟩) hl).trans h0, (hb.cell (p := ⟨b, _, none⟩) hl).trans h1⟩

/-- the two readers, at the same place -/
structure Two (W w : World) (s : ByteArray) (i : Nat) (e : Int) (b c : Nat) : Prop where
  below : Below W.heap.size W w
  hb : W.heap.size ≤ b
  hbc : b ≠ c
  hc : W.heap.size ≤ c
  ra : Rd w b s i e
  rb : Rd w c s i e
  hi : i ≤ s.size

theorem byteV_le (s : ByteArray) (i : Nat) (e : Int) (h : i ≤ s.size) : (byteV s i e).2.1 ≤ s.size := by
  unfold byteV; split
  · exact h
  · split
    · show i + 1 ≤ _; omega
    · exact h
theorem bytesV_le (s : ByteArray) (i : Nat) (e n : Int) (h : i ≤ s.size) : (bytesV s i e n).2.1 ≤ s.size := by
  unfold bytesV; split
  · exact h
  · split
    · exact h
    · split
      · exact h
      · show i + n.toNat ≤ _; omega
theorem textV_le (s : ByteArray) (i : Nat) (e : Int) (h : i ≤ s.size) : (textV s i e).2.1 ≤ s.size := by
  unfold textV; split
  · exact h
  · split
    · exact h
    · rename_i h2
      have := idx_lt (s.data.toList.drop i) 0
      simp at this
      show i + (Lib.indexByte (s.data.toList.drop i) 0).toNat + 1 ≤ _; omega
theorem numV_le (s : ByteArray) (i : Nat) (e : Int) (h : i ≤ s.size) : (numV s i e).2.1 ≤ s.size := by
  unfold numV; split
  · exact h
  · obtain ⟨v, j, f, hR⟩ : ∃ v j f, svn 0 0 (s.data.toList.drop i) = (v, j, f) := ⟨_, _, _, rfl⟩
    rw [hR]
    show i + j ≤ _
    by_cases hf : f = 0
    · subst hf
      have := (svn_take hR).2.2
      simp at this; omega
    · have := svn_err hR hf; omega

theorem Two.step {W w w1 w2 : World} {s : ByteArray} {i j : Nat} {e f : Int} {b c : Nat} (h : Two W w s i e b c) (r1 : Rd w1 b s j f) (o1 : Only b w w1) (r2 : Rd w2 c s j f) (o2 : Only c w1 w2) (hj : j ≤ s.size) : Two W w2 s j f b c :=
  ⟨(h.below.trans (o1.below h.hb h.below.size)).trans (o2.below h.hc (Nat.le_trans h.below.size o1.size)), h.hb, h.hbc, h.hc, r1.grown o2 (by simp; exact fun e => h.hbc e.symm), r2, hj⟩
theorem Two.step2 {W w w1 w2 : World} {s : ByteArray} {i j : Nat} {e f : Int} {b c : Nat} (h : Two W w s i e b c) (r1 : Rd w1 c s j f) (o1 : Only c w w1) (r2 : Rd w2 b s j f) (o2 : Only b w1 w2) (hj : j ≤ s.size) : Two W w2 s j f b c :=
  ⟨(h.below.trans (o1.below h.hc h.below.size)).trans (o2.below h.hb (Nat.le_trans h.below.size o1.size)), h.hb, h.hbc, h.hc, r2, r1.grown o2 (by simp; exact h.hbc), hj⟩
theorem Two.ra1 {W w w1 : World} {s : ByteArray} {i : Nat} {e : Int} {b c : Nat} (h : Two W w s i e b c) (o1 : Only c w w1) : Rd w1 b s i e := h.ra.grown o1 (by simp; exact fun e => h.hbc e.symm)
theorem Two.rb1 {W w w1 : World} {s : ByteArray} {i : Nat} {e : Int} {b c : Nat} (h : Two W w s i e b c) (o1 : Only b w w1) : Rd w1 c s i e := h.rb.grown o1 (by simp; exact h.hbc)

theorem Two.drewN {W w : World} {s : ByteArray} {i : Nat} {e : Int} {b c : Nat} (h : Two W w s i e b c) (n : Nat) : Two W (w.drewN n) s i e b c :=
  ⟨h.below.trans (below_drewN _ _ _), h.hb, h.hbc, h.hc, h.ra.drewN n, h.rb.drewN n, h.hi⟩
theorem Two.drew {W w : World} {s : ByteArray} {i : Nat} {e : Int} {b c : Nat} (h : Two W w s i e b c) : Two W w.drew s i e b c :=
  ⟨h.below.trans (Below.refl _ _).drew, h.hb, h.hbc, h.hc, h.ra.drew, h.rb.drew, h.hi⟩

set_option maxRecDepth 100000 in
set_option maxHeartbeats 4000000 in
theorem mbintReads_core (s : ByteArray) (ad : Option Addr) (n cp : Nat) (w : World) (hs : s.size ≤ 140737488355328) (hR : Row2 w ad n) (hn : n ≤ maxLen) :
    Calls Try.prog 14 #[.string s, .slice ad n cp] w fun e w' => e = .returned (.bool true) ∧ Below w.heap.size w w' := by
  have HR := Lib.hid hR
  clear hR
  have hn1 : n ≤ 9223372036854775807 := by have := hn; unfold maxLen at this; omega
  clear hn
  go_enter Try.func14, Try.ntmps14
  go_wp2_with (go_at_call 37; refine (new_any _ _).mono ?_; rintro e w1 ⟨rfl, rfl⟩)
  have T0 : Two w ((w.alloc (.cells #[.string s, .int .i64 0, .int .i64 0] 85)).alloc (.cells #[.string s, .int .i64 0, .int .i64 0] 59)) s 0 0 w.heap.size (w.heap.size + 1) :=
    ⟨((Below.refl _ w).alloc (Nat.le_refl _) _).alloc (by simp) _, Nat.le_refl _, by omega, by omega, (Rd.new w s 85).below (B := w.heap.size + 1) ((Below.refl _ _).alloc (by simp) _) (by omega),
      by simpa using Rd.new (w.alloc (.cells #[.string s, .int .i64 0, .int .i64 0] 85)) s 59, Nat.zero_le _⟩
  go_loopw [7] (fun x wr => ∃ (k i : Nat) (e : Int), k ≤ n ∧ x = .int .i64 k ∧ Two w wr s i e w.heap.size (w.heap.size + 1)) (fun x _ => n - (intOf x).toNat)
  case atStart => exact ⟨0, 0, 0, Nat.zero_le _, rfl, T0⟩
  clear T0
  case round =>
    obtain ⟨k, i, e, hk, rfl, T⟩ := hrel
    by_cases hlt : k < n ∧ k < 100
    · obtain ⟨hlt, h100⟩ := hlt
      have h100' : decide ((k : Int) < 100) = true := by simp; omega
      have hlt' : decide (k < n) = true := by simp; omega
      obtain ⟨b2, o, x0, x1, rfl, hbl, c0, c1⟩ := HR.out k hlt
      have d0 : wr.cell? ⟨b2, o + k * 2, none⟩ = some (.int .i64 x0) := (T.below.cell (p := ⟨b2, _, none⟩) hbl).trans c0
      have HD : Hid (∀ W, Below w.heap.size w W → W.cell? ⟨b2, o + k * 2 + 1, none⟩ = some (.int .i64 x1)) := fun W hW => (hW.cell (p := ⟨b2, _, none⟩) hbl).trans c1
      have d1 : wr.cell? ⟨b2, o + k * 2 + 1, none⟩ = some (.int .i64 x1) := (T.below.cell (p := ⟨b2, _, none⟩) hbl).trans c1
      clear c0 c1
      have HT := Lib.hid T
      clear T
      by_cases z0 : x0 = 0
      · subst z0
        have hle := byteV_le s i e HT.out.hi
        have ca := Lib.hid (byte_any _ s i e wr HT.out.ra HT.out.hi hs)
        have cb := Lib.hid (fun W h => refByte_any (w.heap.size + 1) s i e W h HT.out.hi hs)
        obtain ⟨v, j, f, hv⟩ : ∃ v j f, byteV s i e = (v, j, f) := ⟨_, _, _, rfl⟩
        rw [hv] at ca cb hle
        clear hv
        go_wp2_with fail
        refine ca.out.mono ?_
        rintro e' w1 ⟨rfl, r1, o1⟩
        go_wp2_with fail
        refine (cb.out _ (HT.out.rb1 o1)).mono ?_
        rintro e' w2 ⟨rfl, r2, o2⟩
        have T2 := HT.out.step r1 o1 r2 o2 hle
        clear r1 o1 r2 o2 d0 d1

        have hT := Lib.hid T2
        have hA : IntKind.i64.wrap ((s.size : Int) - j) = (s.size : Int) - j := IntWalk.i64_in _ (by have := T2.hi; omega)
        clear T2
        go_wp2_with (go_at_call 39; refine (err_any _ _ _ _ _ hT.out.ra).mono ?_; rintro e w4 ⟨rfl, m, hw4⟩; have h4 := Lib.hid (hT.out.drewN m); rw [← hw4] at h4; have q1 := h4.out.rb.c1; have q2 := h4.out.rb.c2; clear hw4 hT)
        go_quiet ((first | (go_at_call 50; refine Calls.quiet_of_same ((at_any _ _ _ _ _ (h4.out.ra.drewN _)).mono fun _ _ hh => ⟨hh.1, hh.2.symm⟩)) | (go_at_call 40; exact Calls.quiet_of (left_any _ _ _ _ _ (h4.out.ra.drewN _) h4.out.hi hs))))
        go_wp2
        go_roundw
        case rel => exact ⟨k + 1, _, _, by omega, by go_num, h4.out.drewN nq⟩
        case measure => simp [intOf]; omega
      by_cases z1 : x0 = 1
      · subst z1
        have hle := numV_le s i e HT.out.hi
        have ca := Lib.hid (number_any _ s i e wr HT.out.ra HT.out.hi hs)
        have cb := Lib.hid (fun W h => refNumber_any (w.heap.size + 1) s i e W h HT.out.hi hs)
        obtain ⟨v, j, f, hv⟩ : ∃ v j f, numV s i e = (v, j, f) := ⟨_, _, _, rfl⟩
        rw [hv] at ca cb hle
        clear hv
        go_wp2_with fail
        refine ca.out.mono ?_
        rintro e' w1 ⟨rfl, r1, o1⟩
        go_wp2_with fail
        refine (cb.out _ (HT.out.rb1 o1)).mono ?_
        rintro e' w2 ⟨rfl, r2, o2⟩
        have T2 := HT.out.step r1 o1 r2 o2 hle
        clear r1 o1 r2 o2 d0 d1

        have hT := Lib.hid T2
        have hA : IntKind.i64.wrap ((s.size : Int) - j) = (s.size : Int) - j := IntWalk.i64_in _ (by have := T2.hi; omega)
        clear T2
        go_wp2_with (go_at_call 39; refine (err_any _ _ _ _ _ hT.out.ra).mono ?_; rintro e w4 ⟨rfl, m, hw4⟩; have h4 := Lib.hid (hT.out.drewN m); rw [← hw4] at h4; have q1 := h4.out.rb.c1; have q2 := h4.out.rb.c2; clear hw4 hT)
        go_quiet ((first | (go_at_call 50; refine Calls.quiet_of_same ((at_any _ _ _ _ _ (h4.out.ra.drewN _)).mono fun _ _ hh => ⟨hh.1, hh.2.symm⟩)) | (go_at_call 40; exact Calls.quiet_of (left_any _ _ _ _ _ (h4.out.ra.drewN _) h4.out.hi hs))))
        go_wp2
        go_roundw
        case rel => exact ⟨k + 1, _, _, by omega, by go_num, h4.out.drewN nq⟩
        case measure => simp [intOf]; omega
      by_cases z2 : x0 = 2
      · subst z2
        have hle := bytesV_le s i e x1 HT.out.hi
        have ca := Lib.hid (fun W h => bytes_any w.heap.size s i e x1 W h HT.out.hi hs)
        have cb := Lib.hid (fun W h => refBytes_any (w.heap.size + 1) s i e x1 W h HT.out.hi hs)
        obtain ⟨v, j, f, hv⟩ : ∃ v j f, bytesV s i e x1 = (v, j, f) := ⟨_, _, _, rfl⟩
        rw [hv] at ca cb hle
        clear hv z0 z1
        have m0 : (0 : Int) ≤ (k : Int) := by omega
        have m1 : (k : Int) < n := by omega
        go_wp2_with fail
        go_region_with (first
          | (go_at_call 44; with_reducible refine (ca.out _ HT.out.ra.drew).mono ?_; rintro e' w1 ⟨rfl, r1, o1⟩; have g1 := HD.out w1 (HT.out.drew.below.trans (o1.below HT.out.hb HT.out.drew.below.size)))
          | (go_at_call 45; with_reducible refine (cb.out _ HT.out.rb.drew).mono ?_; rintro e' w1 ⟨rfl, r2, o2⟩; have g1 := HD.out w1 (HT.out.drew.below.trans (o2.below HT.out.hc HT.out.drew.below.size)))
          | (go_at_call 45; with_reducible refine (cb.out _ (HT.out.drew.rb1 ‹Only w.heap.size wr.drew _›)).mono ?_; rintro e' w2 ⟨rfl, r2, o2⟩)
          | (go_at_call 44; with_reducible refine (ca.out _ (HT.out.drew.ra1 ‹Only (w.heap.size + 1) wr.drew _›)).mono ?_; rintro e' w2 ⟨rfl, r1, o1⟩))
        all_goals
          have T2 : Two w w2 s j f w.heap.size (w.heap.size + 1) := by first | exact HT.out.drew.step r1 o1 r2 o2 hle | exact HT.out.drew.step2 r2 o2 r1 o1 hle
          clear r1 o1 r2 o2
          have hT := Lib.hid T2
          have hA : IntKind.i64.wrap ((s.size : Int) - j) = (s.size : Int) - j := IntWalk.i64_in _ (by have := T2.hi; omega)
          clear T2
          go_wp2_with (go_at_call 39; refine (err_any _ _ _ _ _ hT.out.ra).mono ?_; rintro e w4 ⟨rfl, m, hw4⟩; have h4 := Lib.hid (hT.out.drewN m); rw [← hw4] at h4; have q1 := h4.out.rb.c1; have q2 := h4.out.rb.c2; clear hw4 hT)
          go_quiet ((first | (go_at_call 50; refine Calls.quiet_of_same ((at_any _ _ _ _ _ (h4.out.ra.drewN _)).mono fun _ _ hh => ⟨hh.1, hh.2.symm⟩)) | (go_at_call 40; exact Calls.quiet_of (left_any _ _ _ _ _ (h4.out.ra.drewN _) h4.out.hi hs))))
          go_wp2
          go_roundw
          case rel => exact ⟨k + 1, _, _, by omega, by go_num, h4.out.drewN nq⟩
          case measure => simp [intOf]; omega
      by_cases z3 : x0 = 3
      · subst z3
        have hle := textV_le s i e HT.out.hi
        have ca := Lib.hid (text2_any _ s i e wr HT.out.ra HT.out.hi hs)
        have cb := Lib.hid (fun W h => refText_any2 (w.heap.size + 1) s i e W h HT.out.hi hs)
        obtain ⟨v, j, f, hv⟩ : ∃ v j f, textV s i e = (v, j, f) := ⟨_, _, _, rfl⟩
        rw [hv] at ca cb hle
        clear hv
        go_wp2_with fail
        refine ca.out.mono ?_
        rintro e' w1 ⟨rfl, r1, o1⟩
        go_wp2_with fail
        refine (cb.out _ (HT.out.rb1 o1)).mono ?_
        rintro e' w2 ⟨rfl, r2, o2⟩
        have T2 := HT.out.step r1 o1 r2 o2 hle
        clear r1 o1 r2 o2 d0 d1

        have hT := Lib.hid T2
        have hA : IntKind.i64.wrap ((s.size : Int) - j) = (s.size : Int) - j := IntWalk.i64_in _ (by have := T2.hi; omega)
        clear T2
        go_wp2_with (go_at_call 39; refine (err_any _ _ _ _ _ hT.out.ra).mono ?_; rintro e w4 ⟨rfl, m, hw4⟩; have h4 := Lib.hid (hT.out.drewN m); rw [← hw4] at h4; have q1 := h4.out.rb.c1; have q2 := h4.out.rb.c2; clear hw4 hT)
        go_quiet ((first | (go_at_call 50; refine Calls.quiet_of_same ((at_any _ _ _ _ _ (h4.out.ra.drewN _)).mono fun _ _ hh => ⟨hh.1, hh.2.symm⟩)) | (go_at_call 40; exact Calls.quiet_of (left_any _ _ _ _ _ (h4.out.ra.drewN _) h4.out.hi hs))))
        go_wp2
        go_roundw
        case rel => exact ⟨k + 1, _, _, by omega, by go_num, h4.out.drewN nq⟩
        case measure => simp [intOf]; omega
      have z0' : (x0 == 0) = false := by simpa using z0
      have z1' : (x0 == 1) = false := by simpa using z1
      have z2' : (x0 == 2) = false := by simpa using z2
      have z3' : (x0 == 3) = false := by simpa using z3
      by_cases z4 : x0 = 4
      · subst z4
        have ca := Lib.hid (fail_any _ s i e x1 wr HT.out.ra)
        have cb := Lib.hid (fun W h => refFail_any (w.heap.size + 1) s i e x1 W h)
        generalize failE e x1 = f at *
        clear z0 z1 z2 z3
        go_wp2_with fail
        refine ca.out.mono ?_
        rintro e' w1 ⟨rfl, r1, o1⟩
        go_wp2_with fail
        refine (cb.out _ (HT.out.rb1 o1)).mono ?_
        rintro e' w2 ⟨rfl, r2, o2⟩
        have T2 := HT.out.step r1 o1 r2 o2 HT.out.hi
        clear r1 o1 r2 o2 d0 d1

        have hT := Lib.hid T2
        have hA : IntKind.i64.wrap ((s.size : Int) - i) = (s.size : Int) - i := IntWalk.i64_in _ (by have := T2.hi; omega)
        clear T2
        go_wp2_with (go_at_call 39; refine (err_any _ _ _ _ _ hT.out.ra).mono ?_; rintro e w4 ⟨rfl, m, hw4⟩; have h4 := Lib.hid (hT.out.drewN m); rw [← hw4] at h4; have q1 := h4.out.rb.c1; have q2 := h4.out.rb.c2; clear hw4 hT)
        go_quiet ((first | (go_at_call 50; refine Calls.quiet_of_same ((at_any _ _ _ _ _ (h4.out.ra.drewN _)).mono fun _ _ hh => ⟨hh.1, hh.2.symm⟩)) | (go_at_call 40; exact Calls.quiet_of (left_any _ _ _ _ _ (h4.out.ra.drewN _) h4.out.hi hs))))
        go_wp2
        go_roundw
        case rel => exact ⟨k + 1, _, _, by omega, by go_num, h4.out.drewN nq⟩
        case measure => simp [intOf]; omega
      · have z4' : (x0 == 4) = false := by simpa using z4
        have T2 := HT.out
        clear z0 z1 z2 z3 z4

        have hT := Lib.hid T2
        have hA : IntKind.i64.wrap ((s.size : Int) - i) = (s.size : Int) - i := IntWalk.i64_in _ (by have := T2.hi; omega)
        clear T2
        go_wp2_with (go_at_call 39; refine (err_any _ _ _ _ _ hT.out.ra).mono ?_; rintro e w4 ⟨rfl, m, hw4⟩; have h4 := Lib.hid (hT.out.drewN m); rw [← hw4] at h4; have q1 := h4.out.rb.c1; have q2 := h4.out.rb.c2; clear hw4 hT)
        go_quiet ((first | (go_at_call 50; refine Calls.quiet_of_same ((at_any _ _ _ _ _ (h4.out.ra.drewN _)).mono fun _ _ hh => ⟨hh.1, hh.2.symm⟩)) | (go_at_call 40; exact Calls.quiet_of (left_any _ _ _ _ _ (h4.out.ra.drewN _) h4.out.hi hs))))
        go_wp2
        go_roundw
        case rel => exact ⟨k + 1, _, _, by omega, by go_num, h4.out.drewN nq⟩
        case measure => simp [intOf]; omega
    · have q1 := T.rb.c1
      have HT := Lib.hid T
      have hA : IntKind.i64.wrap ((s.size : Int) - i) = (s.size : Int) - i := IntWalk.i64_in _ (by have := T.hi; omega)
      have key : decide (k < n) = false ∨ (decide (k < n) = true ∧ decide ((k : Int) < 100) = false) := by
        by_cases h1 : k < n
        · right; exact ⟨by simpa using h1, by simp; omega⟩
        · left; simpa using h1
      clear T hlt
      rcases key with h1 | ⟨h1, h2⟩
      all_goals
        go_wp2_with fail
        go_quiet ((first | (go_at_call 50; refine Calls.quiet_of_same ((at_any _ _ _ _ _ (HT.out.ra.drewN _)).mono fun _ _ hh => ⟨hh.1, hh.2.symm⟩)) | (go_at_call 40; exact Calls.quiet_of (left_any _ _ _ _ _ (HT.out.ra.drewN _) HT.out.hi hs))))
        go_wp2
        go_ret
        exact ⟨rfl, (HT.out.drewN nq).below⟩
end Go.Proofs.Ytiakmaleiholnaa
