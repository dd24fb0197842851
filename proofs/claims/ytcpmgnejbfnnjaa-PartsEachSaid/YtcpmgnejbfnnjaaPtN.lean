/- parts: the program's special and next. No condition but the text's size. -/
import Derived.Test.YtcpmgnejbfnnjaaPtP
import Derived.Test.YtcpmgnejbfnnjaaBd
namespace Go.Proofs.Ytcpmgnejbfnnjaa
open Go.RowKit

theorem ret_boolP {a b : Bool} (h : a = b) : Ending.returned (.bool b) = Ending.returned (.bool a) := by rw [h]

theorem special_any (c : UInt8) (w : World) : Calls Try.prog 41 #[.int .u8 (c.toNat : Int)] w fun e w' => e = .returned (.bool (spc c)) ∧ w = w' := by
  by_cases h1 : c = 59
  · subst h1
    go_enter Try.func41, Try.ntmps41
    go_wp2
    go_ret
    exact ⟨rfl, rfl⟩
  · by_cases h2 : c = 92
    · subst h2
      go_enter Try.func41, Try.ntmps41
      go_wp2
      go_ret
      exact ⟨rfl, rfl⟩
    · have HF : Hid (spc c = false) := by unfold Hid spc; simp [h1, h2]
      have g1 : ((c.toNat : Int) == 59) = false := by
        have : c.toNat ≠ 59 := fun e => h1 (UInt8.toNat_inj.1 e)
        simp; omega
      have g2 : ((c.toNat : Int) == 92) = false := by
        have : c.toNat ≠ 92 := fun e => h2 (UInt8.toNat_inj.1 e)
        simp; omega
      generalize c.toNat = n at *
      clear h1 h2
      go_enter Try.func41, Try.ntmps41
      go_wp2
      go_ret
      exact ⟨ret_boolP HF.out, rfl⟩

theorem run_atP (s : ByteArray) (k : Nat) (h : k < s.size) (w : World) : (Instr.index 9 (.string s) (.int .i64 (k : Int))).run Try.prog w = .ok (.int .u8 (s[k].toNat : Int)) w := by
  have h2 : (0 : Int) ≤ (k : Int) ∧ (k : Int) < s.size := ⟨by omega, by exact Int.ofNat_lt.2 h⟩
  rw [run_index_string w 9 _ _ _ Try.underlying9, dif_pos h2]
  rfl
theorem run_atP1 (s : ByteArray) (k : Nat) (h : k + 1 < s.size) (w : World) : (Instr.index 9 (.string s) (.int .i64 ((k : Int) + 1))).run Try.prog w = .ok (.int .u8 (s[k + 1].toNat : Int)) w := by
  have := run_atP s (k + 1) h w
  rw [show (((k + 1 : Nat) : Int)) = (k : Int) + 1 from by omega] at this
  exact this

def mkT (l : List UInt8) : ByteArray := ⟨l.toArray⟩

/-- next's answer -/
def nxE (i : Nat) (r : List UInt8 × Nat × Bool) : Value := if r.2.2 = true then .tuple #[.string (mkT r.1), .int .i64 ((i + r.2.1 : Nat) : Int), .bool true] else .tuple #[.string { data := #[] }, .int .i64 ((i + r.2.1 : Nat) : Int), .bool false]

/-- what next has still to do: the part so far, the place, the rest -/
def NxRel (R : List UInt8 × Nat × Bool) (i : Nat) (pre : List UInt8) (k : Nat) (l : List UInt8) : Prop :=
  (pre ++ (nxL l).1, k + (nxL l).2.1, (nxL l).2.2) = (R.1, i + R.2.1, R.2.2) ∨ ((nxL l).2.2 = false ∧ R.2.2 = false ∧ k + (nxL l).2.1 = i + R.2.1)

theorem byteCells_snoc (l : List UInt8) (c : UInt8) : Lib.byteCells l ++ [.int .u8 (c.toNat : Int)] = Lib.byteCells (l ++ [c]) := by simp [Lib.byteCells]
theorem byteCells_len (l : List UInt8) : (Lib.byteCells l).length = l.length := by simp [Lib.byteCells]

theorem NxRel.stop {R : List UInt8 × Nat × Bool} {i k : Nat} {pre l : List UInt8} (h : NxRel R i pre k l) (hl : nxL l = ([], 0, true)) : Ending.returned (nxE i R) = Ending.returned (.tuple #[.string ⟨pre.toArray⟩, .int .i64 (k : Int), .bool true]) := by
  unfold NxRel at h
  rw [hl] at h
  rcases h with h | ⟨h, _⟩
  · simp only [List.append_nil, Nat.add_zero, Prod.mk.injEq] at h
    unfold nxE mkT
    rw [← h.2.2, if_pos rfl, ← h.1, ← h.2.1]
  · cases h
theorem NxRel.bad {R : List UInt8 × Nat × Bool} {i k : Nat} {pre l : List UInt8} (h : NxRel R i pre k l) (hl : nxL l = ([], 0, false)) : Ending.returned (nxE i R) = Ending.returned (.tuple #[.string { data := #[] }, .int .i64 (k : Int), .bool false]) := by
  unfold NxRel at h
  rw [hl] at h
  have h2 : R.2.2 = false ∧ k = i + R.2.1 := by
    rcases h with h | ⟨_, h, h2⟩
    · simp only [Nat.add_zero, Prod.mk.injEq] at h
      exact ⟨h.2.2.symm, h.2.1⟩
    · exact ⟨h, by simpa using h2⟩
  unfold nxE
  rw [if_neg (by simp [h2.1]), h2.2]
theorem NxRel.esc {R : List UInt8 × Nat × Bool} {i k : Nat} {pre l : List UInt8} {d : UInt8} (h : NxRel R i pre k (92 :: d :: l)) (hd : spc d = true) : NxRel R i (pre ++ [d]) (k + 2) l := by
  unfold NxRel at h ⊢
  rw [nx_esc d l hd] at h
  simp only at h
  rcases h with h | ⟨h, h2, h3⟩
  · left
    rw [← h, List.append_assoc, List.singleton_append]
    congr 2; omega
  · exact .inr ⟨h, h2, by omega⟩
theorem NxRel.byte {R : List UInt8 × Nat × Bool} {i k : Nat} {pre l : List UInt8} {c : UInt8} (h : NxRel R i pre k (c :: l)) (h1 : c ≠ 59) (h2 : c ≠ 92) : NxRel R i (pre ++ [c]) (k + 1) l := by
  unfold NxRel at h ⊢
  rw [nx_byte c l h1 h2] at h
  simp only at h
  rcases h with h | ⟨h, h2, h3⟩
  · left
    rw [← h, List.append_assoc, List.singleton_append]
    congr 2; omega
  · exact .inr ⟨h, h2, by omega⟩

set_option maxRecDepth 100000 in
set_option maxHeartbeats 8000000 in
theorem next_any (s : ByteArray) (i : Nat) (hi : i ≤ s.size) (hs : s.size ≤ 1000000) (w : World) :
    Calls Try.prog 46 #[.string s, .int .i64 (i : Int)] w fun e w' => e = .returned (nxE i (nxL (s.data.toList.drop i))) ∧ Below w.heap.size w w' := by
  obtain ⟨R, hR⟩ : ∃ R, nxL (s.data.toList.drop i) = R := ⟨_, rfl⟩
  rw [hR]
  have HR0 : Hid (NxRel R i [] i (s.data.toList.drop i)) := by unfold Hid NxRel; rw [hR]; exact .inl rfl
  clear hR
  go_enter Try.func46, Try.ntmps46
  go_wp2_with fail
  go_loopw [1] (fun iv wr => ∃ (k : Nat) (pre : List UInt8), k ≤ s.size ∧ pre.length ≤ k ∧ iv = .int .i64 (k : Int) ∧ Bd (w.heap.size + 1) w.heap.size (Lib.byteCells pre) wr ∧ Hid (Below w.heap.size w wr) ∧ w.heap.size + 1 ≤ wr.heap.size ∧ Hid (NxRel R i pre k (s.data.toList.drop k))) (fun iv _ => s.size - (intOf iv).toNat)
  case atStart => exact ⟨i, [], hi, Nat.zero_le _, rfl, Bd.new w _, (Below.refl _ _).alloc (Nat.le_refl _) _, by simp, HR0⟩
  case round =>
    obtain ⟨k, pre, hk, hpl, rfl, hbd, HB, hsz, HN⟩ := hrel
    have HBD := Lib.hid hbd
    clear HR0
    by_cases hlt : k < s.size
    · have hx := run_atP s k hlt
      have hdr := drop_cons_at s k hlt
      rw [hdr] at HN
      clear hdr
      have hc0 : Hid (s.data.toList.drop (k + 1) = s.data.toList.drop (k + 1)) := rfl
      generalize s[k] = c at *
      by_cases h1 : c = 59
      · subst h1
        have HE := Lib.hid (HN.out.stop (nx_sep _))
        clear HN
        go_wp2_with fail
        refine (bd_string (w.heap.size + 1) w.heap.size pre wr w.heap.size HBD.out (by omega) (Nat.le_refl _) (by omega)).mono ?_
        rintro e w5 ⟨rfl, hb5, _⟩
        go_wp2_with fail
        go_ret3
        exact ⟨HE.out.symm, HB.out.trans hb5⟩
      · have g1 : ((c.toNat : Int) == 59) = false := by
          have : c.toNat ≠ 59 := fun e => h1 (UInt8.toNat_inj.1 e)
          simp; omega
        have g1' : ((c.toNat : Int) != 59) = true := by simp only [bne, g1]; rfl
        by_cases h2 : c = 92
        · subst h2
          by_cases hl2 : k + 1 < s.size
          · have hx1 := run_atP1 s k hl2
            have hdr := drop_cons_at s (k + 1) hl2
            rw [hdr] at HN
            clear hdr
            have hne : ((k : Int) + 1 == (s.size : Int)) = false := by simp; omega
            have cS := Lib.hid (fun w => special_any s[k + 1] w)
            generalize s[k + 1] = d at *
            cases hd : spc d with
            | true =>
              rw [hd] at cS
              have HN2 := Lib.hid (HN.out.esc hd)
              have cW := Lib.hid (bd_write (w.heap.size + 1) w.heap.size (Lib.byteCells pre) (d.toNat : Int) wr HBD.out (by rw [byteCells_len]; omega) (by omega))
              rw [byteCells_snoc] at cW
              clear HN hd
              go_wp2_with fail
              refine (cS.out _).mono ?_
              rintro e w5 ⟨rfl, rfl⟩
              go_wp2_with fail
              refine cW.out.mono ?_
              rintro e w6 ⟨rfl, hbd6, hbb6, _⟩
              have HB6 := Lib.hid (HB.out.trans (hbb6.below (by omega) (Nat.le_refl _)))
              have hs6 := hbb6.size
              clear hbb6
              go_wp2_with fail
              go_roundw
              case rel => exact ⟨k + 2, pre ++ [d], by omega, by simp; omega, by go_num, hbd6, HB6.out, by omega, HN2⟩
              case measure => simp [intOf]; omega
            | false =>
              rw [hd] at cS
              have HE := Lib.hid (HN.out.bad (nx_bad2 d _ hd))
              clear HN hd
              go_wp2_with fail
              refine (cS.out _).mono ?_
              rintro e w5 ⟨rfl, rfl⟩
              go_wp2_with fail
              go_ret3
              exact ⟨HE.out.symm, HB.out⟩
          · have hdr := drop_all s (k + 1) hl2
            rw [hdr] at HN
            have heq : ((k : Int) + 1 == (s.size : Int)) = true := by simp; omega
            have HE := Lib.hid (HN.out.bad nx_bad1)
            clear HN hdr
            go_wp2_with fail
            go_ret3
            exact ⟨HE.out.symm, HB.out⟩
        · have g2 : ((c.toNat : Int) == 92) = false := by
            have : c.toNat ≠ 92 := fun e => h2 (UInt8.toNat_inj.1 e)
            simp; omega
          have HN2 := Lib.hid (HN.out.byte h1 h2)
          have cW := Lib.hid (bd_write (w.heap.size + 1) w.heap.size (Lib.byteCells pre) (c.toNat : Int) wr HBD.out (by rw [byteCells_len]; omega) (by omega))
          rw [byteCells_snoc] at cW
          have hpre : Hid ((pre ++ [c]).length = pre.length + 1) := by unfold Hid; simp
          generalize pre ++ [c] = pre' at *
          clear HN h1 h2
          generalize c.toNat = n at *
          go_wp2_with fail
          refine cW.out.mono ?_
          rintro e w6 ⟨rfl, hbd6, hbb6, _⟩
          have HB6 := Lib.hid (HB.out.trans (hbb6.below (by omega) (Nat.le_refl _)))
          have hs6 := hbb6.size
          clear hbb6
          go_wp2_with fail
          go_roundw
          case rel => exact ⟨k + 1, pre', by omega, by rw [hpre.out]; omega, by go_num, hbd6, HB6.out, by omega, HN2⟩
          case measure => simp [intOf]; omega
    · have HE : Hid (Ending.returned (nxE i R) = Ending.returned (.tuple #[.string ⟨pre.toArray⟩, .int .i64 (k : Int), .bool true])) := by
        have hdr := drop_all s k hlt
        have h := HN.out
        rw [hdr] at h
        exact h.stop nx_nil
      clear HN
      go_wp2_with fail
      refine (bd_string (w.heap.size + 1) w.heap.size pre wr w.heap.size HBD.out (by omega) (Nat.le_refl _) (by omega)).mono ?_
      rintro e w5 ⟨rfl, hb5, _⟩
      go_wp2_with fail
      go_ret3
      exact ⟨HE.out.symm, HB.out.trans hb5⟩
end Go.Proofs.Ytcpmgnejbfnnjaa
