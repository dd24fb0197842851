/- parts: the reference's Some and Split. No condition but the text's size. -/
import Derived.Test.YtcpmgnejbfnnjaaPtS
namespace Go.Proofs.Ytcpmgnejbfnnjaa
open Go.RowKit

/-- the parts where b has come of the first -/
def spB (b : List UInt8) (i : Nat) (l : List UInt8) : List (List UInt8) × Int :=
  if (nxL l).2.2 = true then
    if l.drop ((nxL l).2.1) = [] then ([b ++ (nxL l).1], -1)
    else ((b ++ (nxL l).1) :: (spL (i + (nxL l).2.1 + 1) (l.drop ((nxL l).2.1 + 1))).1, (spL (i + (nxL l).2.1 + 1) (l.drop ((nxL l).2.1 + 1))).2)
  else ([], ((i + (nxL l).2.1 : Nat) : Int))
theorem spB_nil (i : Nat) (l : List UInt8) : spB [] i l = spL i l := by
  unfold spB
  cases h1 : (nxL l).2.2
  · rw [if_neg (by simp), sp_bad h1]
  · rw [if_pos rfl]
    by_cases h2 : l.drop ((nxL l).2.1) = []
    · rw [if_pos h2, sp_end h1 h2]; rfl
    · rw [if_neg h2, sp_more h1 h2]; rfl
theorem spB_end (b : List UInt8) (i : Nat) : spB b i [] = ([b], -1) := by unfold spB; rw [nx_nil]; simp
theorem spB_sep (b : List UInt8) (i : Nat) (r : List UInt8) : spB b i (59 :: r) = (b :: (spB [] (i + 1) r).1, (spB [] (i + 1) r).2) := by
  rw [spB_nil]; unfold spB; rw [nx_sep]; simp
theorem spB_bad {b : List UInt8} {i : Nat} {l : List UInt8} (h : nxL l = ([], 0, false)) : spB b i l = ([], (i : Int)) := by unfold spB; rw [h]; simp
theorem spB_esc (b : List UInt8) (i : Nat) (d : UInt8) (r : List UInt8) (h : spc d = true) : spB b i (92 :: d :: r) = spB (b ++ [d]) (i + 2) r := by
  unfold spB; rw [nx_esc d r h]
  simp only [List.drop_succ_cons, List.append_assoc, List.singleton_append]
  rw [show i + ((nxL r).2.1 + 2) = i + 2 + (nxL r).2.1 from by omega]
theorem spB_byte (b : List UInt8) (i : Nat) (c : UInt8) (r : List UInt8) (h1 : c ≠ 59) (h2 : c ≠ 92) : spB b i (c :: r) = spB (b ++ [c]) (i + 1) r := by
  unfold spB; rw [nx_byte c r h1 h2]
  simp only [List.drop_succ_cons, List.append_assoc, List.singleton_append]
  rw [show i + ((nxL r).2.1 + 1) = i + 1 + (nxL r).2.1 from by omega]

def SomeRel (s : ByteArray) (k : Nat) (l : List ByteArray) (b : List UInt8) : Prop :=
  l ++ (spB b k (s.data.toList.drop k)).1.map mkT = PartsOf s ∧ (spB b k (s.data.toList.drop k)).2 = WrongAt s
theorem some_start (s : ByteArray) : SomeRel s 0 [] [] := by unfold SomeRel; rw [spB_nil, List.drop_zero]; exact ⟨rfl, rfl⟩
theorem some_end {s : ByteArray} {k : Nat} {l : List ByteArray} {b : List UInt8} (h : SomeRel s k l b) (hk : ¬ k < s.size) : l ++ [mkT b] = PartsOf s ∧ WrongAt s = -1 := by
  unfold SomeRel at h
  rw [drop_all s k hk, spB_end] at h
  exact ⟨h.1, h.2.symm⟩
theorem some_sep {s : ByteArray} {k : Nat} {l : List ByteArray} {b : List UInt8} (h : SomeRel s k l b) (hk : k < s.size) (hc : s[k] = 59) : SomeRel s (k + 1) (l ++ [mkT b]) [] := by
  unfold SomeRel at h ⊢
  rw [drop_cons_at s k hk, hc, spB_sep] at h
  exact ⟨by rw [← h.1]; simp, h.2⟩
theorem some_byte {s : ByteArray} {k : Nat} {l : List ByteArray} {b : List UInt8} (h : SomeRel s k l b) (hk : k < s.size) (h1 : s[k] ≠ 59) (h2 : s[k] ≠ 92) : SomeRel s (k + 1) l (b ++ [s[k]]) := by
  unfold SomeRel at h ⊢
  rw [drop_cons_at s k hk, spB_byte _ _ _ _ h1 h2] at h
  exact h
theorem some_esc {s : ByteArray} {k : Nat} {l : List ByteArray} {b : List UInt8} (h : SomeRel s k l b) (hk : k + 1 < s.size) (h1 : s[k]'(by omega) = 92) (h2 : spc s[k + 1] = true) : SomeRel s (k + 2) l (b ++ [s[k + 1]]) := by
  unfold SomeRel at h ⊢
  rw [drop_cons_at s k (by omega), drop_cons_at s (k + 1) hk, h1, spB_esc _ _ _ _ h2] at h
  exact h
theorem some_bad {s : ByteArray} {k : Nat} {l : List ByteArray} {b : List UInt8} (h : SomeRel s k l b) (hb : nxL (s.data.toList.drop k) = ([], 0, false)) : l = PartsOf s ∧ WrongAt s = (k : Int) := by
  unfold SomeRel at h
  rw [spB_bad hb] at h
  exact ⟨by simpa using h.1, h.2.symm⟩

theorem S76 : Sl1 Try.prog 76 5 (.int .u8 0) 1 := ⟨Try.underlying76, by kernel_rfl, rfl⟩

theorem rows_apart {w : World} {B1 B2 : Nat} {e1 e2 : TypeId} {s1 s2 : Nat} {v1 v2 : Value} {n1 n2 : Nat} {x1 x2 : List Value} (h1 : w.ownsRow B1 e1 s1 v1 n1 x1) (h2 : w.ownsRow B2 e2 s2 v2 n2 x2) (he : e1 ≠ e2) : v1.ownBlock = none ∨ v1.ownBlock ≠ v2.ownBlock := by
  rcases h1.2 with ⟨rfl, _⟩ | ⟨g, c, cur, rfl, _, hg, _⟩
  · exact .inl rfl
  · refine .inr fun e => ?_
    rcases h2.2 with ⟨rfl, _⟩ | ⟨g2, c2, cur2, rfl, _, hg2, _⟩
    · simp [Value.ownBlock] at e
    · simp only [Value.ownBlock, Option.some.injEq] at e
      subst e
      rw [hg] at hg2
      simp only [Option.some.injEq, Obj.cells.injEq] at hg2
      exact he hg2.2.1
theorem own_keep {w w' : World} {B1 B2 : Nat} {e1 e2 : TypeId} {s1 s2 : Nat} {v1 v2 : Value} {n1 n2 : Nat} {x1 x2 : List Value} (h1 : w.ownsRow B1 e1 s1 v1 n1 x1) (h2 : w.ownsRow B2 e2 s2 v2 n2 x2) (he : e1 ≠ e2) (hg : w.grownBy w' v2.ownBlock) : w'.ownsRow B1 e1 s1 v1 n1 x1 := by
  rcases rows_apart h1 h2 he with h | h
  · rcases h1.2 with ⟨rfl, h0⟩ | ⟨g, c, cur, rfl, _⟩
    · exact ⟨h1.1, .inl ⟨rfl, h0⟩⟩
    · simp [Value.ownBlock] at h
  · exact h1.kept hg (.inr h)

/-- Some's answer -/
def SomeP (s : ByteArray) (w : World) (e : Ending) (w' : World) : Prop :=
  ∃ a c, e = .returned (.tuple #[.slice a (PartsOf s).length c, .int .i64 (WrongAt s)]) ∧ w'.ownsRow w.heap.size 9 1 (.slice a (PartsOf s).length c) (PartsOf s).length ((PartsOf s).map Value.string) ∧ Below w.heap.size w w'

theorem mkT_nums (b : List UInt8) : strOfNums (b.map fun c : UInt8 => (c.toNat : Int)) = mkT b := by simp [strOfNums, mkT, Function.comp_def]

set_option maxRecDepth 100000 in
set_option maxHeartbeats 8000000 in
theorem some_any (s : ByteArray) (hs : s.size ≤ 1000000) (w : World) : Calls Try.prog 33 #[.string s] w (SomeP s w) := by
  go_enter Try.func33, Try.ntmps33
  go_wp2
  go_loopw [4, 5, 6] (fun lv bv iv wr => ∃ (k : Nat) (l : List ByteArray) (b : List UInt8) (a1 : Option Addr) (c1 : Nat) (a2 : Option Addr) (c2 : Nat), k ≤ s.size ∧ l.length ≤ k ∧ b.length ≤ k ∧ iv = .int .i64 (k : Int) ∧ lv = .slice a1 l.length c1 ∧ bv = .slice a2 b.length c2 ∧
      Hid (SomeRel s k l b) ∧ Hid (wr.ownsRow w.heap.size 9 1 (.slice a1 l.length c1) l.length (l.map Value.string)) ∧ Hid (wr.ownsRow w.heap.size 5 1 (.slice a2 b.length c2) b.length ((b.map fun c : UInt8 => (c.toNat : Int)).map (Value.int .u8))) ∧ Hid (Below w.heap.size w wr)) (fun _ _ iv _ => s.size - (intOf iv).toNat)
  case atStart => exact ⟨0, [], [], none, 0, none, 0, Nat.zero_le _, Nat.le_refl _, Nat.le_refl _, rfl, rfl, rfl, some_start s, World.ownsRow_nil _ _ _ _, World.ownsRow_nil _ _ _ _, Below.refl _ _⟩
  case round =>
    obtain ⟨k, l, b, a1, c1, a2, c2, hk, hl, hb, rfl, rfl, rfl, HR, HO1, HO2, HB⟩ := hrel
    have hsz := HB.out.size
    have g1 : l.length + 1 ≤ maxLen := by simp [maxLen]; omega
    have g2 : (l.length + 1) * 16 ≤ 140737488355328 := by omega
    have g3 : b.length + 1 ≤ maxLen := by simp [maxLen]; omega
    have g4 : (b.length + 1) * 1 ≤ 140737488355328 := by omega
    by_cases hlt : k < s.size
    · have hx := run_atP s k hlt
      by_cases h1 : s[k] = 59
      · have HS := Lib.hid (some_sep HR.out hlt h1)
        have HLen : Hid ((l ++ [mkT b]).length = l.length + 1) := by unfold Hid; simp
        rw [h1] at hx
        clear h1
        have hcv := run_str (P := Try.prog) wr 76 9 5 Try.underlying76 Try.underlying9 Try.underlying5 w.heap.size _ _ (b.map fun c : UInt8 => (c.toNat : Int)) HO2.out
        rw [mkT_nums] at hcv
        generalize mkT b = mb at *
        go_wp2_with (at_builtin; go_must (refine wpList_app1 _ _ rfl _ _ 52 9 _ _ S52 rfl w.heap.size _ _ _ rfl rfl rfl HO1.out g1 g2 hsz ?_); intro a' c' w4 hown4 hgr4 _ hb4)
        have HO : Hid (w4.ownsRow w.heap.size 9 1 (.slice a' (l.length + 1) c') (l.length + 1) ((l ++ [mb]).map Value.string)) := by unfold Hid; rw [List.map_append]; exact hown4
        have HB4 := Lib.hid (HB.out.trans hb4)
        clear hown4 hgr4 hb4 hcv
        go_wp2_with fail
        go_roundw
        case rel => exact ⟨k + 1, l ++ [mb], [], a', c', none, 0, by omega, by rw [HLen.out]; omega, Nat.zero_le _, by go_num, by rw [HLen.out], rfl, HS, by rw [HLen.out]; exact HO, World.ownsRow_nil _ _ _ _, HB4⟩
        case measure => simp [intOf]; omega
      · have g1c : ((s[k].toNat : Int) == 59) = false := by
          have : s[k].toNat ≠ 59 := fun e => h1 (UInt8.toNat_inj.1 e)
          simp; omega
        by_cases h2 : s[k] = 92
        · by_cases hl2 : k + 1 < s.size
          · have hx1 := run_atP1 s k hl2
            have hlt1 : decide ((k : Int) + 1 < (s.size : Int)) = true := by simp; omega
            rw [h2] at hx
            cases hd : spc s[k + 1] with
            | true =>
              have HS := Lib.hid (some_esc HR.out hl2 h2 hd)
              have hor : s[k + 1] = 59 ∨ s[k + 1] = 92 := by
                unfold spc at hd
                simpa using hd
              clear h1 h2 g1c
              generalize s[k + 1] = d at *
              rcases hor with rfl | rfl
              · have HLen : Hid ((b ++ [(59 : UInt8)]).length = b.length + 1) := by unfold Hid; simp
                have HC : Hid ((b ++ [(59 : UInt8)]).map (fun c : UInt8 => (c.toNat : Int)) = (b.map fun c : UInt8 => (c.toNat : Int)) ++ [((59 : UInt8).toNat : Int)]) := by unfold Hid; simp
                skip
                go_wp2_with (at_builtin; go_must (refine wpList_app1 _ _ rfl _ _ 76 5 _ _ S76 rfl w.heap.size _ _ _ rfl rfl rfl HO2.out g3 g4 hsz ?_); intro a' c' w4 hown4 hgr4 _ hb4)
                have HO : Hid (w4.ownsRow w.heap.size 5 1 (.slice a' (b.length + 1) c') (b.length + 1) (((b ++ [(59 : UInt8)]).map fun c : UInt8 => (c.toNat : Int)).map (Value.int .u8))) := by unfold Hid; rw [HC.out, List.map_append]; exact hown4
                have HO' : Hid (w4.ownsRow w.heap.size 9 1 (.slice a1 l.length c1) l.length (l.map Value.string)) := own_keep HO1.out HO2.out (by decide) hgr4
                have HB4 := Lib.hid (HB.out.trans hb4)
                clear hown4 hgr4 hb4
                go_wp2_with fail
                go_roundw
                case rel => exact ⟨k + 2, l, b ++ [(59 : UInt8)], a1, c1, a', c', by omega, by omega, by rw [HLen.out]; omega, by go_num, rfl, by rw [HLen.out], HS, HO', by rw [HLen.out]; exact HO, HB4⟩
                case measure => simp [intOf]; omega

              · have HLen : Hid ((b ++ [(92 : UInt8)]).length = b.length + 1) := by unfold Hid; simp
                have HC : Hid ((b ++ [(92 : UInt8)]).map (fun c : UInt8 => (c.toNat : Int)) = (b.map fun c : UInt8 => (c.toNat : Int)) ++ [((92 : UInt8).toNat : Int)]) := by unfold Hid; simp
                skip
                go_wp2_with (at_builtin; go_must (refine wpList_app1 _ _ rfl _ _ 76 5 _ _ S76 rfl w.heap.size _ _ _ rfl rfl rfl HO2.out g3 g4 hsz ?_); intro a' c' w4 hown4 hgr4 _ hb4)
                have HO : Hid (w4.ownsRow w.heap.size 5 1 (.slice a' (b.length + 1) c') (b.length + 1) (((b ++ [(92 : UInt8)]).map fun c : UInt8 => (c.toNat : Int)).map (Value.int .u8))) := by unfold Hid; rw [HC.out, List.map_append]; exact hown4
                have HO' : Hid (w4.ownsRow w.heap.size 9 1 (.slice a1 l.length c1) l.length (l.map Value.string)) := own_keep HO1.out HO2.out (by decide) hgr4
                have HB4 := Lib.hid (HB.out.trans hb4)
                clear hown4 hgr4 hb4
                go_wp2_with fail
                go_roundw
                case rel => exact ⟨k + 2, l, b ++ [(92 : UInt8)], a1, c1, a', c', by omega, by omega, by rw [HLen.out]; omega, by go_num, rfl, by rw [HLen.out], HS, HO', by rw [HLen.out]; exact HO, HB4⟩
                case measure => simp [intOf]; omega

            | false =>
              have HS := Lib.hid (some_bad HR.out (by rw [drop_cons_at s k hlt, drop_cons_at s (k + 1) hl2, h2]; exact nx_bad2 _ _ hd))
              have q1 : ((s[k + 1].toNat : Int) == 59) = false := by
                have : s[k + 1].toNat ≠ 59 := fun e => by
                  have e2 : s[k + 1] = 59 := UInt8.toNat_inj.1 e
                  rw [e2] at hd; cases hd
                simp; omega
              have q2 : ((s[k + 1].toNat : Int) == 92) = false := by
                have : s[k + 1].toNat ≠ 92 := fun e => by
                  have e2 : s[k + 1] = 92 := UInt8.toNat_inj.1 e
                  rw [e2] at hd; cases hd
                simp; omega
              clear h1 h2 g1c hd
              generalize s[k + 1].toNat = dn at *
              go_wp2_with fail
              go_ret2
              exact ⟨a1, c1, by rw [← HS.out.1, HS.out.2]; rfl, by rw [← HS.out.1]; exact HO1.out, HB.out⟩
          · have HS := Lib.hid (some_bad HR.out (by rw [drop_cons_at s k hlt, drop_all s (k + 1) hl2, h2]; exact nx_bad1))
            have hlt1 : decide ((k : Int) + 1 < (s.size : Int)) = false := by simp; omega
            rw [h2] at hx
            clear h1 h2 g1c
            go_wp2_with fail
            go_ret2
            exact ⟨a1, c1, by rw [← HS.out.1, HS.out.2]; rfl, by rw [← HS.out.1]; exact HO1.out, HB.out⟩
        · have g2c : ((s[k].toNat : Int) != 92) = true := by
            have : s[k].toNat ≠ 92 := fun e => h2 (UInt8.toNat_inj.1 e)
            have e : ((s[k].toNat : Int) == 92) = false := by simp; omega
            simp only [bne, e]; rfl
          have HS := Lib.hid (some_byte HR.out hlt h1 h2)
          clear h1 h2
          generalize s[k] = d at *
          have HLen : Hid ((b ++ [d]).length = b.length + 1) := by unfold Hid; simp
          have HC : Hid ((b ++ [d]).map (fun c : UInt8 => (c.toNat : Int)) = (b.map fun c : UInt8 => (c.toNat : Int)) ++ [(d.toNat : Int)]) := by unfold Hid; simp
          generalize d.toNat = dn at *
          go_wp2_with (at_builtin; go_must (refine wpList_app1 _ _ rfl _ _ 76 5 _ _ S76 rfl w.heap.size _ _ _ rfl rfl rfl HO2.out g3 g4 hsz ?_); intro a' c' w4 hown4 hgr4 _ hb4)
          have HO : Hid (w4.ownsRow w.heap.size 5 1 (.slice a' (b.length + 1) c') (b.length + 1) (((b ++ [d]).map fun c : UInt8 => (c.toNat : Int)).map (Value.int .u8))) := by unfold Hid; rw [HC.out, List.map_append]; exact hown4
          have HO' : Hid (w4.ownsRow w.heap.size 9 1 (.slice a1 l.length c1) l.length (l.map Value.string)) := own_keep HO1.out HO2.out (by decide) hgr4
          have HB4 := Lib.hid (HB.out.trans hb4)
          clear hown4 hgr4 hb4
          go_wp2_with fail
          go_roundw
          case rel => exact ⟨k + 1, l, b ++ [d], a1, c1, a', c', by omega, by omega, by rw [HLen.out]; omega, by go_num, rfl, by rw [HLen.out], HS, HO', by rw [HLen.out]; exact HO, HB4⟩
          case measure => simp [intOf]; omega

    · obtain ⟨e1, e2⟩ := some_end HR.out hlt
      have HS := Lib.hid (And.intro e1 e2)
      have HLen : Hid ((PartsOf s).length = l.length + 1) := by unfold Hid; rw [← e1]; simp
      have hcv := run_str (P := Try.prog) wr 76 9 5 Try.underlying76 Try.underlying9 Try.underlying5 w.heap.size _ _ (b.map fun c : UInt8 => (c.toNat : Int)) HO2.out
      rw [mkT_nums] at hcv
      clear e1 e2
      generalize mkT b = mb at *
      go_wp2_with (at_builtin; go_must (refine wpList_app1 _ _ rfl _ _ 52 9 _ _ S52 rfl w.heap.size _ _ _ rfl rfl rfl HO1.out g1 g2 hsz ?_); intro a' c' w4 hown4 hgr4 _ hb4)
      have HO : Hid (w4.ownsRow w.heap.size 9 1 (.slice a' (l.length + 1) c') (l.length + 1) ((PartsOf s).map Value.string)) := by unfold Hid; rw [← HS.out.1, List.map_append]; exact hown4
      have HB4 := Lib.hid (HB.out.trans hb4)
      clear hown4 hgr4 hb4 hcv
      go_wp2_with fail
      go_ret2
      exact ⟨a', c', by rw [HLen.out, HS.out.2]; rfl, by rw [HLen.out]; exact HO, HB4⟩
end Go.Proofs.Ytcpmgnejbfnnjaa
