/- parts: the iterator of a value's parts. No condition but the text's size. -/
import Derived.Test.YtcpmgnejbfnnjaaPtN
import Derived.Test.YtcpmgnejbfnnjaaRng
namespace Go.Proofs.Ytcpmgnejbfnnjaa
open Go.RowKit Go.Shelf

def PartsOf (s : ByteArray) : List ByteArray := (spL 0 s.data.toList).1.map mkT
def WrongAt (s : ByteArray) : Int := (spL 0 s.data.toList).2
theorem parts_len (s : ByteArray) : (PartsOf s).length ≤ s.size + 1 := by
  have := (sp_lt _ 0 s.data.toList (Nat.le_refl _)).2.2
  unfold PartsOf; rw [List.length_map]; rwa [len_toList] at this
theorem wrong_lt (s : ByteArray) : WrongAt s = -1 ∨ (0 ≤ WrongAt s ∧ WrongAt s < s.size + 1) := by
  obtain ⟨h1, h2, _⟩ := sp_lt _ 0 s.data.toList (Nat.le_refl _)
  rw [len_toList] at h1
  unfold WrongAt
  omega

def EachRel (s : ByteArray) (i : Nat) (pre : List ByteArray) : Prop :=
  (i ≤ s.size ∧ pre ++ (spL i (s.data.toList.drop i)).1.map mkT = PartsOf s ∧ (spL i (s.data.toList.drop i)).2 = WrongAt s) ∨ (i = s.size + 1 ∧ pre = PartsOf s ∧ WrongAt s = -1)
theorem er_start (s : ByteArray) : EachRel s 0 [] := .inl ⟨Nat.zero_le _, by rw [List.drop_zero]; rfl, by rw [List.drop_zero]; rfl⟩
theorem er_bad {s : ByteArray} {i : Nat} {pre : List ByteArray} (h : EachRel s i pre) (hi : i ≤ s.size) (hb : (nxL (s.data.toList.drop i)).2.2 = false) : pre = PartsOf s ∧ WrongAt s = ((i + (nxL (s.data.toList.drop i)).2.1 : Nat) : Int) := by
  rcases h with ⟨_, h1, h2⟩ | ⟨h, _⟩
  · rw [sp_bad hb] at h1 h2
    exact ⟨by simpa using h1, h2.symm⟩
  · omega
theorem er_yield {s : ByteArray} {i : Nat} {pre : List ByteArray} (h : EachRel s i pre) (hi : i ≤ s.size) (hb : (nxL (s.data.toList.drop i)).2.2 = true) :
    pre ++ [mkT (nxL (s.data.toList.drop i)).1] <+: PartsOf s ∧ EachRel s (i + (nxL (s.data.toList.drop i)).2.1 + 1) (pre ++ [mkT (nxL (s.data.toList.drop i)).1]) ∧ i + (nxL (s.data.toList.drop i)).2.1 + 1 ≤ s.size + 1 := by
  have hl := nx_le _ (s.data.toList.drop i) (Nat.le_refl _)
  rw [List.length_drop, len_toList] at hl
  rcases h with ⟨_, h1, h2⟩ | ⟨h, _⟩
  · by_cases hd : (s.data.toList.drop i).drop ((nxL (s.data.toList.drop i)).2.1) = []
    · rw [sp_end hb hd] at h1 h2
      have hlen : s.size - i ≤ (nxL (s.data.toList.drop i)).2.1 := by
        have := List.drop_eq_nil_iff.1 hd
        rw [List.length_drop, len_toList] at this
        exact this
      refine ⟨⟨[], by rw [List.append_nil, ← h1]; rfl⟩, .inr ⟨by omega, by rw [← h1]; rfl, h2.symm⟩, by omega⟩
    · rw [sp_more hb hd] at h1 h2
      have hlen : (nxL (s.data.toList.drop i)).2.1 < s.size - i := by
        rcases Nat.lt_or_ge (nxL (s.data.toList.drop i)).2.1 (s.size - i) with h | h
        · exact h
        · exact absurd (List.drop_of_length_le (by rw [List.length_drop, len_toList]; exact h)) hd
      rw [List.drop_drop, show i + ((nxL (s.data.toList.drop i)).2.1 + 1) = i + (nxL (s.data.toList.drop i)).2.1 + 1 from by omega] at h1 h2
      refine ⟨⟨(spL (i + (nxL (s.data.toList.drop i)).2.1 + 1) (s.data.toList.drop (i + (nxL (s.data.toList.drop i)).2.1 + 1))).1.map mkT, by rw [← h1]; simp⟩, .inl ⟨by omega, by rw [← h1]; simp, h2⟩, by omega⟩
  · omega
theorem er_done {s : ByteArray} {i : Nat} {pre : List ByteArray} (h : EachRel s i pre) (hi : ¬ i ≤ s.size) : pre = PartsOf s ∧ WrongAt s = -1 := by
  rcases h with ⟨h, _⟩ | ⟨_, h1, h2⟩
  · omega
  · exact ⟨h1, h2⟩

/-- the iterator's three cells -/
def Env (bx bw wb : Nat) (s : ByteArray) (v0 : Value) (W : World) : Prop :=
  W.cell? ⟨bx, 0, none⟩ = some (.string s) ∧ W.cell? ⟨bw, 0, none⟩ = some (.pointer (some ⟨wb, 0, none⟩)) ∧ W.cell? ⟨wb, 0, none⟩ = some v0 ∧ W.frozen? ⟨wb, 0, none⟩ = false
theorem Env.below {bx bw wb : Nat} {s : ByteArray} {v0 : Value} {W W' : World} (h : Env bx bw wb s v0 W) (hb : Below W.heap.size W W') : Env bx bw wb s v0 W' := by
  obtain ⟨h1, h2, h3, h4⟩ := h
  exact ⟨(hb.cell (p := ⟨bx, 0, none⟩) (World.block_lt_of_cell? _ _ h1)).trans h1, (hb.cell (p := ⟨bw, 0, none⟩) (World.block_lt_of_cell? _ _ h2)).trans h2, (hb.cell (p := ⟨wb, 0, none⟩) (World.block_lt_of_cell? _ _ h3)).trans h3, (hb.frozen (p := ⟨wb, 0, none⟩) (World.block_lt_of_cell? _ _ h3)).trans h4⟩

/-- what wrong holds behind it -/
def wrongV (s : ByteArray) (v0 : Value) : Value := if 0 ≤ WrongAt s then .int .i64 (WrongAt s) else v0

attribute [local go_sem] Oper.semAt_some

theorem abide_below {β : Type} {B : Nat} {J : β → World → Prop} (hJ : AbidesFrom B J) {s : β} {W W' : World} (h : J s W) (hb : Below W.heap.size W W') : J s W' :=
  hJ s W W' none h ⟨hb.os, hb.tape, hb.output, hb.size, fun k hk _ => hb.block k hk⟩ (fun r e => by cases e)

set_option maxRecDepth 100000 in
set_option maxHeartbeats 4000000 in
theorem each1_in (n : Nat) (hn : 1 ≤ n) (l bx bw wb : Nat) (s : ByteArray) (hs : s.size ≤ 1000000) (v0 : Value) (Kp : World → World → Prop) (hKp : ∀ W W', Kp W W' → Env bx bw wb s v0 W → Env bx bw wb s v0 W') (J Jx : List ByteArray → World → Prop)
    (B : Nat) (hJ : AbidesFrom B J) (hJw : ∀ pre W v, J pre W → J pre (W.setCell ⟨wb, 0, none⟩ v))
    (hY : ∀ pre x W, J pre W → pre ++ [x] <+: PartsOf s → YieldAt Fence.wide (n - 1) Try.prog l #[.string x] W fun e W' =>
      (e = .returned (.bool true) ∧ J (pre ++ [x]) W' ∧ Kp W W') ∨ (e = .returned (.bool false) ∧ Jx (pre ++ [x]) W'))
    (W : World) (hE : Env bx bw wb s v0 W) (h0 : J [] W) :
    CallsIn Fence.wide n Try.prog 45 #[.func (.yield l) #[] #[], .pointer (some ⟨bx, 0, none⟩), .pointer (some ⟨bw, 0, none⟩)] W fun e W' => (∃ v, e = .returned v) ∧
      ((∃ ys, (ys = PartsOf s ∧ W'.cell? ⟨wb, 0, none⟩ = some (wrongV s v0) ∧ W'.frozen? ⟨wb, 0, none⟩ = false) ∧ J ys W') ∨ (∃ pre, pre <+: PartsOf s ∧ Jx pre W')) := by
  refine callsIn_of_wp Try.func45 rfl trivial ?_ rfl
  simp only [Try.ntmps45, List.size_toArray, List.length_cons, List.length_nil, Nat.reduceAdd, Nat.reduceSub, Array.replicate_succ, Array.replicate_zero, List.push_toArray, List.append_toArray, List.nil_append, List.cons_append]
  gi_wp2
  gi_loopw [4] (fun at_ wr => ∃ (i : Nat) (pre : List ByteArray), at_ = .int .i64 (i : Int) ∧ i ≤ s.size + 1 ∧ Hid (EachRel s i pre) ∧ Hid (J pre wr) ∧ Hid (Env bx bw wb s v0 wr)) (fun at_ _ => s.size + 2 - (intOf at_).toNat)
  case atStart => exact ⟨0, [], rfl, by omega, er_start s, h0, hE⟩
  case round =>
    obtain ⟨i, pre, rfl, hi, HR, HJ, HE⟩ := hrel
    obtain ⟨c1, c2, c3, c4⟩ := HE.out
    clear hE h0
    by_cases hle : i ≤ s.size
    · have cN := Lib.hid (next_any s i hle hs)
      cases hb : (nxL (s.data.toList.drop i)).2.2 with
      | false =>
        obtain ⟨e1, e2⟩ := er_bad HR.out hle hb
        have HF : Hid (pre = PartsOf s ∧ wrongV s v0 = .int .i64 (((i + (nxL (s.data.toList.drop i)).2.1 : Nat) : Int))) := ⟨e1, by unfold wrongV; rw [if_pos (by omega), e2]⟩
        have hn2 : Hid (nxE i (nxL (s.data.toList.drop i)) = .tuple #[.string { data := #[] }, .int .i64 ((i + (nxL (s.data.toList.drop i)).2.1 : Nat) : Int), .bool false]) := by unfold Hid nxE; rw [if_neg (by simp [hb])]
        rw [hn2.out] at cN
        generalize i + (nxL (s.data.toList.drop i)).2.1 = q at *
        clear HR hn2 e1 e2 hb
        gi_wp2_with (refine ⟨trivial, ?_⟩; gi_at_call 46; refine (callsIn_wide.2 (cN.out _)).mono ?_; rintro e w5 ⟨rfl, hb5⟩; obtain ⟨d1, d2, d3, d4⟩ := HE.out.below hb5)
        refine bodyPost_ret (results_none rfl _ _ _) rfl ?_
        exact ⟨⟨_, rfl⟩, .inl ⟨pre, ⟨HF.out.1, by rw [HF.out.2]; exact World.cell?_setCell_same _ _ _ d3, by rw [World.frozen?_setCell]; exact d4⟩, hJw _ _ _ (abide_below hJ HJ.out hb5)⟩⟩
      | true =>
        obtain ⟨e1, e2, e3⟩ := er_yield HR.out hle hb
        have hn2 : Hid (nxE i (nxL (s.data.toList.drop i)) = .tuple #[.string (mkT (nxL (s.data.toList.drop i)).1), .int .i64 ((i + (nxL (s.data.toList.drop i)).2.1 : Nat) : Int), .bool true]) := by unfold Hid nxE; rw [if_pos hb]
        rw [hn2.out] at cN
        have HR2 := Lib.hid e2
        have HP := Lib.hid e1
        have hmono : i ≤ i + (nxL (s.data.toList.drop i)).2.1 := by omega
        generalize i + (nxL (s.data.toList.drop i)).2.1 = q at *
        generalize mkT (nxL (s.data.toList.drop i)).1 = x at *
        clear HR hn2 e1 e2 hb
        have HYx : Hid (∀ w5, J pre w5 → YieldAt Fence.wide (n - 1) Try.prog l #[.string x] w5 fun e W' => (e = .returned (.bool true) ∧ J (pre ++ [x]) W' ∧ Kp w5 W') ∨ (e = .returned (.bool false) ∧ Jx (pre ++ [x]) W')) := fun w5 h => hY pre x w5 h HP.out
        gi_wp2_with (refine ⟨trivial, ?_⟩; gi_at_call 46; refine (callsIn_wide.2 (cN.out _)).mono ?_; rintro e w5 ⟨rfl, hb5⟩; have HE5 := Lib.hid (HE.out.below hb5); obtain ⟨d1, d2, d3, d4⟩ := HE.out.below hb5; obtain ⟨fn, tmps, assign, body, hy, hRr⟩ := HYx.out w5 (abide_below hJ HJ.out hb5))
        refine hRr.mono ?_
        rintro e W3 (⟨rfl, hJ3, hk3⟩ | ⟨rfl, hJx3⟩)
        · have HJ3 := Lib.hid hJ3
          have HE3 := Lib.hid (hKp _ _ hk3 HE5.out)
          clear hJ3 hk3
          gi_wp2
          go_roundw
          case rel => exact ⟨q + 1, pre ++ [x], by go_num, e3, HR2, HJ3, HE3⟩
          case measure => simp [intOf]; omega
        · gi_wp2
          refine bodyPost_ret (results_none rfl _ _ _) rfl ?_
          exact ⟨⟨_, rfl⟩, .inr ⟨_, HP.out, hJx3⟩⟩
    · obtain ⟨e1, e2⟩ := er_done HR.out hle
      have hle' : ¬ (i : Int) ≤ s.size := by omega
      have HF : Hid (pre = PartsOf s ∧ wrongV s v0 = v0) := ⟨e1, by unfold wrongV; rw [if_neg (by omega)]⟩
      clear HR e1 e2
      gi_wp2
      go_end0
      exact ⟨⟨_, rfl⟩, .inl ⟨_, ⟨HF.out.1, by rw [HF.out.2]; exact HE.out.2.2.1, HE.out.2.2.2⟩, HJ.out⟩⟩
end Go.Proofs.Ytcpmgnejbfnnjaa
