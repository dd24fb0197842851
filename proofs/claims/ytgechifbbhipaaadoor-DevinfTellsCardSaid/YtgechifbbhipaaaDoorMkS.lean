/- vocab: Space, both; a page's namespace. No condition. -/
import Derived.Test.YtgechifbbhipaaaDoorKit
import Derived.Test.YtgechifbbhipaaaDoorProg
import Derived.RangeFuncBound
set_option linter.unusedVariables false
set_option linter.unusedSimpArgs false
namespace Go.Proofs.YtgechifbbhipaaaDoor
open Go.RowKit

/-- the texts that a function lays -/
def strsOf : Code → List ByteArray
  | .region _ ops _ => ops.toList.filterMap fun o => match o.op with
    | .assign (.const (.string s)) => some s
    | _ => none
  | .seq a b => strsOf a ++ strsOf b
  | .cond _ a b => strsOf a ++ strsOf b
  | .block _ a => strsOf a
  | .loop a => strsOf a
  | .scope a => strsOf a
  | _ => []
noncomputable def spcN (i : Nat) : ByteArray := ((Tryd.f158.body.map strsOf).getD [])[i]?.getD ByteArray.empty
/-- a page's namespace -/
noncomputable def spc (k : Int) : ByteArray := if k = 0 then spcN 1 else if k = 1 then spcN 2 else if k = 2 then spcN 3 else ⟨#[]⟩
noncomputable def spcL (k : Int) : List UInt8 := (spc k).data.toList
theorem spcL_len (k : Int) : (spcL k).length ≤ 40 := by
  unfold spcL spc
  (repeat' split)
  · exact of_decide_eq_true (by kernel_rfl)
  · exact of_decide_eq_true (by kernel_rfl)
  · exact of_decide_eq_true (by kernel_rfl)
  · exact Nat.zero_le _

set_option maxRecDepth 100000 in
theorem space_any (k : Int) (w : World) : Calls Tryd.prog 158 #[.int .i64 k] w fun e w' => e = .returned (.string (spc k)) ∧ w = w' := by
  by_cases h0 : k = 0
  · subst h0
    go_enter Tryd.func158, Tryd.ntmps158
    go_wp2
    go_ret
    exact ⟨ret_bytes' (by kernel_rfl), rfl⟩
  · by_cases h1 : k = 1
    · subst h1
      go_enter Tryd.func158, Tryd.ntmps158
      go_wp2
      go_ret
      exact ⟨ret_bytes' (by kernel_rfl), rfl⟩
    · by_cases h2 : k = 2
      · subst h2
        go_enter Tryd.func158, Tryd.ntmps158
        go_wp2
        go_ret
        exact ⟨ret_bytes' (by kernel_rfl), rfl⟩
      · have e0 : (k == 0) = false := by simpa using h0
        have e1 : (k == 1) = false := by simpa using h1
        have e2 : (k == 2) = false := by simpa using h2
        have hR : spc k = ⟨#[]⟩ := by unfold spc; rw [if_neg h0, if_neg h1, if_neg h2]
        rw [hR]
        go_enter Tryd.func158, Tryd.ntmps158
        go_wp2
        go_ret
        exact ⟨rfl, rfl⟩
set_option maxRecDepth 100000 in
theorem refSpace_any (k : Int) (w : World) : Calls Tryd.prog 161 #[.int .i64 k] w fun e w' => e = .returned (.string (spc k)) ∧ w = w' := by
  by_cases h0 : k = 0
  · subst h0
    go_enter Tryd.func161, Tryd.ntmps161
    go_wp2
    go_ret
    exact ⟨ret_bytes' (by kernel_rfl), rfl⟩
  · by_cases h1 : k = 1
    · subst h1
      go_enter Tryd.func161, Tryd.ntmps161
      go_wp2
      go_ret
      exact ⟨ret_bytes' (by kernel_rfl), rfl⟩
    · by_cases h2 : k = 2
      · subst h2
        go_enter Tryd.func161, Tryd.ntmps161
        go_wp2
        go_ret
        exact ⟨ret_bytes' (by kernel_rfl), rfl⟩
      · have e0 : (k == 0) = false := by simpa using h0
        have e1 : (k == 1) = false := by simpa using h1
        have e2 : (k == 2) = false := by simpa using h2
        have hR : spc k = ⟨#[]⟩ := by unfold spc; rw [if_neg h0, if_neg h1, if_neg h2]
        rw [hR]
        go_enter Tryd.func161, Tryd.ntmps161
        go_wp2
        go_ret
        exact ⟨rfl, rfl⟩
end Go.Proofs.YtgechifbbhipaaaDoor

/- small words for texts of bytes. No condition. -/
set_option linter.unusedVariables false
set_option linter.unusedSimpArgs false
namespace Go.Proofs.YtgechifbbhipaaaDoor
open Go.RowKit

theorem S43 : Sl1 Tryd.prog 136 5 (.int .u8 0) 1 := ⟨Tryd.underlying136, by kernel_rfl, rfl⟩
theorem extract_list (s : ByteArray) (i j : Nat) : (s.extract i j).data.toList = (s.data.toList.drop i).take (j - i) := by
  rw [ByteArray.data_extract, Array.toList_extract, List.extract]
/-- the bytes of a list of numbers -/
def u8s (l : List Int) : List UInt8 := l.map fun n => UInt8.ofNat n.toNat
theorem u8n (n : Nat) (h : n < 256) : (UInt8.ofNat ((n : Int)).toNat).toNat = n := by simp; omega
theorem run_at9 (s : ByteArray) (k : Nat) (h : k < s.size) : ∀ w, (Instr.index 9 (.string s) (.int .i64 (k : Int))).run Tryd.prog w = .ok (.int .u8 (s[k].toNat : Int)) w := fun w => by
  have h2 : (0 : Int) ≤ (k : Int) ∧ (k : Int) < s.size := ⟨by omega, by exact Int.ofNat_lt.2 h⟩
  rw [run_index_string w 9 _ _ _ Tryd.underlying9, dif_pos h2]
  rfl
end Go.Proofs.YtgechifbbhipaaaDoor

/- sixbit.Lines: the iterator, and what it tells. No condition but the text's size. -/
set_option linter.unusedVariables false
set_option linter.unusedSimpArgs false
namespace Go.Proofs.YtgechifbbhipaaaDoor
open Go.RowKit Go.Shelf

/-- a text in pieces of w bytes -/
def chkF (w : Nat) : Nat → ByteArray → List ByteArray
  | 0, _ => []
  | f + 1, b => if b.size = 0 then [] else b.extract 0 (min w b.size) :: chkF w f (b.extract (min w b.size) b.size)
def chk (w : Nat) (b : ByteArray) : List ByteArray := chkF w b.size b

theorem ext_size (b : ByteArray) (i : Nat) : (b.extract i b.size).size = b.size - i := by simp

theorem chkF_fuel {w : Nat} (hw : 1 ≤ w) {f g : Nat} {b : ByteArray} (hf : b.size ≤ f) (hg : b.size ≤ g) : chkF w f b = chkF w g b := by
  induction f generalizing g b with
  | zero =>
    cases g with
    | zero => rfl
    | succ g => rw [chkF, chkF, if_pos (by omega)]
  | succ f ih =>
    cases g with
    | zero => rw [chkF, chkF, if_pos (by omega)]
    | succ g =>
      rw [chkF, chkF]
      by_cases h : b.size = 0
      · rw [if_pos h, if_pos h]
      · rw [if_neg h, if_neg h, ih (g := g) (by rw [ext_size]; omega) (by rw [ext_size]; omega)]

theorem chk_nil {w : Nat} {b : ByteArray} (h : b.size = 0) : chk w b = [] := by rw [chk, h]; rfl
theorem chk_cons {w : Nat} (hw : 1 ≤ w) {b : ByteArray} (h : b.size ≠ 0) : chk w b = b.extract 0 (min w b.size) :: chk w (b.extract (min w b.size) b.size) := by
  obtain ⟨f, hf⟩ : ∃ f, b.size = f + 1 := ⟨b.size - 1, by omega⟩
  rw [chk, hf, chkF, if_neg h, chk, ← hf]
  congr 1
  exact chkF_fuel hw (by rw [ext_size]; omega) (Nat.le_refl _)
theorem chkF_len (w f : Nat) (b : ByteArray) : (chkF w f b).length ≤ f := by
  induction f generalizing b with
  | zero => simp [chkF]
  | succ f ih =>
    rw [chkF]; split
    · simp
    · simp; exact ih _
theorem chk_len (w : Nat) (b : ByteArray) : (chk w b).length ≤ b.size := chkF_len _ _ _

theorem hmf' : ∀ (fn : Fn) (first cap : Array Value) (w : World), (Instr.makeFunc fn first cap).run Tryd.prog w = .ok (.func fn first cap) w := fun _ _ _ _ => rfl

/-- the width that is taken -/
def wd (width : Int) : Nat := (max width 1).toNat
theorem wd_pos (width : Int) : 1 ≤ wd width := by unfold wd; omega
theorem wd_cast (width : Int) : max width 1 = (wd width : Int) := by unfold wd; omega

theorem lines_any (s : ByteArray) (width : Int) (w : World) :
    Calls Tryd.prog 190 #[.string s, .int .i64 width] w fun e w' => e = .returned (.func (.func 207) #[] #[.pointer (some ⟨w.heap.size, 0, none⟩), .pointer (some ⟨w.heap.size + 1, 0, none⟩)]) ∧
      w'.cell? ⟨w.heap.size, 0, none⟩ = some (.string s) ∧ w'.cell? ⟨w.heap.size + 1, 0, none⟩ = some (.int .i64 (wd width)) ∧ w.heap.size + 1 < w'.heap.size ∧ Below w.heap.size w w' := by
  have hm := hmf'
  have fin : ∀ v : Int, v = (wd width : Int) → ∀ w', w' = (w.alloc (.cells #[.string s] 9)).alloc (.cells #[.int .i64 v] 3) → w'.cell? ⟨w.heap.size, 0, none⟩ = some (.string s) ∧ w'.cell? ⟨w.heap.size + 1, 0, none⟩ = some (.int .i64 (wd width)) ∧ w.heap.size + 1 < w'.heap.size ∧ Below w.heap.size w w' := by
    rintro v hv w' rfl
    subst hv
    refine ⟨?_, ?_, by simp, ((Below.refl _ _).alloc (Nat.le_refl _) _).alloc (by simp) _⟩
    · rw [World.cell?_alloc_past _ _ _ (by simp), World.cell?_alloc_at _ _ _ _ rfl]; rfl
    · rw [World.cell?_alloc_at _ _ _ _ (by simp)]; rfl
  have HF := Lib.hid fin
  clear fin
  by_cases h : 1 ≤ width
  · have HW : Hid (width = (wd width : Int)) := by unfold Hid wd; omega
    go_enter Tryd.func190, Tryd.ntmps190
    go_wp2
    go_ret
    exact ⟨rfl, HF.out _ HW.out _ rfl⟩
  · have HW : Hid (1 = (wd width : Int)) := by unfold Hid wd; omega
    go_enter Tryd.func190, Tryd.ntmps190
    go_wp2
    go_ret
    exact ⟨rfl, HF.out _ HW.out _ rfl⟩

attribute [local go_sem] Oper.semAt_some

set_option maxRecDepth 100000 in
set_option maxHeartbeats 1000000 in
theorem lines1_in (n : Nat) (hn : 1 ≤ n) (l bx b2 : Nat) (s : ByteArray) (k : Nat) (hk1 : 1 ≤ k) (Kp : World → World → Prop) (hKp : ∀ W W', Kp W W' → W'.cell? ⟨b2, 0, none⟩ = W.cell? ⟨b2, 0, none⟩) (J Jx : List ByteArray → World → Prop)
    (hY : ∀ pre x W, J pre W → pre ++ [x] <+: chk k s → YieldAt Fence.wide (n - 1) Tryd.prog l #[.string x] W fun e W' =>
      (e = .returned (.bool true) ∧ J (pre ++ [x]) W' ∧ Kp W W') ∨ (e = .returned (.bool false) ∧ Jx (pre ++ [x]) W'))
    (W : World) (hbx : W.cell? ⟨bx, 0, none⟩ = some (.string s)) (hb2 : W.cell? ⟨b2, 0, none⟩ = some (.int .i64 k)) (h0 : J [] W) :
    CallsIn Fence.wide n Tryd.prog 207 #[.func (.yield l) #[] #[], .pointer (some ⟨bx, 0, none⟩), .pointer (some ⟨b2, 0, none⟩)] W fun e W' => (∃ v, e = .returned v) ∧
      ((∃ ys, ys = chk k s ∧ J ys W') ∨ (∃ pre, pre <+: chk k s ∧ Jx pre W')) := by
  refine callsIn_of_wp Tryd.func207 rfl trivial ?_ rfl
  simp only [Tryd.ntmps207, List.size_toArray, List.length_cons, List.length_nil, Nat.reduceAdd, Nat.reduceSub, Array.replicate_succ, Array.replicate_zero, List.push_toArray, List.append_toArray, List.nil_append, List.cons_append]
  gi_wp2
  gi_loopw [4] (fun r wr => ∃ (R : ByteArray) (pre : List ByteArray), r = .string R ∧ R.size ≤ s.size ∧ Hid (pre ++ chk k R = chk k s) ∧ J pre wr ∧ wr.cell? ⟨b2, 0, none⟩ = some (.int .i64 k)) (fun r _ => match r with | .string R => R.size | _ => 0)
  case atStart => exact ⟨s, [], rfl, Nat.le_refl _, rfl, h0, hb2⟩
  case round =>
    obtain ⟨R, pre, rfl, hR, HP, hJ, hb2⟩ := hrel
    by_cases hz : R.size = 0
    · have HP2 : Hid (pre = chk k s) := by unfold Hid; rw [← HP.out, chk_nil hz, List.append_nil]
      have hre := empty_of_size R hz
      subst hre
      have HJ := Lib.hid hJ
      clear hJ HP
      gi_wp2
      go_end0
      exact ⟨⟨_, rfl⟩, .inl ⟨_, HP2.out, HJ.out⟩⟩
    · have hne : R.toList.isEmpty = false := by
        rw [ByteArray.toList_eq, List.isEmpty_eq_false_iff]; intro h; apply hz; rw [← len_toList, h]; rfl
      have HC : Hid (chk k R = R.extract 0 (min k R.size) :: chk k (R.extract (min k R.size) R.size)) := chk_cons hk1 hz
      by_cases hle : k ≤ R.size
      · rw [Nat.min_eq_left hle] at HC
        have HP2 : Hid ((pre ++ [R.extract 0 k]) ++ chk k (R.extract k R.size) = chk k s) := by unfold Hid; rw [← HP.out, HC.out]; simp
        obtain ⟨fn, tmps, assign, body, hy, hRr⟩ := hY pre (R.extract 0 k) wr hJ ⟨_, HP2.out⟩
        have hsz2 : (R.extract k R.size).size = R.size - k := by simp
        have hle' : (k : Int) ≤ R.size := by omega
        have HS2 := Lib.hid hsz2
        clear hJ HP HC hsz2
        gi_wp2
        refine hRr.mono ?_
        rintro e W3 (⟨rfl, hJ3, hk3⟩ | ⟨rfl, hJx3⟩)
        · have HJ := Lib.hid hJ3
          have hb3 := (hKp _ _ hk3).trans hb2
          clear hJ3 hk3
          gi_wp2
          go_roundw
          case rel => exact ⟨R.extract k R.size, _, rfl, by rw [HS2.out]; omega, HP2.out, HJ.out, hb3⟩
          case measure => simp; omega
        · gi_wp2
          refine bodyPost_ret (results_none rfl _ _ _) rfl ?_
          exact ⟨⟨_, rfl⟩, .inr ⟨_, ⟨_, HP2.out⟩, hJx3⟩⟩
      · rw [Nat.min_eq_right (by omega)] at HC
        have hall : R.extract 0 R.size = R := by simp
        have hemp : R.extract R.size R.size = ByteArray.empty := by apply empty_of_size; simp
        rw [hall, hemp] at HC
        have HP2 : Hid ((pre ++ [R]) ++ chk k ByteArray.empty = chk k s) := by unfold Hid; rw [← HP.out, HC.out]; simp
        obtain ⟨fn, tmps, assign, body, hy, hRr⟩ := hY pre R wr hJ ⟨_, HP2.out⟩
        have hle' : ¬ (k : Int) ≤ R.size := by omega
        clear hJ HP HC
        gi_wp2
        refine hRr.mono ?_
        rintro e W3 (⟨rfl, hJ3, hk3⟩ | ⟨rfl, hJx3⟩)
        · have HJ := Lib.hid hJ3
          have hb3 := (hKp _ _ hk3).trans hb2
          clear hJ3 hk3
          gi_wp2
          go_roundw
          case rel => exact ⟨_, _, rfl, by simp, HP2.out, HJ.out, hb3⟩
          case measure => simp; omega
        · gi_wp2
          refine bodyPost_ret (results_none rfl _ _ _) rfl ?_
          exact ⟨⟨_, rfl⟩, .inr ⟨_, ⟨_, HP2.out⟩, hJx3⟩⟩

theorem lines1_stops (n : Nat) (hn : 1 ≤ n) (bx b2 : Nat) (s : ByteArray) (k : Nat) (hk1 : 1 ≤ k) (Kp : World → World → Prop) (hKp : ∀ W W', Kp W W' → W'.cell? ⟨b2, 0, none⟩ = W.cell? ⟨b2, 0, none⟩) (w : World)
    (hbx : w.cell? ⟨bx, 0, none⟩ = some (.string s)) (hb2 : w.cell? ⟨b2, 0, none⟩ = some (.int .i64 k)) (hb : bx < w.heap.size) (hg : b2 < w.heap.size) :
    SeqStopsK Fence.wide n Tryd.prog 207 #[.pointer (some ⟨bx, 0, none⟩), .pointer (some ⟨b2, 0, none⟩)] (fun x : ByteArray => #[Value.string x]) Kp (fun ys => ys = chk k s) (fun pre => pre <+: chk k s) (chk k s).length w := fun l J Jx W hW _ _ hY h0 =>
  lines1_in n hn l bx b2 s k hk1 Kp hKp J Jx (fun pre x W hJ hp => hY pre x W hJ (by have := hp.length_le; simp at this; omega)) W ((hW.cell (p := ⟨bx, 0, none⟩) hb).trans hbx) ((hW.cell (p := ⟨b2, 0, none⟩) hg).trans hb2) h0

/-- a piece of three bytes at the most -/
def P3 : Type := { x : ByteArray // 1 ≤ x.size ∧ x.size ≤ 3 }

theorem chk3_size (s : ByteArray) : ∀ x ∈ chk 3 s, 1 ≤ x.size ∧ x.size ≤ 3 := by
  have key : ∀ (f : Nat) (b : ByteArray), ∀ x ∈ chkF 3 f b, 1 ≤ x.size ∧ x.size ≤ 3 := by
    intro f
    induction f with
    | zero => intro b x hx; simp [chkF] at hx
    | succ f ih =>
      intro b x hx
      rw [chkF] at hx
      split at hx
      · simp at hx
      · rcases List.mem_cons.1 hx with rfl | hx
        · simp; omega
        · exact ih _ x hx
  exact key _ _

theorem lines3_stops (n : Nat) (hn : 1 ≤ n) (bx b2 : Nat) (s : ByteArray) (Kp : World → World → Prop) (hKp : ∀ W W', Kp W W' → W'.cell? ⟨b2, 0, none⟩ = W.cell? ⟨b2, 0, none⟩) (w : World)
    (hbx : w.cell? ⟨bx, 0, none⟩ = some (.string s)) (hb2 : w.cell? ⟨b2, 0, none⟩ = some (.int .i64 3)) (hb : bx < w.heap.size) (hg : b2 < w.heap.size) :
    SeqStopsK Fence.wide n Tryd.prog 207 #[.pointer (some ⟨bx, 0, none⟩), .pointer (some ⟨b2, 0, none⟩)] (fun x : P3 => #[Value.string x.1]) Kp (fun ys => ys.map (·.1) = chk 3 s) (fun _ => True) (chk 3 s).length w := fun l J Jx W hW _ _ hY h0 => by
  refine (lines1_in n hn l bx b2 s 3 (by decide) Kp hKp (fun pre W => ∃ q : List P3, q.map (·.1) = pre ∧ J q W) (fun pre W => ∃ q : List P3, q.map (·.1) = pre ∧ Jx q W) ?_ W
    ((hW.cell (p := ⟨bx, 0, none⟩) hb).trans hbx) ((hW.cell (p := ⟨b2, 0, none⟩) hg).trans hb2) ⟨[], rfl, h0⟩).mono ?_
  · rintro pre x W' ⟨q, rfl, hJ⟩ hp
    have hx : 1 ≤ x.size ∧ x.size ≤ 3 := chk3_size s x (hp.subset (by simp))
    have hlen := hp.length_le
    simp at hlen
    refine (hY q ⟨x, hx⟩ W' hJ (by omega)).mono ?_
    rintro e W2 (⟨he, h1, h2⟩ | ⟨he, h1⟩)
    · exact .inl ⟨he, ⟨q ++ [⟨x, hx⟩], by rw [List.map_append]; rfl, h1⟩, h2⟩
    · exact .inr ⟨he, ⟨q ++ [⟨x, hx⟩], by rw [List.map_append]; rfl, h1⟩⟩
  · rintro e W2 ⟨hv, ⟨ys, rfl, q, hq, hJ⟩ | ⟨pre, hp, q, hq, hJ⟩⟩
    · exact ⟨hv, .inl ⟨q, hq, hJ⟩⟩
    · exact ⟨hv, .inr ⟨q, trivial, hJ⟩⟩

theorem S27 : Sl1 Tryd.prog 81 9 (.string ByteArray.empty) 16 := ⟨Tryd.underlying81, by kernel_rfl, rfl⟩
end Go.Proofs.YtgechifbbhipaaaDoor
