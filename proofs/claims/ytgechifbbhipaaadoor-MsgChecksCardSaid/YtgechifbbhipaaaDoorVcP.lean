/- vocab: a text's words between blanks, in plain Lean. No condition. -/
import Derived.Test.YtgechifbbhipaaaDoorGrP
import Derived.Test.YtgechifbbhipaaaDoorProg
import Derived.Test.YtgechifbbhipaaaDoorRng
import Derived.Lib.Space
import Derived.RangeFuncCalls
import Derived.RegionTactic
set_option linter.unusedVariables false
set_option linter.unusedSimpArgs false
namespace Go.Proofs.YtgechifbbhipaaaDoor
open Go.RowKit

/-- the texts between blanks -/
def spW : List UInt8 → List (List UInt8)
  | [] => [[]]
  | c :: l => if c = 32 then [] :: spW l else match spW l with
    | [] => [[c]]
    | w :: ws => (c :: w) :: ws
theorem spW_blank (p l : List UInt8) (h : ∀ c ∈ p, c ≠ 32) : spW (p ++ 32 :: l) = p :: spW l := by
  induction p with
  | nil => simp [spW]
  | cons c p ih =>
    have hc : c ≠ 32 := h c (by simp)
    rw [List.cons_append, spW, if_neg hc, ih (fun d hd => h d (by simp [hd]))]
theorem spW_end (p : List UInt8) (h : ∀ c ∈ p, c ≠ 32) : spW p = [p] := by
  induction p with
  | nil => rfl
  | cons c p ih =>
    have hc : c ≠ 32 := h c (by simp)
    rw [spW, if_neg hc, ih (fun d hd => h d (by simp [hd]))]
theorem spW_len (l : List UInt8) : (spW l).length ≤ l.length + 1 := by
  induction l with
  | nil => simp [spW]
  | cons c l ih =>
    rw [spW]
    split
    · simp; omega
    · split
      · simp
      · rename_i h; rw [h] at ih; simp at ih ⊢; omega

theorem ext_mkB (s : ByteArray) (f i : Nat) (_ : i ≤ s.size) : mkB ((s.data.toList.drop f).take (i - f)) = s.extract f i := by
  apply Go.WideShapes.bytes_inj
  simp [mkB, ByteArray.data_extract, List.take_drop]

def wds (s : ByteArray) : List ByteArray := (spW s.data.toList).map mkB
theorem wds_len (s : ByteArray) : (wds s).length ≤ s.size + 1 := by
  have := spW_len s.data.toList
  rw [len_toList] at this
  unfold wds; rw [List.length_map]; exact this

/-- at byte i, the word that stands there beginning at f, the words 'pre' ahead of it -/
structure VR (s : ByteArray) (f i : Nat) (pre : List ByteArray) : Prop where
  le : f ≤ i
  top : i ≤ s.size
  eq : pre ++ (spW (s.data.toList.drop f)).map mkB = wds s
  nb : ∀ j (h : j < s.size), f ≤ j → j < i → s[j] ≠ 32

theorem VR.start (s : ByteArray) : VR s 0 0 [] := ⟨Nat.le_refl _, Nat.zero_le _, rfl, fun j _ _ h => absurd h (Nat.not_lt_zero _)⟩
theorem VR.step {s : ByteArray} {f i : Nat} {pre : List ByteArray} (h : VR s f i pre) (hi : i < s.size) (hc : s[i] ≠ 32) : VR s f (i + 1) pre :=
  ⟨by have := h.le; omega, by omega, h.eq, fun j hj h1 h2 => by
    by_cases e : j = i
    · subst e; exact hc
    · exact h.nb j hj h1 (by omega)⟩
theorem VR.word {s : ByteArray} {f i : Nat} {pre : List ByteArray} (h : VR s f i pre) : ∀ c ∈ (s.data.toList.drop f).take (i - f), c ≠ 32 := by
  intro c hc
  obtain ⟨j, hj, rfl⟩ := List.getElem_of_mem hc
  have := h.top
  have := h.le
  simp only [List.length_take, List.length_drop, len_toList] at hj
  have hs : f + j < s.size := by omega
  have e : ((s.data.toList.drop f).take (i - f))[j] = s[f + j] := by
    rw [List.getElem_take, List.getElem_drop]; rfl
  rw [e]
  exact h.nb _ hs (by omega) (by omega)
theorem VR.split {s : ByteArray} {f i : Nat} {pre : List ByteArray} (h : VR s f i pre) (hi : i < s.size) (hc : s[i] = 32) : s.data.toList.drop f = (s.data.toList.drop f).take (i - f) ++ 32 :: s.data.toList.drop (i + 1) := by
  have := h.le
  have e := List.take_append_drop (i - f) (s.data.toList.drop f)
  rw [List.drop_drop, show f + (i - f) = i from by omega, drop_cons_at s i hi, hc] at e
  exact e.symm
theorem VR.blank {s : ByteArray} {f i : Nat} {pre : List ByteArray} (h : VR s f i pre) (hi : i < s.size) (hc : s[i] = 32) : VR s (i + 1) (i + 1) (pre ++ [s.extract f i]) := by
  have hw := h.word
  have he := h.eq
  rw [h.split hi hc, spW_blank _ _ hw, List.map_cons, ext_mkB s f i h.top] at he
  exact ⟨Nat.le_refl _, hi, by rw [← he]; simp, fun j _ h1 h2 => by omega⟩
theorem VR.fin {s : ByteArray} {f : Nat} {pre : List ByteArray} (h : VR s f s.size pre) : pre ++ [s.extract f s.size] = wds s := by
  have hw := h.word
  have he := h.eq
  have ht : (s.data.toList.drop f).take (s.size - f) = s.data.toList.drop f := List.take_of_length_le (by rw [List.length_drop, len_toList]; exact Nat.le_refl _)
  rw [ht] at hw
  rw [spW_end _ hw] at he
  have hx := ext_mkB s f s.size (Nat.le_refl _)
  rw [ht] at hx
  rw [← he, ← hx]; rfl
theorem VR.pre {s : ByteArray} {f i : Nat} {pre : List ByteArray} (h : VR s f i pre) : pre <+: wds s := ⟨_, h.eq⟩
theorem VR.mem {s : ByteArray} {f i : Nat} {pre : List ByteArray} (h : VR s f i pre) (hb : i = s.size ∨ ∃ hi : i < s.size, s[i] = 32) : pre ++ [s.extract f i] <+: wds s := by
  rcases hb with rfl | ⟨hi, hc⟩
  · exact ⟨[], by rw [List.append_nil]; exact h.fin⟩
  · exact (h.blank hi hc).pre
/-- no word is empty, and each byte is a blank or no blank of any kind, and below 128 -/
def okB (c : UInt8) : Bool := c.toNat < 128 && (c == 32 || !(c == 9 || c == 10 || c == 11 || c == 12 || c == 13))
def okT (s : ByteArray) : Prop := (∀ x ∈ wds s, x.size ≠ 0) ∧ ∀ j (h : j < s.size), okB s[j] = true
theorem VR.pos {s : ByteArray} {f i : Nat} {pre : List ByteArray} (h : VR s f i pre) (hok : okT s) (hb : i = s.size ∨ ∃ hi : i < s.size, s[i] = 32) : f < i := by
  have hm : s.extract f i ∈ wds s := (h.mem hb).subset (by simp)
  have := hok.1 _ hm
  have h1 := h.le
  have h2 := h.top
  rw [ByteArray.size_extract] at this
  omega
end Go.Proofs.YtgechifbbhipaaaDoor

/- strings.FieldsSeq over texts of letters below 128: its iterator tells the words between blanks. No condition but the text's form and the library's table. -/
set_option linter.unusedVariables false
set_option linter.unusedSimpArgs false
namespace Go.Proofs.YtgechifbbhipaaaDoor
open Go.RowKit Go.Shelf

attribute [local go_sem] Oper.semAt_some

theorem hmfV : ∀ (fn : Fn) (first cap : Array Value) (w : World), (Instr.makeFunc fn first cap).run Tryd.prog w = .ok (.func fn first cap) w := fun _ _ _ _ => rfl

def gB (s : ByteArray) (i : Nat) : Nat := (s.get! i).toNat
theorem gB_lt (s : ByteArray) (i : Nat) : gB s i < 256 := UInt8.toNat_lt _
theorem gB_eq (s : ByteArray) (i : Nat) (h : i < s.size) : (s[i]).toNat = gB s i := by
  unfold gB
  congr 1
  simp only [ByteArray.get!, getElem, ByteArray.get]
  rw [getElem!_pos]
  rfl
theorem run_gB (s : ByteArray) (i : Nat) (h : i < s.size) (w : World) : (Instr.index 9 (.string s) (.int .i64 (i : Int))).run Tryd.prog w = .ok (.int .u8 (gB s i : Int)) w := by
  have h2 : (0 : Int) ≤ (i : Int) ∧ (i : Int) < s.size := ⟨by omega, by omega⟩
  rw [run_index_string w 9 _ _ _ Tryd.underlying9, dif_pos h2, ← gB_eq s i h]
  rfl

/-- the library's table of blanks, for what a text of this form asks -/
def SpT (w : World) : Prop := w.cell? ⟨1, 32, none⟩ = some (.int .u8 1) ∧ ∀ c, c < 128 → c ≠ 32 → (c < 9 ∨ 13 < c) → w.cell? ⟨1, c, none⟩ = some (.int .u8 0)
theorem SpT.below {w w' : World} {B : Nat} (h : SpT w) (hb : Below B w w') (hB : 1 < B) : SpT w' :=
  ⟨(hb.cell (p := ⟨1, 32, none⟩) hB).trans h.1, fun c h1 h2 h3 => (hb.cell (p := ⟨1, c, none⟩) hB).trans (h.2 c h1 h2 h3)⟩
theorem SpT.lt {w : World} (h : SpT w) : 1 < w.heap.size := World.block_lt_of_cell? _ _ h.1

/-- what the iterator reads -/
def FcS (bs : Nat) (s : ByteArray) (w : World) : Prop := w.cell? ⟨bs, 0, none⟩ = some (.string s) ∧ SpT w
theorem FcS.below {bs : Nat} {s : ByteArray} {w w' : World} (h : FcS bs s w) (hb : Below w.heap.size w w') : FcS bs s w' :=
  ⟨(hb.cell (p := ⟨bs, 0, none⟩) (World.block_lt_of_cell? _ _ h.1)).trans h.1, h.2.below hb h.2.lt⟩
def KpF (bs : Nat) (s : ByteArray) (W W' : World) : Prop := (FcS bs s W → FcS bs s W') ∧ W.heap.size ≤ W'.heap.size

theorem fields_any (s : ByteArray) (w : World) :
    Calls Tryd.prog 177 #[.string s] w fun e w' => e = .returned (.func (.func 198) #[] #[.pointer (some ⟨w.heap.size, 0, none⟩)]) ∧
      w'.cell? ⟨w.heap.size, 0, none⟩ = some (.string s) ∧ w'.heap.size = w.heap.size + 1 ∧ Below w.heap.size w w' := by
  have hm := hmfV
  go_enter Tryd.func177, Tryd.ntmps177
  go_wp2
  go_ret
  refine ⟨rfl, ?_, by simp, (Below.refl _ _).alloc (Nat.le_refl _) _⟩
  rw [World.cell?_alloc_at _ _ _ _ rfl]; rfl

def wdsE (s : ByteArray) : List ByteArray := if s.size = 0 then [] else wds s

set_option maxRecDepth 100000 in
set_option maxHeartbeats 4000000 in
theorem fld_seqE (n : Nat) (hn : 1 ≤ n) (bs : Nat) (s : ByteArray) (hs : s.size ≤ 100000) (hok : s.size ≠ 0 → okT s) (w : World) (hc : FcS bs s w) :
    SeqE Fence.wide n 1 Tryd.prog 198 #[.pointer (some ⟨bs, 0, none⟩)] (fun x : ByteArray => #[Value.string x]) (fun _ => KpF bs s) (fun _ _ => False) (fun _ => 0) (fun xs _ => xs = wdsE s) (fun pre => pre <+: wdsE s) (fun pre x => pre ++ [x] <+: wdsE s) w := by
  intro l J Jx W hW hJ hJx _ hY h0
  have HF0 := Lib.hid (hc.below hW)
  clear hc hW
  refine callsIn_of_wp Tryd.func198 rfl trivial ?_ rfl
  simp only [Tryd.ntmps198, List.size_toArray, List.length_cons, List.length_nil, Nat.reduceAdd, Nat.reduceSub, Array.replicate_succ, Array.replicate_zero, List.push_toArray, List.append_toArray, List.nil_append, List.cons_append]
  gi_wp2
  gi_loopw [3, 4, 5, 6, 7] (fun sv iv _ _ _ wr => ∃ (f i : Nat) (pre : List ByteArray), sv = .int .i64 (if f = i then (-1 : Int) else (f : Int)) ∧ iv = .int .i64 (i : Int) ∧ Hid (VR s f i pre) ∧ Hid (J pre wr) ∧ Hid (FcS bs s wr)) (fun _ iv _ _ _ _ => s.size - (intOf iv).toNat)
  case atStart => exact ⟨0, 0, [], by simp, rfl, VR.start s, h0, HF0⟩
  case round =>
    obtain ⟨f, i, pre, rfl, rfl, HV, HJ, HFc⟩ := hrel
    clear h0 HF0
    have hsl := HV.out.le
    have hst := HV.out.top
    obtain ⟨hcs, hT⟩ := HFc.out
    by_cases hlt : i < s.size
    · have j1 : (i : Int) < s.size := by omega
      have hok' := hok (by omega)
      have hwE : wdsE s = wds s := by unfold wdsE; rw [if_neg (by omega)]
      have hrd := run_gB s i hlt
      have hge := gB_eq s i hlt
      have hokb := hok'.2 i hlt
      by_cases h32 : s[i] = 32
      · have hv : gB s i = 32 := by rw [← hge, h32]; rfl
        have hct : wr.cell? ⟨1, 32, none⟩ = some (.int .u8 1) := hT.1
        have hpos := HV.out.pos hok' (.inr ⟨hlt, h32⟩)
        have hne : ¬ f = i := by omega
        rw [if_neg hne]
        have hpf : Hid (pre ++ [s.extract f i] <+: wdsE s) := by unfold Hid; rw [hwE]; exact HV.out.mem (.inr ⟨hlt, h32⟩)
        have HV2 := Lib.hid (HV.out.blank hlt h32)
        have hpre : pre ++ [s.extract f i] <+: wdsE s := hpf.out
        have HYx : Hid (YieldAt Fence.wide (n - 1) Tryd.prog l #[.string (s.extract f i)] wr fun e W' => (e = .returned (.bool true) ∧ J (pre ++ [s.extract f i]) W' ∧ KpF bs s wr W' ∧ KeepsFrom W.heap.size wr W') ∨ (e = .returned (.bool false) ∧ Jx (pre ++ [s.extract f i]) W' ∧ KeepsFrom W.heap.size wr W')) := hY pre _ wr HJ.out hpre (Nat.zero_le _)
        have hrd2 : ∀ w, (Instr.index 9 (.string s) (.int .i64 (i : Int))).run Tryd.prog w = .ok (.int .u8 32) w := by rw [hv] at hrd; exact hrd
        clear hrd hpre hv hge hokb h32 hwE hok'
        have k0 : (0 : Int) ≤ (f : Int) := by omega
        have k1 : (f : Int) ≤ (i : Int) := by omega
        have k2 : (i : Int) ≤ (s.size : Int) := by omega
        obtain ⟨fn, tmps, assign, body, hy, hRr⟩ := HYx.out
        clear HYx
        gi_wp2
        refine hRr.mono ?_
        rintro e W3 (⟨rfl, hJ3, hk3, _⟩ | ⟨rfl, hJx3, _⟩)
        · have HJ3 := Lib.hid hJ3
          have HF3 := Lib.hid (hk3.1 HFc.out)
          clear hJ3 hk3
          gi_wp2
          go_roundw
          case rel => exact ⟨i + 1, i + 1, _, by rw [if_pos rfl], by go_num, HV2, HJ3, HF3⟩
          case measure => simp [intOf]; omega
        · gi_wp2
          refine bodyPost_ret (results_none rfl _ _ _) rfl ?_
          exact ⟨⟨_, rfl⟩, .inr ⟨_, hpf.out, hJx3⟩⟩
      · have hcl : gB s i < 128 ∧ gB s i ≠ 32 ∧ (gB s i < 9 ∨ 13 < gB s i) := by
          rw [← hge]
          revert hokb h32
          generalize s[i] = c
          intro h1 h2
          simp only [okB, Bool.and_eq_true, decide_eq_true_eq, Bool.or_eq_true, beq_iff_eq, Bool.not_eq_true', Bool.or_eq_false_iff, beq_eq_false_iff_ne] at h1
          obtain ⟨h3, h4⟩ := h1
          refine ⟨h3, fun h => h2 (UInt8.toNat_inj.1 h), ?_⟩
          rcases h4 with h4 | ⟨⟨⟨⟨a, b⟩, c1⟩, d⟩, e⟩
          · exact absurd h4 h2
          · have a' : c.toNat ≠ 9 := fun h => a (UInt8.toNat_inj.1 h)
            have b' : c.toNat ≠ 10 := fun h => b (UInt8.toNat_inj.1 h)
            have c' : c.toNat ≠ 11 := fun h => c1 (UInt8.toNat_inj.1 h)
            have d' : c.toNat ≠ 12 := fun h => d (UInt8.toNat_inj.1 h)
            have e' : c.toNat ≠ 13 := fun h => e (UInt8.toNat_inj.1 h)
            omega
        have HV2 := Lib.hid (HV.out.step hlt h32)
        have hct := hT.2 _ hcl.1 hcl.2.1 hcl.2.2
        clear hT hge hokb h32 hok' hwE
        generalize gB s i = c at *
        have c1 : ¬ (128 : Int) ≤ (c : Int) := by omega
        have c2 : (c : Int) < 256 := by omega
        by_cases hfi : f = i
        · subst hfi
          rw [if_pos rfl]
          gi_wp2
          go_roundw
          case rel => exact ⟨f, f + 1, pre, by rw [if_neg (by omega)], by go_num, HV2, HJ, HFc⟩
          case measure => simp [intOf]; omega
        · rw [if_neg hfi]
          have k0 : (0 : Int) ≤ (f : Int) := by omega
          have k1 : ¬ (f : Int) < 0 := by omega
          gi_wp2
          go_roundw
          case rel => exact ⟨f, i + 1, pre, by rw [if_neg (by omega)], by go_num, HV2, HJ, HFc⟩
          case measure => simp [intOf]; omega
    · have j1 : ¬ (i : Int) < s.size := by omega
      obtain rfl : i = s.size := by omega
      by_cases hz : s.size = 0
      · obtain rfl : f = s.size := by omega
        have hE : Hid (pre = wdsE s) := by
          have h := HV.out.fin
          have h3 : s.extract s.size s.size = mkB [] := by rw [← ext_mkB s s.size s.size (Nat.le_refl _)]; simp
          have h4 : wds s = [mkB []] := by
            have : s.data.toList = [] := List.eq_nil_of_length_eq_zero (by rw [len_toList]; exact hz)
            unfold wds; rw [this]; rfl
          rw [h3, h4] at h
          unfold Hid wdsE
          rw [if_pos hz]
          cases pre with
          | nil => rfl
          | cons a l => simp at h
        rw [if_pos rfl]
        clear hz
        gi_wp2
        go_end0
        exact ⟨⟨_, rfl⟩, .inl (hE.out ▸ HJ.out)⟩
      · have hok' := hok hz
        have hwE : wdsE s = wds s := by unfold wdsE; rw [if_neg hz]
        have hpos := HV.out.pos hok' (.inl rfl)
        have hpf : Hid (pre ++ [s.extract f s.size] = wdsE s) := by unfold Hid; rw [hwE]; exact HV.out.fin
        have hpre : pre ++ [s.extract f s.size] <+: wdsE s := ⟨[], by rw [List.append_nil]; exact hpf.out⟩
        have HYx : Hid (YieldAt Fence.wide (n - 1) Tryd.prog l #[.string (s.extract f s.size)] wr fun e W' => (e = .returned (.bool true) ∧ J (pre ++ [s.extract f s.size]) W' ∧ KpF bs s wr W' ∧ KeepsFrom W.heap.size wr W') ∨ (e = .returned (.bool false) ∧ Jx (pre ++ [s.extract f s.size]) W' ∧ KeepsFrom W.heap.size wr W')) := hY pre _ wr HJ.out hpre (Nat.zero_le _)
        have hne : ¬ f = s.size := by omega
        rw [if_neg hne]
        have k0 : (0 : Int) ≤ (f : Int) := by omega
        have k1 : (f : Int) ≤ (s.size : Int) := by omega
        obtain ⟨fn, tmps, assign, body, hy, hRr⟩ := HYx.out
        clear HYx hpre hwE hok' hz
        gi_wp2
        refine hRr.mono ?_
        rintro e W3 (⟨rfl, hJ3, hk3, _⟩ | ⟨rfl, hJx3, _⟩)
        · gi_wp2
          go_end0
          exact ⟨⟨_, rfl⟩, .inl ⟨_, hpf.out, hJ3⟩⟩
        · gi_wp2
          go_end0
          exact ⟨⟨_, rfl⟩, .inr ⟨_, ⟨[], by rw [List.append_nil]; exact hpf.out⟩, hJx3⟩⟩
end Go.Proofs.YtgechifbbhipaaaDoor
