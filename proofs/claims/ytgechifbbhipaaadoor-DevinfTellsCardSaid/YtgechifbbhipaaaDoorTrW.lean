/- tree: walk, an element and all within it, one by one. No condition but how deep it goes. -/
import Derived.Test.YtgechifbbhipaaaDoorTrM
import Derived.Test.YtgechifbbhipaaaDoorRng
set_option linter.unusedVariables false
set_option linter.unusedSimpArgs false
namespace Go.Proofs.YtgechifbbhipaaaDoor
open Go.RowKit

attribute [local go_sem] Oper.semAt_some

/-- what the walk tells: how deep, the element, its value -/
abbrev Xe := (Nat × Tr) × Value
def encX (x : Xe) : Array Value := #[.int .i64 (x.1.1 : Int), x.2]
def NxX (w : World) (M : Nat) (full : List (Nat × Tr)) (pre : List Xe) (x : Xe) : Prop := (pre ++ [x]).map (·.1) <+: full ∧ AtT w M x.1.2 x.2

def WalkP (M : Nat) (J : List Nat → List Xe → World → Prop) (Jx : List Xe → World → Prop) (O : List Nat) (pre : List Xe) (L full : List (Nat × Tr)) (W1 : World) (r : Ending) (W2 : World) : Prop :=
  (r = .returned (.bool true) ∧ ∃ q : List Xe, q.map (·.1) = L ∧ J O (pre ++ q) W2 ∧ KpG M O W1 W2) ∨ (r = .returned (.bool false) ∧ ∃ q : List Xe, (pre ++ q).map (·.1) <+: full ∧ Jx (pre ++ q) W2)

theorem GrowG.keep {B : Nat} {J : List Nat → List Xe → World → Prop} (hJ : GrowG B J) {O O' : List Nat} {s : List Xe} {W : World} (h : J O s W) (hO : ∀ b ∈ O', b ∈ O) : J O' s W :=
  hJ O O' s W W none h (World.grownBy.refl _ _) (fun r e => by cases e) (fun b hb => .inl (hO b hb))
theorem GrowG.grow {B : Nat} {J : List Nat → List Xe → World → Prop} (hJ : GrowG B J) {O O' : List Nat} {s : List Xe} {W W' : World} (h : J O s W) (hg : Below W.heap.size W W') (hO : ∀ b ∈ O', b ∈ O ∨ (W.heap.size ≤ b ∧ b < W'.heap.size)) : J O' s W' :=
  hJ O O' s W W' none h ⟨hg.os, hg.tape, hg.output, hg.size, fun k hk _ => hg.block k hk⟩ (fun r e => by cases e) hO

set_option maxRecDepth 100000 in
set_option maxHeartbeats 8000000 in
theorem walk_rec (M deepest l : Nat) (hdst : deepest ≤ 5000) (full : List (Nat × Tr)) (J : List Nat → List Xe → World → Prop) (Jx : List Xe → World → Prop) (w W : World) (hM : M ≤ W.heap.size) (hwW : Below M w W) (hJ : GrowG W.heap.size J)
    (hY : ∀ O pre x W1, J O pre W1 → NxX w M full pre x → Below M W W1 → W.heap.size ≤ W1.heap.size → YieldAt Fence.wide 9 Tryd.prog l (encX x) W1 fun e W' =>
      (e = .returned (.bool true) ∧ J O (pre ++ [x]) W' ∧ KpG M O W1 W' ∧ KeepsFrom W.heap.size W1 W') ∨ (e = .returned (.bool false) ∧ Jx (pre ++ [x]) W' ∧ KeepsFrom W.heap.size W1 W')) :
    ∀ (h : Nat) (e : Tr), hT e ≤ h → ∀ (v : Value) (deep : Nat) (O : List Nat) (pre : List Xe) (W1 : World), deep ≤ 5001 → AtT w M e v → J O pre W1 → Below M W W1 → W.heap.size ≤ W1.heap.size →
      pre.map (·.1) ++ preT deepest deep e <+: full →
      Calls Tryd.prog 180 #[v, .int .i64 (deep : Int), .int .i64 (deepest : Int), .func (.yield l) #[] #[]] W1 (WalkP M J Jx O pre (preT deepest deep e) full W1) := by
  intro h
  induction h with
  | zero => intro e he; cases e; rw [hT] at he; omega
  | succ h ih =>
    intro e he v deep O pre W1 hdeep hv hj hbW hsz hfull
    have hv' := hv
    obtain ⟨s1, s2, s3, a, c, rfl, hk⟩ := hv.parts
    refine (callsIn_wide (n := 10)).1 ?_
    by_cases hd : deepest < deep
    · have j1 : (deepest : Int) < (deep : Int) := by omega
      rw [preT_deep hd]
      clear ih hY
      have HJ1 := Lib.hid (hJ.grow hj ((Below.refl _ W1).alloc (Nat.le_refl _) (.cells #[.int .i64 e.page, .string e.name, .string e.text, .bool e.opq, .slice a e.kids.length c] 46)) (fun b hb => .inl hb))
      refine callsIn_of_wp Tryd.func180 rfl trivial ?_ rfl
      simp only [Tryd.ntmps180, List.size_toArray, List.length_cons, List.length_nil, Nat.reduceAdd, Nat.reduceSub, Array.replicate_succ, Array.replicate_zero, List.push_toArray, List.append_toArray, List.nil_append, List.cons_append]
      gi_wp2
      go_ret
      exact .inl ⟨rfl, [], rfl, by rw [List.append_nil]; exact HJ1.out, KpG.of_below ((Below.refl _ W1).alloc (Nat.le_refl _) _) (by omega)⟩
    · have j1 : ¬ (deepest : Int) < (deep : Int) := by omega
      rw [preT_in hd] at hfull ⊢
      have hnx : NxX w M full pre ((deep, e), .agg #[.int .i64 e.page, .string e.name, .string e.text, .bool e.opq, .slice a e.kids.length c]) := by
        refine ⟨?_, hv'⟩
        rw [List.map_append]
        obtain ⟨r, hr⟩ := hfull
        exact ⟨preL deepest (deep + 1) e.kids ++ r, by rw [← hr]; simp⟩
      have hal : Below W1.heap.size W1 (W1.alloc (.cells #[.int .i64 e.page, .string e.name, .string e.text, .bool e.opq, .slice a e.kids.length c] 46)) := (Below.refl _ W1).alloc (Nat.le_refl _) _
      have hj1 : J (W1.heap.size :: O) pre (W1.alloc (.cells #[.int .i64 e.page, .string e.name, .string e.text, .bool e.opq, .slice a e.kids.length c] 46)) := hJ.grow hj hal (fun b hb => by
        rcases List.mem_cons.1 hb with rfl | hb
        · exact .inr ⟨Nat.le_refl _, by simp⟩
        · exact .inl hb)
      have hMW1 : M ≤ W1.heap.size := Nat.le_trans hM hsz
      have HYx : Hid (YieldAt Fence.wide 9 Tryd.prog l (encX ((deep, e), .agg #[.int .i64 e.page, .string e.name, .string e.text, .bool e.opq, .slice a e.kids.length c])) (W1.alloc (.cells #[.int .i64 e.page, .string e.name, .string e.text, .bool e.opq, .slice a e.kids.length c] 46)) fun r W' =>
          (r = .returned (.bool true) ∧ J (W1.heap.size :: O) (pre ++ [((deep, e), .agg #[.int .i64 e.page, .string e.name, .string e.text, .bool e.opq, .slice a e.kids.length c])]) W' ∧ KpG M (W1.heap.size :: O) (W1.alloc (.cells #[.int .i64 e.page, .string e.name, .string e.text, .bool e.opq, .slice a e.kids.length c] 46)) W' ∧ KeepsFrom W.heap.size (W1.alloc (.cells #[.int .i64 e.page, .string e.name, .string e.text, .bool e.opq, .slice a e.kids.length c] 46)) W') ∨
          (r = .returned (.bool false) ∧ Jx (pre ++ [((deep, e), .agg #[.int .i64 e.page, .string e.name, .string e.text, .bool e.opq, .slice a e.kids.length c])]) W' ∧ KeepsFrom W.heap.size (W1.alloc (.cells #[.int .i64 e.page, .string e.name, .string e.text, .bool e.opq, .slice a e.kids.length c] 46)) W')) :=
        hY _ pre _ _ hj1 hnx (hbW.trans (hal.mono hMW1)) (by simp; omega)
      have hbx : Boxed (W1.alloc (.cells #[.int .i64 e.page, .string e.name, .string e.text, .bool e.opq, .slice a e.kids.length c] 46)) W1.heap.size 46 (.int .i64 0) ∨ True := .inr trivial
      clear hbx
      have HPre : Hid ((pre ++ [((deep, e), Value.agg #[.int .i64 e.page, .string e.name, .string e.text, .bool e.opq, .slice a e.kids.length c])]).map (·.1) <+: full) := hnx.1
      have HFull := Lib.hid hfull
      have HKids := Lib.hid hk
      have HAl := Lib.hid hal
      have HBW := Lib.hid hbW
      have HIh := Lib.hid ih
      unfold encX at HYx
      generalize hx : (((deep, e), Value.agg #[.int .i64 e.page, .string e.name, .string e.text, .bool e.opq, .slice a e.kids.length c]) : Xe) = x0 at HYx HPre
      have HX := Lib.hid hx
      subst hx
      generalize hnk : e.kids.length = nk at *
      have HNK := Lib.hid hnk
      have hnkb : nk ≤ 140737488355328 := s3
      clear hnk s1 s2 s3 hv hv' hnx hfull hk hal hj1 hj hbW ih hY
      obtain ⟨fn, tmps, assign, body, hyy, hRr⟩ := HYx.out
      clear HYx
      refine callsIn_of_wp Tryd.func180 rfl trivial ?_ rfl
      simp only [Tryd.ntmps180, List.size_toArray, List.length_cons, List.length_nil, Nat.reduceAdd, Nat.reduceSub, Array.replicate_succ, Array.replicate_zero, List.push_toArray, List.append_toArray, List.nil_append, List.cons_append]
      gi_wp2
      refine hRr.mono ?_
      rintro r W3 (⟨rfl, hj3, hk3, _⟩ | ⟨rfl, hjx3, _⟩)
      · have hbx : Hid (W3.cell? ⟨W1.heap.size, 4, none⟩ = some (.slice a nk c)) := by
          have h1 := hk3.1 W1.heap.size (List.mem_cons_self) _ (World.alloc_heap_new W1 _) rfl
          have h2 : W3.cell? ⟨W1.heap.size, 4, none⟩ = (W1.alloc (.cells #[.int .i64 e.page, .string e.name, .string e.text, .bool e.opq, .slice a nk c] 46)).cell? ⟨W1.heap.size, 4, none⟩ := World.cell?_of_block (a := ⟨W1.heap.size, 4, none⟩) (h1.trans (World.alloc_heap_new W1 _).symm)
          refine h2.trans ?_
          rw [World.cell?_alloc_at _ _ _ _ rfl]; rfl
        have HJ3 : Hid (J O (pre ++ [((deep, e), Value.agg #[.int .i64 e.page, .string e.name, .string e.text, .bool e.opq, .slice a nk c])]) W3) := hJ.keep hj3 (fun b hb => List.mem_cons_of_mem _ hb)
        have HK3 : Hid (KpG M O W1 W3) := (KpG.of_below (O := O) HAl.out hMW1).trans ⟨fun b hb => hk3.1 b (List.mem_cons_of_mem _ hb), hk3.2⟩
        have hbx4 : W3.cell? ⟨W1.heap.size, 4, none⟩ = some (.slice a nk c) := hbx.out
        clear hj3 hk3 hRr hyy HAl
        gi_wp2
        gi_loopw [22] (fun iv wr => ∃ (i : Nat) (q : List Xe), i ≤ nk ∧ iv = .int .i64 (i : Int) ∧ Hid (q.map (·.1) = (deep, e) :: preL deepest (deep + 1) (e.kids.take i)) ∧ Hid (J O (pre ++ q) wr) ∧ Hid (KpG M O W1 wr)) (fun iv _ => nk - (intOf iv).toNat)
        case atStart => exact ⟨0, _, Nat.zero_le _, rfl, by unfold Hid; rw [List.take_zero]; rfl, HJ3.out, HK3⟩
        case round =>
          obtain ⟨i, q, hi, rfl, HQ, HJ, HK⟩ := hrel
          clear HJ3 HK3 hbx hbx4 HPre
          by_cases hlt : i < nk
          · have j3 : (i : Int) < (nk : Int) := by omega
            have d3 : decide (i < nk) = true := by simp; omega
            have hik : i < e.kids.length := by rw [HNK.out]; exact hlt
            obtain ⟨b, o, a', c', rfl, hbM, hrg, hat⟩ := HKids.out.kid i hik
            have hwr : Below M w wr := hwW.trans (HBW.out.trans HK.out.2)
            have hrg2 := range_below hrg hwr hbM
            obtain ⟨y0, y1, y2, y3, y4⟩ := elem_cells hrg2
            have hszr : W.heap.size ≤ wr.heap.size := Nat.le_trans hsz HK.out.2.size
            have hal2 : Below wr.heap.size wr (wr.alloc (.cells #[.int .i64 e.kids[i].page, .string e.kids[i].name, .string e.kids[i].text, .bool e.kids[i].opq, .slice a' e.kids[i].kids.length c'] 46)) := (Below.refl _ wr).alloc (Nat.le_refl _) _
            have hdd : deep + 1 ≤ 5001 := by omega
            have hle : hT e.kids[i] ≤ h := Nat.le_of_lt_succ (Nat.lt_of_lt_of_le (hT_kid (e := e) (List.getElem_mem hik)) he)
            have hMr : M ≤ wr.heap.size := Nat.le_trans hM hszr
            have hpf : (pre ++ q).map (·.1) ++ preT deepest (deep + 1) e.kids[i] <+: full := by
              have h1 := HFull.out
              obtain ⟨r, hr⟩ := h1
              refine ⟨preL deepest (deep + 1) (e.kids.drop (i + 1)) ++ r, ?_⟩
              rw [← hr, List.map_append, HQ.out]
              have h2 : e.kids = e.kids.take i ++ e.kids[i] :: e.kids.drop (i + 1) := by rw [← List.drop_eq_getElem_cons hik, List.take_append_drop]
              have h3 : preL deepest (deep + 1) e.kids = preL deepest (deep + 1) (e.kids.take i) ++ (preT deepest (deep + 1) e.kids[i] ++ preL deepest (deep + 1) (e.kids.drop (i + 1))) := by
                have h4 : preL deepest (deep + 1) e.kids = preL deepest (deep + 1) (e.kids.take i ++ e.kids[i] :: e.kids.drop (i + 1)) := congrArg _ h2
                rw [h4, preL_app, preL]
              rw [h3]
              simp only [List.append_assoc, List.cons_append]
            have cI := HIh.out e.kids[i] hle _ (deep + 1) O (pre ++ q) _ hdd hat (hJ.grow HJ.out hal2 (fun b hb => .inl hb)) ((HBW.out.trans HK.out.2).trans (hal2.mono hMr)) (Nat.le_trans hszr hal2.size) hpf
            rw [show ((deep + 1 : Nat) : Int) = (deep : Int) + 1 from rfl] at cI
            have cI := Lib.hid cI
            have HK2 : Hid (KpG M O W1 (wr.alloc (.cells #[.int .i64 e.kids[i].page, .string e.kids[i].name, .string e.kids[i].text, .bool e.kids[i].opq, .slice a' e.kids[i].kids.length c'] 46))) := HK.out.trans (KpG.of_below hal2 hMr)
            have hnext : Hid (∀ q2 : List Xe, q2.map (·.1) = preT deepest (deep + 1) e.kids[i] → (q ++ q2).map (·.1) = (deep, e) :: preL deepest (deep + 1) (e.kids.take (i + 1))) := fun q2 h2 => by
              rw [List.map_append, HQ.out, h2, List.take_succ_eq_append_getElem hik, preL_snoc, List.cons_append]
            clear hrg hrg2 hat HIh hle hal2 hwr hpf hdd
            gi_wp2_with (refine ⟨trivial, ?_⟩; gi_at_call 180; refine (callsIn_wide.2 cI.out).mono ?_; rintro r w5 (⟨rfl, q2, hq2, hj5, hk5⟩ | ⟨rfl, q2, hq2, hjx5⟩))
            · have HQ5 := Lib.hid (hnext.out q2 hq2)
              have HJ5 : Hid (J O (pre ++ (q ++ q2)) w5) := by unfold Hid; rw [← List.append_assoc]; exact hj5
              have HK5 := Lib.hid (HK2.out.trans hk5)
              clear hnext hj5 hk5 HK2 cI
              gi_wp2
              go_roundw
              case rel => exact ⟨i + 1, q ++ q2, by omega, by go_num, HQ5, HJ5, HK5⟩
              case measure => simp [intOf]; omega
            · have HQ5 : Hid ((pre ++ (q ++ q2)).map (·.1) <+: full) := by unfold Hid; rw [← List.append_assoc]; exact hq2
              have HJ5 : Hid (Jx (pre ++ (q ++ q2)) w5) := by unfold Hid; rw [← List.append_assoc]; exact hjx5
              gi_wp2
              refine bodyPost_ret (results_tmp rfl _ _ _) rfl ?_
              exact .inr ⟨rfl, _, HQ5.out, HJ5.out⟩
          · have j3 : ¬ (i : Int) < (nk : Int) := by omega
            have d3 : decide (i < nk) = false := by simp; omega
            have HQ2 : Hid (q.map (·.1) = (deep, e) :: preL deepest (deep + 1) e.kids) := by
              unfold Hid; rw [HQ.out, List.take_of_length_le (by rw [HNK.out]; omega)]
            gi_wp2
            go_ret
            exact .inl ⟨rfl, q, HQ2.out, HJ.out, HK.out⟩
      · gi_wp2
        go_ret
        exact .inr ⟨rfl, _, HPre.out, hjx3⟩

set_option maxRecDepth 100000 in
set_option maxHeartbeats 4000000 in
/-- within's iterator -/
theorem within_seqG (n : Nat) (M deepest : Nat) (hdst : deepest ≤ 5000) (e : Tr) (v : Value) (b1 b2 : Nat) (w : World) (hM : M ≤ w.heap.size) (hv : AtT w M e v)
    (h1 : ∃ a c, v = .agg #[.int .i64 e.page, .string e.name, .string e.text, .bool e.opq, .slice a e.kids.length c] ∧ w.rangeAt b1 0 [.int .i64 e.page, .string e.name, .string e.text, .bool e.opq, .slice a e.kids.length c]) (h2 : w.cell? ⟨b2, 0, none⟩ = some (.int .i64 (deepest : Int))) (hb1 : b1 < w.heap.size) (hb2 : b2 < w.heap.size) :
    SeqG Fence.wide n 0 Tryd.prog 179 #[.pointer (some ⟨b1, 0, none⟩), .pointer (some ⟨b2, 0, none⟩)] encX M (fun xs => xs.map (·.1) = preT deepest 1 e) (fun pre => pre.map (·.1) <+: preT deepest 1 e) (NxX w M (preT deepest 1 e)) w := by
  intro l J Jx W hW hJ _ hY h0
  obtain ⟨a, c, rfl, hrg⟩ := h1
  have hrg2 := range_below hrg hW hb1
  obtain ⟨y0, y1, y2, y3, y4⟩ := elem_cells hrg2
  rw [Nat.zero_add] at y1 y2 y3 y4
  have hc2 : W.cell? ⟨b2, 0, none⟩ = some (.int .i64 (deepest : Int)) := (hW.cell (p := ⟨b2, 0, none⟩) hb2).trans h2
  have cW := walk_rec M deepest l hdst (preT deepest 1 e) J Jx w W (Nat.le_trans hM hW.size) (hW.mono hM) hJ (fun O pre x W1 g1 g2 g3 g4 => yield_wide _ _ (hY O pre x W1 g1 g2 g3 g4)) (hT e) e (Nat.le_refl _) _ 1 [] [] W (by omega) hv h0 (Below.refl _ _) (Nat.le_refl _) ⟨[], by simp⟩
  have cW := Lib.hid cW
  clear hrg hrg2 hv
  refine callsIn_of_wp Tryd.func179 rfl trivial ?_ rfl
  simp only [Tryd.ntmps179, List.size_toArray, List.length_cons, List.length_nil, Nat.reduceAdd, Nat.reduceSub, Array.replicate_succ, Array.replicate_zero, List.push_toArray, List.append_toArray, List.nil_append, List.cons_append]
  gi_wp2_with (refine ⟨trivial, fun h => by simp [Fence.wide] at h, ?_⟩; gi_at_call 180; refine (callsIn_wide.2 cW.out).mono ?_; rintro r w5 (⟨rfl, q, hq, hj, _⟩ | ⟨rfl, q, hq, hj⟩))
  · go_end0
    exact ⟨⟨_, rfl⟩, .inl ⟨[], q, hq, hj⟩⟩
  · go_end0
    exact ⟨⟨_, rfl⟩, .inr ⟨q, hq, hj⟩⟩

theorem hmfT : ∀ (fn : Fn) (first cap : Array Value) (w : World), (Instr.makeFunc fn first cap).run Tryd.prog w = .ok (.func fn first cap) w := fun _ _ _ _ => rfl

theorem within_any (p : Int) (nm tx : ByteArray) (o : Bool) (a : Option Addr) (nk c : Nat) (deepest : Nat) (w : World) :
    Calls Tryd.prog 145 #[.agg #[.int .i64 p, .string nm, .string tx, .bool o, .slice a nk c], .int .i64 (deepest : Int)] w fun e w' => e = .returned (.func (.func 179) #[] #[.pointer (some ⟨w.heap.size, 0, none⟩), .pointer (some ⟨w.heap.size + 1, 0, none⟩)]) ∧
      w'.rangeAt w.heap.size 0 [.int .i64 p, .string nm, .string tx, .bool o, .slice a nk c] ∧ w'.cell? ⟨w.heap.size + 1, 0, none⟩ = some (.int .i64 (deepest : Int)) ∧ w'.heap.size = w.heap.size + 2 ∧ Below w.heap.size w w' := by
  have hm := hmfT
  go_enter Tryd.func145, Tryd.ntmps145
  go_wp2
  go_ret
  refine ⟨rfl, ?_, ?_, by simp, ((Below.refl _ _).alloc (Nat.le_refl _) _).alloc (by simp) _⟩
  · intro j v hv
    rw [World.cell?_of_block (w := w.alloc (.cells #[.int .i64 p, .string nm, .string tx, .bool o, .slice a nk c] 46)) (Below.heap_alloc _ _ _ (by simp))]
    rw [World.cell?_alloc_at _ _ _ _ rfl]
    simpa using hv
  · rw [World.cell?_alloc_at _ _ _ _ (by simp)]; rfl
end Go.Proofs.YtgechifbbhipaaaDoor
