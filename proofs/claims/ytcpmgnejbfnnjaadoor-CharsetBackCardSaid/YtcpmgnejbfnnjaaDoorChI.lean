/- charset: Letters, its iterator. No condition but the text's size and the tables. -/
import Derived.Test.YtcpmgnejbfnnjaaDoorChM
import Derived.Test.YtcpmgnejbfnnjaaDoorRng
import Derived.RangeFuncCalls
import Derived.RegionTactic
namespace Go.Proofs.YtcpmgnejbfnnjaaDoor
open Go.RowKit Go.Shelf

attribute [local go_sem] Oper.semAt_some

theorem hmfD : ∀ (fn : Fn) (first cap : Array Value) (w : World), (Instr.makeFunc fn first cap).run Tryd.prog w = .ok (.func fn first cap) w := fun _ _ _ _ => rfl

theorem letters_any (s : ByteArray) (w : World) :
    Calls Tryd.prog 10 #[.string s] w fun e w' => e = .returned (.func (.func 29) #[] #[.pointer (some ⟨w.heap.size, 0, none⟩)]) ∧
      w'.cell? ⟨w.heap.size, 0, none⟩ = some (.string s) ∧ w'.heap.size = w.heap.size + 1 ∧ Below w.heap.size w w' := by
  have hm := hmfD
  go_enter Tryd.func10, Tryd.ntmps10
  go_wp2
  go_ret
  refine ⟨rfl, ?_, by simp, (Below.refl _ _).alloc (Nat.le_refl _) _⟩
  rw [World.cell?_alloc_at _ _ _ _ rfl]; rfl

theorem abide_below {β : Type} {B : Nat} {J : β → World → Prop} (hJ : AbidesFrom B J) {s : β} {W W' : World} (h : J s W) (hb : Below W.heap.size W W') : J s W' :=
  hJ s W W' none h ⟨hb.os, hb.tape, hb.output, hb.size, fun k hk _ => hb.block k hk⟩ (fun r e => by cases e)

def KpL (W W' : World) : Prop := (Lib.Utf8Tabs 0 1 W → Lib.Utf8Tabs 0 1 W') ∧ W.heap.size ≤ W'.heap.size

set_option maxRecDepth 100000 in
set_option maxHeartbeats 4000000 in
theorem let1_seqC (n : Nat) (hn : 1 ≤ n) (bs : Nat) (s : ByteArray) (hs : s.size ≤ 1000000) (w : World) (hc : w.cell? ⟨bs, 0, none⟩ = some (.string s)) (hT : Lib.Utf8Tabs 0 1 w) :
    SeqC Fence.wide n Tryd.prog 29 #[.pointer (some ⟨bs, 0, none⟩)] (fun x : Nat => #[Value.int .i32 (x : Int)]) KpL (fun _ _ => False) (fun _ => 0) (fun xs _ => xs = (ltS s).1) (fun pre => pre <+: (ltS s).1) (ltS s).1.length w := by
  intro l J Jx W hW hJ hJx _ hY h0
  have hcw : W.cell? ⟨bs, 0, none⟩ = some (.string s) := (hW.cell (p := ⟨bs, 0, none⟩) (World.block_lt_of_cell? _ _ hc)).trans hc
  have HTW := Lib.hid (Utf8Tabs_below hT hW)
  obtain ⟨FL, hFL⟩ : ∃ FL, (ltS s).1 = FL := ⟨_, rfl⟩
  rw [hFL] at hY ⊢
  have H0 : Hid (FL = [] ++ (ltS s).1) := by unfold Hid; rw [hFL]; rfl
  clear hFL hT hc hW
  refine callsIn_of_wp Tryd.func29 rfl trivial ?_ rfl
  simp only [Tryd.ntmps29, List.size_toArray, List.length_cons, List.length_nil, Nat.reduceAdd, Nat.reduceSub, Array.replicate_succ, Array.replicate_zero, List.push_toArray, List.append_toArray, List.nil_append, List.cons_append]
  gi_wp2
  gi_loopw [3, 4, 5] (fun sv _ _ wr => ∃ (r : ByteArray) (pre : List Nat), sv = .string r ∧ r.size ≤ s.size ∧ Hid (FL = pre ++ (ltS r).1) ∧ Hid (J pre wr) ∧ Hid (Lib.Utf8Tabs 0 1 wr)) (fun sv _ _ _ => szOf sv)
  case atStart => exact ⟨s, [], rfl, Nat.le_refl _, H0, h0, HTW⟩
  case round =>
    obtain ⟨r, pre, rfl, hr, HR, HJ, HT⟩ := hrel
    clear h0 hcw HTW H0
    by_cases hz : r.size = 0
    · have hne : r.toList.isEmpty = true := by
        rw [ByteArray.toList_eq, List.isEmpty_iff]; exact List.eq_nil_of_length_eq_zero (by rw [len_toList]; exact hz)
      have hE : Hid (FL = pre) := by
        have := HR.out
        rw [ltS_nil r hz] at this
        simpa [Hid] using this
      clear HR hz hr
      gi_wp2
      go_end0
      exact ⟨⟨_, rfl⟩, .inl ⟨pre, hE.out.symm, HJ.out⟩⟩
    · have hne := not_empty r hz
      have cD := Lib.hid (fun w h => Tryd.utf8_DecodeRuneInString r w h)
      have hd : Lib.decodeGo r = Utf8.decode r 0 := by unfold Lib.decodeGo; rw [if_neg hz]
      rw [hd] at cD
      clear hd
      have hlv := oneV_le r hz
      by_cases hb : (oneV r).2 = 0
      · have hE : Hid (FL = pre) := by
          have := HR.out
          rw [ltS_bad r hz hb] at this
          simpa [Hid] using this
        obtain ⟨hb1, hb2⟩ := (oneV_bad r hz).1 hb
        have cD2 : Hid (∀ w, Lib.Utf8Tabs 0 1 w → Calls Tryd.prog 30 #[.string r] w fun e w' => e = .returned (.tuple #[.int .i32 65533, .int .i64 1]) ∧ Below w.heap.size w w') := by
          rw [hb1, hb2] at cD; exact cD
        clear HR hlv hb hb1 hb2 cD
        gi_wp2_with (refine ⟨trivial, ?_⟩; gi_at_call 30; refine (callsIn_wide.2 (cD2.out _ HT.out)).mono ?_; rintro e w5 ⟨rfl, hb5⟩)
        refine ⟨(fun f h => by cases h), ?_⟩
        gi_wp2
        refine bodyPost_ret (results_none rfl _ _ _) rfl ?_
        exact ⟨⟨_, rfl⟩, .inl ⟨pre, hE.out.symm, abide_below hJ HJ.out hb5⟩⟩
      · have hE : Hid (FL = (pre ++ [(oneV r).1]) ++ (ltS (tl r (oneV r).2)).1) := by
          have := HR.out
          rw [ltS_more r hz hb] at this
          simpa [Hid] using this
        have hts := tl_size r (oneV r).2
        have hok := oneV_ok r hz hb
        have hnb : ¬ ((oneV r).1 = 65533 ∧ (oneV r).2 = 1) := fun h => hb ((oneV_bad r hz).2 (by rw [← hok]; exact h))
        rw [← hok] at cD
        clear HR hok
        generalize oneV r = o at *
        obtain ⟨x, k⟩ := o
        simp only at hb hlv hts hE cD hnb
        have n0 : (0 : Int) ≤ (k : Int) := by omega
        have n1 : (k : Int) ≤ (r.size : Int) := by omega
        have hpre : pre.length < FL.length := by have := congrArg List.length hE.out; simp at this; omega
        have hpf : Hid (pre ++ [x] <+: FL) := ⟨_, hE.out.symm⟩
        have HYx : Hid (∀ w5, J pre w5 → YieldAt Fence.wide (n - 1) Tryd.prog l #[.int .i32 (x : Int)] w5 fun e W' => (e = .returned (.bool true) ∧ J (pre ++ [x]) W' ∧ KpL w5 W') ∨ (e = .returned (.bool false) ∧ Jx (pre ++ [x]) W')) := fun w5 h => hY pre x w5 h hpre (Nat.zero_le _)
        clear hpre
        by_cases hx : x = 65533
        · subst hx
          have t3 : ¬ (k : Int) ≤ 1 := by omega
          have HYx2 : Hid (∀ w5, J pre w5 → YieldAt Fence.wide (n - 1) Tryd.prog l #[.int .i32 65533] w5 fun e W' => (e = .returned (.bool true) ∧ J (pre ++ [65533]) W' ∧ KpL w5 W') ∨ (e = .returned (.bool false) ∧ Jx (pre ++ [65533]) W')) := HYx
          have cD2 : Hid (∀ w, Lib.Utf8Tabs 0 1 w → Calls Tryd.prog 30 #[.string r] w fun e w' => e = .returned (.tuple #[.int .i32 65533, .int .i64 k]) ∧ Below w.heap.size w w') := cD
          clear hnb HYx cD
          gi_wp2_with (refine ⟨trivial, ?_⟩; gi_at_call 30; refine (callsIn_wide.2 (cD2.out _ HT.out)).mono ?_; rintro e w5 ⟨rfl, hb5⟩; have HT5 := Lib.hid (Utf8Tabs_below HT.out hb5); obtain ⟨fn, tmps, assign, body, hy, hRr⟩ := HYx2.out w5 (abide_below hJ HJ.out hb5))
          refine hRr.mono ?_
          rintro e W3 (⟨rfl, hJ3, hk3⟩ | ⟨rfl, hJx3⟩)
          · have HJ3 := Lib.hid hJ3
            have HT3 := Lib.hid (hk3.1 HT5.out)
            clear hJ3 hk3
            gi_wp2
            go_roundw
            case rel => exact ⟨tl r k, pre ++ [65533], rfl, by omega, hE, HJ3, HT3⟩
            case measure => show (tl r k).size < r.size; omega
          · gi_wp2
            refine bodyPost_ret (results_none rfl _ _ _) rfl ?_
            exact ⟨⟨_, rfl⟩, .inr ⟨_, hpf.out, hJx3⟩⟩
        · have t1 : ¬ (x : Int) = 65533 := by omega
          have t2 : ((x : Int) == 65533) = false := by simp; omega
          clear hnb
          gi_wp2_with (refine ⟨trivial, ?_⟩; gi_at_call 30; refine (callsIn_wide.2 (cD.out _ HT.out)).mono ?_; rintro e w5 ⟨rfl, hb5⟩; have HT5 := Lib.hid (Utf8Tabs_below HT.out hb5); obtain ⟨fn, tmps, assign, body, hy, hRr⟩ := HYx.out w5 (abide_below hJ HJ.out hb5))
          refine hRr.mono ?_
          rintro e W3 (⟨rfl, hJ3, hk3⟩ | ⟨rfl, hJx3⟩)
          · have HJ3 := Lib.hid hJ3
            have HT3 := Lib.hid (hk3.1 HT5.out)
            clear hJ3 hk3
            gi_wp2
            go_roundw
            case rel => exact ⟨tl r k, pre ++ [x], rfl, by omega, hE, HJ3, HT3⟩
            case measure => show (tl r k).size < r.size; omega
          · gi_wp2
            refine bodyPost_ret (results_none rfl _ _ _) rfl ?_
            exact ⟨⟨_, rfl⟩, .inr ⟨_, hpf.out, hJx3⟩⟩
end Go.Proofs.YtcpmgnejbfnnjaaDoor
