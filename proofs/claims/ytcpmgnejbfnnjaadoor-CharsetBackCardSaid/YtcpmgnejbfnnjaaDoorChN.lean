/- charset: Encode. No condition but the text's size and the tables. -/
import Derived.Test.YtcpmgnejbfnnjaaDoorChR
import Derived.Test.YtcpmgnejbfnnjaaDoorChI
import Derived.Test.YtcpmgnejbfnnjaaDoorBr
namespace Go.Proofs.YtcpmgnejbfnnjaaDoor
open Go.RowKit Go.Shelf

attribute [local go_sem] Oper.semAt_some

theorem run_loadCell {P : Program} {ty : TypeId} {w : World} {b : Nat} {v : Value} (hc : w.cell? ⟨b, 0, none⟩ = some v) (ha : (isAgg ty).run P w = .ok false w) : (loadVar ty ⟨b, 0, none⟩).run P w = .ok v w := by
  unfold loadVar
  simp only [Sem.run_bind, ha, Result.andThen]
  simp [hc]
theorem results_cell2 {fn : Func} {p q : Tmp} {ty ty2 : TypeId} (h : fn.results = #[.cell p ty, .cell q ty2]) {tmps : Array Value} {P : Program} {w : World} {b b2 : Nat} {v v2 : Value} (hp : tmps.getD p undef = .pointer (some ⟨b, 0, none⟩)) (hq : tmps.getD q undef = .pointer (some ⟨b2, 0, none⟩))
    (hl : (loadVar ty ⟨b, 0, none⟩).run P w = .ok v w) (hl2 : (loadVar ty2 ⟨b2, 0, none⟩).run P w = .ok v2 w) : (results fn tmps).run P w = .ok (.tuple #[v, v2]) w := by
  have hp' : tmps[p]?.getD undef = .pointer (some ⟨b, 0, none⟩) := by simpa using hp
  have hq' : tmps[q]?.getD undef = .pointer (some ⟨b2, 0, none⟩) := by simpa using hq
  simp [results, h, hp', hq', asAddr, hl, hl2]

def EncP (k : Int) (s : ByteArray) (w : World) (e : Ending) (w' : World) : Prop := e = .returned (.tuple #[.string (encV k s).1, .int .i64 (encV k s).2]) ∧ Below w.heap.size w w'

set_option maxRecDepth 100000 in
set_option maxHeartbeats 4000000 in
theorem enc_off (k : Int) (s : ByteArray) (w : World) (hk : k < 1 ∨ 3 < k) : Calls Tryd.prog 17 #[.int .i64 k, .string s] w (EncP k s w) := by
  have hR : encV k s = (mkT [], 5) := by unfold encV; rw [if_pos hk]
  have hm : mostN k = -1 := by unfold mostN; rw [if_neg (by omega), if_neg (by omega), if_neg (by omega)]
  have cM := Lib.hid (fun w => most_any k w)
  rw [hm] at cM
  unfold EncP
  rw [hR]
  clear hR hk hm
  go_enter Tryd.func17, Tryd.ntmps17
  go_wp2_with (go_at_call 36; refine (cM.out _).mono ?_; rintro e w5 ⟨rfl, rfl⟩)
  refine bodyPost_ret (results_cell2 rfl rfl rfl (run_loadCell (Boxed.cell (((Boxed.new w 9 _).alloc _).alloc _)) (by kernel_rfl)) (run_loadCell (v := .int .i64 5) ?_ (by kernel_rfl))) rfl ?_
  · have h := Boxed.new (w.alloc (.cells #[.string { data := #[] }] 9)) 34 (.int .i64 5)
    rw [World.size_alloc] at h
    exact Boxed.cell (h.alloc _)
  · exact ⟨rfl, (((Below.refl _ w).alloc (Nat.le_refl _) _).alloc (by simp) _).alloc (by simp; omega) _⟩

theorem enc_b0 {w w5 : World} (m : Int) (hb : Below (w.heap.size + 1 + 1 + 1) (((w.alloc (.cells #[.string { data := #[] }] 9)).alloc (.cells #[.int .i64 0] 34)).alloc (.cells #[.int .i32 m] 21)) w5) : Boxed w5 w.heap.size 9 (.string { data := #[] }) :=
  (hb.block _ (by omega)).trans (((Boxed.new w 9 _).alloc _).alloc _)
theorem enc_b1 {w w5 : World} (m : Int) (hb : Below (w.heap.size + 1 + 1 + 1) (((w.alloc (.cells #[.string { data := #[] }] 9)).alloc (.cells #[.int .i64 0] 34)).alloc (.cells #[.int .i32 m] 21)) w5) : Boxed w5 (w.heap.size + 1) 34 (.int .i64 0) := by
  refine (hb.block _ (by omega)).trans ?_
  have h := Boxed.new (w.alloc (.cells #[.string { data := #[] }] 9)) 34 (.int .i64 0)
  rw [World.size_alloc] at h
  exact h.alloc _
theorem enc_b2 {w w5 : World} (m : Int) (hb : Below (w.heap.size + 1 + 1 + 1) (((w.alloc (.cells #[.string { data := #[] }] 9)).alloc (.cells #[.int .i64 0] 34)).alloc (.cells #[.int .i32 m] 21)) w5) : Boxed w5 (w.heap.size + 1 + 1) 21 (.int .i32 m) := by
  refine (hb.block _ (by omega)).trans ?_
  have h := Boxed.new ((w.alloc (.cells #[.string { data := #[] }] 9)).alloc (.cells #[.int .i64 0] 34)) 21 (.int .i32 m)
  rw [World.size_alloc, World.size_alloc] at h
  exact h
theorem enc_bw {w w5 : World} (m : Int) (hb : Below (w.heap.size + 1 + 1 + 1) (((w.alloc (.cells #[.string { data := #[] }] 9)).alloc (.cells #[.int .i64 0] 34)).alloc (.cells #[.int .i32 m] 21)) w5) : Below w.heap.size w w5 :=
  ((((Below.refl _ w).alloc (Nat.le_refl _) _).alloc (by simp) _).alloc (by simp; omega) _).trans (hb.mono (by omega))
theorem enc_ht {w : World} (m : Int) (h : Lib.Utf8Tabs 0 1 w) : Lib.Utf8Tabs 0 1 (((w.alloc (.cells #[.string { data := #[] }] 9)).alloc (.cells #[.int .i64 0] 34)).alloc (.cells #[.int .i32 m] 21)) :=
  Utf8Tabs_below h ((((Below.refl _ w).alloc (Nat.le_refl _) _).alloc (by simp) _).alloc (by simp; omega) _)

set_option maxRecDepth 100000 in
set_option maxHeartbeats 4000000 in
theorem enc_no (k : Int) (s : ByteArray) (hs : s.size ≤ 100000) (w : World) (hT : Lib.Utf8Tabs 0 1 w) (hk : 1 ≤ k ∧ k ≤ 3) (hv : (ltS s).2 = false) : Calls Tryd.prog 17 #[.int .i64 k, .string s] w (EncP k s w) := by
  have hR : encV k s = (mkT [], 3) := by unfold encV; rw [if_neg (by omega), if_pos hv]
  have hm : ¬ mostN k < 0 := by
    rcases (show k = 1 ∨ k = 2 ∨ k = 3 by omega) with rfl | rfl | rfl <;> decide
  have cM := Lib.hid (fun w => most_any k w)
  have cV := Lib.hid (fun w h => valid_any s (by omega) w h)
  rw [hv] at cV
  unfold EncP
  rw [hR]
  clear hR hk hv
  generalize mostN k = m at *
  have HTW := enc_ht m hT
  go_enter Tryd.func17, Tryd.ntmps17
  go_wp2_with (first | (go_at_call 36; refine (cM.out _).mono ?_; rintro e w4 ⟨rfl, rfl⟩) | (go_at_call 11; refine (cV.out _ HTW).mono ?_; rintro e w5 ⟨rfl, hb5⟩; simp only [World.size_alloc] at hb5; have b0 := enc_b0 m hb5; have b1 := enc_b1 m hb5; have b2 := enc_b2 m hb5; have c0 := b0.cell; have c1 := b1.cell; have c2 := b2.cell; have f0 := b0.frozen; have f1 := b1.frozen))
  refine bodyPost_ret (results_cell2 rfl rfl rfl (run_loadCell (Boxed.cell ((b0.set _).other (by omega) _)) (by kernel_rfl)) (run_loadCell (Boxed.cell ((b1.other (by omega) _).set _)) (by kernel_rfl))) rfl ?_
  exact ⟨rfl, ((enc_bw m hb5).setCell (p := ⟨w.heap.size, 0, none⟩) (Nat.le_refl _) _).setCell (p := ⟨w.heap.size + 1, 0, none⟩) (by show w.heap.size ≤ w.heap.size + 1; omega) _⟩

set_option maxRecDepth 100000 in
set_option maxHeartbeats 4000000 in
theorem enc_three (s : ByteArray) (hs : s.size ≤ 100000) (w : World) (hT : Lib.Utf8Tabs 0 1 w) (hv : (ltS s).2 = true) : Calls Tryd.prog 17 #[.int .i64 3, .string s] w (EncP 3 s w) := by
  have hR : encV 3 s = (s, 0) := by unfold encV; rw [if_neg (by omega), if_neg (by rw [hv]; simp), if_pos rfl]
  obtain ⟨m, hmm⟩ : ∃ m, mostN 3 = m := ⟨_, rfl⟩
  have hm : ¬ m < 0 := by rw [← hmm]; decide
  have cM := Lib.hid (fun w => most_any 3 w)
  have cV := Lib.hid (fun w h => valid_any s (by omega) w h)
  rw [hv] at cV
  rw [hmm] at cM
  unfold EncP
  rw [hR]
  clear hR hv hmm
  have HTW := enc_ht m hT
  go_enter Tryd.func17, Tryd.ntmps17
  go_wp2_with (first | (go_at_call 36; refine (cM.out _).mono ?_; rintro e w4 ⟨rfl, rfl⟩) | (go_at_call 11; refine (cV.out _ HTW).mono ?_; rintro e w5 ⟨rfl, hb5⟩; simp only [World.size_alloc] at hb5; have b0 := enc_b0 m hb5; have b1 := enc_b1 m hb5; have b2 := enc_b2 m hb5; have c0 := b0.cell; have c1 := b1.cell; have c2 := b2.cell; have f0 := b0.frozen; have f1 := b1.frozen))
  refine bodyPost_ret (results_cell2 rfl rfl rfl (run_loadCell (Boxed.cell ((b0.set _).other (by omega) _)) (by kernel_rfl)) (run_loadCell (Boxed.cell ((b1.other (by omega) _).set _)) (by kernel_rfl))) rfl ?_
  exact ⟨rfl, ((enc_bw m hb5).setCell (p := ⟨w.heap.size, 0, none⟩) (Nat.le_refl _) _).setCell (p := ⟨w.heap.size + 1, 0, none⟩) (by show w.heap.size ≤ w.heap.size + 1; omega) _⟩
end Go.Proofs.YtcpmgnejbfnnjaaDoor
