/- vocab: Token and Name. No condition but the library's table. -/
import Derived.Test.YtcpmgnejbfnnjaaDoorVcE
namespace Go.Proofs.YtcpmgnejbfnnjaaDoor
open Go.RowKit Go.Shelf

attribute [local go_sem] Oper.semAt_some

theorem run_loadVar_cell {P : Program} {ty : TypeId} {w : World} {b : Nat} {v : Value} (hc : w.cell? ⟨b, 0, none⟩ = some v) (ha : (isAgg ty).run P w = .ok false w) : (loadVar ty ⟨b, 0, none⟩).run P w = .ok v w := by
  unfold loadVar
  simp only [Sem.run_bind, ha, Result.andThen]
  simp [hc]
theorem results_cell1 {fn : Func} {p : Tmp} {ty : TypeId} (h : fn.results = #[.cell p ty]) {tmps : Array Value} {P : Program} {w : World} {b : Nat} {v : Value} (hp : tmps.getD p undef = .pointer (some ⟨b, 0, none⟩))
    (hl : (loadVar ty ⟨b, 0, none⟩).run P w = .ok v w) : (results fn tmps).run P w = .ok v w := by
  have hp' : tmps[p]?.getD undef = .pointer (some ⟨b, 0, none⟩) := by simpa using hp
  simp [results, h, hp', asAddr, hl]

theorem str_is (x s : ByteArray) : (x.toList == s.toList) = true ↔ x = s := by
  rw [ByteArray.toList_eq, ByteArray.toList_eq, beq_iff_eq]
  exact ⟨fun h => Go.WideShapes.bytes_inj h, fun h => by rw [h]⟩
theorem str_not {x s : ByteArray} (h : x ≠ s) : (x.toList == s.toList) = false := by
  cases e : (x.toList == s.toList) with
  | false => rfl
  | true => exact absurd ((str_is x s).1 e) h

/-- the page's tokens -/
noncomputable def tks (k : Int) : List (Nat × ByteArray) := tkL (wdsE (txt k))
/-- a name's token -/
noncomputable def tokV (k : Int) (s : ByteArray) : Nat := open Classical in (((tks k).find? fun p => p.2 = s).map fun p => p.1).getD 0
/-- a token's name -/
noncomputable def nameV (k : Int) (t : Nat) : ByteArray := (((tks k).find? fun p => p.1 = t).map fun p => p.2).getD ⟨#[]⟩
theorem tok_none {k : Int} {s : ByteArray} (h : ∀ p ∈ tks k, p.2 ≠ s) : tokV k s = 0 := by
  unfold tokV
  rw [List.find?_eq_none.2 (by simpa using h)]; rfl
theorem tok_some {k : Int} {s : ByteArray} {pre post : List (Nat × ByteArray)} {t : Nat} (h : (∀ p ∈ pre, p.2 ≠ s)) (e : (pre ++ [(t, s)]) ++ post = tks k) : tokV k s = t := by
  unfold tokV
  rw [← e, List.append_assoc, List.find?_append, List.find?_eq_none.2 (by simpa using h)]
  simp
theorem name_none {k : Int} {t : Nat} (h : ∀ p ∈ tks k, p.1 ≠ t) : nameV k t = ⟨#[]⟩ := by
  unfold nameV
  rw [List.find?_eq_none.2 (by simpa using h)]; rfl
theorem name_some {k : Int} {s : ByteArray} {pre post : List (Nat × ByteArray)} {t : Nat} (h : (∀ p ∈ pre, p.1 ≠ t)) (e : (pre ++ [(t, s)]) ++ post = tks k) : nameV k t = s := by
  unfold nameV
  rw [← e, List.append_assoc, List.find?_append, List.find?_eq_none.2 (by simpa using h)]
  simp

set_option maxRecDepth 100000 in
set_option maxHeartbeats 4000000 in
theorem token_any (k : Int) (s : ByteArray) (w : World) (hT : SpT w) : Calls Tryd.prog 22 #[.int .i64 k, .string s] w fun e w' => e = .returned (.int .u8 (tokV k s : Int)) ∧ Below w.heap.size w w' := by
  have HTW := Lib.hid hT
  clear hT
  have cE := Lib.hid (fun w => Each_any k w)
  refine (callsIn_wide (n := 9)).1 ?_
  refine callsIn_of_wp_marks Tryd.func22 rfl trivial ?_ rfl
  simp only [Tryd.ntmps22, List.size_toArray, List.length_cons, List.length_nil, Nat.reduceAdd, Nat.reduceSub, Array.replicate_succ, Array.replicate_zero, List.push_toArray, List.append_toArray, List.nil_append, List.cons_append]
  gi_wp2_with (refine ⟨trivial, ?_⟩; gi_at_call 12; refine (callsIn_wide.2 (cE.out _)).mono ?_; rintro e w1 ⟨rfl, hcx, hz1, hb1⟩)
  simp only [World.size_alloc] at hcx hz1 hb1
  have hB0 : Below w.heap.size w w1 := (((Below.refl _ w).alloc (Nat.le_refl _) _).alloc (by simp) _).trans (hb1.mono (by omega))
  have hT1 : SpT w1 := HTW.out.below hB0 HTW.out.lt
  have bS : Boxed w1 w.heap.size 9 (.string s) := (hb1.block w.heap.size (by omega)).trans ((Boxed.new w 9 _).alloc _)
  have bR : ∃ v, Boxed w1 (w.heap.size + 1) 5 v := ⟨_, (hb1.block (w.heap.size + 1) (by omega)).trans (by have h := Boxed.new (w.alloc (.cells #[.string s] 9)) 5 (.int .u8 0); rwa [World.size_alloc] at h)⟩
  refine wpIn_range_cellsE rfl (by decide) (gf := 32) (lb := #[.pointer (some ⟨w.heap.size + 1 + 1, 0, none⟩)]) rfl trivial (enters_of Tryd.func32 (by kernel_rfl) rfl)
    (each32_seqE 8 (by decide) (w.heap.size + 1 + 1) k w1 hcx hT1) KpV.trans (fun X p o o' _ hl ho _ => KpV.put X p o o' hl ho) (Below.refl _ _) (fun _ => rfl)
    (fun (pre : List (Nat × ByteArray)) X => (∀ p ∈ pre, p.2 ≠ s) ∧ Boxed X w.heap.size 9 (.string s) ∧ (∃ v, Boxed X (w.heap.size + 1) 5 v) ∧ Below w.heap.size w X)
    (fun c (pre : List (Nat × ByteArray)) X => c = .ret ∧ (∃ (p : List (Nat × ByteArray)) (t : Nat), pre = p ++ [(t, s)] ∧ (∀ q ∈ p, q.2 ≠ s) ∧ Boxed X (w.heap.size + 1) 5 (.int .u8 (t : Int))) ∧ Below w.heap.size w X)
    ?own1 ?own2 (fun b hb => by omega)
    ?lets (fun _ _ _ _ hs _ _ => hs)
    ⟨by simp, bS, bR, hB0⟩
    (fun x => { tmps := #[.int .i64 k, .string s, undef, .pointer (some ⟨w.heap.size, 0, none⟩), .pointer (some ⟨w.heap.size + 1, 0, none⟩), .int .u8 (x.1 : Int), .string x.2, .int .i64 k, .func (.func 32) #[] #[.pointer (some ⟨w.heap.size + 1 + 1, 0, none⟩)], .int .u8 (x.1 : Int), .string x.2, undef, undef, undef, undef], defers := [] }) ?assign ?body ?done ?stop
  case own1 =>
    rintro pre X Y row ⟨h1, h2, ⟨v, h3⟩, h4⟩ hg hr
    have hb := ownFrom_below (β := Unit) (n₀ := w.heap.size) (B := w1.heap.size) (w₀ := w) (Nat.le_refl _) (by omega) () X Y row h4 hg hr
    exact ⟨h1, h2.kept hg (fun e => by have := (hr _ e.symm).1; omega), ⟨v, h3.kept hg (fun e => by have := (hr _ e.symm).1; omega)⟩, hb⟩
  case own2 =>
    rintro c pre X Y row ⟨h1, ⟨p, t, h2, h5, h3⟩, h4⟩ hg hr
    have hb := ownFrom_below (β := Unit) (n₀ := w.heap.size) (B := w1.heap.size) (w₀ := w) (Nat.le_refl _) (by omega) () X Y row h4 hg hr
    exact ⟨h1, ⟨p, t, h2, h5, h3.kept hg (fun e => by have := (hr _ e.symm).1; omega)⟩, hb⟩
  case lets =>
    rintro pre X b v hb ⟨h1, h2, ⟨u, h3⟩, h4⟩
    exact ⟨h1, h2.other (by omega) v, ⟨u, h3.other (by omega) v⟩, h4.setCell (p := ⟨b, 0, none⟩) (by show w.heap.size ≤ b; omega) v⟩
  case assign =>
    intro l x W K hK
    gi_wp2
    exact hK
  case body =>
    rintro l' pre ⟨t, x⟩ X ⟨h1, h2, ⟨u, h3⟩, h4⟩ hlt hm
    have hc := h2.cell
    have hcr := h3.cell
    have hfr := h3.frozen
    show Code.wpIn _ _ _ _ _ _ _
    by_cases hx : x = s
    · have hq := (str_is x s).2 hx
      have HX := Lib.hid hx
      clear hx
      gi_wp2
      refine ⟨(KeepsOthers.setCell _ _ _).from _, rfl, ⟨pre, t, by rw [HX.out], h1, h3.set _⟩, h4.setCell (p := ⟨w.heap.size + 1, 0, none⟩) (by show w.heap.size ≤ w.heap.size + 1; omega) _⟩
    · have hq := str_not hx
      gi_wp2
      refine ⟨KeepsFrom.refl _ _, KpV.refl _ _, ?_, h2, ⟨u, h3⟩, h4⟩
      intro q hq2
      rcases List.mem_append.1 hq2 with h | h
      · exact h1 q h
      · rw [List.mem_singleton] at h; subst h; exact hx
  case done =>
    rintro D ys X hD rfl ⟨h1, h2, ⟨u, h3⟩, h4⟩ hK
    have hcr := h3.cell
    have hfr := h3.frozen
    have HV := Lib.hid (tok_none h1)
    have hK2 : (X.setCell ⟨w.heap.size + 1, 0, none⟩ (.int .u8 0)).heap[D]? = some (.deferred (some [])) := (Below.heap_setCell _ _ _ _ (by show D ≠ w.heap.size + 1; omega)).trans hK
    have HK2 := Lib.hid hK2
    have HB2 : Hid (Below w.heap.size w (X.setCell ⟨w.heap.size + 1, 0, none⟩ (.int .u8 0))) := h4.setCell (p := ⟨w.heap.size + 1, 0, none⟩) (by show w.heap.size ≤ w.heap.size + 1; omega) _
    have HC2 : Hid (Boxed ((X.setCell ⟨w.heap.size + 1, 0, none⟩ (.int .u8 0)).putObj D (.deferred none)) (w.heap.size + 1) 5 (.int .u8 0)) := (World.putObj_heap_other (by omega)).trans (h3.set _)
    clear hK2 h4
    gi_wp2
    refine ⟨by simp, .inl ⟨_, _, rfl, run_takeDeferred HK2.out, ?_⟩⟩
    refine ⟨_, results_cell1 rfl rfl (run_loadVar_cell HC2.out.cell (by kernel_rfl)), ?_, HB2.out.trans (belowK_b (Nat.le_refl _) _ D _ _ (by omega) HK2.out rfl rfl)⟩
    rw [HV.out]; rfl
  case stop =>
    rintro D cc pre X hD ⟨post, hp⟩ ⟨rfl, ⟨p, t, rfl, h2, h3⟩, h4⟩ hK
    have HV := Lib.hid (tok_some h2 hp)
    have HC2 : Hid (Boxed (X.putObj D (.deferred none)) (w.heap.size + 1) 5 (.int .u8 (t : Int))) := (World.putObj_heap_other (by omega)).trans h3
    gi_wp2
    refine ⟨by simp, .inl ⟨_, _, rfl, run_takeDeferred hK, ?_⟩⟩
    refine ⟨_, results_cell1 rfl rfl (run_loadVar_cell HC2.out.cell (by kernel_rfl)), ?_, h4.trans (belowK_b (Nat.le_refl _) _ D _ _ (by omega) hK rfl rfl)⟩
    rw [HV.out]

set_option maxRecDepth 100000 in
set_option maxHeartbeats 4000000 in
theorem vname_any (k : Int) (t0 : Nat) (w : World) (hT : SpT w) : Calls Tryd.prog 14 #[.int .i64 k, .int .u8 (t0 : Int)] w fun e w' => e = .returned (.string (nameV k t0)) ∧ Below w.heap.size w w' := by
  have HTW := Lib.hid hT
  clear hT
  have cE := Lib.hid (fun w => Each_any k w)
  refine (callsIn_wide (n := 9)).1 ?_
  refine callsIn_of_wp_marks Tryd.func14 rfl trivial ?_ rfl
  simp only [Tryd.ntmps14, List.size_toArray, List.length_cons, List.length_nil, Nat.reduceAdd, Nat.reduceSub, Array.replicate_succ, Array.replicate_zero, List.push_toArray, List.append_toArray, List.nil_append, List.cons_append]
  gi_wp2_with (refine ⟨trivial, ?_⟩; gi_at_call 12; refine (callsIn_wide.2 (cE.out _)).mono ?_; rintro e w1 ⟨rfl, hcx, hz1, hb1⟩)
  simp only [World.size_alloc] at hcx hz1 hb1
  have hB0 : Below w.heap.size w w1 := (((Below.refl _ w).alloc (Nat.le_refl _) _).alloc (by simp) _).trans (hb1.mono (by omega))
  have hT1 : SpT w1 := HTW.out.below hB0 HTW.out.lt
  have bS : Boxed w1 w.heap.size 5 (.int .u8 (t0 : Int)) := (hb1.block w.heap.size (by omega)).trans ((Boxed.new w 5 _).alloc _)
  have bR : ∃ v, Boxed w1 (w.heap.size + 1) 9 v := ⟨_, (hb1.block (w.heap.size + 1) (by omega)).trans (by have h := Boxed.new (w.alloc (.cells #[.int .u8 (t0 : Int)] 5)) 9 (.string ByteArray.empty); rwa [World.size_alloc] at h)⟩
  refine wpIn_range_cellsE rfl (by decide) (gf := 32) (lb := #[.pointer (some ⟨w.heap.size + 1 + 1, 0, none⟩)]) rfl trivial (enters_of Tryd.func32 (by kernel_rfl) rfl)
    (each32_seqE 8 (by decide) (w.heap.size + 1 + 1) k w1 hcx hT1) KpV.trans (fun X p o o' _ hl ho _ => KpV.put X p o o' hl ho) (Below.refl _ _) (fun _ => rfl)
    (fun (pre : List (Nat × ByteArray)) X => (∀ p ∈ pre, p.1 ≠ t0) ∧ Boxed X w.heap.size 5 (.int .u8 (t0 : Int)) ∧ (∃ v, Boxed X (w.heap.size + 1) 9 v) ∧ Below w.heap.size w X)
    (fun c (pre : List (Nat × ByteArray)) X => c = .ret ∧ (∃ (p : List (Nat × ByteArray)) (t : ByteArray), pre = p ++ [(t0, t)] ∧ (∀ q ∈ p, q.1 ≠ t0) ∧ Boxed X (w.heap.size + 1) 9 (.string t)) ∧ Below w.heap.size w X)
    ?own1 ?own2 (fun b hb => by omega)
    ?lets (fun _ _ _ _ hs _ _ => hs)
    ⟨by simp, bS, bR, hB0⟩
    (fun x => { tmps := #[.int .i64 k, .int .u8 (t0 : Int), undef, .pointer (some ⟨w.heap.size, 0, none⟩), .pointer (some ⟨w.heap.size + 1, 0, none⟩), .int .u8 (x.1 : Int), .string x.2, .int .i64 k, .func (.func 32) #[] #[.pointer (some ⟨w.heap.size + 1 + 1, 0, none⟩)], .int .u8 (x.1 : Int), .string x.2, undef, undef, undef, undef], defers := [] }) ?assign ?body ?done ?stop
  case own1 =>
    rintro pre X Y row ⟨h1, h2, ⟨v, h3⟩, h4⟩ hg hr
    have hb := ownFrom_below (β := Unit) (n₀ := w.heap.size) (B := w1.heap.size) (w₀ := w) (Nat.le_refl _) (by omega) () X Y row h4 hg hr
    exact ⟨h1, h2.kept hg (fun e => by have := (hr _ e.symm).1; omega), ⟨v, h3.kept hg (fun e => by have := (hr _ e.symm).1; omega)⟩, hb⟩
  case own2 =>
    rintro c pre X Y row ⟨h1, ⟨p, t, h2, h5, h3⟩, h4⟩ hg hr
    have hb := ownFrom_below (β := Unit) (n₀ := w.heap.size) (B := w1.heap.size) (w₀ := w) (Nat.le_refl _) (by omega) () X Y row h4 hg hr
    exact ⟨h1, ⟨p, t, h2, h5, h3.kept hg (fun e => by have := (hr _ e.symm).1; omega)⟩, hb⟩
  case lets =>
    rintro pre X b v hb ⟨h1, h2, ⟨u, h3⟩, h4⟩
    exact ⟨h1, h2.other (by omega) v, ⟨u, h3.other (by omega) v⟩, h4.setCell (p := ⟨b, 0, none⟩) (by show w.heap.size ≤ b; omega) v⟩
  case assign =>
    intro l x W K hK
    gi_wp2
    exact hK
  case body =>
    rintro l' pre ⟨t, x⟩ X ⟨h1, h2, ⟨u, h3⟩, h4⟩ hlt hm
    have hc := h2.cell
    have hcr := h3.cell
    have hfr := h3.frozen
    show Code.wpIn _ _ _ _ _ _ _
    by_cases hx : t = t0
    · have hq : ((t : Int) == (t0 : Int)) = true := by simp [hx]
      have HX := Lib.hid hx
      clear hx
      gi_wp2
      refine ⟨(KeepsOthers.setCell _ _ _).from _, rfl, ⟨pre, x, by rw [HX.out], h1, h3.set _⟩, h4.setCell (p := ⟨w.heap.size + 1, 0, none⟩) (by show w.heap.size ≤ w.heap.size + 1; omega) _⟩
    · have hq : ((t : Int) == (t0 : Int)) = false := by rw [beq_eq_false_iff_ne]; omega
      gi_wp2
      refine ⟨KeepsFrom.refl _ _, KpV.refl _ _, ?_, h2, ⟨u, h3⟩, h4⟩
      intro q hq2
      rcases List.mem_append.1 hq2 with h | h
      · exact h1 q h
      · rw [List.mem_singleton] at h; subst h; exact hx
  case done =>
    rintro D ys X hD rfl ⟨h1, h2, ⟨u, h3⟩, h4⟩ hK
    have hcr := h3.cell
    have hfr := h3.frozen
    have HV := Lib.hid (name_none h1)
    have hK2 : (X.setCell ⟨w.heap.size + 1, 0, none⟩ (.string { data := #[] })).heap[D]? = some (.deferred (some [])) := (Below.heap_setCell _ _ _ _ (by show D ≠ w.heap.size + 1; omega)).trans hK
    have HK2 := Lib.hid hK2
    have HB2 : Hid (Below w.heap.size w (X.setCell ⟨w.heap.size + 1, 0, none⟩ (.string { data := #[] }))) := h4.setCell (p := ⟨w.heap.size + 1, 0, none⟩) (by show w.heap.size ≤ w.heap.size + 1; omega) _
    have HC2 : Hid (Boxed ((X.setCell ⟨w.heap.size + 1, 0, none⟩ (.string { data := #[] })).putObj D (.deferred none)) (w.heap.size + 1) 9 (.string { data := #[] })) := (World.putObj_heap_other (by omega)).trans (h3.set _)
    clear hK2 h4
    gi_wp2
    refine ⟨by simp, .inl ⟨_, _, rfl, run_takeDeferred HK2.out, ?_⟩⟩
    refine ⟨_, results_cell1 rfl rfl (run_loadVar_cell HC2.out.cell (by kernel_rfl)), ?_, HB2.out.trans (belowK_b (Nat.le_refl _) _ D _ _ (by omega) HK2.out rfl rfl)⟩
    rw [HV.out]
  case stop =>
    rintro D cc pre X hD ⟨post, hp⟩ ⟨rfl, ⟨p, t, rfl, h2, h3⟩, h4⟩ hK
    have HV := Lib.hid (name_some h2 hp)
    have HC2 : Hid (Boxed (X.putObj D (.deferred none)) (w.heap.size + 1) 9 (.string t)) := (World.putObj_heap_other (by omega)).trans h3
    gi_wp2
    refine ⟨by simp, .inl ⟨_, _, rfl, run_takeDeferred hK, ?_⟩⟩
    refine ⟨_, results_cell1 rfl rfl (run_loadVar_cell HC2.out.cell (by kernel_rfl)), ?_, h4.trans (belowK_b (Nat.le_refl _) _ D _ _ (by omega) hK rfl rfl)⟩
    rw [HV.out]
end Go.Proofs.YtcpmgnejbfnnjaaDoor
