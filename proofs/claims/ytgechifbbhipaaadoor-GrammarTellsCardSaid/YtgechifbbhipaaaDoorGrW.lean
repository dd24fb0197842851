/- grammar: the reference's words of a name; the program's Rule of a name that is one. No condition but the library's variable. -/
import Derived.Test.YtgechifbbhipaaaDoorGrT
import Derived.Test.YtgechifbbhipaaaDoorTrK
import Derived.Test.YtgechifbbhipaaaDoorTrN
import Derived.Lib.CutLaws
set_option linter.unusedVariables false
set_option linter.unusedSimpArgs false
namespace Go.Proofs.YtgechifbbhipaaaDoor
open Go.RowKit

/-- a slice from an index on -/
theorem run_from {P : Program} (t : TypeId) (sz : Nat) (ht : P.underlying t = some (.slice (P.elem t))) (hs : ∀ w, (sizeOf (P.elem t)).run P w = .ok sz w) (a : Option Addr) (n c k : Nat) (hk : k ≤ n) :
    ∃ a', (∀ w, (Instr.slice t (.slice a n c) (some (.int .i64 (k : Int))) none none).run P w = .ok (.slice a' (n - k) (c - k)) w) ∧ (k < c → a' = a.map (·.add (k * sz))) := by
  refine ⟨if c = k then a else a.map (·.add (k * sz)), fun w => ?_, fun h => if_neg (by omega)⟩
  rw [run_slice_l w t a n c ht .i64 k (by omega) (by omega), hs]
  simp [Result.andThen, sliced]

theorem words_no (pg : Int) (nm : ByteArray) (hn : nameB nm = true) (hs : nm.size ≤ 1000) (h : ruleF pg nm.data.toList = none) (w : World) :
    Calls Tryd.prog 89 #[.int .i64 pg, .string nm] w fun e w' => e = .returned (.tuple #[.slice none 0 0, .bool false]) ∧ Below w.heap.size w w' := by
  have hl : lineF pg nm.data.toList = [] := by
    rcases line_cases pg nm.data.toList (nameB_free hn 32 (by decide)) with ⟨_, b⟩ | ⟨a, _⟩ | ⟨r, _, a, _⟩
    · exact b
    · rw [h] at a; cases a
    · rw [h] at a; cases a
  have cN := refName_any nm
  rw [hn] at cN
  have CN := Lib.hid cN
  have cL := line_any pg nm
  rw [hl] at cL
  have CL := Lib.hid (fun w => cL w hs)
  have i1 := emptyB (mkB []) rfl
  clear cN cL hl h hn hs
  generalize mkB [] = LB at *
  go_enter Tryd.func89, Tryd.ntmps89
  go_wp2_with (first | (go_at_call 100; refine (CN.out _).mono ?_; rintro e w1 ⟨rfl, rfl⟩) | (go_at_call 139; refine (CL.out _).mono ?_; rintro e w1 ⟨rfl, rfl⟩))
  go_ret2
  exact ⟨rfl, Below.refl _ _⟩

theorem hdL_ne (pg : Int) (nm : List UInt8) : hdL pg nm ≠ [] := by unfold hdL; simp
set_option maxHeartbeats 1000000 in
theorem words_yes (pg : Int) (nm : ByteArray) (hn : nameB nm = true) (hs : nm.size ≤ 1000) (r : List UInt8) (h : ruleF pg nm.data.toList = some r) (w : World) :
    Calls Tryd.prog 89 #[.int .i64 pg, .string nm] w fun e w' => (∃ a c, e = .returned (.tuple #[.slice a (wordsR r).length c, .bool true]) ∧ ∀ i x, (wordsR r)[i]? = some x → ∃ g o, a = some ⟨g, o, none⟩ ∧ w.heap.size ≤ g ∧ g < w'.heap.size ∧ w'.cell? ⟨g, o + i, none⟩ = some (.string (mkB x))) ∧ Below w.heap.size w w' := by
  obtain ⟨LN, hLN, hne, hcut, hll⟩ : ∃ LN : List UInt8, lineF pg nm.data.toList = LN ∧ LN ≠ [] ∧ cutB 32 LN = digL pg :: nm.data.toList :: wordsR r ∧ LN.length ≤ 2000 := by
    have hmem : ∀ l ∈ ruleLs, l.length ≤ 2000 := fun l hl => by
      have := cutB_mem_len 10 rulesQ.data.toList l hl
      rw [len_toList, rulesQ_size] at this; omega
    rcases find_both (hdL pg nm.data.toList) ruleLs with ⟨a, _⟩ | ⟨_, b, c⟩ | ⟨r2, _, b, c⟩
    · rw [show ruleF pg nm.data.toList = none from a] at h; cases h
    · rcases line_cases pg nm.data.toList (nameB_free hn 32 (by decide)) with ⟨a, _⟩ | ⟨a, b2, d⟩ | ⟨r3, k1, a, b2, d, _⟩
      · rw [h] at a; cases a
      · rw [h] at a; cases a
        exact ⟨_, rfl, by rw [b2]; exact hdL_ne _ _, d, by rw [show lineF pg nm.data.toList = _ from b]; exact hmem _ c⟩
      · rw [h] at a; cases a
        exact ⟨_, rfl, by rw [b2]; simp, d, by rw [show lineF pg nm.data.toList = _ from b]; exact hmem _ c⟩
    · rcases line_cases pg nm.data.toList (nameB_free hn 32 (by decide)) with ⟨a, _⟩ | ⟨a, b2, d⟩ | ⟨r3, k1, a, b2, d, _⟩
      · rw [h] at a; cases a
      · rw [h] at a; cases a
        exact ⟨_, rfl, by rw [b2]; exact hdL_ne _ _, d, by rw [show lineF pg nm.data.toList = _ from b]; exact hmem _ c⟩
      · rw [h] at a; cases a
        exact ⟨_, rfl, by rw [b2]; simp, d, by rw [show lineF pg nm.data.toList = _ from b]; exact hmem _ c⟩
  have cN := refName_any nm
  rw [hn] at cN
  have CN := Lib.hid cN
  have cL := line_any pg nm
  rw [hLN] at cL
  have CL := Lib.hid (fun w => cL w hs)
  have hLs : (mkB LN).size ≤ 2000 := by rw [mkB_size]; exact hll
  have hLz : (mkB LN).size ≠ 0 := by rw [mkB_size]; intro e; exact hne (List.eq_nil_of_length_eq_zero e)
  have cC := fun w => cut_any (mkB LN) 32 w (by omega)
  rw [mkB_list, hcut] at cC
  have CC := Lib.hid cC
  have i1 := not_empty _ hLz
  clear cN cL cC hcut hll hne hLN h hn hs hLs hLz
  generalize mkB LN = LB at *
  generalize hws : wordsR r = ws at *
  clear hws
  have hlen : (digL pg :: nm.data.toList :: ws).length = ws.length + 2 := rfl
  rw [hlen] at CC
  clear hlen
  go_enter Tryd.func89, Tryd.ntmps89
  go_wp2_with (first | (go_at_call 100; refine (CN.out _).mono ?_; rintro e w1 ⟨rfl, rfl⟩) | (go_at_call 139; refine (CL.out _).mono ?_; rintro e w1 ⟨rfl, rfl⟩) | fail)
  refine (CC.out _).mono ?_
  rintro e w2 ⟨a, cp, rfl, hown, hb⟩
  have HB := Lib.hid hb
  obtain ⟨a', hsl, ha'⟩ := run_from (P := Tryd.prog) 81 1 (by kernel_rfl) (fun w => by kernel_rfl) a (ws.length + 2) cp 2 (by omega)
  have hsl2 : ∀ w, (Instr.slice 81 (.slice a (ws.length + 2) cp) (some (.int .i64 2)) none none).run Tryd.prog w = .ok (.slice a' ws.length (cp - 2)) w := hsl
  have HC : Hid (∀ i x, ws[i]? = some x → ∃ g o, a' = some ⟨g, o, none⟩ ∧ w.heap.size ≤ g ∧ g < w2.heap.size ∧ w2.cell? ⟨g, o + i, none⟩ = some (.string (mkB x))) := fun i x hx => by
    obtain ⟨hi, rfl⟩ := List.getElem?_eq_some_iff.1 hx
    obtain ⟨g, rfl, h1, h2, h3⟩ := extract_tail hown (by rfl) (i + 2) (by simp; omega)
    have hcp : ws.length + 2 ≤ cp := by
      rcases hown.2 with ⟨h4, _⟩ | ⟨g', cap, cur, h4, _, _, h5, _⟩
      · cases h4
      · simp only [Value.slice.injEq] at h4; omega
    rw [ha' (by omega)]
    refine ⟨g, 2, by simp [addr_addN], h1, h2, ?_⟩
    rw [show 2 + i = i + 2 from by omega]
    simpa using h3
  clear hsl ha' hown hb
  go_wp2_with fail
  go_ret2
  exact ⟨⟨a', _, rfl, HC.out⟩, HB.out⟩
end Go.Proofs.YtgechifbbhipaaaDoor
